/- Part of the proof of WorldLevels: the machine, shown to be the model's, and plain models. No conditions. -/
import Derived.ScopeJumps
import Derived.Test.YtckbdndhmcoihaaEp
import Derived.LoopN
set_option linter.unusedSimpArgs false
set_option linter.unusedVariables false
section
namespace Go.K
open Go Go.aG
variable {P:Program} {E:Env}
inductive Sub (root:Code):Nat->Code->Prop where
 | root:Sub root 1 root
 | aof {p:Nat} {a b:Code} : Sub root p (.seq a b)->Sub root (2 * p) a
 | ajt {p:Nat} {a b:Code} : Sub root p (.seq a b)->Sub root (2 * p+1) b
 | al1 {p:Nat} {c:Operand} {a b:Code} : Sub root p (.cond c a b)->Sub root (2 * p) a
 | al2 {p:Nat} {c:Operand} {a b:Code} : Sub root p (.cond c a b)->Sub root (2 * p+1) b
 | block {p id:Nat} {a:Code} : Sub root p (.block id a)->Sub root (2 * p) a
 | loop {p:Nat} {a:Code} : Sub root p (.loop a)->Sub root (2 * p) a
 | scope {p:Nat} {a:Code} : Sub root p (.scope a)->Sub root (2 * p) a
def aaI (P:Program) (N:Nat) {R:Type} (c:Code) (f:KE R->bd->ae->Option R):Prop:=
 ∀ (k:KE R) (r:R) (t:bd) (A:ae) (E:Env) (B:St) (ρ:Ren) (base:Nat) (a:Act) (w:World) (Q:Exit->Act->World->Prop),f k t A=some r->iR P E ρ t N a->KJ P E A B ρ base w->
  (∀ e t' E' A' B' aF a' w',k e t' A' = some r->iR P E' aF t' N a'->a'.defers=a.defers->Ev P base E A B ρ w E' A' B' aF w'->Q e.out a' w')->c.wp P Q a w
def QA (P:Program) (N:Nat) (body:Code) (F:bd->ae->wq):Prop:=∀ (R:Type) (k:KE R) (r:R) (t:bd) (A:ae) (E:Env) (B:St) (ρ:Ren) (base:Nat) (a:Act) (w:World) (Q:Exit->Act->World->Prop),Sq F k t A=some r->iR P E ρ t N a->KJ P E A B ρ base w->
  (∀ e t' E' A' B' aF a' w',k e t' A' = some r->iR P E' aF t' N a'->a'.defers=a.defers->Ev P base E A B ρ w E' A' B' aF w'->Q e.out a' w')->Code.rounds P body Q gK a w
theorem Ul {c:Code} {Q:Exit->Act->World->Prop} (k:Nat):∀ {n:Nat} {a:Act} {w:World},Code.rounds P c Q n a w->Code.rounds P c Q (n+k) a w
 | 0,_,_,h=>h.elim
 | n+1,a,w,h=>by
  rw [show n+1+k=n+k+1 by omega,rounds_succ];rw [rounds_succ] at h;exact Code.wp_mono (fun e a w q=>by cases e <;> first | exact Ul k q | exact q) h
def vE (P:Program) (l:Nat) (c:Code) (Q:Exit->Act->World->Prop):Nat->Act->World->Prop
 | 0,_,_=>False
 | m+1,a,w=>c.wp P (Exit.jump l (vE P l c Q m) Q) a w
def aaJ (P:Program) (N:Nat) (l:Nat) (rest:Code) (F:bd->ae->wq):Prop:=∀ (R:Type) (k:KE R) (r:R) (t:bd) (A:ae) (E:Env) (B:St) (ρ:Ren) (base:Nat) (a:Act) (w:World) (Q:Exit->Act->World->Prop),wq.run (V6 k) (F t A)=some r->iR P E ρ t N a->KJ P E A B ρ base w->
  (∀ e t' E' A' B' aF a' w',k e t' A' = some r->iR P E' aF t' N a'->a'.defers=a.defers->Ev P base E A B ρ w E' A' B' aF w'->Q e.out a' w')->∃ m,vE P l rest Q m a w
theorem acZ {p:Nat->Prop} : ∀ n,p n->∃ m,p m/\∀ k,p k->m<=k
 | 0,h=>⟨0,h,fun _ _=>qK _⟩
 | n+1,h=>by
  by_cases hk:∃ k,k<=n/\p k
  ·obtain ⟨k,tS,VL⟩:=hk
   have key:∀ b k,k<=b->p k->∃ m,p m/\∀ k,p k->m<=k:=by
    intro b
    induction b with
    | zero=>intro k h1 h2; exact ⟨k,h2,fun _ _=>by omega⟩
    | succ b ih=>
     intro k h1 h2;by_cases hx:∃ k',k'<=b/\p k'
     ·obtain ⟨k',x1,x2⟩:=hx; exact ih k' x1 x2
     ·exact ⟨k,h2,fun q hq=>by
       by_cases hqb:q<=b
       ·exact absurd ⟨q,hqb,hq⟩ hx
       ·omega⟩
   exact key n k tS VL
  ·exact ⟨n+1,h,fun k hp=>by
    by_cases hkn:k<=n
    ·exact absurd ⟨k,hkn,hp⟩ hk
    ·omega⟩
open Classical in
noncomputable def Um (p:Nat->Prop):Nat:=if h:∃ n,p n then (acZ h.choose h.choose_spec).choose else 0
theorem Un {p:Nat->Prop} {n:Nat} (h:p n):p (Um p)/\Um p<=n:=by
 have hx:∃ n,p n:=⟨n,h⟩
 unfold Um;rw [dif_pos hx];have:=(acZ hx.choose hx.choose_spec).choose_spec;exact ⟨this.1,this.2 n h⟩
theorem aen {c rest:Code} {l:Nat} {Q:Exit->Act->World->Prop} {a:Act} {w:World} (hf:findLabel c l=some rest) (h:c.wp P (Exit.jump l (fun a w=>∃ m,vE P l rest Q m a w) Q) a w):(Code.scope c).wp P Q a w:=by
 refine wp_scope_jumps l (fun a w=>∃ m,vE P l rest Q m a w) (fun a w=>Um fun m=>vE P l rest Q m a w) hf h fun a w ⟨n,hn⟩=>?_;have hm:=(Un (p:=fun m=>vE P l rest Q m a w) hn).1;generalize (Um fun m=>vE P l rest Q m a w)=m at hm ⊢;cases m with
 | zero=>exact hm.elim
 | succ m=>
  refine Code.wp_mono (fun e a' w' q=>?_) hm;cases e with
  | goto l'=>
   obtain ⟨rfl,q⟩:=q;exact ⟨rfl,⟨m,q⟩,Nat.lt_succ_of_le (Un (p:=fun m=>vE P _ rest Q m a' w') q).2⟩
  | normal=>exact q
  | exit id=>exact q
  | ret=>exact q
  | panic ch=>exact q
  | outgrown=>exact q
def aju (P:Program) (cfg:dD) (f:FuncId) (root:Code):Prop:=(∀ p F body,cfg.lp f p=some F->Sub root p (.loop body)->∀ N,codeOk N body=true->QA P N body F)/\
 ∀ p F c,cfg.lp f p=some F->Sub root p (.scope c)->∀ N,codeOk N c=true->∀ l,JP c=some l->∃ rest,findLabel c l=some rest/\aaJ P N l rest F
section
variable {R:Type} {cfg:dD} {aR:ko R} {L:Nat} {f:FuncId}
theorem Uo {N:Nat} {c:Code} {g:KE R->bd->ae->Option R} (hg:aaI P N c g):∀ (n:Nat) (k:KE R) (r:R) (t:bd) (A:ae) (E:Env) (B:St) (ρ:Ren) (base:Nat) (a:Act) (w:World) (Q:Exit->Act->World->Prop),V5 g k n t A=some r->iR P E ρ t N a->KJ P E A B ρ base w->
  (∀ e t' E' A' B' aF a' w',k e t' A' = some r->iR P E' aF t' N a'->a'.defers=a.defers->Ev P base E A B ρ w E' A' B' aF w'->Q e.out a' w')->Code.rounds P c Q n a w
 | 0,k,r,t,A,E,B,ρ,base,a,w,Q,h,ht,hj,hq=>by exact absurd h (by simp [V5])
 | n+1,k,r,t,A,E,B,ρ,base,a,w,Q,h,ht,hj,hq=>by
  rw [rounds_succ];have h:g (Sp k (V5 g k n)) t A=some r:=h;refine hg _ r t A E B ρ base a w _ h ht hj fun e t' E' A' B' aF a' w' h1 h2 h3 h4=>?_;cases e with
  | normal=>
   have h1:V5 g k n t' A' = some r:=h1;exact Uo hg n k r t' A' E' B' aF base a' w' Q h1 h2 h4.kj fun e t'' Hh A'' Il vo SF G3 q1 q2 q3 q4=>hq e t'' Hh A'' Il vo SF G3 q1 q2 (q3.trans h3) (h4.trans q4)
  | exit id=>exact hq (.exit id) t' E' A' B' aF a' w' h1 h2 h3 h4
  | goto l=>exact hq (.goto l) t' E' A' B' aF a' w' h1 h2 h3 h4
  | ret=>exact hq .ret t' E' A' B' aF a' w' h1 h2 h3 h4
theorem Uq {N:Nat} {c:Code} {g:KE R->bd->ae->Option R} {F:bd->ae->wq} (hg:aaI P N c g) (hF:QA P N c F):∀ (n:Nat) (k:KE R) (r:R) (t:bd) (A:ae) (E:Env) (B:St) (ρ:Ren) (base:Nat) (a:Act) (w:World) (Q:Exit->Act->World->Prop),V7 g F k n t A=some r->iR P E ρ t N a->KJ P E A B ρ base w->
  (∀ e t' E' A' B' aF a' w',k e t' A' = some r->iR P E' aF t' N a'->a'.defers=a.defers->Ev P base E A B ρ w E' A' B' aF w'->Q e.out a' w')->Code.rounds P c Q (gK+n) a w
 | 0,k,r,t,A,E,B,ρ,base,a,w,Q,h,ht,hj,hq=>hF R k r t A E B ρ base a w Q h ht hj hq
 | n+1,k,r,t,A,E,B,ρ,base,a,w,Q,h,ht,hj,hq=>by
  have h:Bool.rec (motive:=fun _=>Option R) (Sq F k t A) (g (Sp k (V7 g F k n)) t A) (ad0 (F t A))=some r:=h;cases ho:ad0 (F t A) with
  | false=>
   rw [ho] at h;exact Ul (n+1) (hF R k r t A E B ρ base a w Q h ht hj hq)
  | true=>
   rw [ho] at h;have h:g (Sp k (V7 g F k n)) t A=some r:=h;rw [show gK+(n+1)=gK+n+1 by omega,rounds_succ];refine hg _ r t A E B ρ base a w _ h ht hj fun e t' E' A' B' aF a' w' h1 h2 h3 h4=>?_;cases e with
   | normal=>
    have h1:V7 g F k n t' A' = some r:=h1;exact Uq hg hF n k r t' A' E' B' aF base a' w' Q h1 h2 h4.kj fun e t'' Hh A'' Il vo SF G3 q1 q2 q3 q4=>hq e t'' Hh A'' Il vo SF G3 q1 q2 (q3.trans h3) (h4.trans q4)
   | exit id=>exact hq (.exit id) t' E' A' B' aF a' w' h1 h2 h3 h4
   | goto l=>exact hq (.goto l) t' E' A' B' aF a' w' h1 h2 h3 h4
   | ret=>exact hq .ret t' E' A' B' aF a' w' h1 h2 h3 h4
theorem il (eW:rp P cfg.pc) (tZ:Ii P aR) (hm:P.follows .mixedOrders=true) {root:Code} (iB:aju P cfg f root) {N:Nat} : ∀ (c:Code) (p:Nat),Sub root p c->codeOk N c=true->aaI P N c (oS P cfg aR L f c p)
 | .skip,p,_,_=>by
  intro k r t A E B ρ base a w Q h ht hj hq;exact wp_skip (hq .normal t E A B ρ a w h ht rfl (.refl hj.k hj.s))
 | .ret,p,_,_=>by
  intro k r t A E B ρ base a w Q h ht hj hq;exact wp_ret (hq .ret t E A B ρ a w h ht rfl (.refl hj.k hj.s))
 | .exit id,p,_,_=>by
  intro k r t A E B ρ base a w Q h ht hj hq;exact wp_exit (hq (.exit id) t E A B ρ a w h ht rfl (.refl hj.k hj.s))
 | .label l,p,_,_=>by
  intro k r t A E B ρ base a w Q h ht hj hq;exact wp_label (hq .normal t E A B ρ a w h ht rfl (.refl hj.k hj.s))
 | .goto l,p,_,_=>by
  intro k r t A E B ρ base a w Q h ht hj hq;exact wp_goto (hq (.goto l) t E A B ρ a w h ht rfl (.refl hj.k hj.s))
 | .region id ops false,p,_,hc=>by
  intro k r t A E B ρ base a w Q h ht hj hq;have h:XA P cfg aR ops.toList (fun t A=>k .normal t A) ops.toList t A=some r:=h;refine wp_region ?_;have:=Pg (Q:=Q) (base:=base) eW tZ (N:=N) (all:=ops.toList) hc ops.toList 0 t E A B ρ a w (by simp) h ht hj fun t' E' A' B' aF a' w' h1 h2 h3 h4=>hq .normal t' E' A' B' aF a' w' h1 h2 h3 h4;rw [List.range_eq_range'];simpa using this
 | .region id ops true,p,_,hc=>by
  intro k r t A E B ρ base a w Q h ht hj hq;have h:Z3 P cfg aR ops.toList true (fun t A=>k .normal t A) t A=some r:=h;unfold Z3 at h;cases ho:afl P cfg ops.toList with
  | false=>
   rw [ho] at h;cases hcr:MR P cfg ops.toList with
   | true=>
    rw [hcr] at h;exact aem (all:=ops.toList) eW tZ hm hc hcr h ht hj fun t' E' A' B' aF a' w' h1 h2 h3 h4=>hq .normal t' E' A' B' aF a' w' h1 h2 h3 h4
   | false=>
    rw [hcr] at h;cases hb:TW P cfg ops.toList with
    | false=>rw [hb] at h; exact absurd h (by simp)
    | true=>
     rw [hb] at h;exact afT (all:=ops.toList) eW hm hc hb h ht hj fun t' E' A' B' aF a' w' h1 h2 h3 h4=>hq .normal t' E' A' B' aF a' w' h1 h2 h3 h4
  | true=>
   rw [ho] at h;exact aco (all:=ops.toList) eW hm hc ho h ht hj fun t' E' A' B' aF a' w' h1 h2 h3 h4=>hq .normal t' E' A' B' aF a' w' h1 h2 h3 h4
 | .seq x y,p,hs,hc=>by
  simp only [codeOk,aq] at hc;intro k r t A E B ρ base a w Q h ht hj hq;have h:oS P cfg aR L f x (2 * p) (Sp k fun t A=>oS P cfg aR L f y (2 * p+1) k t A) t A=some r:=h;refine wp_seq ?_;refine il eW tZ hm iB x (2 * p) hs.aof hc.1 _ r t A E B ρ base a w _ h ht hj fun e t' E' A' B' aF a' w' h1 h2 h3 h4=>?_;cases e with
  | normal=>
   have h1:oS P cfg aR L f y (2 * p+1) k t' A' = some r:=h1;exact il eW tZ hm iB y (2 * p+1) hs.ajt hc.2 k r t' A' E' B' aF base a' w' Q h1 h2 h4.kj fun e t'' Hh A'' Il vo SF G3 q1 q2 q3 q4=>hq e t'' Hh A'' Il vo SF G3 q1 q2 (q3.trans h3) (h4.trans q4)
  | exit id=>exact hq (.exit id) t' E' A' B' aF a' w' h1 h2 h3 h4
  | goto l=>exact hq (.goto l) t' E' A' B' aF a' w' h1 h2 h3 h4
  | ret=>exact hq .ret t' E' A' B' aF a' w' h1 h2 h3 h4
 | .cond c x y,p,hs,hc=>by
  simp only [codeOk,aq] at hc;intro k r t A E B ρ base a w Q h ht hj hq;have h:adY t c (fun t=>oS P cfg aR L f x (2 * p) k t A) (fun t=>oS P cfg aR L f y (2 * p+1) k t A)=some r:=h;have key:∃ t',(∀ i,t'.get i=t.get i)/\((a.eval c = .bool true/\oS P cfg aR L f x (2 * p) k t' A=some r)\/(a.eval c = .bool false/\oS P cfg aR L f y (2 * p+1) k t' A=some r)):=by
   have sm:=ht.ev c;cases c with
   | tmp d=>
    have h:BK.rec (motive:=fun _=>Option R) (fun b=>Bool.rec (motive:=fun _=>Option R) (oS P cfg aR L f y (2 * p+1) k (t.set (.bool false) d) A) (oS P cfg aR L f x (2 * p) k (t.set (.bool true) d) A) b) none none (x8 ((t.get d).getD .bf))=some r:=h;cases hb:x8 ((t.get d).getD .bf) with
    | no=>rw [hb] at h; exact absurd h (by simp)
    | ma=>rw [hb] at h; exact absurd h (by simp)
    | bool b=>
     rw [hb] at h;have hbv:=Fu hb;have sm:VC P E ρ ((t.get d).getD .bf) (a.eval (.tmp d)):=sm;rw [hbv] at sm;have:=sm.eK;refine ⟨t.set (.bool b) d,M7 hb,?_⟩;cases b
     ·exact .inr ⟨this,h⟩
     ·exact .inl ⟨this,h⟩
   | const v=>
    have h:BK.rec (motive:=fun _=>Option R) (fun b=>Bool.rec (motive:=fun _=>Option R) (oS P cfg aR L f y (2 * p+1) k t A) (oS P cfg aR L f x (2 * p) k t A) b) none none (x8 (gp t (.const v)))=some r:=h;cases hb:x8 (gp t (.const v)) with
    | no=>rw [hb] at h; exact absurd h (by simp)
    | ma=>rw [hb] at h; exact absurd h (by simp)
    | bool b=>
     rw [hb] at h;rw [Fu hb] at sm;have:=sm.eK;refine ⟨t,fun _=>rfl,?_⟩;cases b
     ·exact .inr ⟨this,h⟩
     ·exact .inl ⟨this,h⟩
   | global g=>exact absurd h (by simp [adY,gp,x8])
   | func g=>exact absurd h (by simp [adY,gp,x8])
  obtain ⟨t',Kx,h⟩:=key;have ht':=ht.same Kx;rcases h with ⟨hb,h⟩ | ⟨hb,h⟩
  ·exact wp_cond_true hb (il eW tZ hm iB x (2 * p) hs.al1 hc.1 k r t' A E B ρ base a w Q h ht' hj hq)
  ·exact wp_cond_false hb (il eW tZ hm iB y (2 * p+1) hs.al2 hc.2 k r t' A E B ρ base a w Q h ht' hj hq)
 | .block id x,p,hs,hc=>by
  have hc:codeOk N x=true:=hc;intro k r t A E B ρ base a w Q h ht hj hq;have h:oS P cfg aR L f x (2 * p) (ai9 id k) t A=some r:=h;refine wp_block ?_;refine il eW tZ hm iB x (2 * p) hs.block hc _ r t A E B ρ base a w _ h ht hj fun e t' E' A' B' aF a' w' h1 h2 h3 h4=>?_;cases e with
  | normal=>exact hq .normal t' E' A' B' aF a' w' h1 h2 h3 h4
  | exit id'=>
   have h1:Bool.rec (motive:=fun _=>Option R) (k (.exit id') t' A') (k .normal t' A') (Nat.beq id' id)=some r:=h1;cases hb:Nat.beq id' id with
   | true=>
    rw [hb] at h1;have:=aK hb;simp only [ah.out,Exit.inBlock,aE this];exact hq .normal t' E' A' B' aF a' w' h1 h2 h3 h4
   | false=>
    rw [hb] at h1;have:=Nat.ne_of_beq_eq_false hb;simp only [ah.out,Exit.inBlock,aa this];exact hq (.exit id') t' E' A' B' aF a' w' h1 h2 h3 h4
  | goto l=>exact hq (.goto l) t' E' A' B' aF a' w' h1 h2 h3 h4
  | ret=>exact hq .ret t' E' A' B' aF a' w' h1 h2 h3 h4
 | .loop x,p,hs,hc=>by
  have hc:codeOk N x=true:=hc;intro k r t A E B ρ base a w Q h ht hj hq;have h:Option.rec (motive:=fun _=>bd->ae->Option R) (V5 (oS P cfg aR L f x (2 * p)) k L) (fun F=>V7 (oS P cfg aR L f x (2 * p)) F k L) (cfg.lp f p) t A=some r:=h;cases hF:cfg.lp f p with
  | some F=>
   rw [hF] at h;exact wp_loop_rounds (gK+L) (Uq (il eW tZ hm iB x (2 * p) hs.loop hc) (iB.1 p F x hF hs N hc) L k r t A E B ρ base a w Q h ht hj hq)
  | none=>
   rw [hF] at h;exact wp_loop_rounds L (Uo (il eW tZ hm iB x (2 * p) hs.loop hc) L k r t A E B ρ base a w Q h ht hj hq)
 | .scope x,p,hs,hc=>by
  have hc:codeOk N x=true:=hc;intro k r t A E B ρ base a w Q h ht hj hq;have h:Option.rec (motive:=fun _=>bd->ae->Option R) (oS P cfg aR L f x (2 * p) (Z4 k)) (fun F=>oS P cfg aR L f x (2 * p) (adZ (JP x) F k)) (cfg.lp f p) t A=some r:=h;cases hF:cfg.lp f p with
  | none=>
   rw [hF] at h;refine wp_scope_straight ?_;refine il eW tZ hm iB x (2 * p) hs.scope hc _ r t A E B ρ base a w _ h ht hj fun e t' E' A' B' aF a' w' h1 h2 h3 h4=>?_;cases e with
   | normal=>exact hq .normal t' E' A' B' aF a' w' h1 h2 h3 h4
   | exit id=>exact hq (.exit id) t' E' A' B' aF a' w' h1 h2 h3 h4
   | goto l=>exact absurd h1 (by simp [Z4])
   | ret=>exact hq .ret t' E' A' B' aF a' w' h1 h2 h3 h4
  | some F=>
   rw [hF] at h;have h:oS P cfg aR L f x (2 * p) (adZ (JP x) F k) t A=some r:=h;cases hl:JP x with
   | none=>
    refine wp_scope_straight ?_;refine il eW tZ hm iB x (2 * p) hs.scope hc _ r t A E B ρ base a w _ h ht hj fun e t' E' A' B' aF a' w' h1 h2 h3 h4=>?_;rw [hl] at h1;cases e with
    | normal=>exact hq .normal t' E' A' B' aF a' w' h1 h2 h3 h4
    | exit id=>exact hq (.exit id) t' E' A' B' aF a' w' h1 h2 h3 h4
    | goto l=>exact absurd h1 (by simp [adZ])
    | ret=>exact hq .ret t' E' A' B' aF a' w' h1 h2 h3 h4
   | some l=>
    obtain ⟨rest,Jz,aoV⟩:=iB.2 p F x hF hs N hc l hl;refine aen Jz ?_;refine il eW tZ hm iB x (2 * p) hs.scope hc _ r t A E B ρ base a w _ h ht hj fun e t' E' A' B' aF a' w' h1 h2 h3 h4=>?_;rw [hl] at h1;cases e with
    | normal=>exact hq .normal t' E' A' B' aF a' w' h1 h2 h3 h4
    | exit id=>exact hq (.exit id) t' E' A' B' aF a' w' h1 h2 h3 h4
    | goto l'=>
     have hx:Bool.rec (motive:=fun _=>Option R) none (wq.run (V6 k) (F t' A')) (Nat.beq l' l)=some r:=h1;cases hb:Nat.beq l' l with
     | false=>rw [hb] at hx; exact absurd hx (by simp)
     | true=>
      rw [hb] at hx;have hll:=aK hb;subst hll;have hx:wq.run (V6 k) (F t' A')=some r:=hx;refine ⟨rfl,aoV R k r t' A' E' B' aF base a' w' Q hx h2 h4.kj fun e2 t2 E2 A2 B2 xk a2 w2 q1 q2 q3 q4=>?_⟩;exact hq e2 t2 E2 A2 B2 xk a2 w2 q1 q2 (q3.trans h3) (h4.trans q4)
    | ret=>exact hq .ret t' E' A' B' aF a' w' h1 h2 h3 h4
 | .rangeFunc ..,p,_,_ | .refuse _,p,_,_=>by
  intro k r t A E B ρ base a w Q h ht hj hq;exact absurd h (by simp [oS])
end
theorem Iv:∀ (l:List KV) (i k:Nat) (t:bd),(oT l i t).get k=if i<=k/\k < i+l.length then l[k - i]? else t.get k
 | [],i,k,t=>by
  rw [oT,aa];simp
 | v::l,i,k,t=>by
  rw [oT,Iv l (i+1) k,Trie.oO];by_cases h1:k=i
  ·subst h1
   rw [aa (by omega),aE rfl,aE (by simp)];simp
  ·by_cases h2:i+1<=k/\k < i+1+l.length
   ·rw [aE h2,aE (by simp; omega),show k - i=(k - (i+1))+1 by omega]
    simp
   ·rw [aa h2,aa h1,aa (by simp; omega)]
theorem F8 {A:ae} {B:St} {base N:Nat} {w:World} {ρ:Ren} {t:bd} {a:Act} (hj:KJ P E A B ρ base w) (ht:iR P E ρ t N a):∀ (rs:List ResultVar) (vs:List KV),LN P A t rs=some vs->
  ∃ b7,rK P E ρ vs b7/\(rs.mapM (Y1 a)).run P w=Result.ok b7 w
 | [],vs,h=>by simp [LN] at h; subst h; exact ⟨[],⟨[],.nil,.nil⟩,by simp⟩
 | .tmp x::rs,vs,h=>by
  simp only [LN] at h;obtain ⟨us,hu,rfl⟩:=ck.1 h;obtain ⟨us',⟨m,h1,h3⟩,h2⟩:=F8 hj ht rs us hu;obtain ⟨u,h4,h5⟩:=ht.ev (.tmp x);refine ⟨_::us',⟨u::m,.cons h4 h1,.cons h5 h3⟩,?_⟩;simp [List.mapM_cons,h2,Act.eval,Y1]
 | .cell x ty::rs,vs,h=>by
  simp only [LN] at h;split at h
  ·rename_i v hv
   obtain ⟨us,hu,rfl⟩:=ck.1 h;obtain ⟨us',⟨m,h1,h3⟩,h2⟩:=F8 hj ht rs us hu;obtain ⟨u,h4,h5⟩:=ht.ev (.tmp x);have hg:aH (Aa P ty A [gp t (.tmp x)]) v:=by rw [hv]; exact rfl
   obtain ⟨z,h6,h7⟩:=afw E A B _ _ v hj.k (.cons h4 .nil) hg;have h6:loadAt P ty B u=some z:=h6;obtain ⟨ad,h8,z',h9,pn⟩:=Rl (P:=P) hj.s.rel h5 h6;refine ⟨z'::us',⟨z::m,.cons h7 h1,.cons h9 h3⟩,?_⟩;have h8:a.tmps.getD x undef = .pointer (some ad):=h8;simp only [List.mapM_cons,Sem.run_bind,Y1,h8,asAddr,Sem.run_pure,ie,pn,h2]
  ·simp at h
theorem Ps {ρ:Ren} {vs:List KV} {b7:List Value} (h:rK P E ρ vs b7):VC P E ρ (H9 vs) (if h:b7.toArray.size=1 then b7.toArray[0] else .tuple b7.toArray):=by
 obtain ⟨m,h1,h2⟩:=h
 match vs with
 | []=>
  rw [h1.b5] at h2;rw [h2.b5];exact ⟨_,.V9 .nil,VR.mkTuple .nil⟩
 | [v]=>
  obtain ⟨u,rfl,h3⟩:=h1.ef;obtain ⟨y,ys,rfl,h4,h5⟩:=h2.cons_inv;rw [h5.b5];exact ⟨u,h3,h4⟩
 | v::v2::vs=>
  obtain ⟨u,us,rfl,h3,h4⟩:=h1.cons_inv;obtain ⟨u2,us2,rfl,h5,h6⟩:=h4.cons_inv;obtain ⟨y,ys,rfl,h7,h8⟩:=h2.cons_inv;obtain ⟨y2,ys2,rfl,h9,pn⟩:=h8.cons_inv;rw [dif_neg (by simp)];exact ⟨_,.V9 (.cons h3 (.cons h5 h6)),VR.mkTuple (.cons h7 (.cons h9 pn))⟩
def aeo (vs:List Value):Value:=if h:vs.toArray.size=1 then vs.toArray[0] else .tuple vs.toArray
theorem Nd {R:Type} {cfg:dD} {aR:ko R} (eW:rp P cfg.pc) (tZ:Ii P aR) (hm:P.follows .mixedOrders=true) (L:Nat) {f:FuncId} {fn:Func} {c:Code} (hf:P.funcs[f]? = some fn) (hb:fn.body=some c) (cL:codeOk fn.ntmps c=true) (iB:aju P cfg f c)
  {args:List KV} {A:ae} {k:List KV->ae->Option R} {r:R} (h:oS P cfg aR L f c 1 (afm P fn k) (oT args 0 .leaf) A=some r) {E:Env} {B:St} {ρ:Ren} {dZ:List Value} {base:Nat} {w:World} (hv:rK P E ρ args dZ) (hj:KJ P E A B ρ base w) :
  Calls P f dZ.toArray w fun e w'=>∃ vs b7 E' A' B' aF,e = .returned (aeo b7)/\rK P E' aF vs b7/\Ev P base E A B ρ w E' A' B' aF w'/\k vs A' = some r:=by
 refine calls_of_wp hf hb ?_;obtain ⟨ahW,QV,Sb⟩:=hv;have hlen:dZ.length=args.length:=by rw [Sb.length,QV.length]
 have ht:iR P E ρ (oT args 0 .leaf) (max fn.ntmps args.length) { tmps:=dZ.toArray++Array.replicate (fn.ntmps - dZ.toArray.size) undef,defers:=[] }:=by
  have dS:(dZ.toArray++Array.replicate (fn.ntmps - dZ.toArray.size) undef).size=max fn.ntmps args.length:=by
   simp [hlen];omega
  refine ⟨dS,fun i=>?_,fun i hi=>?_⟩
  ·rw [Iv]
   simp only [qK,true_and,ba,Nat.sub_zero,Trie.Ql];by_cases hi:i < args.length
   ·rw [aE hi]
    obtain ⟨u,hu⟩:∃ u,args[i]? = some u:=⟨_,cI hi⟩
    obtain ⟨m,h1,h2⟩:=QV.get hu;obtain ⟨u',h3,h4⟩:=Sb.get h1;rw [hu];have:(dZ.toArray++Array.replicate (fn.ntmps - dZ.toArray.size) undef).getD i undef=u':=by
     rw [kR,Array.getElem?_append_left (by simpa [hlen] using hi)];simp [h3]
    rw [this];exact ⟨m,h2,h4⟩
   ·rw [aa hi]
    exact VC.bf
  ·rw [Iv,aa,Trie.Ql]
   simp only [qK,true_and,ba];have:=Nat.le_max_right fn.ntmps args.length;omega
 have acV:codeOk (max fn.ntmps args.length) c=true:=mi (Nat.le_max_left _ _) c cL;refine il (L:=L) (f:=f) (N:=max fn.ntmps args.length) eW tZ hm iB c 1 .root acV _ r _ A E B ρ base _ w _ h ht hj fun e t' E' A' B' aF a' w' h1 h2 h3 h4=>?_;have fin:∀ vs,LN P A' t' fn.results.toList=some vs->k vs A' = some r->∀ e:ah,(e = .normal\/e = .ret)->bodyPost P fn (fun e w'=>∃ vs b7 E' A' B' aF,e = .returned (aeo b7)/\rK P E' aF vs b7/\Ev P base E A B ρ w E' A' B' aF w'/\k vs A' = some r) e.out a' w':=by
  intro vs hr hk e he;obtain ⟨b7,hvs,lA⟩:=F8 (P:=P) h4.kj h2 _ _ hr;have afZ:(results fn a'.tmps).run P w' = .ok (if h:b7.toArray.size=1 then b7.toArray[0] else .tuple b7.toArray) w':=by
   rw [Xx,Sem.run_bind,Array.mapM_eq_mapM_toList,Sem.run_map,lA];rfl
  have aaK:bodyPost P fn (fun e w'=>∃ vs b7 E' A' B' aF,e = .returned (aeo b7)/\rK P E' aF vs b7/\Ev P base E A B ρ w E' A' B' aF w'/\k vs A' = some r) .ret a' w':=by
   exact ⟨h3,_,afZ,vs,b7,E',A',B',aF,rfl,hvs,h4,hk⟩
  rcases he with rfl | rfl
  ·exact aaK
  ·exact aaK
 cases e with
 | normal=>
  have h1:Option.rec (motive:=fun _=>Option R) none (fun vs=>k vs A') (LN P A' t' fn.results.toList)=some r:=h1;cases hr:LN P A' t' fn.results.toList with
  | none=>rw [hr] at h1; exact absurd h1 (by simp)
  | some vs=>rw [hr] at h1; exact fin vs hr h1 .normal (.inl rfl)
 | ret=>
  have h1:Option.rec (motive:=fun _=>Option R) none (fun vs=>k vs A') (LN P A' t' fn.results.toList)=some r:=h1;cases hr:LN P A' t' fn.results.toList with
  | none=>rw [hr] at h1; exact absurd h1 (by simp)
  | some vs=>rw [hr] at h1; exact fin vs hr h1 .ret (.inr rfl)
 | exit id=>exact absurd h1 (by simp [afm])
 | goto l=>exact absurd h1 (by simp [afm])
end Go.K
end
section
namespace Go.K
open Go Go.aG
variable {P:Program} {E:Env}
def ac0 (P:Program) (ac:FuncId->Option (List KV->ae->x7)):Prop:=∀ g F,ac g=some F->∀ {R:Type} (args:List KV) (A:ae) (k:KV->ae->Option R) (r:R),x7.run k (F args A)=some r->xM P g/\
 ∀ (E:Env) (B:St) (ρ:Ren) (base:Nat) (w:World) (dZ:List Value),rK P E ρ args dZ->KJ P E A B ρ base w->
  Calls P g dZ.toArray w fun e w'=>∃ v v' E' A' B' aF,e = .returned v'/\VC P E' aF v v'/\Ev P base E A B ρ w E' A' B' aF w'/\k v A' = some r
theorem ac0.none {P:Program} : ac0 P fun _=>.none:=fun g F h=>by simp at h
def vF (P:Program) (cfg:dD):Prop:=ac0 P cfg.x.ac/\∀ f fn c,P.funcs[f]? = some fn->fn.body=some c->aju P cfg f c
theorem Pt {R:Type} {cfg:dD} {aR:ko R} {L:Nat} {f:FuncId} {args:List KV} {A:ae} {k:List KV->ae->Option R} {r:R} (hP:P.funcs.toList.all kx=true) (h:V8 P cfg aR L f args A k=some r) :
  ∃ fn c, P.funcs[f]? = some fn ∧ fn.body = some c ∧ codeOk fn.ntmps c = true ∧ (fn.name == "runtime.NumGoroutine") = false ∧ oS P cfg aR L f c 1 (afm P fn k) (oT args 0 .leaf) A = some r := by
 unfold V8 at h;split at h
 ·rename_i fn hf
  split at h
  ·rename_i c hc
   have hf' : P.funcs[f]? = some fn:=by simpa using hf
   have cL:=fg.1 hP fn (gh hf);unfold kx at cL;rw [hc] at cL;simp only [aq,lU] at cL;exact ⟨fn,c,hf',hc,cL.1,cL.2,h⟩
  ·simp at h
 ·simp at h
theorem uC {R:Type} {cfg:dD} (hP:P.funcs.toList.all kx=true) (hm:P.follows .mixedOrders=true) (eW:rp P cfg.pc) (iB:vF P cfg) (L:Nat):∀ n,Ii (R:=R) P (Ha P cfg L n)
 | 0=>fun f args A k r h=>absurd h (by simp [Ha])
 | n+1=>fun f args A k r h=>by
  have h:Bool.rec (motive:=fun _=>Option R) none (Option.rec (motive:=fun _=>Option R) (V8 P cfg (Ha P cfg L n) L f args A fun vs B=>k (H9 vs) B) (fun F=>x7.run k (F args A)) (cfg.x.ac f)) (Nat.blt f yB)=some r:=h;cases hy:Nat.blt f yB with
  | false=>rw [hy] at h; exact absurd h (by simp)
  | true=>
   rw [hy] at h;cases hac:cfg.x.ac f with
   | some F=>
    rw [hac] at h;exact iB.1 f F hac args A k r h
   | none=>
    rw [hac] at h;have h:V8 P cfg (Ha P cfg L n) L f args A (fun vs B=>k (H9 vs) B)=some r:=h;obtain ⟨fn,c,hf,hc,cL,hnm,h⟩:=Pt hP h;refine ⟨⟨hy,fn,hf,by simp [hc],hnm⟩,fun E B ρ base w dZ hv hj=>?_⟩;refine (Nd eW (uC hP hm eW iB L n) hm L hf hc cL (iB.2 f fn c hf hc) h hv hj).mono ?_;rintro e w' ⟨vs,b7,E',A',B',aF,rfl,h1,h2,h3⟩;exact ⟨H9 vs,_,E',A',B',aF,rfl,Ps h1,h2,h3⟩
def Yx (E E0:Env):Prop:=∀ b r,E.z b=some r->∃ r0,E0.z b=some r0/\r0.bp=r.bp/\r0.cs=r.cs
theorem Yx.of {E E0:Env} (h:E0.z=E.z):Yx E E0:=fun b r e=>⟨r,by rw [h]; exact e,rfl,rfl⟩
mutual
theorem VK.zK {E0:Env} (hz:Yx E E0):∀ {v:KV} {u:Value} {c:CK},VK P E v u->kindOk c v=true->VK P E0 v u
 | .int k n,u,c,h,_=>h
 | .bool b,u,c,h,_=>h
 | .str s,u,c,h,_=>h
 | .ts T m n es acc,u,c,h,hk=>by
  cases c <;> simp [kindOk] at hk;rename_i t;cases m <;> simp at hk;obtain ⟨ht,bh,h1,a,cap,rfl,h2,h3,h4⟩:=h.kW;simp only [VK];refine ⟨ht,bh,aV.zEs hz h1 ht.typed,a,cap,rfl,h2,?_,trivial⟩;refine h3.imp id ?_;rintro ⟨b,off,r,e1,e2,e3⟩;obtain ⟨r0,q1,q2,q3⟩:=hz b r e2;exact ⟨b,off,r0,e1,q1,by rw [q2]; exact e3.1,by rw [q3]; exact e3.2⟩
 | .agg cs,u,c,h,hk=>by cases c <;> simp [kindOk] at hk
 | .ma cs,u,c,h,hk=>by cases c <;> simp [kindOk] at hk
 | .tp T Tc i k es acc,u,c,h,hk=>by cases c <;> simp [kindOk] at hk
 | .al T b o n,u,c,h,hk=>by cases c <;> simp [kindOk] at hk
 | .ap T Tc b i k,u,c,h,hk=>by cases c <;> simp [kindOk] at hk
 | .ptr b off,u,c,h,hk=>by cases c <;> simp [kindOk] at hk
 | .sl b off n cap,u,c,h,hk=>by cases c <;> simp [kindOk] at hk
 | .GF,u,c,h,hk=>by cases c <;> simp [kindOk] at hk
 | .kl,u,c,h,hk=>by cases c <;> simp [kindOk] at hk
 | .CR,u,c,h,hk=>by cases c <;> simp [kindOk] at hk
 | .map b,u,c,h,hk=>by cases c <;> simp [kindOk] at hk
 | .fn f a b,u,c,h,hk=>by cases c <;> simp [kindOk] at hk
 | .H5,u,c,h,hk=>by cases c <;> simp [kindOk] at hk
 | .iface t x,u,c,h,hk=>by cases c <;> simp [kindOk] at hk
 | .H6,u,c,h,hk=>by cases c <;> simp [kindOk] at hk
 | .bf,u,c,h,hk=>by cases c <;> simp [kindOk] at hk
theorem VK.zE {E0:Env} (hz:Yx E E0):∀ {v:KV} {u:Value} {l:Lay},VK P E v u->cw l v=true->VK P E0 v u
 | .int k n,u,l,h,_=>h
 | .bool b,u,l,h,_=>h
 | .str s,u,l,h,_=>h
 | .agg cs,u,l,h,hk=>by
  simp only [cw,aq] at hk;obtain ⟨m,rfl,h1⟩:=h.kJ;exact .rI (aV.zKs hz h1 hk.2)
 | .ts T m n es acc,u,l,h,hk=>by
  have mF:∃ c,kindOk c (.ts T m n es acc)=true:=by
   simp only [cw,aq] at hk;cases qE:l.ks with
   | nil=>rw [qE] at hk; simp [aD] at hk
   | cons c cs=>rw [qE] at hk; simp only [aD,aq] at hk; exact ⟨c,hk.2.1⟩
  obtain ⟨c,hk⟩:=mF;cases c <;> simp [kindOk] at hk;rename_i t;cases m <;> simp at hk;obtain ⟨ht,bh,h1,a,cap,rfl,h2,h3,h4⟩:=h.kW;simp only [VK];refine ⟨ht,bh,aV.zEs hz h1 ht.typed,a,cap,rfl,h2,?_,trivial⟩;refine h3.imp id ?_;rintro ⟨b,off,r,e1,e2,e3⟩;obtain ⟨r0,q1,q2,q3⟩:=hz b r e2;exact ⟨b,off,r0,e1,q1,by rw [q2]; exact e3.1,by rw [q3]; exact e3.2⟩
 | .ma cs,u,l,h,hk=>by simp [cw] at hk
 | .tp T Tc i k es acc,u,l,h,hk=>by
  obtain ⟨h1,_⟩:=gf hk;cases qE:l.ks with
  | nil=>rw [qE] at h1; simp [KV.cells,aD] at h1
  | cons c cs=>rw [qE] at h1; cases c <;> simp [KV.cells,aD,kindOk] at h1
 | .al T b o n,u,l,h,hk=>by
  obtain ⟨h1,_⟩:=gf hk;cases qE:l.ks with
  | nil=>rw [qE] at h1; simp [KV.cells,aD] at h1
  | cons c cs=>rw [qE] at h1; cases c <;> simp [KV.cells,aD,kindOk] at h1
 | .ap T Tc b i k,u,l,h,hk=>by
  obtain ⟨h1,_⟩:=gf hk;cases qE:l.ks with
  | nil=>rw [qE] at h1; simp [KV.cells,aD] at h1
  | cons c cs=>rw [qE] at h1; cases c <;> simp [KV.cells,aD,kindOk] at h1
 | .ptr b off,u,l,h,hk=>by
  obtain ⟨h1,_⟩:=gf hk;cases qE:l.ks with
  | nil=>rw [qE] at h1; simp [KV.cells,aD] at h1
  | cons c cs=>rw [qE] at h1; cases c <;> simp [KV.cells,aD,kindOk] at h1
 | .sl b off n cap,u,l,h,hk=>by
  obtain ⟨h1,_⟩:=gf hk;cases qE:l.ks with
  | nil=>rw [qE] at h1; simp [KV.cells,aD] at h1
  | cons c cs=>rw [qE] at h1; cases c <;> simp [KV.cells,aD,kindOk] at h1
 | .GF,u,l,h,hk=>h
 | .kl,u,l,h,hk=>h
 | .CR,u,l,h,hk=>h
 | .map b,u,l,h,hk=>by
  obtain ⟨h1,_⟩:=gf hk;cases qE:l.ks with
  | nil=>rw [qE] at h1; simp [KV.cells,aD] at h1
  | cons c cs=>rw [qE] at h1; cases c <;> simp [KV.cells,aD,kindOk] at h1
 | .fn f a b,u,l,h,hk=>by
  obtain ⟨h1,_⟩:=gf hk;cases qE:l.ks with
  | nil=>rw [qE] at h1; simp [KV.cells,aD] at h1
  | cons c cs=>rw [qE] at h1; cases c <;> simp [KV.cells,aD,kindOk] at h1
 | .H5,u,l,h,hk=>h
 | .iface t x,u,l,h,hk=>by
  obtain ⟨h1,_⟩:=gf hk;cases qE:l.ks with
  | nil=>rw [qE] at h1; simp [KV.cells,aD] at h1
  | cons c cs=>rw [qE] at h1; cases c <;> simp [KV.cells,aD,kindOk] at h1
 | .H6,u,l,h,hk=>h
 | .bf,u,l,h,hk=>h
theorem aV.zKs {E0:Env} (hz:Yx E E0):∀ {vs:List KV} {us:List Value} {ks:List CK},aV P E vs us->aD ks vs=true->aV P E0 vs us
 | [],us,ks,h,_=>by rw [h.b5]; exact .nil
 | v::vs,us,[],h,hk=>by simp [aD] at hk
 | v::vs,us,c::ks,h,hk=>by
  simp only [aD,aq] at hk;simp only [aV] at h ⊢;obtain ⟨y,ys,e,h1,h2⟩:=h;exact ⟨y,ys,e,VK.zK hz h1 hk.1,aV.zKs hz h2 hk.2⟩
theorem aV.zEs {E0:Env} (hz:Yx E E0):∀ {vs:List KV} {us:List Value} {l:Lay},aV P E vs us->dH l vs=true->aV P E0 vs us
 | [],us,l,h,_=>by rw [h.b5]; exact .nil
 | v::vs,us,l,h,hk=>by
  simp only [dH,aq] at hk;simp only [aV] at h ⊢;obtain ⟨y,ys,e,h1,h2⟩:=h;exact ⟨y,ys,e,VK.zE hz h1 hk.1,aV.zEs hz h2 hk.2⟩
end
theorem VK.al3 {E0:Env} (hz:Yx E E0) {c:CK} {v:KV} {u:Value} (h:VK P E v u):VK P E0 (K.nN c v) u:=by
 have hn:=h.nN (c:=c);cases hk:kindOk c (K.nN c v) with
 | true=>exact hn.zK hz hk
 | false=>
  have:K.nN c v = .bf:=by
   revert hk
   unfold K.nN;split
   ·intro hk; simp [kindOk] at hk
   ·rename_i t t' m n es acc
    cases hb:Nat.beq t t' with
    | false=>intro _; rfl
    | true=>intro hk; simp [kindOk] at hk
   ·cases hb:kindOk c v with
    | false=>intro _; rfl
    | true=>intro hk; rw [aj,hb] at hk; simp at hk
  rw [this];exact .vx
theorem aV.af0 {E0:Env} (hz:Yx E E0):∀ {ks:List CK} {cs:List KV} {l:List Value},aV P E cs l->cs.length=ks.length->aV P E0 (K.CS ks cs) l
 | [],[],l,h,_=>by rw [h.b5]; exact .nil
 | [],_::_,_,_,e=>by simp at e
 | _::_,[],_,_,e=>by simp at e
 | c::ks,v::cs,l,h,e=>by
  obtain ⟨y,ys,rfl,h1,h2⟩:=h.cons_inv;exact .cons (h1.al3 hz) (aV.af0 hz h2 (by simpa using e))
theorem VK.anq {E0:Env} (hz:Yx E E0) {l:Lay} {v:KV} {u:Value} (h:VK P E v u):VK P E0 (K.dM l v) u:=by
 unfold K.dM;split
 ·rename_i cs
  obtain ⟨m,rfl,h1⟩:=h.kJ;cases hb:(l.agg&&Nat.beq cs.length l.ks.length) with
  | false=>exact .vx
  | true=>
   simp only [aq] at hb;exact .rI (h1.af0 hz (aK hb.2))
 ·cases l.agg with
  | true=>exact .vx
  | false=>
   rw [aI];split
   ·exact h.al3 hz
   ·exact .vx
theorem VK.aoW {E0:Env} (hz:Yx E E0) {t:TypeId} {v:KV} {u:Value} (h:VK P E v u):VK P E0 (K.TT P t v) u:=by
 unfold K.TT;cases hb:cw (aQ P t) (K.dM (aQ P t) v) with
 | false=>exact .vx
 | true=>exact VK.ij _ hb (h.anq hz)
theorem aV.Nf {E0:Env} (hz:Yx E E0):∀ {ts:List TypeId} {vs:List KV} {us:List Value},aV P E vs us->vs.length=ts.length->aV P E0 (normArgs P ts vs) us
 | [],[],us,h,_=>by rw [h.b5]; exact .nil
 | [],_::_,_,_,e=>by simp at e
 | _::_,[],_,_,e=>by simp at e
 | t::ts,v::vs,us,h,e=>by
  obtain ⟨y,ys,rfl,h1,h2⟩:=h.cons_inv;exact .cons (h1.aoW hz) (aV.Nf hz h2 (by simpa using e))
theorem Iw:∀ (ts:List TypeId) (vs:List KV),zi P ts vs=normArgs P ts vs
 | [],vs=>by cases vs <;> rfl
 | t::ts,[]=>rfl
 | t::ts,v::vs=>by simp [zi,normArgs,Iw ts vs]
theorem LW:∀ {ts:List TypeId} {vs:List KV},vs.length=ts.length->(normArgs P ts vs).length=ts.length
 | [],[],_=>rfl
 | [],_::_,e=>by simp at e
 | _::_,[],e=>by simp at e
 | t::ts,v::vs,e=>by simp [normArgs,LW (ts:=ts) (vs:=vs) (by simpa using e)]
def Env.bare (E:Env):Env:={ E with κ:=fun _=>none,φ:=fun _=>none,α:=fun _=>none }
theorem dr.bare {A:ae} {B:St} (h:dr P E A B):dr P E.bare .empty B where
 row b cs bp hb:=by simp [ae.empty,ae.get] at hb
 aP b top sz hb:=by simp [ae.empty,ae.get] at hb
 z:=h.z
 apart b x e:=by simp [Env.bare] at e
 inj b c x e:=by simp [Env.bare] at e
 gz b c g _ _ _ _ _ _ e:=by simp [Env.bare] at e
 jI b x e:=by simp [Env.bare] at e
 kK b g e:=by simp [Env.bare] at e
 live b o hb:=by simp [ae.empty,ae.get] at hb
 eV b x e:=by simp [Env.bare] at e
 lB:=h.lB
 ik b g e:=by simp [Env.bare] at e
 fresh:=h.fresh
 mem:=h.mem
 ar:=by
  have hn:∀ b v,¬ ae.empty.get b=some (.arr v):=fun b v hb=>by simp [ae.empty,ae.get] at hb
  exact ⟨fun b v hb=>(hn b v hb).elim,fun b v hb=>by simp [ae.empty,ae.get] at hb,fun x ⟨b,v,_,_,hb,_⟩=>(hn b v hb).elim,fun b c v u x L N L' N' hb=>(hn b v hb).elim,fun b c v u x y L N L' N' cs e own g k bL e' rm k' hb=>(hn b v hb).elim,fun b x e=>by simp [Env.bare] at e,fun b p e=>by simp [Env.bare] at e,fun b x L N e=>by simp [Env.bare] at e,fun b v x L N cs e own g k hb=>(hn b v hb).elim,fun b v hb=>(hn b v hb).elim⟩
theorem af1 {x:Nat} : ¬ AR .empty E.bare x:=fun ⟨b,v,_,_,hb,_⟩=>by simp [ae.empty,ae.get] at hb
theorem af2 {B:St} {g:Nat} : ¬ AF .empty E.bare B g:=fun ⟨b,v,_,_,_,_,_,_,_,hb,_⟩=>by simp [ae.empty,ae.get] at hb
theorem al4 {B:St} {y:Nat} : ¬ AT .empty E.bare B y:=fun q=>q.elim af1 fun ⟨_,q,_⟩=>af2 q
theorem Ev.bare {base:Nat} {A A1:ae} {B B1:St} {ρ kD:Ren} {w w1:World} {E1:Env} (h:dr P E A B) (sm:Ev P base E.bare .empty B ρ w E1 A1 B1 kD w1):Ev P base E A B ρ w { E with z:=E1.z } A B1 kD w1:=by
 have hle:E.le { E with z:=E1.z }:=⟨fun _ _ e=>e,fun _ _ e=>e,sm.le.z,fun _ _ e=>e⟩
 have Ng:∀ x,x < B.next->B1.get x=B.get x:=fun x hx=>sm.dP x hx (fun b e=>by simp [Env.bare] at e) al4;have mJ:∀ g,g < B.next->B1.members g=B.members g:=fun g hg=>sm.oU g hg (fun b e=>by simp [Env.bare] at e) af2;have fU:=sm.eH.next;have O9:∀ b r,E1.z b=some r->E.z b=some r\/B.next<=b:=fun b r e=>by
  rcases sm.tW b r e with e | e | e
  ·exact .inl e
  ·exact (af1 e).elim
  ·exact .inr e
 have r6:∀ y,AR A { E with z:=E1.z } y->AR A E y:=fun y q=>q;have aog:∀ g,AF A E B g->g < B.next:=fun g ⟨b,v,x,L,N,cs,e,own,k,h1,h2,h3⟩=>(h.ar.vy b v x L N cs e own g k h1 h2 h3).1;have KO:∀ g,AF A { E with z:=E1.z } B1 g->AF A E B g:=fun g ⟨b,v,x,L,N,cs,e,own,k,h1,h2,h3⟩=>⟨b,v,x,L,N,cs,e,own,k,h1,h2,by rw [<- Ng x (h.ar.eV b x L N h2)]; exact h3⟩
 refine ⟨⟨?_,?_,sm.fT.z,?_,h.inj,h.gz,h.jI,h.kK,h.live,?_,sm.fT.lB,?_,sm.fT.fresh,sm.fT.mem,h.ar.dP hle (fun _=>rfl) (fun _ _ e=>e) (fun _ _ e=>e) (aB _) fU (fun x q=>Ng x (h.Ic q)) O9 (fun _ _ e=>.inl e) (fun b g e=>.inl ⟨b,e⟩) (fun g q=>mJ g (aog g q)) h.mem⟩,sm.eH,hle,aB _,fun x hx _ _=>Ng x hx,fun _ _ e=>.inl e,fun b r e=>(O9 b r e).imp id .inr,fun _ _ e=>.inl ⟨_,e⟩,fun g hg _ _=>mJ g hg,fun y q=>.inl (r6 y q),fun g q=>.inl (KO g q),sm.vz,fun y q=>.inl (q.imp (r6 y) fun ⟨g,q1,q2⟩=>⟨g,KO g q1,by rw [<- mJ g (aog g (KO g q1))]; exact q2⟩),sm.rows,fun _ e=>e⟩
 ·intro b cs bp hb
  obtain ⟨x,c,h1,h2,h3⟩:=h.row b cs bp hb;exact ⟨x,c,h1,by rw [Ng x (h.eV b x h1)]; exact h2,h3.mono hle⟩
 ·intro b top sz hb
  rcases h.aP b top sz hb with h1 | ⟨g,h1,h2,h3⟩
  ·exact .inl h1
  ·have hg:=h.ik b g h1
   refine .inr ⟨g,h1,h2,fun x hx cs e own f k hr=>?_⟩;rw [mJ g hg] at hx;rw [Ng x (h.mem g x hx)] at hr;exact h3 x hx cs e own f k hr
 ·intro b x hb
  have hx:=h.eV b x hb;cases hz:E1.z x with
  | none=>rfl
  | some r=>
   rcases O9 x r hz with e | e
   ·rw [h.apart b x hb] at e; simp at e
   ·omega
 ·intro b x hb; have:=h.eV b x hb; omega
 ·intro b g hb; have:=h.ik b g hb; omega
theorem al5 {g:FuncId} {F:List KV->KR KV} (hy:Nat.blt g yB=true) (hP:P.funcs.toList.all kx=true) (hm:P.follows .mixedOrders=true)
  (h:∀ aep v,aep.length=(bT P g).length->aH (F (normArgs P (bT P g) aep)) v->∃ cfg L n,rp P cfg.pc/\vF P cfg/\CV P cfg L n g (normArgs P (bT P g) aep)=some v):bQ P g F:=by
 intro args v hF hlen;obtain ⟨cfg,L,n,eW,iB,lA⟩:=h _ v hlen hF;have tZ:=uC (R:=KV) hP hm eW iB L n;obtain ⟨fn,c,hf,hc,cL,hnm,lA⟩:=Pt hP lA;refine ⟨⟨hy,fn,hf,by simp [hc],hnm⟩,fun E A B ρ base w dZ hv hj=>?_⟩;obtain ⟨ahW,QV,Sb⟩:=hv;have hv0:rK P E.bare ρ (normArgs P (bT P g) args) dZ:=⟨ahW,aV.Nf (E:=E) (E0:=E.bare) (.of rfl) QV hlen,Sb⟩
 refine (Nd eW tZ hm L hf hc cL (iB.2 g fn c hf hc) lA hv0 ⟨hj.k.bare,hj.s⟩).mono ?_;rintro e w' ⟨vs,b7,E0,A0,B1,kD,rfl,⟨m,h1,h1'⟩,h2,h3⟩;have h3:Bool.rec (motive:=fun _=>Option KV) none (some (H9 (zi P (vv P g) (zX A0 vs).1))) (Nat.beq vs.length (vv P g).length)=some v:=h3;obtain ⟨E1,hf1,h1⟩:=JS h2.fT h1;have sm:=Ev.bare hj.k (h2.trans (hf1.ev (.refl h2.eH.fT)));cases hb:Nat.beq vs.length (vv P g).length with
 | false=>rw [hb] at h3; exact absurd h3 (by simp)
 | true=>
  rw [hb] at h3;have h3:some (H9 (zi P (vv P g) (zX A0 vs).1))=some v:=h3;simp only [bM] at h3;subst h3;refine ⟨_,_,B1,kD,rfl,Ps ⟨m,?_,h1'⟩,sm⟩;rw [Iw];exact aV.Nf (E:=E1) (E0:={ E with z:=E1.z }) (.of rfl) h1 ((M6 A0 vs).trans (aK hb))
end Go.K
end
section
namespace Go.K
open Go Go.aG
noncomputable section
inductive CD where
 | k (c:CK)
 | lit (v:KV)
 | aP (t:TypeId)
 | arr (t:TypeId)
 | ref (w:KV)
def Wp (bs:List Nat) (v:KV):KV:=
 match v with
 | .ptr j o=>.ptr (bs.getD j 0) o
 | v=>v
def Bk (bs:List Nat):List KV->List KV
 | []=>[]
 | v::vs=>Wp bs v::Bk bs vs
def inst (bs:List Nat) (v:KV):KV:=
 match v with
 | .ptr j o=>.ptr (bs.getD j 0) o
 | .fn f first cap=>.fn f (Bk bs first) (Bk bs cap)
 | v=>v
def isP (nr:Nat):KV->Bool
 | .ptr j _=>Nat.blt j nr
 | _=>false
def aaL (nr:Nat):List KV->Bool
 | []=>true
 | v::vs=>isP nr v&&aaL nr vs
def XR (nr:Nat):KV->Bool
 | .ptr j _=>Nat.blt j nr
 | .fn (.func _) first cap=>aaL nr first&&aaL nr cap
 | _=>false
def eqP:KV->KV->Bool
 | .ptr a o,.ptr b q=>Nat.beq a b&&Nat.beq o q
 | _,_=>false
def aaM:List KV->List KV->Bool
 | [],[]=>true
 | v::vs,u::us=>eqP v u&&aaM vs us
 | _,_=>false
def Pu:KV->KV->Bool
 | .ptr a o,.ptr b q=>Nat.beq a b&&Nat.beq o q
 | .fn (.func f) a b,.fn (.func g) c d=>Nat.beq f g&&aaM a c&&aaM b d
 | _,_=>false
def yM:KV->KV->Bool
 | .fn (.func f) [] [],.fn (.func g) [] []=>Nat.beq f g
 | .GF,.GF=>true
 | .kl,.kl=>true
 | .CR,.CR=>true
 | .H5,.H5=>true
 | .H6,.H6=>true
 | _,_=>false
def Pv (A:ae) (t:TypeId) (v:KV):KV:=
 match v with
 | .kl=>.ts t .any 0 [] qG
 | .al t' b o _=>match A.get b with
  | some (.arr (.ts t2 _ N es acc))=>cond (Nat.beq t t'&&Nat.beq t t2&&Nat.beq o 0) (.ts t .any N es acc) .bf
  | _=>.bf
 | _=>.bf
def eM (P:Program) (A:ae) (d:CD) (v:KV):KV:=
 match d with
 | .k c=>cond (kindOk c (nN c v)) (cg P dB (leaf c (nN c v))) .bf
 | .lit w=>cond (yM w v) w .bf
 | .aP t=>match v with
  | .kl=>cg P dB (.ts t .any 0 [] qG)
  | .ts t' (.aP _) n es acc=>cond (Nat.beq t t') (cg P dB (.ts t .any n es acc)) .bf
  | _=>.bf
 | .arr t=>cg P dB (Pv A t v)
 | .ref w=>w
def eN (P:Program) (A:ae):List CD->List KV->List KV
 | d::ds,v::vs=>eM P A d v::eN P A ds vs
 | _,_=>[]
def jk (d:CD) (v:KV):Bool:=
 match d with
 | .k c=>kindOk c v
 | .lit w=>yM w v
 | .aP t=>kindOk (.slice t) v
 | .arr t=>kindOk (.slice t) v
 | .ref w=>Pu w v
def dh:List CD->List KV->Bool
 | [],[]=>true
 | d::ds,v::vs=>jk d v&&dh ds vs
 | _,_=>false
structure VD where
 agg:Bool
 ks:List CD
def yr (P:Program) (A:ae) (d:VD) (v:KV):KV:=
 match v with
 | .agg cs=>cond (d.agg&&Nat.beq cs.length d.ks.length) (.agg (eN P A d.ks cs)) .bf
 | v=>cond d.agg .bf (match d.ks with
  | [c]=>eM P A c v
  | _=>.bf)
def zl (d:VD) (v:KV):Bool:=
 match v with
 | .agg cs=>d.agg&&dh d.ks cs
 | v=>!d.agg&&dh d.ks [v]
structure aJ where
 dC:List (Tmp×VD)
 rows:List (Tmp×List CD×Nat)
 Ur:List (Tmp×Nat×Nat)
def valOf (t:bd) (i:Tmp):KV:=(t.get i).getD .bf
def od (P:Program) (t:bd) (A:ae):List (Tmp×VD)->List KV
 | []=>[]
 | p::ps=>yr P A p.2 (valOf t p.1)::od P t A ps
def eO:List (Tmp×VD)->List KV->Bool
 | [],[]=>true
 | p::ps,v::vs=>zl p.2 v&&eO ps vs
 | _,_=>false
def aoh:Option KV->Option Nat
 | some (.ptr b _)=>some b
 | _=>none
def apR (t:bd) (i:Nat):Option Nat:=
 cond (Nat.blt i 100000) (aoh (t.get i)) (match t.get (i % 100000) with
  | some (.fn _ first cap)=>aoh (acL (i / 100000 - 1) (first++cap))
  | _=>none)
def rowOf (t:bd) (A:ae) (p:Tmp×List CD×Nat):Option (Nat×List KV):=
 match apR t p.1 with
 | some b=>match A.get b with
  | some (.row cs e)=>cond (Nat.beq e p.2.2&&Nat.beq cs.length p.2.1.length) (some (b,cs)) none
  | _=>none
 | _=>none
def ajv (t:bd) (A:ae) (p:Tmp×List CD×Nat):Nat:=((rowOf t A p).getD (0,[])).1
def Ix (t:bd) (A:ae) (p:Tmp×List CD×Nat):List KV:=((rowOf t A p).getD (0,[])).2
def BR (t:bd) (A:ae):List (Tmp×List CD×Nat)->List Nat
 | []=>[]
 | p::ps=>ajv t A p::BR t A ps
def KT (P:Program) (t:bd) (A:ae):List (Tmp×List CD×Nat)->List (List KV)
 | []=>[]
 | p::ps=>eN P A p.2.1 (Ix t A p)::KT P t A ps
def Bl (P:Program) (t:bd) (A:ae):List (Tmp×List CD×Nat)->Bool
 | []=>true
 | p::ps=>(rowOf t A p).isSome&&(dh p.2.1 (eN P A p.2.1 (Ix t A p))&&Bl P t A ps)
def al6 (v:Option KV) (b:Option Nat) (off:Nat):Bool:=
 match v,b with
 | some (.ptr b o),some b'=>Nat.beq o off&&Nat.beq b b'
 | _,_=>false
def aeq (v w:Option KV):Bool:=
 match v,w with
 | some (.al T b o n),some (.al T' b' o' n')=>Nat.beq T T'&&Nat.beq b b'&&Nat.beq o o'&&Nat.beq n n'
 | _,_=>false
def F9 (p:Tmp×Nat×Nat):Bool:=Nat.blt p.2.1 1000000
def QB (t:bd) (bs:List Nat):List (Tmp×Nat×Nat)->Bool
 | []=>true
 | p::ps=>cond (F9 p) (al6 (t.get p.1) bs[p.2.1]? p.2.2) (aeq (t.get p.1) (t.get (p.2.1 - 1000000)))&&QB t bs ps
def zn:List Nat->Bool
 | []=>true
 | b::bs=>bs.all (fun c=>!Nat.beq b c)&&zn bs
structure FI where
 ok:Bool
 f:Option Nat
 fm:Bool
def szL (P:Program) (t:TypeId):Nat:=(aQ P t).ks.length
def wK (P:Program) (A:ae) (t:TypeId) (v:KV):FI:=
 match v with
 | .kl=>⟨true,none,true⟩
 | .ts _ (.aP f) n _ _=>match A.get f with
  | some (.aP top sz)=>⟨cond (Nat.beq sz (szL P t)) (ai top n) false,some f,true⟩
  | _=>⟨false,none,true⟩
 | _=>⟨false,none,true⟩
def KU (P:Program) (A:ae) (t:TypeId) (v:KV):FI:=
 match v with
 | .kl=>⟨Nat.ble 1 (szL P t),none,false⟩
 | .al _ b _ n=>match A.get b with
  | some (.arr (.ts _ _ N _ _))=>⟨ai N n,some b,false⟩
  | _=>⟨false,none,false⟩
 | _=>⟨false,none,false⟩
def BS:Option gT->Bool
 | some (.aP _ _)=>true
 | _=>false
theorem ac1 (P:Program) (A:ae) (t:TypeId) (v:KV):(wK P A t v).fm=true:=by
 unfold wK;split
 ·rfl
 ·split <;> rfl
 ·rfl
theorem akC (P:Program) (A:ae) (t:TypeId) (v:KV):(KU P A t v).fm=false:=by
 unfold KU;split
 ·rfl
 ·split <;> rfl
 ·rfl
theorem akD {P:Program} {A:ae} {t:TypeId} {v:KV} {x:Nat} (h:(wK P A t v).f=some x):BS (A.get x)=true:=by
 unfold wK at h;split at h
 ·simp at h
 ·split at h
  ·rename_i e; simp at h; subst h; rw [e]; rfl
  ·simp at h
 ·simp at h
def lD (P:Program) (A:ae):List CD->List KV->List FI
 | .aP t::ds,v::vs=>wK P A t v::lD P A ds vs
 | .arr t::ds,v::vs=>KU P A t v::lD P A ds vs
 | _::ds,_::vs=>lD P A ds vs
 | _,_=>[]
def En (P:Program) (t:bd) (A:ae):List (Tmp×VD)->List FI
 | []=>[]
 | p::ps=>lD P A p.2.ks (valOf t p.1).cells++En P t A ps
def Iy (P:Program) (t:bd) (A:ae):List (Tmp×List CD×Nat)->List FI
 | []=>[]
 | p::ps=>lD P A p.2.1 (Ix t A p)++Iy P t A ps
def Wq:List FI->Bool
 | []=>true
 | x::xs=>cond (Wq xs) x.ok false
def Nh:List FI->List (Option Nat)
 | []=>[]
 | x::xs=>x.f::Nh xs
def jw:List (Option Nat)->List Nat
 | []=>[]
 | some f::xs=>f::jw xs
 | none::xs=>jw xs
def Ga (nr:Nat) (bs:List Nat):List CD->List KV->Bool
 | .ref w::ds,v::vs=>XR nr w&&(Pu (inst bs w) v&&Ga nr bs ds vs)
 | _::ds,_::vs=>Ga nr bs ds vs
 | _,_=>true
def KW (nr:Nat) (bs:List Nat) (t:bd):List (Tmp×VD)->Bool
 | []=>true
 | p::ps=>Ga nr bs p.2.ks (valOf t p.1).cells&&KW nr bs t ps
def Wr (nr:Nat) (bs:List Nat) (t:bd) (A:ae):List (Tmp×List CD×Nat)->Bool
 | []=>true
 | p::ps=>Ga nr bs p.2.1 (Ix t A p)&&Wr nr bs t A ps
structure GR where
 ok:Bool
 bs:List Nat
 fs:List (Option Nat)
 vs:List KV
 rs:List (List KV)
def aJ.QZ (S:aJ) (P:Program) (t:bd) (A:ae):List FI:=En P t A S.dC++Iy P t A S.rows
def aJ.dp (S:aJ) (P:Program) (t:bd) (A:ae):GR:=
 ⟨cond (Bl P t A S.rows&&zn (BR t A S.rows)&&QB t (BR t A S.rows) S.Ur&&eO S.dC (od P t A S.dC)&&zn (jw (Nh (S.QZ P t A)))&&KW S.rows.length (BR t A S.rows) t S.dC&&Wr S.rows.length (BR t A S.rows) t A S.rows) (Wq (S.QZ P t A)) false,
  BR t A S.rows,Nh (S.QZ P t A),od P t A S.dC,KT P t A S.rows⟩
def Ni (j:Nat) (v:KV):KV:=
 match v with
 | .ts t _ n es acc=>.ts t (.aP j) n es acc
 | v=>v
def QC (j:Nat) (v:KV):KV:=
 match v with
 | .ts t _ n _ _=>.al t j 0 n
 | v=>v
def ub:List CD->Nat
 | []=>0
 | .aP _::ds=>Nat.succ (ub ds)
 | .arr _::ds=>Nat.succ (ub ds)
 | _::ds=>ub ds
def sq (j:Nat) (bs:List Nat):List CD->List KV->List KV
 | .aP _::ds,v::vs=>Ni j v::sq (Nat.succ j) bs ds vs
 | .arr _::ds,v::vs=>QC j v::sq (Nat.succ j) bs ds vs
 | .ref w::ds,_::vs=>inst bs w::sq j bs ds vs
 | _::ds,v::vs=>v::sq j bs ds vs
 | _,_=>[]
def XS (j:Nat) (bs:List Nat) (d:VD) (v:KV):KV:=
 match v with
 | .agg cs=>.agg (sq j bs d.ks cs)
 | v=>match d.ks with
  | [.aP _]=>Ni j v
  | [.arr _]=>QC j v
  | [.ref w]=>inst bs w
  | _=>v
def NV (j:Nat) (bs:List Nat):List (Tmp×VD)->List KV->List (Nat×KV)
 | p::ps,v::vs=>(p.1,XS j bs p.2 v)::NV (j+ub p.2.ks) bs ps vs
 | _,_=>[]
def oe:List (Tmp×VD)->Nat
 | []=>0
 | p::ps=>ub p.2.ks+oe ps
def XT (j:Nat) (bs:List Nat):List (Tmp×List CD×Nat)->List (List KV)->List (List KV)
 | p::ps,r::rs=>sq j bs p.2.1 r::XT (j+ub p.2.1) bs ps rs
 | _,_=>[]
def oX (P:Program):List CD->List KV->List gT
 | .aP t::ds,v::vs=>.aP (lenOf v) (szL P t)::oX P ds vs
 | .arr _::ds,v::vs=>.arr v::oX P ds vs
 | _::ds,_::vs=>oX P ds vs
 | _,_=>[]
def C4 (P:Program):List (Tmp×VD)->List KV->List gT
 | p::ps,v::vs=>oX P p.2.ks v.cells++C4 P ps vs
 | _,_=>[]
def Eo (P:Program):List (Tmp×List CD×Nat)->List (List KV)->List gT
 | p::ps,r::rs=>oX P p.2.1 r++Eo P ps rs
 | _,_=>[]
def aJ.lens (S:aJ) (P:Program) (vs:List KV) (rs:List (List KV)):List gT:=C4 P S.dC vs++Eo P S.rows rs
def zo (bs:List Nat):List (Tmp×Nat×Nat)->List (Nat×KV)
 | []=>[]
 | p::ps=>cond (F9 p) ((p.1,.ptr (bs.getD p.2.1 0) p.2.2)::zo bs ps) (zo bs ps)
def SP (l:List (Nat×KV)) (i:Nat):KV:=((iD l).get i).getD .bf
def Nj (l:List (Nat×KV)):List (Tmp×Nat×Nat)->List (Nat×KV)
 | []=>[]
 | p::ps=>cond (F9 p) (Nj l ps) ((p.1,SP l (p.2.1 - 1000000))::Nj l ps)
def aJ.prs (S:aJ) (fb:Nat) (bs:List Nat) (vs:List KV):List (Nat×KV):=NV fb bs S.dC vs++(zo bs S.Ur++Nj (NV fb bs S.dC vs) S.Ur)
def aJ.tm (S:aJ) (fb:Nat) (bs:List Nat) (vs:List KV):bd:=iD (S.prs fb bs vs)
def aJ.Iz (S:aJ) (fb:Nat) (bs:List Nat) (rs:List (List KV)):List (List KV):=XT (fb+oe S.dC) bs S.rows rs
def vG (A:ae):List gT->ae
 | []=>A
 | p::ps=>vG (A.new p) ps
def BT (A:ae):List (Option Nat)->ae
 | []=>A
 | some f::fs=>BT (A.put f .dead) fs
 | none::fs=>BT A fs
def pd (A:ae):List Nat->List (Tmp×List CD×Nat)->List (List KV)->ae
 | b::bs,p::ps,r::rs=>pd (A.put b (.row r p.2.2)) bs ps rs
 | _,_,_=>A
def aJ.back (S:aJ) (P:Program) (bs:List Nat) (fs:List (Option Nat)) (vs:List KV) (rs:List (List KV)) (A:ae):ae:=
 vG (BT (pd A bs S.rows (S.Iz A.next bs rs)) fs) (S.lens P vs rs)
def uc (A:ae):List (Tmp×List CD×Nat)->List (List KV)->ae
 | p::ps,r::rs=>uc (A.new (.row r p.2.2)) ps rs
 | _,_=>A
def aJ.nr (S:aJ):Nat:=S.rows.length
def upto:Nat->List Nat->List Nat
 | 0,l=>l
 | n+1,l=>upto n (n::l)
def aJ.ids (S:aJ):List Nat:=upto S.rows.length []
def aJ.mem (S:aJ) (P:Program) (vs:List KV) (rs:List (List KV)):ae:=vG (uc .empty S.rows (S.Iz S.nr S.ids rs)) (S.lens P vs rs)
def vH:List Nat->List Nat->Bool
 | [],[]=>true
 | a::aqL,b::bs=>Nat.beq a b&&vH aqL bs
 | _,_=>false
def E6 (P:Program) (cfg:dD) (L n:Nat) (f:FuncId) (p:Nat) (body:Code) (S:aJ) (vs:List KV) (rs:List (List KV)):Option (ah×List KV×List (List KV)):=
 oS P cfg (Ha P cfg L n) L f body (2 * p) (fun e t A=>
  Bool.rec (motive:=fun _=>Option (ah×List KV×List (List KV))) none (some (e,(S.dp P t A).vs,(S.dp P t A).rs)) (cond (vH (S.dp P t A).bs S.ids) (S.dp P t A).ok false)) (S.tm S.nr S.ids vs) (S.mem P vs rs)
def mB:ah->Bool
 | .normal=>true
 | _=>false
def vI (rd:List KV->List (List KV)->Option (ah×List KV×List (List KV))):Nat->List KV->List (List KV)->Option (ah×List KV×List (List KV))
 | 0,_,_=>none
 | n+1,vs,rs=>match rd vs rs with
  | some (e,b7,iC)=>cond (mB e) (vI rd n b7 iC) (some (e,b7,iC))
  | none=>none
inductive wL where
 | no
 | out (e:ah) (vs:List KV) (rs:List (List KV))
 | br (c:Bool) (x y:wL)
def wL.ev:wL->Option (ah×List KV×List (List KV))
 | .no=>none
 | .out e vs rs=>some (e,vs,rs)
 | .br c x y=>cond c x.ev y.ev
def wL.tell (P:Program) (S:aJ) (bs:List Nat) (fs:List (Option Nat)) (A:ae):wL->wq
 | .no=>.no
 | .out e vs rs=>.out e (S.tm A.next bs vs) (S.back P bs fs vs rs A)
 | .br c x y=>.br c (x.tell P S bs fs A) (y.tell P S bs fs A)
abbrev LFn:=List KV->List (List KV)->wL
def isExact (v:KV):Bool:=
 match v with
 | .ts _ .exact _ _ _=>true
 | _=>false
def Ut:List CD->List KV->Bool
 | .aP _::ds,v::vs=>isExact v||Ut ds vs
 | .arr _::ds,v::vs=>isExact v||Ut ds vs
 | _::ds,_::vs=>Ut ds vs
 | _,_=>false
def ajw (t:bd):List (Tmp×VD)->Bool
 | []=>false
 | p::ps=>Ut p.2.ks (valOf t p.1).cells||ajw t ps
def ajx (t:bd) (A:ae):List (Tmp×List CD×Nat)->Bool
 | []=>false
 | p::ps=>Ut p.2.1 (Ix t A p)||ajx t A ps
def aJ.al7 (S:aJ) (t:bd) (A:ae):Bool:=ajw t S.dC||ajx t A S.rows
def Uu (P:Program) (S:aJ) (F:LFn):bd->ae->wq:=fun t A=>
 cond (S.al7 t A) .once <| .br (S.dp P t A).ok ((F (S.dp P t A).vs (S.dp P t A).rs).tell P S (S.dp P t A).bs (S.dp P t A).fs A) .no
end
end Go.K
end
section
namespace Go.K
open Go Go.aG
variable {P:Program} {E:Env}
theorem ac2 {w v:KV} (h:yM w v=true):v=w:=by
 unfold yM at h;split at h <;> simp at h
 ·rename_i f g; rw [h]
 all_goals rfl
theorem ahX {w v:KV} (h:yM w v=true) {E0:Env} {u:Value} (k:VK P E v u):VK P E0 v u:=by
 have:=ac2 h;subst this;unfold yM at h;split at h <;> try (simp at h)
 ·obtain ⟨l,m,rfl,h1,h2⟩:=k.JQ
  rw [h1.b5,h2.b5];exact .afq .nil .nil
 all_goals exact k
theorem VK.mix {T:TypeId} {m m' : Mk} {n:Nat} {es pj:List KV} {acc ax:Nat->KV} {u:Value} (h:VK P E (.ts T m n es acc) u) (k:VK P E (.ts T m' n pj ax) u):VK P E (.ts T m n pj ax) u:=by
 obtain ⟨_,bh,_,a,cap,rfl,h2,_,h4⟩:=h.kW;obtain ⟨ht,apS,k1,a',ZI,e,_,k3,_⟩:=k.kW;simp only [Value.slice.injEq] at e;obtain ⟨rfl,_,rfl⟩:=e;simp only [VK];exact ⟨ht,apS,k1,a,cap,rfl,h2,k3,h4⟩
theorem VK.swap {E0:Env} (hz:E0.z=E.z) {T:TypeId} {m m' : Mk} {n:Nat} {es:List KV} {acc:Nat->KV} {u:Value} (h:VK P E (.ts T m n es acc) u) (hm:∀ sz a cap,u = .slice a n cap->Qv E sz a n cap m->Qv E0 sz a n cap m'):VK P E0 (.ts T m' n es acc) u:=by
 obtain ⟨ht,bh,h1,a,cap,rfl,h2,h3,h4⟩:=h.kW;simp only [VK];refine ⟨ht,bh,aV.zEs (.of hz) h1 ht.typed,a,cap,rfl,h2,?_,hm _ _ _ rfl h4⟩;refine h3.imp id ?_;rintro ⟨b,off,r,e1,e2,e3⟩;exact ⟨b,off,r,e1,by rw [hz]; exact e2,e3⟩
theorem SQ (t:TypeId) (m:Mk) (n:Nat) (es:List KV) (acc:Nat->KV):∃ pj ax,cg P dB (.ts t m n es acc) = .ts t .any n pj ax:=⟨_,_,rfl⟩
theorem ahY {c:CK} {v:KV} (h:kindOk c v=true):leaf c v=v:=by
 cases c <;> cases v <;> simp [kindOk] at h
 ·subst h; rfl
 ·rfl
 ·rfl
 ·rename_i t t' m n es acc
  cases m <;> simp at h;subst h; rfl
theorem VK.nCD {A:ae} {d:CD} {v:KV} {u:Value} (h:VK P E v u) (hd:∀ w,d≠.ref w) (ha:∀ t,d≠.arr t):VK P E (eM P A d v) u:=by
 cases d with
 | ref w=>exact absurd rfl (hd w)
 | arr t=>exact absurd rfl (ha t)
 | k c=>
  show VK P E (cond (kindOk c (K.nN c v)) (K.cg P dB (leaf c (K.nN c v))) .bf) u;cases hb:kindOk c (K.nN c v) with
  | false=>exact .vx
  | true=>
   rw [aj,ahY hb];exact VK.cg _ h.nN
 | lit w=>
  show VK P E (cond (yM w v) w .bf) u;cases hb:yM w v with
  | true=>rw [ac2 hb] at h; exact h
  | false=>exact .vx
 | aP t=>
  unfold eM;cases v with
  | kl=>have:=h.pk; subst this; exact VK.cg _ .ahH
  | ts t' m n es acc=>
   cases m with
   | aP f=>
    show VK P E (cond (Nat.beq t t') _ .bf) u;cases hb:Nat.beq t t' with
    | false=>exact .vx
    | true=>
     have:=aK hb;subst this;exact VK.cg dB h.alH
   | _=>exact .vx
  | _=>exact .vx
def Lk (E E0:Env) (f:Option Nat) (j:Nat):Prop:=∀ x g,f=some x->E.φ x=some g->E0.φ j=some g
theorem VK.ajy {E0:Env} (hz:E0.z=E.z) {A:ae} {t:TypeId} {v:KV} {u:Value} {j:Nat} (h:VK P E v u) (hg:jk (.aP t) (eM P A (.aP t) v)=true) (hl:Lk E E0 (wK P A t v).f j) (cL:(wK P A t v).ok=true):VK P E0 (Ni j (eM P A (.aP t) v)) u:=by
 cases v with
 | kl=>
  have:=h.pk; subst this;have h1:VK P E (K.cg P dB (.ts t .any 0 [] qG)) (.slice none 0 0):=VK.cg _ .ahH;obtain ⟨pj,ax,e⟩:=SQ (P:=P) t .any 0 [] qG;show VK P E0 (Ni j (K.cg P dB (.ts t .any 0 [] qG))) _;rw [e] at h1 ⊢;exact h1.swap hz fun sz a cap he _=>by
   simp only [Value.slice.injEq] at he;obtain ⟨rfl,_,rfl⟩:=he;exact ⟨rfl,.inl ⟨rfl,rfl⟩⟩
 | ts t' m n es acc=>
  cases m with
  | aP f=>
   have e1:eM P A (.aP t) (.ts t' (.aP f) n es acc)=cond (Nat.beq t t') (K.cg P dB (.ts t .any n es acc)) .bf:=rfl;rw [e1] at hg ⊢;cases hb:Nat.beq t t' with
   | false=>rw [hb] at hg; simp [jk,kindOk] at hg
   | true=>
    have:=aK hb;subst this;have h1:=VK.cg (P:=P) dB h.alH;obtain ⟨pj,ax,e⟩:=SQ (P:=P) t .any n es acc;rw [aj,e];rw [e] at h1;have hf:(wK P A t (.ts t (.aP f) n es acc)).f=some f:=by
     revert cL
     unfold wK;simp only;split
     ·intro _; rfl
     ·intro cL; simp at cL
    exact (h.mix h1).swap hz fun sz a cap he hm=>by
     refine ⟨hm.1,hm.2.imp id ?_⟩;rintro ⟨b,r,g,q1,q2,q3,q4,q5⟩;exact ⟨b,r,g,q1,by rw [hz]; exact q2,q3,hl f g hf q4,q5⟩
  | any=>simp [wK] at cL
  | exact=>simp [wK] at cL
 | _=>simp [wK] at cL
def La (E E0:Env) (f:Option Nat) (j:Nat):Prop:=∀ x p,f=some x->E.α x=some p->E0.α j=some p
theorem ahZ:K.cg P dB .bf = .bf:=rfl
theorem Ws {A:ae} {t:TypeId} {v:KV} (hg:jk (.arr t) (eM P A (.arr t) v)=true):v = .kl\/∃ b n m N es acc,v = .al t b 0 n/\A.get b=some (.arr (.ts t m N es acc))/\eM P A (.arr t) v=K.cg P dB (.ts t .any N es acc):=by
 have hu:∀ w,w=KV.bf->jk (.arr t) (K.cg P dB w)=false:=fun w e=>by rw [e]; rfl
 have hg:jk (.arr t) (K.cg P dB (Pv A t v))=true:=hg;have e0:eM P A (.arr t) v=K.cg P dB (Pv A t v):=rfl;rw [e0];cases v with
 | kl=>exact .inl rfl
 | al t' b o n=>
  have e1:Pv A t (.al t' b o n)=(match A.get b with
   | some (.arr (.ts t2 _ N es acc))=>cond (Nat.beq t t'&&Nat.beq t t2&&Nat.beq o 0) (.ts t .any N es acc) .bf
   | _=>.bf):=rfl
  rw [e1] at hg ⊢;split at hg
  ·rename_i t2 m N es acc hb
   cases hc:(Nat.beq t t'&&Nat.beq t t2&&Nat.beq o 0) with
   | false=>rw [hc,aI,hu _ rfl] at hg; simp at hg
   | true=>
    simp only [aq] at hc;have:=aK hc.1.1;subst this;have:=aK hc.1.2;subst this;have:=aK hc.2;subst this;refine .inr ⟨b,n,m,N,es,acc,rfl,hb,?_⟩;rw [aj]
  ·rw [hu _ rfl] at hg; simp at hg
 | _=>exact absurd (hg.symm.trans (hu _ rfl)) (by simp)
theorem VK.al8 {E0:Env} {A:ae} {t:TypeId} {v:KV} {u:Value} {j:Nat} (h:VK P E v u) (hg:jk (.arr t) (eM P A (.arr t) v)=true) (hl:La E E0 (KU P A t v).f j) (cL:(KU P A t v).ok=true):VK P E0 (QC j (eM P A (.arr t) v)) u:=by
 rcases Ws hg with rfl | ⟨b,n,m,N,es,acc,rfl,hb,he⟩
 ·have:=h.pk; subst this
  exact .O2 (.inl ⟨rfl,rfl,rfl⟩)
 ·obtain ⟨pj,ax,e⟩:=SQ (P:=P) t .any N es acc
  rw [he,e];have hao:KU P A t (.al t b 0 n)=⟨ai N n,some b,false⟩:=by simp only [KU,hb]
  rw [hao] at cL hl;have hN:N=n:=aK cL;subst hN;show VK P E0 (.al t j 0 N) u;rcases h.yp with ⟨q1,_,q2⟩ | ⟨x,L,M,c,q1,q2⟩
  ·exact .O2 (.inl ⟨q1,rfl,q2⟩)
  ·exact .O2 (.inr ⟨x,L,M,c,hl b _ rfl q1,q2⟩)
theorem VK.gCD {E0:Env} (hz:E0.z=E.z) {d:CD} {v:KV} {u:Value} (h:VK P E v u) (hg:jk d v=true) (hd:∀ w,d≠.ref w):VK P E0 v u:=by
 cases d with
 | ref w=>exact absurd rfl (hd w)
 | arr t=>exact h.zK (c:=.slice t) (.of hz) hg
 | k c=>exact h.zK (.of hz) hg
 | lit w=>exact ahX hg h
 | aP t=>exact h.zK (c:=.slice t) (.of hz) hg
theorem jN {A:ae} : ∀ {ds:List CD} {vs:List KV},vs.length=ds.length->(lD P A ds vs).length=ub ds
 | [],[],_=>rfl
 | [],_::_,e=>by simp at e
 | _::_,[],e=>by simp at e
 | .k c::ds,v::vs,e=>by simp only [lD,ub]; exact jN (by simpa using e)
 | .lit w::ds,v::vs,e=>by simp only [lD,ub]; exact jN (by simpa using e)
 | .aP t::ds,v::vs,e=>by simp only [lD,ub,qN]; rw [jN (by simpa using e)]
 | .arr t::ds,v::vs,e=>by simp only [lD,ub,qN]; rw [jN (by simpa using e)]
 | .ref w::ds,v::vs,e=>by simp only [lD,ub]; exact jN (by simpa using e)
theorem anr {a b:KV} (h:eqP a b=true):a=b:=by
 unfold eqP at h;split at h
 ·simp only [aq] at h
  rw [aK h.1,aK h.2]
 ·simp at h
theorem aaN:∀ {a b:List KV},aaM a b=true->a=b
 | [],[],_=>rfl
 | [],_::_,h=>by simp [aaM] at h
 | _::_,[],h=>by simp [aaM] at h
 | x::a,y::b,h=>by
  simp only [aaM,aq] at h;rw [anr h.1,aaN h.2]
theorem QD {a b:KV} (h:Pu a b=true):a=b:=by
 unfold Pu at h;split at h
 ·simp only [aq] at h
  rw [aK h.1,aK h.2]
 ·simp only [aq] at h
  rw [aK h.1.1,aaN h.1.2,aaN h.2]
 ·simp at h
def Rk (E E0:Env) (nr:Nat) (bs Hk:List Nat):Prop:=∀ j x,j < nr->E.κ (bs.getD j 0)=some x->E0.κ (Hk.getD j 0)=some x
theorem VK.Wp {E0:Env} {nr:Nat} {bs Hk:List Nat} (hk:Rk E E0 nr bs Hk) {w:KV} {u:Value} (hw:isP nr w=true) (h:VK P E (K.Wp bs w) u):VK P E0 (K.Wp Hk w) u:=by
 cases w <;> simp [isP] at hw;rename_i j o;obtain ⟨x,h1,rfl⟩:=(show VK P E (.ptr (bs.getD j 0) o) u from h).hD;exact .BM (hk j x hw h1)
theorem aV.Bk {E0:Env} {nr:Nat} {bs Hk:List Nat} (hk:Rk E E0 nr bs Hk):∀ {ws:List KV} {us:List Value},aaL nr ws=true->aV P E (K.Bk bs ws) us->aV P E0 (K.Bk Hk ws) us
 | [],us,_,h=>by rw [h.b5]; exact .nil
 | w::ws,us,hw,h=>by
  simp only [aaL,aq] at hw;obtain ⟨y,ys,rfl,h1,h2⟩:=aV.cons_inv (show aV P E (K.Wp bs w::K.Bk bs ws) us from h);exact .cons (VK.Wp hk hw.1 h1) (aV.Bk hk hw.2 h2)
theorem VK.inst {E0:Env} {nr:Nat} {bs Hk:List Nat} (hk:Rk E E0 nr bs Hk) {w:KV} {u:Value} (hw:XR nr w=true) (h:VK P E (K.inst bs w) u):VK P E0 (K.inst Hk w) u:=by
 cases w with
 | ptr j o=>
  obtain ⟨x,h1,rfl⟩:=(show VK P E (.ptr (bs.getD j 0) o) u from h).hD;exact .BM (hk j x (by simpa [XR] using hw) h1)
 | fn f first cap=>
  cases f with
  | func f=>
   simp only [XR,aq] at hw;obtain ⟨l,m,rfl,h1,h2⟩:=(show VK P E (.fn (.func f) (K.Bk bs first) (K.Bk bs cap)) u from h).JQ;exact .afq (aV.Bk hk hw.1 h1) (aV.Bk hk hw.2 h2)
  | _=>simp [XR] at hw
 | _=>simp [XR] at hw
def pe (E E0:Env) (l:List FI) (j:Nat):Prop:=∀ (i:Nat) fi,l[i]? = some fi->fi.ok=true/\(fi.fm=true->Lk E E0 fi.f (j+i))/\La E E0 fi.f (j+i)
theorem pe.left {E0:Env} {l m:List FI} {j:Nat} (h:pe E E0 (l++m) j):pe E E0 l j:=fun i fi e=>h i fi (by rw [qM (cG.1 e).1]; exact e)
theorem pe.right {E0:Env} {l m:List FI} {j:Nat} (h:pe E E0 (l++m) j):pe E E0 m (j+l.length):=fun i fi e=>by
 have:=h (l.length+i) fi (by rw [tL (by omega)]; simpa using e);rw [GZ]; exact this
theorem pe.head {E0:Env} {x:FI} {l:List FI} {j:Nat} (h:pe E E0 (x::l) j):x.ok=true/\(x.fm=true->Lk E E0 x.f j)/\La E E0 x.f j:=h 0 x rfl
theorem pe.tail {E0:Env} {x:FI} {l:List FI} {j:Nat} (h:pe E E0 (x::l) j):pe E E0 l (j+1):=fun i fi e=>by
 have:=h (i+1) fi (by simpa using e);rw [show j+1+i=j+(i+1) by omega]; exact this
theorem aV.cellsIn {E0:Env} (hz:E0.z=E.z) {A:ae} {nr:Nat} {bs Hk:List Nat} (hk:Rk E E0 nr bs Hk):∀ {ds:List CD} {vs:List KV} {us:List Value} {j:Nat},aV P E vs us->vs.length=ds.length->dh ds (eN P A ds vs)=true->pe E E0 (lD P A ds vs) j->Ga nr bs ds vs=true->aV P E0 (sq j Hk ds (eN P A ds vs)) us
 | [],[],us,j,h,_,_,_,_=>by rw [h.b5]; exact .nil
 | [],_::_,_,_,_,e,_,_,_=>by simp at e
 | _::_,[],_,_,_,e,_,_,_=>by simp at e
 | d::ds,v::vs,us,j,h,e,hg,hf,hr=>by
  simp only [eN,dh,aq] at hg;obtain ⟨y,ys,rfl,h1,h2⟩:=h.cons_inv;have e' : vs.length=ds.length:=by simpa using e
  cases d with
  | k c=>exact .cons ((h1.nCD (by simp) (by simp)).gCD (d:=.k c) hz hg.1 (by simp)) (aV.cellsIn hz hk h2 e' hg.2 hf hr)
  | lit w=>exact .cons ((h1.nCD (by simp) (by simp)).gCD (d:=.lit w) hz hg.1 (by simp)) (aV.cellsIn hz hk h2 e' hg.2 hf hr)
  | aP t=>exact .cons (h1.ajy hz hg.1 (hf.head.2.1 (ac1 ..)) hf.head.1) (aV.cellsIn hz hk h2 e' hg.2 hf.tail hr)
  | arr t=>exact .cons (h1.al8 hg.1 hf.head.2.2 hf.head.1) (aV.cellsIn hz hk h2 e' hg.2 hf.tail hr)
  | ref w=>
   simp only [Ga,aq] at hr;exact .cons (VK.inst hk hr.1 (by rw [QD hr.2.1]; exact h1)) (aV.cellsIn hz hk h2 e' hg.2 hf hr.2.2)
theorem aer {ds:List CD} {v:KV} (h:dh ds [v] = true):∃ d,ds = [d]/\jk d v=true:=by
 cases ds with
 | nil=>simp [dh] at h
 | cons d ds=>
  simp only [dh,aq] at h;cases ds with
  | nil=>exact ⟨d,rfl,h.1⟩
  | cons e ds=>simp [dh] at h
theorem AO {d:VD} {v:KV} (h:zl d v=true):(∃ cs,v = .agg cs/\d.agg=true/\dh d.ks cs=true)\/((∀ cs,v≠.agg cs)/\d.agg=false/\∃ c,d.ks = [c]/\jk c v=true):=by
 by_cases ha:∃ cs,v = .agg cs
 ·obtain ⟨cs,rfl⟩:=ha
  simp only [zl,aq] at h;exact .inl ⟨cs,rfl,h.1,h.2⟩
 ·have h:(!d.agg&&dh d.ks [v])=true:=by
   cases v <;> first | exact h | exact absurd ⟨_,rfl⟩ ha
  simp only [aq,lU] at h;exact .inr ⟨fun cs e=>ha ⟨cs,e⟩,h.1,aer h.2⟩
theorem AP {A:ae} {d:VD} {v:KV} (h:zl d (yr P A d v)=true):(∃ cs,v = .agg cs/\cs.length=d.ks.length/\yr P A d v = .agg (eN P A d.ks cs)/\dh d.ks (eN P A d.ks cs)=true)\/
  ((∀ cs,v≠.agg cs)/\∃ c,d.ks = [c]/\yr P A d v=eM P A c v/\jk c (eM P A c v)=true/\v.cells = [v]/\(∀ cs,eM P A c v≠.agg cs)):=by
 have al9:zl d .bf=false:=by
  cases hb:zl d .bf with
  | false=>rfl
  | true=>
   rcases AO hb with ⟨cs,e,_⟩ | ⟨_,_,c,_,hc⟩
   ·simp at e
   ·cases c with
    | k c=>cases c <;> simp [jk,kindOk] at hc
    | lit w=>cases w <;> first | (simp [jk,yM] at hc; done) | (rename_i f a b; cases f <;> cases a <;> cases b <;> simp [jk,yM] at hc)
    | aP t=>simp [jk,kindOk] at hc
    | arr t=>simp [jk,kindOk] at hc
    | ref w=>
     have hc:Pu w .bf=true:=hc;have:=QD hc;subst this;simp [Pu] at hc
 by_cases ha:∃ cs,v = .agg cs
 ·obtain ⟨cs,rfl⟩:=ha
  have e:yr P A d (.agg cs)=cond (d.agg&&Nat.beq cs.length d.ks.length) (.agg (eN P A d.ks cs)) .bf:=rfl;cases hb:(d.agg&&Nat.beq cs.length d.ks.length) with
  | false=>rw [e,hb,aI,al9] at h; simp at h
  | true=>
   rw [e,hb,aj] at h;simp only [aq] at hb;simp only [zl,aq] at h;exact .inl ⟨cs,rfl,aK hb.2,by rw [e]; simp only [hb.1,hb.2,cK,aj],h.2⟩
 ·have e:yr P A d v=cond d.agg .bf (match d.ks with | [c]=>eM P A c v | _=>.bf):=by
   cases v <;> first | rfl | exact absurd ⟨_,rfl⟩ ha
  have wC:v.cells = [v]:=by cases v <;> first | rfl | exact absurd ⟨_,rfl⟩ ha
  cases BN:d.agg with
  | true=>rw [e,BN,aj,al9] at h; simp at h
  | false=>
   rw [BN,aI] at e;rw [e] at h;split at h
   ·rename_i c hc
    rw [hc] at e;simp only at e;rcases AO h with ⟨cs,e2,h2,_⟩ | ⟨h1,_,c',h2,h3⟩
    ·rw [BN] at h2; simp at h2
    ·rw [hc] at h2
     simp only [List.cons.injEq,and_true] at h2;subst h2;exact .inr ⟨fun cs ec=>ha ⟨cs,ec⟩,c,hc,e,h3,wC,h1⟩
   ·rw [al9] at h; simp at h
theorem Fw {A:ae} {d:VD} {v:KV} (h:zl d (yr P A d v)=true):v.cells.length=d.ks.length:=by
 rcases AP h with ⟨cs,rfl,h1,_⟩ | ⟨_,c,h1,_,_,h2,_⟩
 ·exact h1
 ·rw [h1,h2]; rfl
theorem VK.aoi {E0:Env} (hz:E0.z=E.z) {A:ae} {nr:Nat} {bs Hk:List Nat} (hk:Rk E E0 nr bs Hk) {d:VD} {v:KV} {u:Value} {j:Nat} (h:VK P E v u) (hg:zl d (yr P A d v)=true) (hf:pe E E0 (lD P A d.ks v.cells) j) (hr:Ga nr bs d.ks v.cells=true):VK P E0 (XS j Hk d (yr P A d v)) u:=by
 rcases AP hg with ⟨cs,rfl,h1,h2,h3⟩ | ⟨h0,c,h1,h2,h3,h4,h5⟩
 ·rw [h2]
  obtain ⟨l,rfl,k⟩:=h.kJ;exact .rI (aV.cellsIn hz hk k h1 h3 hf hr)
 ·rw [h2]
  have e:XS j Hk d (eM P A c v)=(match d.ks with | [.aP _]=>Ni j (eM P A c v) | [.arr _]=>QC j (eM P A c v) | [.ref w]=>K.inst Hk w | _=>eM P A c v):=by
   generalize eM P A c v=w at h5;cases w <;> first | rfl | exact absurd rfl (h5 _)
  rw [e,h1];rw [h1,h4] at hf hr;cases c with
  | k c=>exact (h.nCD (by simp) (by simp)).gCD (d:=.k c) hz h3 (by simp)
  | lit w=>exact (h.nCD (by simp) (by simp)).gCD (d:=.lit w) hz h3 (by simp)
  | aP t=>exact h.ajy hz h3 (hf.head.2.1 (ac1 ..)) hf.head.1
  | arr t=>exact h.al8 h3 hf.head.2.2 hf.head.1
  | ref w=>
   simp only [Ga,aq] at hr;exact VK.inst hk hr.1 (by rw [QD hr.2.1]; exact h)
theorem VK.Wa {A:ae} {nr:Nat} {bs:List Nat} {d:VD} {t:bd} {i:Tmp} (h:zl d (yr P A d (valOf t i))=true) (hr:Ga nr bs d.ks (valOf t i).cells=true):∃ v,t.get i=some v:=by
 cases hg:t.get i with
 | some v=>exact ⟨v,rfl⟩
 | none=>
  exfalso;have e:valOf t i = .bf:=by simp [valOf,hg]
  rw [e] at h hr;rcases AP h with ⟨cs,e2,_⟩ | ⟨_,c,qE,_,h3,_,_⟩
  ·simp at e2
  ·cases c with
   | ref w=>
    rw [qE] at hr;have hr:(XR nr w&&(Pu (K.inst bs w) .bf&&true))=true:=hr;simp only [aq] at hr;have h1:=hr.2.1;have:=QD h1;rw [this] at h1;simp [Pu] at h1
   | k c=>
    have h4:kindOk c (K.nN c .bf)=false:=by cases c <;> rfl
    have h5:eM P A (.k c) .bf = .bf:=by
     show cond (kindOk c (K.nN c .bf)) (K.cg P dB (leaf c (K.nN c .bf))) KV.bf=KV.bf;rw [h4]; rfl
    rw [h5] at h3;cases c <;> simp [jk,kindOk] at h3
   | lit w=>cases w <;> first | (simp [eM,jk,yM] at h3; done) | (rename_i f a b; cases f <;> cases a <;> cases b <;> simp [eM,jk,yM] at h3)
   | aP t=>simp [eM,jk,kindOk] at h3
   | arr t=>exact absurd h3 (by simp [eM,Pv,ahZ,jk,kindOk])
end Go.K
end
section
namespace Go.K
open Go Go.aG
variable {P:Program} {E:Env}
theorem aaO:∀ {bs:List Nat},zn bs=true->∀ (i j b:Nat),bs[i]? = some b->bs[j]? = some b->i=j
 | [],_,i,j,b,hi,_=>by simp at hi
 | a::bs,h,i,j,b,hi,hj=>by
  simp only [zn,aq,fg,lU] at h;cases i with
  | zero=>
   cases j with
   | zero=>rfl
   | succ j=>
    simp at hi hj; subst hi;have:=h.1 a (gh hj);exact absurd (tM a) (by rw [this]; simp)
  | succ i=>
   cases j with
   | zero=>
    simp at hi hj; subst hj;have:=h.1 a (gh hi);exact absurd (tM a) (by rw [this]; simp)
   | succ j=>
    simp at hi hj;rw [aaO h.2 i j b hi hj]
theorem yN:∀ {l:List (Option Nat)} {f:Nat},f∈jw l↔some f∈l
 | [],f=>by simp [jw]
 | some g::l,f=>by simp [jw,yN (l:=l)]
 | none::l,f=>by simp [jw,yN (l:=l)]
theorem zp:∀ {l:List (Option Nat)},zn (jw l)=true->∀ (i j f:Nat),l[i]? = some (some f)->l[j]? = some (some f)->i=j
 | [],_,i,j,b,hi,_=>by simp at hi
 | none::l,h,i,j,f,hi,hj=>by
  cases i with
  | zero=>simp at hi
  | succ i=>
   cases j with
   | zero=>simp at hj
   | succ j=>
    simp at hi hj;rw [zp (l:=l) h i j f hi hj]
 | some g::l,h,i,j,f,hi,hj=>by
  simp only [jw,zn,aq,fg,lU] at h;have key:∀ {k:Nat},l[k]? = some (some g)->False:=by
   intro k hk;have:=h.1 g (yN.2 (gh hk));exact absurd (tM g) (by rw [this]; simp)
  cases i with
  | zero=>
   cases j with
   | zero=>rfl
   | succ j=>
    simp at hi hj; subst hi;exact (key hj).elim
  | succ i=>
   cases j with
   | zero=>
    simp at hi hj; subst hj;exact (key hi).elim
   | succ j=>
    simp at hi hj;rw [zp (l:=l) h.2 i j f hi hj]
theorem Nk:∀ {l:List FI} {i:Nat} {x:FI},l[i]? = some x->(Nh l)[i]? = some x.f
 | [],_,_,h=>by simp at h
 | y::l,0,x,h=>by simp at h; subst h; rfl
 | y::l,i+1,x,h=>by simp at h; simpa [Nh] using Nk h
theorem uD:∀ {l:List FI},(Nh l).length=l.length
 | []=>rfl
 | y::l=>by simp [Nh,uD]
theorem SR:∀ {l:List FI},Wq l=true->∀ x∈l,x.ok=true
 | [],_,x,h=>by simp at h
 | y::l,h,x,hx=>by
  simp only [Wq] at h;cases hl:Wq l with
  | false=>rw [hl] at h; simp at h
  | true=>
   rw [hl,aj] at h;rcases de.1 hx with rfl | hx
   ·exact h
   ·exact SR hl x hx
theorem fJ:∀ (l:List gT) (A:ae),(vG A l).next=A.next+l.length
 | [],_=>rfl
 | p::l,A=>by rw [vG,fJ l]; simp; omega
theorem C5:∀ {l:List gT} {A:ae} {x:Nat},x < A.next->(vG A l).get x=A.get x
 | [],_,_,_=>rfl
 | p::l,A,x,h=>by rw [vG,C5 (by simp; omega),ae.cq,aa (by omega)]
theorem Pw:∀ {l:List gT} {A:ae} {i:Nat} {p:gT},l[i]? = some p->(vG A l).get (A.next+i)=some p
 | [],_,_,_,h=>by simp at h
 | q::l,A,0,p,h=>by
  simp at h; subst h;rw [vG,ym,C5 (by simp),ae.cq,aE rfl]
 | q::l,A,i+1,p,h=>by
  simp at h;have:=Pw (A:=A.new q) h;rw [ae.bS] at this;rw [vG,show A.next+(i+1)=A.next+1+i by omega];exact this
theorem Uv:∀ {l:List gT} {A:ae} {x:Nat} {o:gT},(vG A l).get x=some o->(A.get x=some o/\x < A.next+l.length)\/(x < A.next/\A.get x=some o)\/(∃ i p,x=A.next+i/\l[i]? = some p/\o=p)\/A.get x=some o
 | [],_,_,_,h=>.inr (.inr (.inr h))
 | p::l,A,x,o,h=>by
  rw [vG] at h;have key:(A.new p).get x=some o->(∃ i q,x=A.next+i/\(p::l)[i]? = some q/\o=q)\/A.get x=some o:=by
   intro h;rw [ae.cq] at h;split at h
   ·rename_i e; simp at h; exact .inl ⟨0,p,by omega,rfl,h.symm⟩
   ·exact .inr h
  rcases Uv h with ⟨h,_⟩ | ⟨_,h⟩ | ⟨i,q,e,h1,h2⟩ | h
  ·exact .inr (.inr (key h))
  ·exact .inr (.inr (key h))
  ·exact .inr (.inr (.inl ⟨i+1,q,by rw [e]; simp; omega,by simpa using h1,h2⟩))
  ·exact .inr (.inr (key h))
theorem Uw {l:List gT} {A:ae} {x:Nat} {o:gT} (h:(vG A l).get x=some o):A.get x=some o\/∃ i p,x=A.next+i/\l[i]? = some p/\o=p:=by
 rcases Uv h with ⟨h,_⟩ | ⟨_,h⟩ | h | h
 ·exact .inl h
 ·exact .inl h
 ·exact .inr h
 ·exact .inl h
theorem JX:∀ (l:List (Option Nat)) (A:ae),(BT A l).next=A.next
 | [],_=>rfl
 | some f::l,A=>by rw [BT,JX l]; rfl
 | none::l,A=>by rw [BT,JX l]
theorem Ep:∀ {l:List (Option Nat)} {A:ae} {x:Nat},(BT A l).get x=if x∈jw l then some .dead else A.get x
 | [],A,x=>by simp [BT,jw]
 | none::l,A,x=>by rw [BT,Ep,jw]
 | some f::l,A,x=>by
  rw [BT,Ep,jw,ae.bA];by_cases h1:x∈jw l
  ·rw [aE h1,aE (rU _ h1)]
  ·rw [aa h1]
   by_cases h2:x=f
   ·rw [aE h2,aE (by simp [h2])]
   ·rw [aa h2,aa (by simp [h1,h2])]
theorem SS:∀ (bs:List Nat) (ps:List (Tmp×List CD×Nat)) (rs:List (List KV)) (A:ae),(pd A bs ps rs).next=A.next
 | [],_,_,_=>rfl
 | _::_,[],_,_=>rfl
 | _::_,_::_,[],_=>rfl
 | b::bs,p::ps,r::rs,A=>by rw [pd,SS bs ps rs]; rfl
theorem JY:∀ {bs:List Nat} {ps:List (Tmp×List CD×Nat)} {rs:List (List KV)} {A:ae} {x:Nat},x ∉ bs->(pd A bs ps rs).get x=A.get x
 | [],_,_,_,_,_=>rfl
 | _::_,[],_,_,_,_=>rfl
 | _::_,_::_,[],_,_,_=>rfl
 | b::bs,p::ps,r::rs,A,x,h=>by
  simp only [de,not_or] at h;rw [pd,JY h.2,ae.bA,aa h.1]
theorem af3:∀ {bs:List Nat} {ps:List (Tmp×List CD×Nat)} {rs:List (List KV)} {A:ae} {k b:Nat} {p:Tmp×List CD×Nat} {r:List KV},zn bs=true->bs[k]? = some b->ps[k]? = some p->rs[k]? = some r->(pd A bs ps rs).get b=some (.row r p.2.2)
 | [],_,_,_,_,_,_,_,_,h,_,_=>by simp at h
 | _::_,[],_,_,_,_,_,_,_,_,h,_=>by simp at h
 | _::_,_::_,[],_,_,_,_,_,_,_,_,h=>by simp at h
 | b::bs,p::ps,r::rs,A,k,x,p',r',hn,hb,hp,hr=>by
  have Lz:=hn;simp only [zn,aq] at hn;cases k with
  | zero=>
   simp at hb hp hr;subst hb hp hr;rw [pd,JY,ae.bA,aE rfl];intro hm;have:=fg.1 hn.1 b hm;simp at this
  | succ k=>
   simp only [Ms] at hb hp hr;rw [pd];exact af3 hn.2 hb hp hr
theorem ac3:∀ {ps:List (Tmp×List CD×Nat)} {rs:List (List KV)} {A:ae},rs.length=ps.length->(uc A ps rs).next=A.next+ps.length
 | [],[],_,_=>rfl
 | [],_::_,_,h=>by simp at h
 | _::_,[],_,h=>by simp at h
 | p::ps,r::rs,A,h=>by rw [uc,ac3 (by simpa using h)]; simp; omega
theorem af4:∀ {ps:List (Tmp×List CD×Nat)} {rs:List (List KV)} {A:ae} {x:Nat},x < A.next->(uc A ps rs).get x=A.get x
 | [],_,_,_,_=>rfl
 | _::_,[],_,_,_=>rfl
 | p::ps,r::rs,A,x,h=>by rw [uc,af4 (by simp; omega),ae.cq,aa (by omega)]
theorem ajz:∀ {ps:List (Tmp×List CD×Nat)} {rs:List (List KV)} {A:ae} {k:Nat} {p:Tmp×List CD×Nat} {r:List KV},ps[k]? = some p->rs[k]? = some r->(uc A ps rs).get (A.next+k)=some (.row r p.2.2)
 | [],_,_,_,_,_,h,_=>by simp at h
 | _::_,[],_,_,_,_,_,h=>by simp at h
 | p::ps,r::rs,A,k,p',r',hp,hr=>by
  cases k with
  | zero=>
   simp at hp hr; subst hp hr;rw [uc,ym,af4 (by simp),ae.cq,aE rfl]
  | succ k=>
   simp only [Ms] at hp hr;have:=ajz (A:=A.new (.row r p.2.2)) hp hr;rw [uc];simpa [Nat.add_comm,Nat.add_left_comm] using this
theorem af5:∀ {ps:List (Tmp×List CD×Nat)} {rs:List (List KV)} {A:ae} {x:Nat} {o:gT},(uc A ps rs).get x=some o->A.get x=some o\/∃ k p r,x=A.next+k/\ps[k]? = some p/\rs[k]? = some r/\o = .row r p.2.2
 | [],_,_,_,_,h=>.inl h
 | _::_,[],_,_,_,h=>.inl h
 | p::ps,r::rs,A,x,o,h=>by
  rw [uc] at h;rcases af5 h with h | ⟨k,p',r',rfl,h1,h2,h3⟩
  ·rw [ae.cq] at h
   by_cases e:x=A.next
   ·rw [aE e] at h; simp at h
    exact .inr ⟨0,p,r,by omega,rfl,rfl,h.symm⟩
   ·rw [aa e] at h; exact .inl h
  ·exact .inr ⟨k+1,p',r',by simp; omega,by simpa using h1,by simpa using h2,h3⟩
theorem ac4:∀ (n:Nat) (l:List Nat) (k:Nat),(upto n l)[k]? = if k < n then some k else l[k - n]?
 | 0,l,k=>by simp [upto]
 | n+1,l,k=>by
  rw [upto,ac4 n];by_cases h:k < n
  ·rw [aE h,aE (by omega)]
  ·rw [aa h]
   by_cases h2:k=n
   ·subst h2
    rw [aE (by omega)];simp
   ·rw [aa (by omega),show k - n=(k - (n+1))+1 by omega]
    simp
theorem IA (S:aJ) (k:Nat) (h:k < S.rows.length):S.ids[k]? = some k:=by rw [aJ.ids,ac4,aE h]
theorem JZ:∀ {a b:List Nat},vH a b=true->a=b
 | [],[],_=>rfl
 | [],_::_,h=>by simp [vH] at h
 | _::_,[],h=>by simp [vH] at h
 | x::a,y::b,h=>by
  simp only [vH,aq] at h;rw [aK h.1,JZ h.2]
theorem J0 {t:bd} {A:ae} {p:Tmp×List CD×Nat} (h:(rowOf t A p).isSome=true):∃ b cs,A.get b=some (.row cs p.2.2)/\cs.length=p.2.1.length/\ajv t A p=b/\Ix t A p=cs:=by
 unfold rowOf at h;split at h
 ·rename_i b hb
  split at h
  ·rename_i cs e hr
   cases hc:(Nat.beq e p.2.2&&Nat.beq cs.length p.2.1.length) with
   | false=>rw [hc] at h; simp at h
   | true=>
    have hro:rowOf t A p=some (b,cs):=by simp only [rowOf,hb,hr,hc,aj]
    simp only [aq] at hc;have he:=aK hc.1;subst he;exact ⟨b,cs,hr,aK hc.2,by simp [ajv,hro],by simp [Ix,hro]⟩
  ·simp at h
 ·simp at h
structure dq (P:Program) (S:aJ) (t:bd) (A:ae) (g:GR):Prop where
 rows:Bl P t A S.rows=true
 nodup:zn g.bs=true
 Ur:QB t g.bs S.Ur=true
 dC:eO S.dC g.vs=true
 Za:zn (jw g.fs)=true
 ama:KW S.rows.length g.bs t S.dC=true
 aoj:Wr S.rows.length g.bs t A S.rows=true
 xh:Wq (S.QZ P t A)=true
 bs:g.bs=BR t A S.rows
 fs:g.fs=Nh (S.QZ P t A)
 vs:g.vs=od P t A S.dC
 rs:g.rs=KT P t A S.rows
theorem Fx {S:aJ} {t:bd} {A:ae} (h:(S.dp P t A).ok=true):dq P S t A (S.dp P t A):=by
 unfold aJ.dp at h ⊢;simp only at h ⊢;cases hc:(Bl P t A S.rows&&zn (BR t A S.rows)&&QB t (BR t A S.rows) S.Ur&&eO S.dC (od P t A S.dC)&&zn (jw (Nh (S.QZ P t A)))&&KW S.rows.length (BR t A S.rows) t S.dC&&Wr S.rows.length (BR t A S.rows) t A S.rows) with
 | false=>rw [hc] at h; simp at h
 | true=>
  rw [hc,aj] at h;simp only [aq] at hc;exact ⟨hc.1.1.1.1.1.1,hc.1.1.1.1.1.2,hc.1.1.1.1.2,hc.1.1.1.2,hc.1.1.2,hc.1.2,hc.2,h,rfl,rfl,rfl,rfl⟩
theorem aaP {t:bd} {A:ae} : ∀ {ps:List (Tmp×List CD×Nat)} {k:Nat} {p:Tmp×List CD×Nat},ps[k]? = some p->(BR t A ps)[k]? = some (ajv t A p)
 | [],_,_,h=>by simp at h
 | p::ps,0,q,h=>by simp at h; subst h; rfl
 | p::ps,k+1,q,h=>by simp at h; simpa [BR] using aaP h
theorem E7 {t:bd} {A:ae} : ∀ {ps:List (Tmp×List CD×Nat)},(BR t A ps).length=ps.length
 | []=>rfl
 | p::ps=>by simp [BR,E7]
theorem RD {t:bd} {A:ae} : ∀ {ps:List (Tmp×List CD×Nat)},(KT P t A ps).length=ps.length
 | []=>rfl
 | p::ps=>by simp [KT,RD]
theorem XU {t:bd} {A:ae} : ∀ {ps:List (Tmp×List CD×Nat)},Bl P t A ps=true->∀ {k:Nat} {p:Tmp×List CD×Nat},ps[k]? = some p->(rowOf t A p).isSome=true/\dh p.2.1 (eN P A p.2.1 (Ix t A p))=true
 | [],_,k,p,h=>by simp at h
 | q::ps,h,k,p,hp=>by
  simp only [Bl,aq] at h;cases k with
  | zero=>simp at hp; subst hp; exact ⟨h.1,h.2.1⟩
  | succ k=>simp at hp; exact XU h.2.2 hp
theorem Ux:∀ {ps:List (Tmp×List CD×Nat)} {rs:List (List KV)},rs.length=ps.length->∀ (j:Nat) (bs:List Nat),(XT j bs ps rs).length=ps.length
 | [],[],_,_,_=>rfl
 | [],_::_,h,_,_=>by simp at h
 | _::_,[],h,_,_=>by simp at h
 | p::ps,r::rs,h,j,bs=>by simp [XT,Ux (by simpa using h)]
def Cn (j:Nat):List (Tmp×List CD×Nat)->Nat->Nat
 | [],_=>j
 | _::_,0=>j
 | p::ps,k+1=>Cn (j+ub p.2.1) ps k
theorem QE {bs:List Nat} : ∀ {ps:List (Tmp×List CD×Nat)} {rs:List (List KV)} {j k:Nat} {p:Tmp×List CD×Nat} {r:List KV},ps[k]? = some p->rs[k]? = some r->(XT j bs ps rs)[k]? = some (sq (Cn j ps k) bs p.2.1 r)
 | [],_,_,_,_,_,h,_=>by simp at h
 | _::_,[],_,_,_,_,_,h=>by simp at h
 | p::ps,r::rs,j,0,p',r',h1,h2=>by simp at h1 h2; subst h1 h2; rfl
 | p::ps,r::rs,j,k+1,p',r',h1,h2=>by
  simp at h1 h2;simp only [XT,Ms];exact QE h1 h2
theorem aaQ {E0:Env} {t:bd} {A:ae} : ∀ {ps:List (Tmp×List CD×Nat)} {j:Nat},Bl P t A ps=true->pe E E0 (Iy P t A ps) j->∀ {k:Nat} {p:Tmp×List CD×Nat},ps[k]? = some p->pe E E0 (lD P A p.2.1 (Ix t A p)) (Cn j ps k)
 | [],_,_,_,_,_,h=>by simp at h
 | q::ps,j,hr,hf,k,p,hp=>by
  simp only [Bl,aq] at hr;obtain ⟨b,cs,_,hl,_,hC⟩:=J0 hr.1;cases k with
  | zero=>simp at hp; subst hp; exact hf.left
  | succ k=>
   simp at hp;have:=hf.right;rw [jN (by rw [hC]; exact hl)] at this;exact aaQ hr.2.2 this hp
theorem E8 {t:bd} {A:ae} : ∀ {ps:List (Tmp×VD)},eO ps (od P t A ps)=true->(En P t A ps).length=oe ps
 | [],_=>rfl
 | p::ps,h=>by
  simp only [od,eO,aq] at h;simp only [En,oe,kv];rw [jN (Fw h.1),E8 h.2]
def LX (P:Program) (A:ae) (x:FI) (q:gT):Prop:=
 (∃ n sz,q = .aP n sz/\((x.f=none/\n=0)\/∃ f,x.f=some f/\A.get f=some (.aP n sz)))\/
 ∃ t v,q = .arr v/\((x.f=none/\1<=aU P t/\v=K.cg P dB (.ts t .any 0 [] qG))\/∃ f m N es acc,x.f=some f/\A.get f=some (.arr (.ts t m N es acc))/\v=K.cg P dB (.ts t .any N es acc))
theorem amb {A:ae} {t:TypeId} {v:KV} (cL:(KU P A t v).ok=true) (hg:jk (.arr t) (eM P A (.arr t) v)=true):LX P A (KU P A t v) (.arr (eM P A (.arr t) v)):=by
 rcases Ws hg with rfl | ⟨b,n,m,N,es,acc,rfl,hb,he⟩
 ·exact .inr ⟨t,_,rfl,.inl ⟨rfl,dX cL,rfl⟩⟩
 ·refine .inr ⟨t,_,rfl,.inr ⟨b,m,N,es,acc,?_,hb,he⟩⟩
  simp only [KU,hb]
theorem amc {A:ae} {t:TypeId} {v:KV} (cL:(wK P A t v).ok=true) (hg:jk (.aP t) (eM P A (.aP t) v)=true):LX P A (wK P A t v) (.aP (lenOf (eM P A (.aP t) v)) (szL P t)):=by
 refine .inl ⟨_,_,rfl,?_⟩;cases v with
 | kl=>exact .inl ⟨rfl,rfl⟩
 | ts t' m n es acc=>
  cases m with
  | aP f=>
   have e1:eM P A (.aP t) (.ts t' (.aP f) n es acc)=cond (Nat.beq t t') (K.cg P dB (.ts t .any n es acc)) .bf:=rfl;rw [e1] at hg ⊢;cases hb:Nat.beq t t' with
   | false=>rw [hb] at hg; simp [jk,kindOk] at hg
   | true=>
    rw [aj];refine .inr ⟨f,?_,?_⟩
    ·revert cL
     unfold wK;simp only;split
     ·intro _; rfl
     ·intro cL; simp at cL
    ·revert cL
     unfold wK;simp only;split
     ·rename_i top sz he
      intro cL;simp only at cL;cases hs:Nat.beq sz (szL P t) with
      | false=>rw [hs] at cL; simp at cL
      | true=>
       rw [hs,aj] at cL;have h1:=aK hs;have h2:=aK (show Nat.beq top n=true from cL);subst h1 h2;exact he
     ·intro cL; simp at cL
  | any=>simp [wK] at cL
  | exact=>simp [wK] at cL
 | _=>simp [wK] at cL
theorem yO {A:ae} : ∀ {ds:List CD} {vs:List KV} {i:Nat} {x:FI},vs.length=ds.length->dh ds (eN P A ds vs)=true->(lD P A ds vs)[i]? = some x->x.ok=true->∃ q,(oX P ds (eN P A ds vs))[i]? = some q/\LX P A x q
 | [],[],_,_,_,_,h,_=>by simp [lD] at h
 | [],_::_,_,_,e,_,_,_=>by simp at e
 | _::_,[],_,_,e,_,_,_=>by simp at e
 | .k c::ds,v::vs,i,x,e,hg,h,cL=>by
  simp only [eN,dh,aq] at hg;have h' : (lD P A ds vs)[i]? = some x:=h;exact yO (ds:=ds) (vs:=vs) (by simpa using e) hg.2 h' cL
 | .lit c::ds,v::vs,i,x,e,hg,h,cL=>by
  simp only [eN,dh,aq] at hg;have h' : (lD P A ds vs)[i]? = some x:=h;exact yO (ds:=ds) (vs:=vs) (by simpa using e) hg.2 h' cL
 | .ref c::ds,v::vs,i,x,e,hg,h,cL=>by
  simp only [eN,dh,aq] at hg;have h' : (lD P A ds vs)[i]? = some x:=h;exact yO (ds:=ds) (vs:=vs) (by simpa using e) hg.2 h' cL
 | .aP t::ds,v::vs,i,x,e,hg,h,cL=>by
  simp only [eN,dh,aq] at hg;cases i with
  | zero=>
   simp [lD] at h;subst h;exact ⟨_,rfl,amc cL hg.1⟩
  | succ i=>
   simp [lD] at h;obtain ⟨q,h1,h2⟩:=yO (by simpa using e) hg.2 h cL;exact ⟨q,by simpa [oX,eN] using h1,h2⟩
 | .arr t::ds,v::vs,i,x,e,hg,h,cL=>by
  simp only [eN,dh,aq] at hg;cases i with
  | zero=>
   simp [lD] at h;subst h;exact ⟨_,rfl,amb cL hg.1⟩
  | succ i=>
   simp [lD] at h;obtain ⟨q,h1,h2⟩:=yO (by simpa using e) hg.2 h cL;exact ⟨q,by simpa [oX,eN] using h1,h2⟩
theorem oH:∀ {ds:List CD} {vs:List KV},vs.length=ds.length->(oX P ds vs).length=ub ds
 | [],[],_=>rfl
 | [],_::_,e=>by simp at e
 | _::_,[],e=>by simp at e
 | .k c::ds,v::vs,e=>by simp only [oX,ub]; exact oH (by simpa using e)
 | .lit w::ds,v::vs,e=>by simp only [oX,ub]; exact oH (by simpa using e)
 | .ref w::ds,v::vs,e=>by simp only [oX,ub]; exact oH (by simpa using e)
 | .aP t::ds,v::vs,e=>by simp only [oX,ub,qN]; rw [oH (by simpa using e)]
 | .arr t::ds,v::vs,e=>by simp only [oX,ub,qN]; rw [oH (by simpa using e)]
theorem C6:∀ {ds:List CD} {vs:List KV},dh ds vs=true->vs.length=ds.length
 | [],[],_=>rfl
 | [],_::_,h=>by simp [dh] at h
 | _::_,[],h=>by simp [dh] at h
 | d::ds,v::vs,h=>by
  simp only [dh,aq] at h;simp [C6 h.2]
theorem Px {d:VD} {v:KV} (h:zl d v=true):v.cells.length=d.ks.length:=by
 rcases AO h with ⟨cs,rfl,_,h1⟩ | ⟨h0,_,c,h1,_⟩
 ·exact C6 h1
 ·have:v.cells = [v]:=by cases v <;> first | rfl | exact absurd rfl (h0 _)
  rw [this,h1]; rfl
theorem E9:∀ {ps:List (Tmp×VD)} {vs:List KV},eO ps vs=true->(C4 P ps vs).length=oe ps
 | [],[],_=>rfl
 | [],_::_,h=>by simp [eO] at h
 | _::_,[],h=>by simp [eO] at h
 | p::ps,v::vs,h=>by
  simp only [eO,aq] at h;simp only [C4,oe,kv];rw [oH (Px h.1),E9 h.2]
theorem XV {t:bd} {A:ae} : ∀ {ps:List (Tmp×VD)} {i:Nat} {x:FI},eO ps (od P t A ps)=true->(En P t A ps)[i]? = some x->x.ok=true->∃ p,(C4 P ps (od P t A ps))[i]? = some p/\LX P A x p
 | [],_,_,_,h,_=>by simp [En] at h
 | p::ps,i,x,hg,h,cL=>by
  simp only [od,eO,aq] at hg;simp only [En] at h;have hl:=Fw hg.1;by_cases hi:i < (lD P A p.2.ks (valOf t p.1).cells).length
  ·rw [qM hi] at h
   have hg' : dh p.2.ks (eN P A p.2.ks (valOf t p.1).cells)=true/\(yr P A p.2 (valOf t p.1)).cells=eN P A p.2.ks (valOf t p.1).cells:=by
    rcases AP hg.1 with ⟨cs,e,_,h2,h3⟩ | ⟨_,c,h1,h2,h3,h4,h5⟩
    ·rw [e] at h2 ⊢; exact ⟨h3,by rw [h2]; rfl⟩
    ·rw [h4,h1]
     refine ⟨by simp [eN,dh,h3],?_⟩;rw [h2];show (eM P A c (valOf t p.1)).cells = [eM P A c (valOf t p.1)];generalize eM P A c (valOf t p.1)=w at h5 ⊢;cases w <;> first | rfl | exact absurd rfl (h5 _)
   obtain ⟨q,h2,h3⟩:=yO hl hg'.1 h cL;refine ⟨q,?_,h3⟩;simp only [od,C4];rw [hg'.2,qM (cG.1 h2).1];exact h2
  ·rw [tL (by omega)] at h
   obtain ⟨q,h1,h2⟩:=XV hg.2 h cL;refine ⟨q,?_,h2⟩;simp only [od,C4];have e1:(oX P p.2.ks (yr P A p.2 (valOf t p.1)).cells).length=(lD P A p.2.ks (valOf t p.1).cells).length:=by rw [oH (Px hg.1),jN hl]
   rw [tL (by omega),e1];exact h1
theorem XW {t:bd} {A:ae} : ∀ {ps:List (Tmp×List CD×Nat)} {i:Nat} {x:FI},Bl P t A ps=true->(Iy P t A ps)[i]? = some x->x.ok=true->∃ p,(Eo P ps (KT P t A ps))[i]? = some p/\LX P A x p
 | [],_,_,_,h,_=>by simp [Iy] at h
 | p::ps,i,x,hg,h,cL=>by
  simp only [Bl,aq] at hg;simp only [Iy] at h;obtain ⟨b,cs,_,hl,_,hC⟩:=J0 hg.1;rw [<- hC] at hl;by_cases hi:i < (lD P A p.2.1 (Ix t A p)).length
  ·rw [qM hi] at h
   obtain ⟨q,h2,h3⟩:=yO hl hg.2.1 h cL;refine ⟨q,?_,h3⟩;simp only [KT,Eo];rw [qM (cG.1 h2).1];exact h2
  ·rw [tL (by omega)] at h
   obtain ⟨q,h1,h2⟩:=XW hg.2.2 h cL;refine ⟨q,?_,h2⟩;simp only [KT,Eo];have e1:(oX P p.2.1 (eN P A p.2.1 (Ix t A p))).length=(lD P A p.2.1 (Ix t A p)).length:=by rw [oH (C6 hg.2.1),jN hl]
   rw [tL (by omega),e1];exact h1
theorem KX:∀ {ps:List (Tmp×List CD×Nat)} {rs:List (List KV)},rs.length=ps.length->(∀ (k:Nat) p r,ps[k]? = some p->rs[k]? = some r->dh p.2.1 r=true)->∀ {l:Nat},l=(ps.map fun p=>ub p.2.1).sum->(Eo P ps rs).length=l
 | [],[],_,_,l,hl=>by subst hl; rfl
 | [],_::_,h,_,_,_=>by simp at h
 | _::_,[],h,_,_,_=>by simp at h
 | p::ps,r::rs,h,hk,l,hl=>by
  simp only [Eo,kv];rw [oH (C6 (hk 0 p r rfl rfl)),KX (by simpa using h) (fun k p r h1 h2=>hk (k+1) p r (by simpa using h1) (by simpa using h2)) rfl,hl];simp
theorem RE {t:bd} {A:ae} : ∀ {ps:List (Tmp×List CD×Nat)},Bl P t A ps=true->(Iy P t A ps).length=(ps.map fun p=>ub p.2.1).sum
 | [],_=>rfl
 | p::ps,h=>by
  simp only [Bl,aq] at h;obtain ⟨b,cs,_,hl,_,hC⟩:=J0 h.1;simp only [Iy,kv,List.map_cons,List.sum_cons];rw [jN (by rw [hC]; exact hl),RE h.2.2]
end Go.K
end
section
namespace Go.K
open Go Go.aG
variable {P:Program} {E:Env}
noncomputable def Env.sub (E:Env) (A:ae) (bs:List Nat) (fs:List (Option Nat)) (nr:Nat):Env:=
 { κ:=fun i=>(bs[i]?).bind E.κ,z:=E.z,φ:=fun i=>if nr<=i then (fs[i - nr]?).bind (fun f=>f.bind fun x=>cond (BS (A.get x)) (E.φ x) none) else none,α:=fun i=>if nr<=i then (fs[i - nr]?).bind (fun f=>f.bind E.α) else none }
theorem QF {E:Env} {A:ae} {x q:Nat} (e:cond (BS (A.get x)) (E.φ x) none=some q):E.φ x=some q/\BS (A.get x)=true:=by
 cases h:BS (A.get x) with
 | true=>rw [h] at e; exact ⟨e,rfl⟩
 | false=>rw [h] at e; simp at e
theorem af6 {A:ae} {x:Nat} (h:BS (A.get x)=true):∃ n sz,A.get x=some (.aP n sz):=by
 unfold BS at h;split at h
 ·rename_i n sz e; exact ⟨n,sz,e⟩
 ·simp at h
theorem Env.aaR {A:ae} {bs:List Nat} {fs:List (Option Nat)} {nr i:Nat} : (E.sub A bs fs nr).φ (nr+i)=(fs[i]?).bind (fun f=>f.bind fun x=>cond (BS (A.get x)) (E.φ x) none):=by
 simp only [Env.sub];rw [aE (by omega),show nr+i - nr=i by omega]
theorem Env.IB {A:ae} {bs:List Nat} {fs:List (Option Nat)} {nr i:Nat} : (E.sub A bs fs nr).α (nr+i)=(fs[i]?).bind (fun f=>f.bind E.α):=by
 simp only [Env.sub];rw [aE (by omega),show nr+i - nr=i by omega]
theorem Nl:∀ {l:List (Nat×KV)} {i:Nat} {v:KV},(iD l).get i=some v->(i,v)∈l
 | [],i,v,h=>by simp [iD] at h
 | p::ps,i,v,h=>by
  rw [iD,Trie.oO] at h;split at h
  ·rename_i e
   simp at h; subst h e;simp
  ·exact rU _ (Nl h)
theorem iR.iD {ρ:Ren} {l:List (Nat×KV)} {N:Nat} {a:Act} (hs:a.tmps.size=N) (h:∀ q∈l,q.1 < N/\VC P E ρ q.2 (a.tmps.getD q.1 undef)):iR P E ρ (K.iD l) N a:=by
 refine ⟨hs,fun i=>?_,fun i hi=>?_⟩
 ·cases hg:(K.iD l).get i with
  | none=>exact .bf
  | some v=>exact (h _ (Nl hg)).2
 ·cases hg:(K.iD l).get i with
  | none=>rfl
  | some v=>have:=(h _ (Nl hg)).1; exact absurd hi (Nat.not_le_of_lt this)
theorem Er {A:ae} {x:Nat} : ∀ {ds:List CD} {vs:List KV} {fi:FI},fi∈lD P A ds vs->fi.fm=true->fi.f=some x->BS (A.get x)=true
 | [],_,_,h,_,_=>by simp [lD] at h
 | d::ds,[],_,h,_,_=>by cases d <;> simp [lD] at h
 | d::ds,v::vs,fi,h,hm,hx=>by
  cases d <;> simp only [lD,de] at h
  ·exact Er h hm hx
  ·exact Er h hm hx
  ·rcases h with rfl | h
   ·exact akD hx
   ·exact Er h hm hx
  ·rcases h with rfl | h
   ·rw [akC] at hm; simp at hm
   ·exact Er h hm hx
  ·exact Er h hm hx
theorem aJ.ans (S:aJ) {t:bd} {A:ae} {x:Nat} {fi:FI} (h:fi∈S.QZ P t A) (hm:fi.fm=true) (hx:fi.f=some x):BS (A.get x)=true:=by
 have one:∀ {ps:List (Tmp×VD)},fi∈En P t A ps->BS (A.get x)=true:=by
  intro ps
  induction ps with
  | nil=>intro h; simp [En] at h
  | cons p ps ih=>
   intro h;simp only [En,jF] at h;exact h.elim (fun h=>Er h hm hx) ih
 have two:∀ {ps:List (Tmp×List CD×Nat)},fi∈Iy P t A ps->BS (A.get x)=true:=by
  intro ps
  induction ps with
  | nil=>intro h; simp [Iy] at h
  | cons p ps ih=>
   intro h;simp only [Iy,jF] at h;exact h.elim (fun h=>Er h hm hx) ih
 simp only [aJ.QZ,jF] at h;exact h.elim one two
theorem dq.hyp {S:aJ} {t:bd} {A:ae} {g:GR} (h:dq P S t A g):pe E (E.sub A g.bs g.fs S.nr) (S.QZ P t A) S.nr:=fun i fi hi=>by
 refine ⟨SR h.xh fi (gh hi),fun hm x q hx hq=>?_,fun x q hx hq=>?_⟩
 ·rw [Env.aaR,h.fs,Nk hi,dN,hx,dN,S.ans (gh hi) hm hx]
  exact hq
 ·rw [Env.IB,h.fs,Nk hi,dN,hx,dN]
  exact hq
theorem af7 {E0:Env} {t:bd} {A:ae} {ρ:Ren} {N nr:Nat} {bs Hk:List Nat} {a:Act} (hz:E0.z=E.z) (hk:Rk E E0 nr bs Hk) (ht:iR P E ρ t N a):∀ {ps:List (Tmp×VD)} {j:Nat},eO ps (od P t A ps)=true->pe E E0 (En P t A ps) j->KW nr bs t ps=true->∀ q∈NV j Hk ps (od P t A ps),q.1 < N/\VC P E0 ρ q.2 (a.tmps.getD q.1 undef)
 | [],_,_,_,_,q,hq=>by simp [NV] at hq
 | p::ps,j,hg,hf,hr,q,hq=>by
  simp only [KW,aq] at hr;simp only [od,eO,aq] at hg;simp only [od,NV,de] at hq;rcases hq with rfl | hq
  ·refine ⟨?_,?_⟩
   ·obtain ⟨v,hv⟩:=VK.Wa hg.1 hr.1
    by_cases hN:N<=p.1
    ·rw [ht.none _ hN] at hv; simp at hv
    ·exact Nat.lt_of_not_le hN
   ·obtain ⟨u,h1,h2⟩:=ht.val p.1
    exact ⟨u,h1.aoi hz hk hg.1 hf.left hr.1,h2⟩
  ·have h2:=hf.right
   rw [jN (Fw hg.1)] at h2;exact af7 hz hk ht hg.2 h2 hr.2 q hq
theorem KY {bs:List Nat} : ∀ {ps:List (Tmp×Nat×Nat)} {q:Nat×KV},q∈zo bs ps->∃ p∈ps,F9 p=true/\q=(p.1,.ptr (bs.getD p.2.1 0) p.2.2)
 | [],_,h=>by simp [zo] at h
 | p::ps,q,h=>by
  unfold zo at h;cases hp:F9 p with
  | true=>
   rw [hp,aj] at h;rcases de.1 h with rfl | h
   ·exact ⟨p,by simp,hp,rfl⟩
   ·obtain ⟨p',h1,h2⟩:=KY h
    exact ⟨p',rU _ h1,h2⟩
  | false=>
   rw [hp,aI] at h;obtain ⟨p',h1,h2⟩:=KY h;exact ⟨p',rU _ h1,h2⟩
theorem SU {l:List (Nat×KV)} : ∀ {ps:List (Tmp×Nat×Nat)} {q:Nat×KV},q∈Nj l ps->∃ p∈ps,F9 p=false/\q=(p.1,SP l (p.2.1 - 1000000))
 | [],_,h=>by simp [Nj] at h
 | p::ps,q,h=>by
  unfold Nj at h;cases hp:F9 p with
  | false=>
   rw [hp,aI] at h;rcases de.1 h with rfl | h
   ·exact ⟨p,by simp,hp,rfl⟩
   ·obtain ⟨p',h1,h2⟩:=SU h
    exact ⟨p',rU _ h1,h2⟩
  | true=>
   rw [hp,aj] at h;obtain ⟨p',h1,h2⟩:=SU h;exact ⟨p',rU _ h1,h2⟩
theorem ah0 {v w:Option KV} (h:aeq v w=true):v=w/\v.isSome=true:=by
 unfold aeq at h;split at h
 ·simp only [aq] at h
  obtain ⟨⟨⟨h1,h2⟩,h3⟩,h4⟩:=h;rw [aK h1,aK h2,aK h3,aK h4];exact ⟨rfl,rfl⟩
 ·simp at h
theorem J1 {t:bd} {bs:List Nat} : ∀ {ps:List (Tmp×Nat×Nat)},QB t bs ps=true->∀ q∈ps,(F9 q=true->∃ b,t.get q.1=some (.ptr b q.2.2)/\bs[q.2.1]? = some b)/\(F9 q=false->t.get q.1=t.get (q.2.1 - 1000000)/\(t.get q.1).isSome=true)
 | [],_,q,hq=>by simp at hq
 | p::ps,h,q,hq=>by
  simp only [QB,aq] at h;rcases de.1 hq with rfl | hq
  ·refine ⟨fun hp=>?_,fun hp=>?_⟩
   ·have h1:=h.1
    rw [hp,aj] at h1;unfold al6 at h1;split at h1
    ·rename_i b o b' e1 e2
     simp only [aq] at h1;have:=aK h1.1;have:=aK h1.2
     subst_vars
     exact ⟨_,e1,e2⟩
    ·simp at h1
   ·have h1:=h.1
    rw [hp,aI] at h1;exact ah0 h1
  ·exact J1 h.2 q hq
theorem dq.rk {S:aJ} {t:bd} {A:ae} {g:GR} (h:dq P S t A g):Rk E (E.sub A g.bs g.fs S.nr) S.rows.length g.bs S.ids:=fun j x hj e=>by
 have bj:j < g.bs.length:=by rw [h.bs,E7]; exact hj
 rw [fC,cI bj] at e;rw [fC,IA S j hj];simp only [Env.sub,eU,cI bj,dN];exact e
theorem Uy:∀ {l:List (Nat×KV)} {i:Nat} {v:KV},(iD l).get i=some v->(i,v)∈l
 | [],_,_,h=>by simp [iD] at h
 | x::l,i,v,h=>by
  rw [iD,Trie.oO] at h;split at h
  ·rename_i e
   simp only [bM] at h;subst h; subst e;exact Qj ..
  ·exact rU _ (Uy h)
theorem ac5 {E E0:Env} {A:ae} {t:bd} (hz:E0.z=E.z) {nr:Nat} {bs Hk:List Nat} (hk:Rk E E0 nr bs Hk):∀ {ps:List (Tmp×VD)} {j:Nat},eO ps (od P t A ps)=true->pe E E0 (En P t A ps) j->KW nr bs t ps=true->∀ q∈NV j Hk ps (od P t A ps),∀ u,VK P E (valOf t q.1) u->VK P E0 q.2 u
 | [],_,_,_,_,q,hq,_,_=>by simp [NV] at hq
 | p::ps,j,hg,hf,hr,q,hq,u,hu=>by
  simp only [od,eO,aq] at hg;simp only [KW,aq] at hr;simp only [od,NV,de] at hq;rcases hq with rfl | hq
  ·exact hu.aoi hz hk hg.1 hf.left hr.1
  ·have h2:=hf.right
   rw [jN (Fw hg.1)] at h2;exact ac5 hz hk hg.2 h2 hr.2 q hq u hu
theorem dq.tkr {S:aJ} {t:bd} {A:ae} {g:GR} {ρ:Ren} {N:Nat} {a:Act} (h:dq P S t A g) (ht:iR P E ρ t N a):iR P (E.sub A g.bs g.fs S.nr) ρ (S.tm S.nr S.ids g.vs) N a:=by
 refine iR.iD ht.size fun q hq=>?_;have hh:pe E (E.sub A g.bs g.fs S.nr) (S.QZ P t A) S.nr:=h.hyp;rcases jF.1 hq with hq | hq
 ·rw [h.vs] at hq
  exact af7 (E:=E) (E0:=E.sub A g.bs g.fs S.nr) (A:=A) rfl h.rk ht (h.vs ▸ h.dC) hh.left h.ama q hq
 rcases jF.1 hq with hq | hq
 ·obtain ⟨p,hp,hip,rfl⟩:=KY hq
  obtain ⟨b,h1,h2⟩:=(J1 h.Ur p hp).1 hip;refine ⟨?_,?_⟩
  ·by_cases hN:N<=p.1
   ·rw [ht.none _ hN] at h1; simp at h1
   ·exact Nat.lt_of_not_le hN
  ·have hk:p.2.1 < S.rows.length:=by
    have:=(cG.1 h2).1;rw [h.bs,E7] at this; exact this
   have hv:=ht.val p.1;rw [h1] at hv;obtain ⟨u,h3,h4⟩:=hv;refine ⟨u,?_,h4⟩;obtain ⟨x,h5,rfl⟩:=(show VK P E (.ptr b p.2.2) u from h3).hD;have:S.ids.getD p.2.1 0=p.2.1:=by rw [fC,IA S _ hk]; rfl
   rw [this];exact .BM (by simp [Env.sub,h2,h5])
 ·obtain ⟨p,hp,hip,rfl⟩:=SU hq
  obtain ⟨h1,h2⟩:=(J1 h.Ur p hp).2 hip;refine ⟨?_,?_⟩
  ·by_cases hN:N<=p.1
   ·rw [ht.none _ hN] at h2; simp at h2
   ·exact Nat.lt_of_not_le hN
  ·obtain ⟨u,h3,h4⟩:=ht.val p.1
   rw [h1] at h3;have h3:VK P E (valOf t (p.2.1 - 1000000)) u:=h3;show ∃ u,VK P _ (SP _ (p.2.1 - 1000000)) u/\_;unfold SP;cases hl:(iD (NV S.nr S.ids S.dC g.vs)).get (p.2.1 - 1000000) with
   | none=>exact VC.bf
   | some v=>
    refine ⟨u,?_,h4⟩;have hm:=Uy hl;rw [h.vs] at hm;exact ac5 (E:=E) (E0:=E.sub A g.bs g.fs S.nr) (A:=A) rfl h.rk (h.vs ▸ h.dC) hh.left h.ama _ hm u h3
theorem dq.row {S:aJ} {t:bd} {A:ae} {g:GR} (h:dq P S t A g) {k:Nat} {p:Tmp×List CD×Nat} (hp:S.rows[k]? = some p):∃ b cs,g.bs[k]? = some b/\A.get b=some (.row cs p.2.2)/\cs.length=p.2.1.length/\Ix t A p=cs/\g.rs[k]? = some (eN P A p.2.1 cs)/\dh p.2.1 (eN P A p.2.1 cs)=true:=by
 obtain ⟨h1,h2⟩:=XU h.rows hp;obtain ⟨b,cs,h4,h5,h6,h7⟩:=J0 h1;refine ⟨b,cs,by rw [h.bs,aaP hp,h6],h4,h5,h7,?_,by rw [<- h7]; exact h2⟩;have:∀ {ps:List (Tmp×List CD×Nat)} {k:Nat},ps[k]? = some p->(KT P t A ps)[k]? = some (eN P A p.2.1 (Ix t A p)):=by
  intro ps
  induction ps with
  | nil=>intro k h; simp at h
  | cons q ps ih=>
   intro k h;cases k with
   | zero=>simp at h; subst h; rfl
   | succ k=>simp at h; simpa [KT] using ih h
 rw [h.rs,this hp,h7]
theorem dq.rL {S:aJ} {t:bd} {A:ae} {g:GR} (h:dq P S t A g):g.rs.length=S.rows.length:=by rw [h.rs,RD]
theorem dq.XX {S:aJ} {t:bd} {A:ae} {g:GR} (h:dq P S t A g):g.bs.length=S.rows.length:=by rw [h.bs,E7]
theorem dq.uT {S:aJ} {t:bd} {A:ae} {g:GR} (h:dq P S t A g):∀ (k:Nat) p r,S.rows[k]? = some p->g.rs[k]? = some r->dh p.2.1 r=true:=fun k p r hp hr=>by
 obtain ⟨b,cs,_,_,_,_,h1,h2⟩:=h.row hp;rw [hr] at h1; simp at h1; subst h1; exact h2
theorem dq.lens {S:aJ} {t:bd} {A:ae} {g:GR} (h:dq P S t A g):(S.lens P g.vs g.rs).length=(S.QZ P t A).length:=by
 simp only [aJ.lens,aJ.QZ,kv];rw [E9 h.dC,KX h.rL h.uT rfl,RE h.rows,E8 (h.vs ▸ h.dC)]
theorem dq.fact {S:aJ} {t:bd} {A:ae} {g:GR} (h:dq P S t A g) {i:Nat} {q:gT} (hq:(S.lens P g.vs g.rs)[i]? = some q):∃ fi,(S.QZ P t A)[i]? = some fi/\g.fs[i]? = some fi.f/\LX P A fi q:=by
 have bj:i < (S.QZ P t A).length:=by rw [<- h.lens]; exact (cG.1 hq).1
 have hfi:=cI bj;have cL:=SR h.xh _ (Qk bj);refine ⟨_,hfi,by rw [h.fs]; exact Nk hfi,?_⟩;have hv:(En P t A S.dC).length=oe S.dC:=E8 (h.vs ▸ h.dC);have hlv:(C4 P S.dC g.vs).length=oe S.dC:=E9 h.dC;simp only [aJ.lens] at hq;have af8:=hfi;simp only [aJ.QZ] at af8;by_cases hi:i < oe S.dC
 ·rw [qM (by omega)] at hq af8
  obtain ⟨p,h1,h2⟩:=XV (h.vs ▸ h.dC) af8 cL;rw [h.vs,h1] at hq;simp at hq; subst hq; exact h2
 ·rw [tL (by omega)] at hq af8
  obtain ⟨p,h1,h2⟩:=XW h.rows af8 cL;rw [h.rs,hlv,<- hv,h1] at hq;simp at hq; subst hq; exact h2
theorem SV {t:bd} {A:ae} {nr:Nat} {bs:List Nat} : ∀ {ps:List (Tmp×List CD×Nat)},Wr nr bs t A ps=true->∀ {k:Nat} {p:Tmp×List CD×Nat},ps[k]? = some p->Ga nr bs p.2.1 (Ix t A p)=true
 | [],_,k,p,h=>by simp at h
 | q::ps,h,k,p,hp=>by
  simp only [Wr,aq] at h;cases k with
  | zero=>simp at hp; subst hp; exact h.1
  | succ k=>simp at hp; exact SV h.2 hp
theorem po {S:aJ} {rs:List (List KV)} (h:rs.length=S.rows.length):(uc .empty S.rows (S.Iz S.nr S.ids rs)).next=S.nr:=by
 show (uc .empty S.rows (XT (S.nr+oe S.dC) S.ids S.rows rs)).next=S.nr;rw [ac3 (Ux h _ _)];simp [ae.empty,aJ.nr]
theorem IC {S:aJ} {vs:List KV} {rs:List (List KV)} (h:rs.length=S.rows.length) {b:Nat} {o:gT} (hb:(S.mem P vs rs).get b=some o) :
  (∃ p r,S.rows[b]? = some p/\rs[b]? = some r/\o = .row (sq (Cn (S.nr+oe S.dC) S.rows b) S.ids p.2.1 r) p.2.2)\/∃ i q,b=S.nr+i/\(S.lens P vs rs)[i]? = some q/\o=q:=by
 rcases Uw hb with hb | ⟨i,q,h1,h2,h3⟩
 ·rcases af5 hb with e | ⟨k,p,r,rfl,h1,h2,h3⟩
  ·simp [ae.empty,ae.get] at e
  ·have hk:(ae.empty.next+k)=k:=by simp [ae.empty]
   rw [hk];have bj:k < rs.length:=by rw [h]; exact (cG.1 h1).1
   have e1:=cI bj;have e2:=QE (bs:=S.ids) (j:=S.nr+oe S.dC) h1 e1;have h2:(XT (S.nr+oe S.dC) S.ids S.rows rs)[k]? = some r:=h2;rw [e2] at h2;simp at h2;exact .inl ⟨p,_,h1,e1,by rw [h3,<- h2]⟩
 ·rw [po h] at h1
  exact .inr ⟨i,q,h1,h2,h3⟩
theorem Py {t:TypeId} {n:Nat} {es:List KV} {acc:Nat->KV} {bh:List Value} (ht:gU P t n es acc) (h:aV P E es bh):∃ pj ax,K.cg P dB (.ts t .any n es acc) = .ts t .any n pj ax/\gU P t n pj ax/\aV P E pj bh:=by
 refine ⟨(List.range n).map fun i=>ij P (K.cg P 5) t (acc i),fun i=>ij P (K.cg P 5) t (acc i),rfl,?_⟩;have CZ:∀ i,i < n->∃ e e',es[i]? = some e/\bh[i]? = some e'/\acc i=e/\cw (aQ P t) e=true/\VK P E e e':=by
  intro i hi;have hl:i < es.length:=by rw [<- ht.len]; exact hi
  have e1:=cI hl;obtain ⟨e',e2,e3⟩:=h.get e1;exact ⟨_,e',e1,e2,by rw [ht.acc i hi,fC,e1]; rfl,gC ht.typed e1,e3⟩
 have hlen:bh.length=n:=by rw [h.length,ht.len]
 refine ⟨⟨by simp,fun i hi=>?_,?_⟩,?_⟩
 ·rw [fC,o8,List.getElem?_range hi]; rfl
 ·refine oW fun i e he=>?_
  rw [o8] at he;by_cases hi:i < n
  ·rw [List.getElem?_range hi] at he
   simp only [Option.map_some,bM] at he;obtain ⟨x,x',_,_,q3,q4,_⟩:=CZ i hi;rw [<- he,q3,ij];obtain ⟨r1,r2,_⟩:=MW q4;rw [r1];exact aal q4 (Ig 5 r2) (by simp)
  ·rw [List.getElem?_eq_none (by simp; omega)] at he; simp at he
 ·refine aV.ad1 (by simp [hlen]) fun i e e' he KD=>?_
  rw [o8] at he;by_cases hi:i < n
  ·rw [List.getElem?_range hi] at he
   simp only [Option.map_some,bM] at he;obtain ⟨x,x',_,q2,q3,q4,q5⟩:=CZ i hi;rw [KD] at q2;simp only [bM] at q2;subst q2;rw [<- he,q3];exact VK.ij 5 q4 q5
  ·rw [List.getElem?_eq_none (by simp; omega)] at he; simp at he
theorem dq.ajA {S:aJ} {t:bd} {A:ae} {g:GR} (h:dq P S t A g) {b:Nat} {v:KV} (hb:(S.mem P g.vs g.rs).get b=some (.arr v)) :
  ∃ i T,b=S.nr+i/\((g.fs[i]? = some none/\1<=aU P T/\v=K.cg P dB (.ts T .any 0 [] qG))\/∃ f m N es acc,g.fs[i]? = some (some f)/\A.get f=some (.arr (.ts T m N es acc))/\v=K.cg P dB (.ts T .any N es acc)):=by
 rcases IC h.rL hb with ⟨p,r,_,_,h3⟩ | ⟨i,q,rfl,h2,h3⟩
 ·simp at h3
 ·subst h3
  obtain ⟨fi,h4,h5,h6⟩:=h.fact h2;rcases h6 with ⟨_,_,e,_⟩ | ⟨T,v',e,h6⟩
  ·simp at e
  ·simp only [gT.arr.injEq] at e
   subst e;rcases h6 with ⟨h6,h7⟩ | ⟨f,m,N,es,acc,h6,h7⟩
   ·exact ⟨i,T,rfl,.inl ⟨by rw [h5,h6],h7⟩⟩
   ·exact ⟨i,T,rfl,.inr ⟨f,m,N,es,acc,by rw [h5,h6],h7⟩⟩
theorem dq.ID {S:aJ} {t:bd} {A:ae} {g:GR} (h:dq P S t A g) {b:Nat} {v:KV} (hb:(S.mem P g.vs g.rs).get b=some (.arr v)) {p:Nat×Nat×Nat} (hp:(E.sub A g.bs g.fs S.nr).α b=some p) :
  ∃ i f u,b=S.nr+i/\g.fs[i]? = some (some f)/\A.get f=some (.arr u)/\E.α f=some p:=by
 obtain ⟨i,T,rfl,h1⟩:=h.ajA hb;rw [Env.IB] at hp;rcases h1 with ⟨h1,_⟩ | ⟨f,m,N,es,acc,h1,h2,_⟩
 ·rw [h1] at hp; simp at hp
 ·rw [h1] at hp; exact ⟨i,f,_,rfl,h1,h2,hp⟩
theorem dq.AR {S:aJ} {t:bd} {A:ae} {g:GR} (h:dq P S t A g) {x:Nat} (q:K.AR (S.mem P g.vs g.rs) (E.sub A g.bs g.fs S.nr) x):∃ f u L N,f∈jw g.fs/\A.get f=some (.arr u)/\E.α f=some (x,L,N):=by
 obtain ⟨b,v,L,N,h1,h2⟩:=q;obtain ⟨i,f,u,_,h3,h4,h5⟩:=h.ID h1 h2;exact ⟨f,u,L,N,yN.2 (gh h3),h4,h5⟩
theorem dq.ar {S:aJ} {t:bd} {A:ae} {g:GR} (h:dq P S t A g) {x:Nat} (q:K.AR (S.mem P g.vs g.rs) (E.sub A g.bs g.fs S.nr) x):K.AR A E x:=by
 obtain ⟨f,u,L,N,_,h2,h3⟩:=h.AR q;exact ⟨f,u,L,N,h2,h3⟩
theorem dq.AF {S:aJ} {t:bd} {A:ae} {B:St} {g:GR} (h:dq P S t A g) {q:Nat} (k:K.AF (S.mem P g.vs g.rs) (E.sub A g.bs g.fs S.nr) B q):∃ f u x L N cs e own m,f∈jw g.fs/\A.get f=some (.arr u)/\E.α f=some (x,L,N)/\B.get x=some (.row cs e own (some (q,m))):=by
 obtain ⟨b,v,x,L,N,cs,e,own,m,h1,h2,h3⟩:=k;obtain ⟨i,f,u,_,h4,h5,h6⟩:=h.ID h1 h2;exact ⟨f,u,x,L,N,cs,e,own,m,yN.2 (gh h4),h5,h6,h3⟩
theorem dq.af {S:aJ} {t:bd} {A:ae} {B:St} {g:GR} (h:dq P S t A g) {q:Nat} (k:K.AF (S.mem P g.vs g.rs) (E.sub A g.bs g.fs S.nr) B q):K.AF A E B q:=by
 obtain ⟨f,u,x,L,N,cs,e,own,m,_,h1,h2,h3⟩:=h.AF k;exact ⟨f,u,x,L,N,cs,e,own,m,h1,h2,h3⟩
theorem dq.at {S:aJ} {t:bd} {A:ae} {B:St} {g:GR} (h:dq P S t A g) {y:Nat} (k:K.AT (S.mem P g.vs g.rs) (E.sub A g.bs g.fs S.nr) B y):K.AT A E B y:=k.imp h.ar fun ⟨q,h1,h2⟩=>⟨q,h.af h1,h2⟩
theorem dq.fT {S:aJ} {t:bd} {A:ae} {B:St} {g:GR} (h:dq P S t A g) (hk:dr P E A B):dr P (E.sub A g.bs g.fs S.nr) (S.mem P g.vs g.rs) B where
 row b cs bp hb:=by
  rcases IC h.rL hb with ⟨p,r,h1,h2,h3⟩ | ⟨i,q,_,h2,h3⟩
  ·simp only [gT.row.injEq] at h3
   obtain ⟨rfl,rfl⟩:=h3;obtain ⟨b',cs,h4,h5,h6,h7,h8,h9⟩:=h.row h1;rw [h2] at h8; simp at h8; subst h8;obtain ⟨x,bL,pn,F5,h12⟩:=hk.row _ _ _ h5;refine ⟨x,bL,by simp [Env.sub,h4,pn],F5,?_⟩;have hh:pe E (E.sub A g.bs g.fs S.nr) (S.QZ P t A) S.nr:=h.hyp;have hr:=hh.right;rw [E8 (h.vs ▸ h.dC)] at hr;have:=aaQ h.rows hr h1;rw [h7] at this;have hrr:=SV h.aoj h1;rw [h7] at hrr;exact aV.cellsIn (E:=E) (E0:=E.sub A g.bs g.fs S.nr) rfl h.rk h12 h6 h9 this hrr
  ·subst h3
   obtain ⟨fi,_,_,h6⟩:=h.fact h2;rcases h6 with ⟨_,_,e,_⟩ | ⟨_,_,e,_⟩ <;> simp at e
 aP b top sz hb:=by
  rcases IC h.rL hb with ⟨p,r,_,_,h3⟩ | ⟨i,q,rfl,h2,h3⟩
  ·simp at h3
  ·subst h3
   obtain ⟨fi,h4,h5,h6⟩:=h.fact h2;rcases h6 with ⟨_,_,e,h6⟩ | ⟨_,_,e,_⟩
   ·simp only [gT.aP.injEq] at e
    obtain ⟨rfl,rfl⟩:=e;rw [Env.aaR,h5,dN];rcases h6 with ⟨h6,h7⟩ | ⟨f,h6,h7⟩
    ·rw [h6]; exact .inl ⟨h7,rfl⟩
    ·rw [h6,dN,show BS (A.get f)=true by rw [h7]; rfl,aj]; exact hk.aP f _ _ h7
   ·simp at e
 z:=hk.z
 apart b x e:=by
  simp only [Env.sub,cC] at e;obtain ⟨b',_,e⟩:=e;exact hk.apart b' x e
 inj b c x e1 e2:=by
  simp only [Env.sub,cC] at e1 e2;obtain ⟨b',h1,e1⟩:=e1;obtain ⟨c',h2,e2⟩:=e2;have:=hk.inj _ _ _ e1 e2;subst this;exact aaO h.nodup _ _ _ h1 h2
 gz b c q tb sb tc sc hb hc e1 e2:=by
  have key:∀ {b t s},(S.mem P g.vs g.rs).get b=some (.aP t s)->∃ i,b=S.nr+i/\((g.fs[i]? = some none)\/∃ f,g.fs[i]? = some (some f)/\A.get f=some (.aP t s)):=by
   intro b t s hb;rcases IC h.rL hb with ⟨p,r,_,_,h3⟩ | ⟨i,q1,rfl,h2,h3⟩
   ·simp at h3
   subst h3;obtain ⟨fi,h4,h5,h6⟩:=h.fact h2;rcases h6 with ⟨_,_,e,h6⟩ | ⟨_,_,e,_⟩
   ·simp only [gT.aP.injEq] at e
    obtain ⟨rfl,rfl⟩:=e;rcases h6 with ⟨h6,_⟩ | ⟨f,h6,h7⟩
    ·exact ⟨i,rfl,.inl (by rw [h5,h6])⟩
    ·exact ⟨i,rfl,.inr ⟨f,by rw [h5,h6],h7⟩⟩
   ·simp at e
  obtain ⟨i,rfl,h1⟩:=key hb;obtain ⟨j,rfl,h2⟩:=key hc;rw [Env.aaR] at e1 e2;rcases h1 with h1 | ⟨f,h1,h3⟩
  ·rw [h1] at e1; simp at e1
  rcases h2 with h2 | ⟨f',h2,h4⟩
  ·rw [h2] at e2; simp at e2
  rw [h1,dN,dN] at e1;rw [h2,dN,dN] at e2;rw [show BS (A.get f)=true by rw [h3]; rfl,aj] at e1;rw [show BS (A.get f')=true by rw [h4]; rfl,aj] at e2;have:=hk.gz f f' q _ _ _ _ h3 h4 e1 e2;subst this;have:=zp h.Za i j f h1 h2;omega
 jI b x e:=by
  simp only [Env.sub,cC] at e;obtain ⟨b',h1,_⟩:=e;have:b < g.bs.length:=(cG.1 h1).1;rw [aJ.mem,fJ,po h.rL];rw [h.XX] at this;simp only [aJ.nr]; omega
 kK b q e:=by
  simp only [Env.sub] at e;split at e
  ·rename_i hle
   obtain ⟨f,h1,_⟩:=cC.1 e;have h2:b - S.nr < g.fs.length:=(cG.1 h1).1;rw [h.fs,uD,<- h.lens] at h2;rw [aJ.mem,fJ,po h.rL];omega
  ·simp at e
 live b o hb:=by
  rw [aJ.mem,fJ,po h.rL];rcases IC h.rL hb with ⟨p,r,h1,_,_⟩ | ⟨i,q,rfl,h2,h3⟩
  ·have:=(cG.1 h1).1
   simp only [aJ.nr]; omega
  ·have:=(cG.1 h2).1
   omega
 eV b x e:=by
  simp only [Env.sub,cC] at e;obtain ⟨b',_,e⟩:=e;exact hk.eV b' x e
 lB:=hk.lB
 ik b q e:=by
  simp only [Env.sub] at e;split at e
  ·obtain ⟨f,_,e⟩:=cC.1 e
   obtain ⟨f',_,e⟩:=cC.1 e;exact hk.ik _ _ (QF e).1
  ·simp at e
 fresh:=hk.fresh
 mem:=hk.mem
 ar:=by
  have aes:∀ b p,(E.sub A g.bs g.fs S.nr).α b=some p->S.nr<=b/\b - S.nr < g.fs.length/\∃ f,E.α f=some p:=by
   intro b p e;simp only [Env.sub] at e;split at e
   ·rename_i hle
    obtain ⟨f,h1,e⟩:=cC.1 e;obtain ⟨f',_,e⟩:=cC.1 e;exact ⟨hle,(cG.1 h1).1,f',e⟩
   ·simp at e
  refine ⟨fun b v hb=>?_,fun b v hb=>?_,fun x q=>?_,fun b c v u x L N L' N' h1 h2 h3 h4=>?_,fun b c v u x y L N L' N' cs e own q k bL e' rm k' h1 h2 h3 h4 h5 h6=>?_,fun b x e=>?_,fun b p e=>?_,fun b x L N e=>?_,fun b v x L N cs e own q k h1 h2 h3=>?_,fun b v hb=>?_⟩
  ·obtain ⟨i,T,rfl,h1⟩:=h.ajA hb
   rcases h1 with ⟨h1,h2,h3⟩ | ⟨f,m,N,es,acc,h1,h2,h3⟩
   ·obtain ⟨pj,ax,e1,e2,_⟩:=Py (P:=P) (E:=E) (t:=T) (n:=0) (es:=[]) (acc:=qG) (bh:=[]) ⟨rfl,fun i hi=>by omega,rfl⟩ .nil
    rw [e1] at h3;refine ⟨T,0,pj,ax,h3,e2,h2,.inl ⟨rfl,?_⟩⟩;rw [Env.IB,h1]; rfl
   ·obtain ⟨T2,N2,pj,ax,e,ht,dS,x9⟩:=hk.ar.arr f _ h2
    simp only [KV.ts.injEq] at e;obtain ⟨rfl,rfl,rfl,rfl,rfl⟩:=e;rcases x9 with ⟨h4,h5⟩ | ⟨x,cs,bK,bh,h4,h5,h6,h7⟩
    ·subst h4
     have SC:es = []:=qL.1 ht.len.symm;subst SC;obtain ⟨pj,ax,e1,e2,_⟩:=Py (P:=P) (E:=E) (bh:=[]) ht .nil;rw [e1] at h3;refine ⟨T,0,pj,ax,h3,e2,dS,.inl ⟨rfl,?_⟩⟩;rw [Env.IB,h1]; exact h5
    ·obtain ⟨pj,ax,e1,e2,e3⟩:=Py ht h6
     rw [e1] at h3;refine ⟨T,N,pj,ax,h3,e2,dS,.inr ⟨x,cs,bK,bh,?_,h5,aV.zEs (E:=E) (E0:=E.sub A g.bs g.fs S.nr) (.of rfl) e3 e2.typed,h7⟩⟩;rw [Env.IB,h1]; exact h4
  ·rcases IC h.rL hb with ⟨p,r,_,_,h3⟩ | ⟨i,q,rfl,h2,h3⟩
   ·simp at h3
   ·subst h3
    obtain ⟨fi,_,_,h6⟩:=h.fact h2;rcases h6 with ⟨_,_,e,_⟩ | ⟨_,_,e,_⟩ <;> simp at e
  ·obtain ⟨h1,h2⟩:=hk.ar.z x (h.ar q)
   refine ⟨h1,fun c e=>?_⟩;simp only [Env.sub,cC] at e;obtain ⟨b',_,e⟩:=e;exact h2 b' e
  ·obtain ⟨i,f,u1,rfl,k1,k2,k3⟩:=h.ID h1 h3
   obtain ⟨j,f',u2,rfl,k1',k2',k3'⟩:=h.ID h2 h4;have:=hk.ar.inj f f' u1 u2 x L N L' N' k2 k2' k3 k3';subst this;have:=zp h.Za i j f k1 k1';omega
  ·obtain ⟨i,f,u1,rfl,k1,k2,k3⟩:=h.ID h1 h3
   obtain ⟨j,f',u2,rfl,k1',k2',k3'⟩:=h.ID h2 h4;have:=hk.ar.xh f f' u1 u2 x y L N L' N' cs e own q k bL e' rm k' k2 k2' k3 k3' h5 h6;subst this;have:=zp h.Za i j f k1 k1';omega
  ·cases tV:(E.sub A g.bs g.fs S.nr).α b with
   | none=>rfl
   | some p=>
    obtain ⟨h1,_,_⟩:=aes b p tV;simp only [Env.sub,cC] at e;obtain ⟨b',h2,_⟩:=e;have:b < g.bs.length:=(cG.1 h2).1;rw [h.XX] at this;simp only [aJ.nr] at h1; omega
  ·obtain ⟨h1,h2,_⟩:=aes b p e
   rw [h.fs,uD,<- h.lens] at h2;rw [aJ.mem,fJ,po h.rL];omega
  ·obtain ⟨_,_,f,e⟩:=aes b _ e
   exact hk.ar.eV f x L N e
  ·obtain ⟨i,f,u,rfl,k1,k2,k3⟩:=h.ID h1 h2
   obtain ⟨h4,h5,h6⟩:=hk.ar.vy f u x L N cs e own q k k2 k3 h3;refine ⟨h4,fun c e=>?_,fun y hy cH=>?_⟩
   ·simp only [Env.sub] at e
    split at e
    ·obtain ⟨f1,_,e⟩:=cC.1 e
     obtain ⟨f',_,e⟩:=cC.1 e;exact h5 f' (QF e).1
    ·simp at e
   ·obtain ⟨h7,h8,h9⟩:=h6 y hy cH
    refine ⟨h7,fun q=>h8 (h.ar q),fun c e=>?_⟩;simp only [Env.sub,cC] at e;obtain ⟨b',_,e⟩:=e;exact h9 b' e
  ·rcases IC h.rL hb with ⟨p,r,_,_,h3⟩ | ⟨i,q,rfl,h2,_⟩
   ·simp at h3
   ·refine ⟨?_,?_⟩
    ·rw [aJ.mem,fJ,po h.rL]
     have:=(cG.1 h2).1;omega
    ·simp only [Env.sub]
     rw [List.getElem?_eq_none (by rw [h.XX]; simp only [aJ.nr]; omega)];rfl
structure Co (base:Nat) (E:Env) (A:ae) (B:St) (ρ:Ren) (w:World) (E' : Env) (A' : ae) (B' : St) (aF:Ren) (w' : World):Prop where
 eH:iU base ρ B w aF B' w'
 z:∀ b r,E.z b=some r->E'.z b=some r
 dP:∀ x,x < B.next->(∀ b,E.κ b≠some x)->¬ AT A E B x->B'.get x=B.get x
 new:∀ b x,E'.κ b=some x->(∃ c,E.κ c=some x)\/B.next<=x
 tW:∀ b r,E'.z b=some r->E.z b=some r\/AR A E b\/B.next<=b
 se:∀ b g,E'.φ b=some g->(∃ c,E.φ c=some g)\/B.next<=g
 oU:∀ g,g < B.next->(∀ b,E.φ b≠some g)->¬ AF A E B g->B'.members g=B.members g
 kq:∀ x,AR A' E' x->AR A E x\/B.next<=x
 kL:∀ g,AF A' E' B' g->AF A E B g\/B.next<=g
 vz:∀ g y,y∈B'.members g->y∈B.members g\/B.next<=y
 lZ:∀ y,AT A' E' B' y->AT A E B y\/B.next<=y
 rows:∀ y,y < B.next->∀ cs e own bK,B'.get y=some (.row cs e own bK)->∃ lY,B.get y=some (.row lY e own bK)/\lY.length=cs.length
theorem Co.trans {base:Nat} {E1 E2 E3:Env} {A1 A2 A3:ae} {B1 B2 B3:St} {kD xk ρ3:Ren} {w1 w2 w3:World} (h:Co base E1 A1 B1 kD w1 E2 A2 B2 xk w2) (k:Co base E2 A2 B2 xk w2 E3 A3 B3 ρ3 w3):Co base E1 A1 B1 kD w1 E3 A3 B3 ρ3 w3 where
 eH:=h.eH.trans k.eH
 z b r e:=k.z b r (h.z b r e)
 dP x hx hn ha:=by
  refine (k.dP x (fa hx h.eH.next) (fun b e=>?_) fun q=>?_).trans (h.dP x hx hn ha)
  ·rcases h.new b x e with ⟨c,e⟩ | e
   ·exact hn c e
   ·omega
  ·rcases h.lZ x q with e | e
   ·exact ha e
   ·omega
 new b x e:=by
  rcases k.new b x e with ⟨c,e⟩ | e
  ·exact h.new c x e
  ·have:=h.eH.next; exact .inr (by omega)
 tW b r e:=by
  rcases k.tW b r e with e | e | e
  ·exact h.tW b r e
  ·exact .inr (h.kq b e)
  ·have:=h.eH.next; exact .inr (.inr (by omega))
 se b g e:=by
  rcases k.se b g e with ⟨c,e⟩ | e
  ·exact h.se c g e
  ·have:=h.eH.next; exact .inr (by omega)
 oU g hg hn ha:=by
  refine (k.oU g (fa hg h.eH.next) (fun b e=>?_) fun q=>?_).trans (h.oU g hg hn ha)
  ·rcases h.se b g e with ⟨c,e⟩ | e
   ·exact hn c e
   ·omega
  ·rcases h.kL g q with e | e
   ·exact ha e
   ·omega
 kq x e:=by
  rcases k.kq x e with e | e
  ·exact h.kq x e
  ·have:=h.eH.next; exact .inr (by omega)
 kL g e:=by
  rcases k.kL g e with e | e
  ·exact h.kL g e
  ·have:=h.eH.next; exact .inr (by omega)
 vz g y e:=by
  rcases k.vz g y e with e | e
  ·exact h.vz g y e
  ·have:=h.eH.next; exact .inr (by omega)
 lZ y e:=by
  rcases k.lZ y e with e | e
  ·exact h.lZ y e
  ·have:=h.eH.next; exact .inr (by omega)
 rows y hy cs e own bK q:=by
  obtain ⟨c1,h1,h2⟩:=k.rows y (fa hy h.eH.next) cs e own bK q;obtain ⟨c0,h3,h4⟩:=h.rows y hy c1 e own bK h1;exact ⟨c0,h3,h4.trans h2⟩
theorem Ev.co {base:Nat} {A A1:ae} {B B1:St} {ρ kD:Ren} {w w1:World} {E1:Env} {S:aJ} {t:bd} {g:GR} (h:Ev P base E A B ρ w E1 A1 B1 kD w1) (hG:dq P S t A1 g):Co base E A B ρ w (E1.sub A1 g.bs g.fs S.nr) (S.mem P g.vs g.rs) B1 kD w1 where
 eH:=h.eH
 z:=h.le.z
 dP x hx hn ha:=h.dP x hx (fun b e=>absurd e (hn b)) ha
 new b x e:=by
  simp only [Env.sub,cC] at e;obtain ⟨b',_,e⟩:=e;exact (h.new b' x e).imp (fun e=>⟨_,e⟩) (·.2)
 tW:=h.tW
 se b g e:=by
  simp only [Env.sub] at e;split at e
  ·obtain ⟨f,_,e⟩:=cC.1 e
   obtain ⟨f',_,e⟩:=cC.1 e;exact h.se _ _ (QF e).1
  ·simp at e
 oU:=h.oU
 kq x q:=h.kq x (hG.ar q)
 kL g q:=h.kL g (hG.af q)
 vz:=h.vz
 lZ y q:=h.lZ y (hG.at q)
 rows:=h.rows
def Uz (nr:Nat):List CD->Bool
 | []=>true
 | .ref w::ds=>XR nr w&&Uz nr ds
 | _::ds=>Uz nr ds
theorem IE {nr:Nat} {bs:List Nat} : ∀ {ds:List CD} {vs:List KV},Ga nr bs ds vs=true->vs.length=ds.length->Uz nr ds=true
 | [],_,_,_=>rfl
 | _::_,[],_,e=>by simp at e
 | .k c::ds,v::vs,h,e=>IE (ds:=ds) (vs:=vs) h (by simpa using e)
 | .lit c::ds,v::vs,h,e=>IE (ds:=ds) (vs:=vs) h (by simpa using e)
 | .aP c::ds,v::vs,h,e=>IE (ds:=ds) (vs:=vs) h (by simpa using e)
 | .arr c::ds,v::vs,h,e=>IE (ds:=ds) (vs:=vs) h (by simpa using e)
 | .ref w::ds,v::vs,h,e=>by
  simp only [Ga,aq] at h;simp only [Uz,aq];exact ⟨h.1,IE h.2.2 (by simpa using e)⟩
def SW (E1 E2:Env) (i j n:Nat):Prop:=∀ m,m < n->(∀ g,E1.φ (i+m)=some g->E2.φ (j+m)=some g)/\∀ p,E1.α (i+m)=some p->E2.α (j+m)=some p
theorem SW.tail {E1 E2:Env} {i j n:Nat} (h:SW E1 E2 i j (n+1)):SW E1 E2 (i+1) (j+1) n:=fun m hm=>by
 have:=h (m+1) (by omega);rw [show i+(m+1)=i+1+m by omega,show j+(m+1)=j+1+m by omega] at this;exact this
theorem SW.left {E1 E2:Env} {i j n n' : Nat} (h:SW E1 E2 i j n') (hn:n<=n'):SW E1 E2 i j n:=fun m hm=>h m (by omega)
theorem SW.right {E1 E2:Env} {i j n n' : Nat} (h:SW E1 E2 i j (n+n')):SW E1 E2 (i+n) (j+n) n':=fun m hm=>by
 have:=h (n+m) (by omega);rw [<- GZ,<- GZ] at this;exact this
theorem aV.Cp {E1 E2:Env} (hz:E2.z=E1.z) {nr:Nat} {SX bs2:List Nat} (hk:Rk E1 E2 nr SX bs2):∀ {ds:List CD} {vs:List KV} {us:List Value} {i j:Nat},aV P E1 (sq i SX ds vs) us->dh ds vs=true->Uz nr ds=true->SW E1 E2 i j (ub ds)->aV P E2 (sq j bs2 ds vs) us
 | [],[],us,_,_,h,_,_,_=>by rw [h.b5]; exact .nil
 | [],_::_,_,_,_,_,hg,_,_=>by simp [dh] at hg
 | _::_,[],_,_,_,_,hg,_,_=>by simp [dh] at hg
 | d::ds,v::vs,us,i,j,h,hg,hw,hf=>by
  simp only [dh,aq] at hg;cases d with
  | k c=>
   obtain ⟨y,ys,rfl,h1,h2⟩:=aV.cons_inv (show aV P E1 (v::sq i SX ds vs) us from h);exact .cons (h1.gCD (d:=.k c) hz hg.1 (by simp)) (aV.Cp hz hk h2 hg.2 hw hf)
  | lit w=>
   obtain ⟨y,ys,rfl,h1,h2⟩:=aV.cons_inv (show aV P E1 (v::sq i SX ds vs) us from h);exact .cons (h1.gCD (d:=.lit w) hz hg.1 (by simp)) (aV.Cp hz hk h2 hg.2 hw hf)
  | ref w=>
   simp only [Uz,aq] at hw;obtain ⟨y,ys,rfl,h1,h2⟩:=aV.cons_inv (show aV P E1 (inst SX w::sq i SX ds vs) us from h);exact .cons (VK.inst hk hw.1 h1) (aV.Cp hz hk h2 hg.2 hw.2 hf)
  | aP t=>
   obtain ⟨y,ys,rfl,h1,h2⟩:=aV.cons_inv (show aV P E1 (Ni i v::sq (i+1) SX ds vs) us from h);refine .cons ?_ (aV.Cp (i:=i+1) (j:=j+1) hz hk h2 hg.2 hw (SW.tail hf));have hv:∃ n es acc,v = .ts t .any n es acc:=by
    have hg1:kindOk (.slice t) v=true:=hg.1;cases v <;> simp [kindOk] at hg1;rename_i t' m n es acc;cases m <;> simp at hg1;subst hg1; exact ⟨_,_,_,rfl⟩
   obtain ⟨n,es,acc,rfl⟩:=hv;exact VK.swap hz (show VK P E1 (.ts t (.aP i) n es acc) y from h1) fun sz a cap _ hm=>by
    refine ⟨hm.1,hm.2.imp id ?_⟩;rintro ⟨b,r,g,q1,q2,q3,q4,q5⟩;exact ⟨b,r,g,q1,by rw [hz]; exact q2,q3,(hf 0 (by simp [ub])).1 g q4,q5⟩
  | arr t=>
   obtain ⟨y,ys,rfl,h1,h2⟩:=aV.cons_inv (show aV P E1 (QC i v::sq (i+1) SX ds vs) us from h);refine .cons ?_ (aV.Cp (i:=i+1) (j:=j+1) hz hk h2 hg.2 hw (SW.tail hf));have hv:∃ n es acc,v = .ts t .any n es acc:=by
    have hg1:kindOk (.slice t) v=true:=hg.1;cases v <;> simp [kindOk] at hg1;rename_i t' m n es acc;cases m <;> simp at hg1;subst hg1; exact ⟨_,_,_,rfl⟩
   obtain ⟨n,es,acc,rfl⟩:=hv;show VK P E2 (.al t j 0 n) y;rcases (show VK P E1 (.al t i 0 n) y from h1).yp with ⟨q1,q2,q3⟩ | ⟨x,L,N,c,q1,q2⟩
   ·exact .O2 (.inl ⟨q1,q2,q3⟩)
   ·exact .O2 (.inr ⟨x,L,N,c,(hf 0 (by simp [ub])).2 _ q1,q2⟩)
theorem akE (j:Nat) (bs:List Nat) (d:VD) (cs:List KV):XS j bs d (.agg cs) = .agg (sq j bs d.ks cs):=rfl
theorem ac6 {j:Nat} {bs:List Nat} {d:VD} {v:KV} (h:∀ cs,v≠.agg cs) {c:CD} (hc:d.ks = [c]) : [XS j bs d v] = sq j bs d.ks [v]:=by
 have e:XS j bs d v=(match d.ks with | [.aP _]=>Ni j v | [.arr _]=>QC j v | [.ref w]=>inst bs w | _=>v):=by
  cases v <;> first | rfl | exact absurd rfl (h _)
 rw [e,hc];cases c <;> rfl
theorem VK.aoX {E1 E2:Env} (hz:E2.z=E1.z) {nr:Nat} {SX bs2:List Nat} (hk:Rk E1 E2 nr SX bs2) {d:VD} {v:KV} {u:Value} {i j:Nat} (h:VK P E1 (XS i SX d v) u) (hg:zl d v=true) (hw:Uz nr d.ks=true) (hf:SW E1 E2 i j (ub d.ks)):VK P E2 (XS j bs2 d v) u:=by
 rcases AO hg with ⟨cs,rfl,_,h2⟩ | ⟨h0,_,c,h1,h2⟩
 ·rw [akE] at h ⊢
  obtain ⟨l,rfl,k⟩:=h.kJ;exact .rI (aV.Cp hz hk k h2 hw hf)
 ·have k:aV P E1 (sq i SX d.ks [v]) [u]:=by rw [<- ac6 h0 h1]; exact .cons h .nil
  have k2:=aV.Cp hz hk k (by rw [h1]; simp [dh,h2]) hw hf;rw [<- ac6 h0 h1] at k2;obtain ⟨y,e,k3⟩:=k2.ef;simp at e; subst e; exact k3
def ud (P:Program) (E1 E2:Env):List (Nat×KV)->List (Nat×KV)->Prop
 | [],[]=>True
 | x::xs,y::ys=>x.1=y.1/\(∀ u,VK P E1 x.2 u->VK P E2 y.2 u)/\ud P E1 E2 xs ys
 | _,_=>False
theorem ud.append {E1 E2:Env} : ∀ {a b c d:List (Nat×KV)},ud P E1 E2 a b->ud P E1 E2 c d->ud P E1 E2 (a++c) (b++d)
 | [],[],_,_,_,h=>h
 | [],_::_,_,_,h,_=>h.elim
 | _::_,[],_,_,h,_=>h.elim
 | _::_,_::_,_,_,h,k=>⟨h.1,h.2.1,ud.append h.2.2 k⟩
theorem ud.get {E1 E2:Env} : ∀ {a b:List (Nat×KV)},ud P E1 E2 a b->∀ i,((iD a).get i=none/\(iD b).get i=none)\/∃ x y,(iD a).get i=some x/\(iD b).get i=some y/\∀ u,VK P E1 x u->VK P E2 y u
 | [],[],_,i=>.inl (by simp [iD])
 | [],_::_,h,_=>h.elim
 | _::_,[],h,_=>h.elim
 | x::a,y::b,h,i=>by
  rw [iD,iD,Trie.oO,Trie.oO];by_cases e:i=x.1
  ·rw [aE e,aE (by rw [e,h.1])]
   exact .inr ⟨_,_,rfl,rfl,h.2.1⟩
  ·rw [aa e,aa (by rw [<- h.1]; exact e)]
   exact ud.get h.2.2 i
theorem iR.amd {E1 E2:Env} {ρ:Ren} {l m:List (Nat×KV)} {N:Nat} {a:Act} (h:iR P E1 ρ (K.iD l) N a) (hp:ud P E1 E2 l m):iR P E2 ρ (K.iD m) N a:=by
 refine ⟨h.size,fun i=>?_,fun i hi=>?_⟩
 ·rcases hp.get i with ⟨_,h2⟩ | ⟨x,y,h1,h2,h3⟩
  ·rw [h2]; exact .bf
  ·have:=h.val i
   rw [h1] at this;rw [h2];obtain ⟨u,k1,k2⟩:=this;exact ⟨u,h3 u k1,k2⟩
 ·rcases hp.get i with ⟨_,h2⟩ | ⟨x,y,h1,h2,h3⟩
  ·exact h2
  ·have:=h.none i hi
   rw [h1] at this; simp at this
def wsV (nr:Nat):List (Tmp×VD)->Bool
 | []=>true
 | p::ps=>Uz nr p.2.ks&&wsV nr ps
theorem ajB {A:ae} {t:bd} {nr:Nat} {bs:List Nat} : ∀ {ps:List (Tmp×VD)},KW nr bs t ps=true->eO ps (od P t A ps)=true->wsV nr ps=true
 | [],_,_=>rfl
 | p::ps,h,hg=>by
  simp only [KW,aq] at h;simp only [od,eO,aq] at hg;simp only [wsV,aq];exact ⟨IE h.1 (Fw hg.1),ajB h.2 hg.2⟩
theorem ac7 {E1 E2:Env} (hz:E2.z=E1.z) {nr:Nat} {SX bs2:List Nat} (hk:Rk E1 E2 nr SX bs2):∀ {ps:List (Tmp×VD)} {vs:List KV} {i j:Nat},eO ps vs=true->wsV nr ps=true->SW E1 E2 i j (oe ps)->ud P E1 E2 (NV i SX ps vs) (NV j bs2 ps vs)
 | [],[],_,_,_,_,_=>trivial
 | [],_::_,_,_,hg,_,_=>by simp [eO] at hg
 | _::_,[],_,_,hg,_,_=>by simp [eO] at hg
 | p::ps,v::vs,i,j,hg,hw,hf=>by
  simp only [wsV,aq] at hw;simp only [eO,aq] at hg;have hf:SW E1 E2 i j (ub p.2.ks+oe ps):=hf;exact ⟨rfl,fun u h=>h.aoX hz hk hg.1 hw.1 (hf.left (Nat.le_add_right _ _)),ac7 hz hk hg.2 hw.2 hf.right⟩
theorem af9 {E1 E2:Env} {ids bs:List Nat} : ∀ {ps:List (Tmp×Nat×Nat)},(∀ p∈ps,F9 p=true->∀ x,E1.κ (ids.getD p.2.1 0)=some x->E2.κ (bs.getD p.2.1 0)=some x)->ud P E1 E2 (zo ids ps) (zo bs ps)
 | [],_=>trivial
 | p::ps,h=>by
  have ih:=af9 (E1:=E1) (E2:=E2) (ids:=ids) (bs:=bs) (ps:=ps) fun q hq=>h q (by simp [hq]);unfold zo;cases hp:F9 p with
  | true=>
   exact ⟨rfl,fun u k=>by
    obtain ⟨x,h1,rfl⟩:=(show VK P E1 (.ptr (ids.getD p.2.1 0) p.2.2) u from k).hD;exact .BM (h p (by simp) hp x h1),ih⟩
  | false=>exact ih
theorem aga {E1 E2:Env} {a b:List (Nat×KV)} (hab:ud P E1 E2 a b):∀ {ps:List (Tmp×Nat×Nat)},ud P E1 E2 (Nj a ps) (Nj b ps)
 | []=>trivial
 | p::ps=>by
  have ih:=aga hab (ps:=ps);unfold Nj;cases hp:F9 p with
  | true=>exact ih
  | false=>
   refine ⟨rfl,fun u k=>?_,ih⟩;have k:VK P E1 (SP a (p.2.1 - 1000000)) u:=k;show VK P E2 (SP b (p.2.1 - 1000000)) u;unfold SP at k ⊢;rcases hab.get (p.2.1 - 1000000) with ⟨h1,h2⟩ | ⟨x,y,h1,h2,h3⟩
   ·rw [h1] at k
    rw [h2];simp [VK]
   ·rw [h1] at k
    rw [h2];exact h3 u k
end Go.K
end
section
namespace Go.K
open Go Go.aG
variable {P:Program} {E:Env}
theorem HJ:∀ (ps:List (Tmp×List CD×Nat)) (j k:Nat),Cn j ps k=j+Cn 0 ps k
 | [],j,k=>by simp [Cn]
 | _::_,j,0=>by simp [Cn]
 | p::ps,j,k+1=>by
  simp only [Cn];rw [HJ ps (j+ub p.2.1) k,HJ ps (0+ub p.2.1) k];omega
theorem mem_row {S:aJ} {vs:List KV} {rs:List (List KV)} (h:rs.length=S.rows.length) {k:Nat} {p:Tmp×List CD×Nat} {r:List KV} (hp:S.rows[k]? = some p) (hr:rs[k]? = some r):(S.mem P vs rs).get k=some (.row (sq (Cn (S.nr+oe S.dC) S.rows k) S.ids p.2.1 r) p.2.2):=by
 have hk:k < S.nr:=(cG.1 hp).1;rw [aJ.mem,C5 (by rw [po h]; exact hk)];have:=ajz (A:=.empty) hp (show (S.Iz S.nr S.ids rs)[k]? = some _ from QE hp hr);simpa [ae.empty] using this
theorem UA {S:aJ} {vs:List KV} {rs:List (List KV)} (h:rs.length=S.rows.length) {i:Nat} {q:gT} (hq:(S.lens P vs rs)[i]? = some q):(S.mem P vs rs).get (S.nr+i)=some q:=by
 have:=Pw (A:=uc .empty S.rows (S.Iz S.nr S.ids rs)) hq;rw [po h] at this;exact this
def Env.up (E E1:Env) (nr nx:Nat):Env:={ κ:=E.κ,z:=E1.z,φ:=fun b=>if nx<=b then E1.φ (nr+(b - nx)) else E.φ b,α:=fun b=>if nx<=b then E1.α (nr+(b - nx)) else E.α b }
theorem Env.C7 {E1:Env} {nr nx j:Nat} : (E.up E1 nr nx).φ (nx+j)=E1.φ (nr+j):=by
 simp only [Env.up];rw [aE (by omega),show nx+j - nx=j by omega]
theorem Env.C8 {E1:Env} {nr nx b:Nat} (h:b < nx):(E.up E1 nr nx).φ b=E.φ b:=by
 simp only [Env.up];rw [aa (by omega)]
theorem Env.LY {E1:Env} {nr nx j:Nat} : (E.up E1 nr nx).α (nx+j)=E1.α (nr+j):=by
 simp only [Env.up];rw [aE (by omega),show nx+j - nx=j by omega]
theorem Env.L3 {E1:Env} {nr nx b:Nat} (h:b < nx):(E.up E1 nr nx).α b=E.α b:=by
 simp only [Env.up];rw [aa (by omega)]
theorem ac8 {S:aJ} {t:bd} {A:ae} {B B1:St} {g:GR} {ρ kD:Ren} {base N:Nat} {w w1:World} {a1:Act} {vs:List KV} {rs:List (List KV)} {E1:Env} (hG:dq P S t A g) (hk:dr P E A B)
  (ht:iR P E1 kD (S.tm S.nr S.ids vs) N a1) (hs:dr P E1 (S.mem P vs rs) B1) (Ad:Co base (E.sub A g.bs g.fs S.nr) (S.mem P g.vs g.rs) B ρ w E1 (S.mem P vs rs) B1 kD w1) (JA:∀ k,k < S.rows.length->E1.κ k=(E.sub A g.bs g.fs S.nr).κ k)
  (hv:eO S.dC vs=true) (OO:rs.length=S.rows.length) (hrg:∀ (k:Nat) p r,S.rows[k]? = some p->rs[k]? = some r->dh p.2.1 r=true) :
  iR P (E.up E1 S.nr A.next) kD (S.tm A.next g.bs vs) N a1/\Ev P base E A B ρ w (E.up E1 S.nr A.next) (S.back P g.bs g.fs vs rs A) B1 kD w1:=by
 have hle:E.le (E.up E1 S.nr A.next):=⟨fun b p e=>by rw [Env.L3 (hk.ar.jI b p e)]; exact e,fun _ _ e=>e,fun b r e=>Ad.z b r e,fun b q e=>by rw [Env.C8 (hk.kK b q e)]; exact e⟩
 have ame:∀ (k b:Nat),g.bs[k]? = some b->E1.κ k=E.κ b:=fun k b hb=>by
  rw [JA k (by rw [<- hG.XX]; exact (cG.1 hb).1)];simp [Env.sub,hb]
 have fU:(BT (pd A g.bs S.rows (S.Iz A.next g.bs rs)) g.fs).next=A.next:=by rw [JX,SS]
 have Ng:∀ x,x < B.next->(∀ (k b:Nat),g.bs[k]? = some b->E.κ b≠some x)->¬ AT (S.mem P g.vs g.rs) (E.sub A g.bs g.fs S.nr) B x->B1.get x=B.get x:=fun x hx cH ha=>Ad.dP x hx (fun k e=>by
  simp only [Env.sub,cC] at e;obtain ⟨b,h1,e⟩:=e;exact cH k b h1 e) ha
 have Yy:∀ f,f∈jw g.fs->∃ i:Nat,g.fs[i]? = some (some f)/\((∃ n sz,A.get f=some (.aP n sz))\/∃ v,A.get f=some (.arr v)):=by
  intro f hf;obtain ⟨i,hi⟩:=List.getElem?_of_mem (yN.1 hf);have bj:i < (S.lens P g.vs g.rs).length:=by rw [hG.lens,<- uD,<- hG.fs]; exact (cG.1 hi).1
  obtain ⟨fi,_,h2,h3⟩:=hG.fact (cI bj);rw [hi] at h2; simp at h2;rcases h3 with ⟨n,sz,_,⟨h3,_⟩ | ⟨f',h3,h4⟩⟩ | ⟨T,v,_,⟨h3,_⟩ | ⟨f',m,N,es,acc,h3,h4,_⟩⟩
  ·rw [h3] at h2; simp at h2
  ·rw [h3] at h2; simp at h2; subst h2; exact ⟨i,hi,.inl ⟨_,_,h4⟩⟩
  ·rw [h3] at h2; simp at h2
  ·rw [h3] at h2; simp at h2; subst h2; exact ⟨i,hi,.inr ⟨_,h4⟩⟩
 have aok:∀ f v,f∈jw g.fs->A.get f=some v->(∃ n sz,v = .aP n sz)\/∃ u,v = .arr u:=by
  intro f v hf hv;obtain ⟨_,_,⟨n,sz,h1⟩ | ⟨u,h1⟩⟩:=Yy f hf
  ·rw [hv] at h1; simp at h1; exact .inl ⟨n,sz,h1⟩
  ·rw [hv] at h1; simp at h1; exact .inr ⟨u,h1⟩
 have hrk:Rk E1 (E.up E1 S.nr A.next) S.rows.length S.ids g.bs:=fun j x hj e=>by
  have bj:j < g.bs.length:=by rw [hG.XX]; exact hj
  rw [fC,IA S j hj,eU] at e;rw [fC,cI bj,eU];show E.κ _=some x;rw [<- ame j _ (cI bj)]; exact e
 have VW:∀ (k b:Nat),g.bs[k]? = some b->∃ (p:Tmp×List CD×Nat) (r:List KV) (x:Nat) (bL:List Value),S.rows[k]? = some p/\rs[k]? = some r/\E.κ b=some x/\B1.get x=some (.row bL p.2.2 true none)/\aV P (E.up E1 S.nr A.next) (sq (Cn (A.next+oe S.dC) S.rows k) g.bs p.2.1 r) bL/\
   (BT (pd A g.bs S.rows (S.Iz A.next g.bs rs)) g.fs).get b=some (.row (sq (Cn (A.next+oe S.dC) S.rows k) g.bs p.2.1 r) p.2.2)/\b ∉ jw g.fs:=by
  intro k b hb;have bj:k < S.rows.length:=by rw [<- hG.XX]; exact (cG.1 hb).1
  have hp:=cI bj;have hr:=cI (show k < rs.length by rw [OO]; exact bj);obtain ⟨b',cs,q1,q2,_⟩:=hG.row hp;rw [hb] at q1; simp at q1; subst q1;obtain ⟨x,bL,h1,h2,h3⟩:=hs.row k _ _ (mem_row OO hp hr);have hnf:b ∉ jw g.fs:=fun hf=>by
   rcases aok b _ hf q2 with ⟨_,_,e⟩ | ⟨_,e⟩ <;> simp at e
  refine ⟨_,_,x,bL,hp,hr,by rw [<- ame k b hb]; exact h1,h2,?_,?_,hnf⟩
  ·have hws:Uz S.rows.length S.rows[k].2.1=true:=by
    obtain ⟨_,lY,_,_,Lw,hc0,_,_⟩:=hG.row hp;have:=SV hG.aoj hp;rw [hc0] at this;exact IE this Lw
   refine aV.Cp (E1:=E1) (E2:=E.up E1 S.nr A.next) rfl hrk h3 (hrg _ _ _ hp hr) hws fun m _=>⟨fun q e=>?_,fun q e=>?_⟩
   ·rw [HJ,show A.next+oe S.dC+Cn 0 S.rows k+m=A.next+(oe S.dC+Cn 0 S.rows k+m) by omega,Env.C7]
    rw [HJ,show S.nr+oe S.dC+Cn 0 S.rows k+m=S.nr+(oe S.dC+Cn 0 S.rows k+m) by omega] at e;exact e
   ·rw [HJ,show A.next+oe S.dC+Cn 0 S.rows k+m=A.next+(oe S.dC+Cn 0 S.rows k+m) by omega,Env.LY]
    rw [HJ,show S.nr+oe S.dC+Cn 0 S.rows k+m=S.nr+(oe S.dC+Cn 0 S.rows k+m) by omega] at e;exact e
  ·rw [Ep,aa hnf]
   exact af3 hG.nodup hb hp (show (S.Iz A.next g.bs rs)[k]? = some _ from QE hp hr)
 have amf:∀ (k b:Nat),g.bs[k]? = some b->∃ cs e,A.get b=some (.row cs e):=by
  intro k b hb;have bj:k < S.rows.length:=by rw [<- hG.XX]; exact (cG.1 hb).1
  obtain ⟨b',cs,q1,q2,_⟩:=hG.row (cI bj);rw [hb] at q1; simp at q1; subst q1;exact ⟨_,_,q2⟩
 have vp:∀ b,b∈g.bs->∃ k:Nat,g.bs[k]? = some b:=fun b hb=>List.getElem?_of_mem hb;have QG:∀ c q,(E.sub A g.bs g.fs S.nr).φ c=some q->∃ f n sz,f∈jw g.fs/\E.φ f=some q/\A.get f=some (.aP n sz):=by
  intro c q e;simp only [Env.sub] at e;split at e
  ·obtain ⟨f,h1,e⟩:=cC.1 e
   obtain ⟨f',h2,e⟩:=cC.1 e;subst h2;obtain ⟨e1,e2⟩:=QF e;obtain ⟨n,sz,e3⟩:=af6 e2;exact ⟨f',n,sz,yN.2 (gh h1),e1,e3⟩
  ·simp at e
 have hinv:∀ b o,(S.back P g.bs g.fs vs rs A).get b=some o->(b∈g.bs/\∃ cs e,o = .row cs e/\(BT (pd A g.bs S.rows (S.Iz A.next g.bs rs)) g.fs).get b=some (.row cs e))\/(b ∉ g.bs/\b ∉ jw g.fs/\A.get b=some o)\/(b∈jw g.fs/\o = .dead)\/∃ i q,b=A.next+i/\(S.lens P vs rs)[i]? = some q/\o=q:=by
  intro b o hb;rcases Uw hb with hb | ⟨i,q,h1,h2,h3⟩
  ·by_cases hbs:b∈g.bs
   ·obtain ⟨k,mF⟩:=vp b hbs
    obtain ⟨p,r,x,bL,h1,h2,h3,h4,h5,h6,h7⟩:=VW k b mF;rw [h6] at hb; simp at hb;exact .inl ⟨hbs,_,_,hb.symm,h6⟩
   ·rw [Ep] at hb
    split at hb
    ·rename_i hf; simp at hb; exact .inr (.inr (.inl ⟨hf,hb.symm⟩))
    ·rename_i hf
     rw [JY hbs] at hb;exact .inr (.inl ⟨hbs,hf,hb⟩)
  ·rw [fU] at h1
   exact .inr (.inr (.inr ⟨i,q,h1,h2,h3⟩))
 have apT:∀ b,A.get b=some wu->(S.back P g.bs g.fs vs rs A).get b=some wu:=fun b hb=>by
  have bj:=hk.live b _ hb;rw [aJ.back,C5 (by rw [fU]; exact bj),Ep,aa,JY]
  ·exact hb
  ·intro e
   obtain ⟨k,mF⟩:=vp b e;obtain ⟨_,_,h6⟩:=amf k b mF;rw [hb] at h6;simp at h6
  ·intro e
   rcases aok b _ e hb with ⟨_,_,e2⟩ | ⟨_,e2⟩ <;> simp at e2
 have hnewobj:∀ i q,(S.lens P vs rs)[i]? = some q->(S.mem P vs rs).get (S.nr+i)=some q:=fun i q hq=>UA OO hq;have ajC:∀ (i:Nat) (q:gT),(S.lens P vs rs)[i]? = some q->(∃ n sz,q=gT.aP n sz)\/∃ v,q=gT.arr v:=by
  have one:∀ (ds:List CD) (vs:List KV),∀ q∈oX P ds vs,(∃ n sz,q = .aP n sz)\/∃ v,q = .arr v:=by
   intro ds
   induction ds with
   | nil=>intro vs q hq; simp [oX] at hq
   | cons d ds ih=>
    intro vs q hq;cases vs with
    | nil=>cases d <;> simp [oX] at hq
    | cons v vs=>
     cases d <;> simp only [oX,de] at hq
     ·exact ih vs q hq
     ·exact ih vs q hq
     ·rcases hq with rfl | hq
      ·exact .inl ⟨_,_,rfl⟩
      ·exact ih vs q hq
     ·rcases hq with rfl | hq
      ·exact .inr ⟨_,rfl⟩
      ·exact ih vs q hq
     ·exact ih vs q hq
  have two:∀ (ps:List (Tmp×VD)) (vs:List KV),∀ q∈C4 P ps vs,(∃ n sz,q = .aP n sz)\/∃ v,q = .arr v:=by
   intro ps
   induction ps with
   | nil=>intro vs q hq; simp [C4] at hq
   | cons p ps ih=>
    intro vs q hq;cases vs with
    | nil=>simp [C4] at hq
    | cons v vs=>
     simp only [C4,jF] at hq;exact hq.elim (one _ _ q) (ih vs q)
  have three:∀ (ps:List (Tmp×List CD×Nat)) (rs:List (List KV)),∀ q∈Eo P ps rs,(∃ n sz,q = .aP n sz)\/∃ v,q = .arr v:=by
   intro ps
   induction ps with
   | nil=>intro vs q hq; simp [Eo] at hq
   | cons p ps ih=>
    intro vs q hq;cases vs with
    | nil=>simp [Eo] at hq
    | cons v vs=>
     simp only [Eo,jF] at hq;exact hq.elim (one _ _ q) (ih vs q)
  intro i q hq;have:=gh hq;simp only [aJ.lens,jF] at this;exact this.elim (two _ _ q) (three _ _ q)
 have rJ:∀ b v,(S.back P g.bs g.fs vs rs A).get b=some (.arr v)->(b < A.next/\b ∉ jw g.fs/\A.get b=some (.arr v)/\(E.up E1 S.nr A.next).α b=E.α b)\/∃ i,b=A.next+i/\(S.mem P vs rs).get (S.nr+i)=some (.arr v)/\(E.up E1 S.nr A.next).α b=E1.α (S.nr+i):=by
  intro b v hb;rcases hinv b _ hb with ⟨_,_,_,e,_⟩ | ⟨_,Fs,h1⟩ | ⟨_,e⟩ | ⟨i,q,rfl,h2,e⟩
  ·simp at e
  ·exact .inl ⟨hk.live b _ h1,Fs,h1,Env.L3 (hk.live b _ h1)⟩
  ·simp at e
  ·subst e; exact .inr ⟨i,rfl,UA OO h2,Env.LY⟩
 have aol:∀ {b v x L N},b ∉ jw g.fs->A.get b=some (.arr v)->E.α b=some (x,L,N)->¬ AR (S.mem P g.vs g.rs) (E.sub A g.bs g.fs S.nr) x:=by
  intro b v x L N Fs hb hx q;obtain ⟨f,u,L',N',h1,h2,h3⟩:=hG.AR q;have:=hk.ar.inj b f v u x L N L' N' hb h2 hx h3;subst this;exact Fs h1
 have apU:∀ {b v x L N},b ∉ jw g.fs->A.get b=some (.arr v)->E.α b=some (x,L,N)->¬ AT (S.mem P g.vs g.rs) (E.sub A g.bs g.fs S.nr) B x:=by
  intro b v x L N Fs hb hx q;rcases q with q | ⟨aP,q,hm⟩
  ·exact aol Fs hb hx q
  ·obtain ⟨f,u,y,L',N',cs,e,own,m,h1,h2,h3,h4⟩:=hG.AF q
   by_cases CN:x=y
   ·subst CN
    have:=hk.ar.inj b f v u x L N L' N' hb h2 hx h3;subst this;exact Fs h1
   ·exact ((hk.ar.vy f u y L' N' cs e own aP m h2 h3 h4).2.2 x hm CN).2.1 ⟨b,v,L,N,hb,hx⟩
 have L4:∀ {b v x L N},b ∉ jw g.fs->A.get b=some (.arr v)->E.α b=some (x,L,N)->B1.get x=B.get x:=by
  intro b v x L N Fs hb hx;exact Ng x (hk.ar.eV b x L N hx) (fun k c _ e=>(hk.ar.z x ⟨b,v,L,N,hb,hx⟩).2 c e) (apU Fs hb hx)
 have amg:∀ {i v x L N},(S.mem P vs rs).get (S.nr+i)=some (.arr v)->E1.α (S.nr+i)=some (x,L,N)->(∃ f u L' N',f∈jw g.fs/\A.get f=some (.arr u)/\E.α f=some (x,L',N'))\/B.next<=x:=by
  intro i v x L N h1 h2;rcases Ad.kq x ⟨_,v,L,N,h1,h2⟩ with q | q
  ·obtain ⟨f,u,L',N',q1,q2,q3⟩:=hG.AR q
   exact .inl ⟨f,u,L',N',q1,q2,q3⟩
  ·exact .inr q
 have amh:∀ x,AR (S.back P g.bs g.fs vs rs A) (E.up E1 S.nr A.next) x->AR A E x\/AR (S.mem P vs rs) E1 x:=by
  rintro x ⟨b,v,L,N,h1,h2⟩;rcases rJ b v h1 with ⟨q1,q2,q3,q4⟩ | ⟨i,rfl,q2,q3⟩
  ·rw [q4] at h2; exact .inl ⟨b,v,L,N,q3,h2⟩
  ·rw [q3] at h2; exact .inr ⟨_,v,L,N,q2,h2⟩
 have ami:∀ q,AF (S.back P g.bs g.fs vs rs A) (E.up E1 S.nr A.next) B1 q->AF A E B q\/AF (S.mem P vs rs) E1 B1 q:=by
  rintro q ⟨b,v,x,L,N,cs,e,own,k,h1,h2,h3⟩;rcases rJ b v h1 with ⟨q1,q2,q3,q4⟩ | ⟨i,rfl,q2,q3⟩
  ·rw [q4] at h2
   rw [L4 q2 q3 h2] at h3;exact .inl ⟨b,v,x,L,N,cs,e,own,k,q3,h2,h3⟩
  ·rw [q3] at h2; exact .inr ⟨_,v,x,L,N,cs,e,own,k,q2,h2,h3⟩
 have aet:∀ x,AR (S.back P g.bs g.fs vs rs A) (E.up E1 S.nr A.next) x->AR A E x\/B.next<=x:=fun x q=>by
  rcases amh x q with q | q
  ·exact .inl q
  ·exact (Ad.kq x q).imp hG.ar id
 have ajD:∀ q,AF (S.back P g.bs g.fs vs rs A) (E.up E1 S.nr A.next) B1 q->AF A E B q\/B.next<=q:=fun x q=>by
  rcases ami x q with q | q
  ·exact .inl q
  ·exact (Ad.kL x q).imp hG.af id
 have amj:∀ x,x < B.next->E.z x=none->¬ AR (S.mem P g.vs g.rs) (E.sub A g.bs g.fs S.nr) x->E1.z x=none:=fun x hx h1 h2=>by
  cases hz:E1.z x with
  | none=>rfl
  | some r=>
   rcases Ad.tW x r hz with e | e | e
   ·have e:E.z x=some r:=e
    rw [h1] at e; simp at e
   ·exact (h2 e).elim
   ·omega
 have aom:∀ {b v x L N cs e own q k},b ∉ jw g.fs->A.get b=some (.arr v)->E.α b=some (x,L,N)->B.get x=some (.row cs e own (some (q,k)))->¬ AF (S.mem P g.vs g.rs) (E.sub A g.bs g.fs S.nr) B q:=by
  intro b v x L N cs e own q k Fs hb hx fp r;obtain ⟨f,u,y,L',N',bL,e',rm,m,h1,h2,h3,h4⟩:=hG.AF r;have:=hk.ar.xh b f v u x y L N L' N' cs e own q k bL e' rm m hb h2 hx h3 fp h4;subst this;exact Fs h1
 have r6:MT P (E.up E1 S.nr A.next) (S.back P g.bs g.fs vs rs A) B1:=by
  refine ⟨?_,?_,?_,?_,?_,?_,?_,?_,?_,?_⟩
  ·intro b v hb
   rcases rJ b v hb with ⟨q1,q2,q3,q4⟩ | ⟨i,rfl,q2,q3⟩
   ·obtain ⟨T,N,es,acc,h1,h2,h3,h4⟩:=hk.ar.arr b v q3
    refine ⟨T,N,es,acc,h1,h2,h3,?_⟩;rcases h4 with ⟨h4,h5⟩ | ⟨x,cs,bK,bh,h4,h5,h6,h7⟩
    ·exact .inl ⟨h4,by rw [q4]; exact h5⟩
    ·exact .inr ⟨x,cs,bK,bh,by rw [q4]; exact h4,by rw [L4 q2 q3 h4]; exact h5,h6.mono hle,h7⟩
   ·obtain ⟨T,N,es,acc,h1,h2,h3,h4⟩:=hs.ar.arr _ v q2
    refine ⟨T,N,es,acc,h1,h2,h3,?_⟩;rcases h4 with ⟨h4,h5⟩ | ⟨x,cs,bK,bh,h4,h5,h6,h7⟩
    ·exact .inl ⟨h4,by rw [q3]; exact h5⟩
    ·exact .inr ⟨x,cs,bK,bh,by rw [q3]; exact h4,h5,aV.zEs (E:=E1) (E0:=E.up E1 S.nr A.next) (.of rfl) h6 h2.typed,h7⟩
  ·intro b v hb
   rcases hinv b _ hb with ⟨_,_,_,e,_⟩ | ⟨_,_,h1⟩ | ⟨_,e⟩ | ⟨i,q,_,h2,e⟩
   ·simp at e
   ·obtain ⟨T,N,es,acc,h2,h3,h4,h5⟩:=hk.ar.iA b v h1
    have tV:(E.up E1 S.nr A.next).α b=E.α b:=Env.L3 (hk.live b _ h1);refine ⟨T,N,es,acc,h2,h3,h4,?_⟩;rcases h5 with ⟨h5,h6⟩ | ⟨x,r,bh,h5,h6,h7,h8,h9⟩
    ·exact .inl ⟨h5,by rw [tV]; exact h6⟩
    ·exact .inr ⟨x,r,bh,by rw [tV]; exact h5,Ad.z x r h6,h7,h8.mono hle,h9⟩
   ·simp at e
   ·rcases ajC i q h2 with ⟨_,_,e2⟩ | ⟨_,e2⟩ <;> rw [<- e] at e2 <;> simp at e2
  ·rintro x ⟨b,v,L,N,h1,h2⟩
   rcases rJ b v h1 with ⟨q1,q2,q3,q4⟩ | ⟨i,rfl,q2,q3⟩
   ·rw [q4] at h2
    obtain ⟨h3,h4⟩:=hk.ar.z x ⟨b,v,L,N,q3,h2⟩;exact ⟨amj x (hk.ar.eV b x L N h2) h3 (aol q2 q3 h2),h4⟩
   ·rw [q3] at h2
    refine ⟨(hs.ar.z x ⟨_,v,L,N,q2,h2⟩).1,fun c e=>?_⟩;rcases Ad.kq x ⟨_,v,L,N,q2,h2⟩ with q | q
    ·exact (hk.ar.z x (hG.ar q)).2 c e
    ·have:=hk.eV c x e; omega
  ·intro b c v u x L N L' N' hb hc e1 e2
   have Ih:∀ {b v c u L N L' N'},b ∉ jw g.fs->A.get b=some (.arr v)->E.α b=some (x,L,N)->(S.mem P vs rs).get (S.nr+c)=some (.arr u)->E1.α (S.nr+c)=some (x,L',N')->False:=by
    intro b v c u L N L' N' h1 h2 h3 h4 h5;rcases amg h4 h5 with ⟨f,u',L2,N2,k1,k2,k3⟩ | k
    ·have:=hk.ar.inj b f v u' x L N L2 N2 h2 k2 h3 k3
     subst this;exact h1 k1
    ·have:=hk.ar.eV b x L N h3; omega
   rcases rJ b v hb with ⟨q1,q2,q3,q4⟩ | ⟨i,rfl,q2,q3⟩ <;> rcases rJ c u hc with ⟨r1,r2,r3,r4⟩ | ⟨j,rfl,r2,r3⟩
   ·rw [q4] at e1; rw [r4] at e2
    exact hk.ar.inj b c v u x L N L' N' q3 r3 e1 e2
   ·rw [q4] at e1; rw [r3] at e2
    exact (Ih q2 q3 e1 r2 e2).elim
   ·rw [q3] at e1; rw [r4] at e2
    exact (Ih r2 r3 e2 q2 e1).elim
   ·rw [q3] at e1; rw [r3] at e2
    have:=hs.ar.inj _ _ v u x L N L' N' q2 r2 e1 e2;omega
  ·intro b c v u x y L N L' N' cs e own q k bL e' rm k' hb hc e1 e2 w1 w2
   have Ih:∀ {b v c u x y L N L' N' cs e own k bL e' rm k'},b ∉ jw g.fs->A.get b=some (.arr v)->E.α b=some (x,L,N)->(S.mem P vs rs).get (S.nr+c)=some (.arr u)->E1.α (S.nr+c)=some (y,L',N')->B1.get x=some (.row cs e own (some (q,k)))->B1.get y=some (.row bL e' rm (some (q,k')))->False:=by
    intro b v c u x y L N L' N' cs e own k bL e' rm k' h1 h2 h3 h4 h5 w1 w2;rw [L4 h1 h2 h3] at w1;rcases Ad.kL q ⟨_,u,y,L',N',bL,e',rm,k',h4,h5,w2⟩ with r | r
    ·exact aom h1 h2 h3 w1 r
    ·have:=(hk.ar.vy b v x L N cs e own q k h2 h3 w1).1; omega
   rcases rJ b v hb with ⟨q1,q2,q3,q4⟩ | ⟨i,rfl,q2,q3⟩ <;> rcases rJ c u hc with ⟨r1,r2,r3,r4⟩ | ⟨j,rfl,r2,r3⟩
   ·rw [q4] at e1; rw [r4] at e2
    rw [L4 q2 q3 e1] at w1; rw [L4 r2 r3 e2] at w2;exact hk.ar.xh b c v u x y L N L' N' cs e own q k bL e' rm k' q3 r3 e1 e2 w1 w2
   ·rw [q4] at e1; rw [r3] at e2
    exact (Ih q2 q3 e1 r2 e2 w1 w2).elim
   ·rw [q3] at e1; rw [r4] at e2
    exact (Ih r2 r3 e2 q2 e1 w2 w1).elim
   ·rw [q3] at e1; rw [r3] at e2
    have:=hs.ar.xh _ _ v u x y L N L' N' cs e own q k bL e' rm k' q2 r2 e1 e2 w1 w2;omega
  ·intro b x hb
   have hb:E.κ b=some x:=hb;rw [Env.L3 (hk.jI b x hb)];exact hk.ar.Z6 b x hb
  ·intro b p hb
   rw [aJ.back,fJ,fU];by_cases h1:b < A.next
   ·omega
   ·obtain ⟨i,rfl⟩:=Nat.exists_eq_add_of_le (Nat.le_of_not_lt h1)
    rw [Env.LY] at hb;have:=hs.ar.jI _ _ hb;rw [aJ.mem,fJ,po OO] at this;omega
  ·intro b x L N hb
   by_cases h1:b < A.next
   ·rw [Env.L3 h1] at hb
    have:=hk.ar.eV b x L N hb; have:=Ad.eH.next; omega
   ·obtain ⟨i,rfl⟩:=Nat.exists_eq_add_of_le (Nat.le_of_not_lt h1)
    rw [Env.LY] at hb;exact hs.ar.eV _ _ _ _ hb
  ·intro b v x L N cs e own q k hb hx fp
   rcases rJ b v hb with ⟨q1,q2,q3,q4⟩ | ⟨i,rfl,q2,q3⟩
   ·rw [q4] at hx
    have ah1:=fp;rw [L4 q2 q3 hx] at ah1;obtain ⟨h1,h2,h3⟩:=hk.ar.vy b v x L N cs e own q k q3 hx ah1;have hm:B1.members q=B.members q:=Ad.oU q h1 (fun c e=>by
     obtain ⟨f',_,_,_,k2,_⟩:=QG c q e;exact h2 f' k2) (aom q2 q3 hx ah1)
    refine ⟨by have:=Ad.eH.next; omega,fun f e=>?_,fun y hy cH=>?_⟩
    ·by_cases hf:f < A.next
     ·rw [Env.C8 hf] at e; exact h2 f e
     ·obtain ⟨j,rfl⟩:=Nat.exists_eq_add_of_le (Nat.le_of_not_lt hf)
      rw [Env.C7] at e;rcases Ad.se _ _ e with ⟨c,e⟩ | e
      ·obtain ⟨f',_,_,_,k2,_⟩:=QG c q e
       exact h2 f' k2
      ·omega
    ·rw [hm] at hy
     obtain ⟨h4,h5,h6⟩:=h3 y hy cH;have bj:=hk.mem q y hy;refine ⟨amj y bj h4 fun r=>h5 (hG.ar r),fun r=>?_,h6⟩;rcases aet y r with r | r
     ·exact h5 r
     ·omega
   ·rw [q3] at hx
    obtain ⟨h1,h2,h3⟩:=hs.ar.vy _ v x L N cs e own q k q2 hx fp;have vr:=Ad.kL q ⟨_,v,x,L,N,cs,e,own,k,q2,hx,fp⟩;refine ⟨h1,fun f e=>?_,fun y hy cH=>?_⟩
    ·by_cases hf:f < A.next
     ·rw [Env.C8 hf] at e
      rcases vr with r | r
      ·obtain ⟨f0,u,x0,L0,N0,lY,e0,amk,m,k1,k2,k3,k4⟩:=hG.AF r
       exact (hk.ar.vy f0 u x0 L0 N0 lY e0 amk q m k2 k3 k4).2.1 f e
      ·have:=hk.ik f q e; omega
     ·obtain ⟨j,rfl⟩:=Nat.exists_eq_add_of_le (Nat.le_of_not_lt hf)
      rw [Env.C7] at e;exact h2 _ e
    ·obtain ⟨h4,h5,h6⟩:=h3 y hy cH
     have CZ:y∈B.members q->(∀ c,c ∉ jw g.fs->∀ v' L' N',A.get c=some (.arr v')->E.α c≠some (y,L',N'))/\∀ c,E.κ c≠some y:=by
      intro hm;rcases vr with r | r
      ·obtain ⟨f0,u,x0,L0,N0,lY,e0,amk,m,k1,k2,k3,k4⟩:=hG.AF r
       by_cases hy0:y=x0
       ·subst hy0
        refine ⟨fun c hc v' L' N' p1 p2=>?_,(hk.ar.z y ⟨f0,u,L0,N0,k2,k3⟩).2⟩;have:=hk.ar.inj c f0 v' u y L' N' L0 N0 p1 k2 p2 k3;subst this;exact hc k1
       ·obtain ⟨_,p5,p6⟩:=(hk.ar.vy f0 u x0 L0 N0 lY e0 amk q m k2 k3 k4).2.2 y hm hy0
        exact ⟨fun c _ v' L' N' p1 p2=>p5 ⟨c,v',L',N',p1,p2⟩,p6⟩
      ·rw [hk.fresh q r] at hm; simp at hm
     refine ⟨h4,?_,fun c e=>?_⟩
     ·rintro ⟨c,v',L',N',r1,r2⟩
      rcases rJ c v' r1 with ⟨p1,p2,p3,p4⟩ | ⟨j,rfl,p2,p3⟩
      ·rw [p4] at r2
       rcases Ad.vz q y hy with hm | hm
       ·exact (CZ hm).1 c p2 v' L' N' p3 r2
       ·have:=hk.ar.eV c y L' N' r2; omega
      ·rw [p3] at r2
       exact h5 ⟨_,v',L',N',p2,r2⟩
     ·have e:E.κ c=some y:=e
      rcases Ad.vz q y hy with hm | hm
      ·exact (CZ hm).2 c e
      ·have:=hk.eV c y e; omega
  ·intro b v hb
   rw [aJ.back,fJ,fU];rcases rJ b v hb with ⟨q1,q2,q3,q4⟩ | ⟨i,rfl,q2,q3⟩
   ·obtain ⟨k1,k2⟩:=hk.ar.nk b v q3
    exact ⟨by omega,k2⟩
   ·refine ⟨?_,?_⟩
    ·have:=hs.live _ _ q2
     rw [aJ.mem,fJ,po OO] at this;omega
    ·show E.κ (A.next+i)=none
     cases hq:E.κ (A.next+i) with
     | none=>rfl
     | some x=>have:=hk.jI _ x hq; omega
 refine ⟨?_,⟨⟨?_,?_,hs.z,?_,hk.inj,?_,?_,?_,?_,?_,hs.lB,?_,hs.fresh,hs.mem,?_⟩,Ad.eH,hle,?_,?_,fun _ _ e=>.inl e,?_,?_,?_,?_,?_,Ad.vz,?_,Ad.rows,apT⟩⟩
 ·have hro:=ac7 (P:=P) (E1:=E1) (E2:=E.up E1 S.nr A.next) (i:=S.nr) (j:=A.next) rfl hrk hv (ajB hG.ama (hG.vs ▸ hG.dC)) fun m _=>⟨fun q e=>by rw [Env.C7]; exact e,fun q e=>by rw [Env.LY]; exact e⟩
  refine iR.amd ht (ud.append hro (ud.append (af9 fun p hp hip x e=>?_) (aga hro)));obtain ⟨b,_,h2⟩:=(J1 hG.Ur p hp).1 hip;have bj:p.2.1 < S.rows.length:=by rw [<- hG.XX]; exact (cG.1 h2).1
  rw [fC,IA S _ bj] at e;rw [fC,h2];have e:E1.κ p.2.1=some x:=e;rw [ame _ _ h2] at e;exact e
 ·intro b cs bp hb
  rcases hinv b _ hb with ⟨hbs,_,_,e,h1⟩ | ⟨hbs,_,h1⟩ | ⟨_,e⟩ | ⟨i,q,_,hq,e⟩
  ·obtain ⟨k,mF⟩:=vp b hbs
   obtain ⟨p,r,x,bL,q1,q2,q3,q4,q5,q6,q7⟩:=VW k b mF;rw [h1] at q6;simp only [gT.row.injEq] at e;obtain ⟨rfl,rfl⟩:=e;simp only [bM,gT.row.injEq] at q6;obtain ⟨rfl,rfl⟩:=q6;exact ⟨x,bL,q3,q4,q5⟩
  ·obtain ⟨x,c,q1,q2,q3⟩:=hk.row b cs bp h1
   refine ⟨x,c,q1,?_,q3.mono hle⟩;rw [Ng x (hk.eV b x q1) (fun k b' UB e=>?_) fun q=>hk.aoc q1 (hG.at q)]
   ·exact q2
   ·have:=hk.inj _ _ _ q1 e
    subst this;exact hbs (gh UB)
  ·simp at e
  ·rcases ajC i q hq with ⟨_,_,e2⟩ | ⟨_,e2⟩ <;> rw [<- e] at e2 <;> simp at e2
 ·intro b top sz hb
  rcases hinv b _ hb with ⟨_,_,_,e,_⟩ | ⟨hbs,Fs,h1⟩ | ⟨_,e⟩ | ⟨i,q,rfl,h2,e⟩
  ·simp at e
  ·rcases hk.aP b top sz h1 with ⟨h2,h3⟩ | ⟨q,h2,h3,h4⟩
   ·exact .inl ⟨h2,by rw [Env.C8 (hk.live b _ h1)]; exact h3⟩
   ·have hq:=hk.ik b q h2
    refine .inr ⟨q,by rw [Env.C8 (hk.live b _ h1)]; exact h2,h3,fun x hx cs e own f k fp=>?_⟩;have hmq:B1.members q=B.members q:=Ad.oU q hq (fun c e=>by
     obtain ⟨f',_,_,h5,h6,h7⟩:=QG c q e;have:=hk.gz b f' q _ _ _ _ h1 h7 h2 h6;subst this;exact Fs h5) fun k=>by
      obtain ⟨c,v,y,L,N,cs,e,own,m,h5,h6,h7⟩:=hG.af k;exact (hk.ar.vy c v y L N cs e own q m h5 h6 h7).2.1 b h2
    rw [hmq] at hx;obtain ⟨lY,q1,q2⟩:=Ad.rows x (hk.mem q x hx) _ _ _ _ fp;obtain ⟨q3,q4⟩:=h4 x hx lY e own f k q1;exact ⟨q3,by rw [<- q2]; exact q4⟩
  ·simp at e
  ·subst e
   have:=hs.aP _ _ _ (UA OO h2);rw [Env.C7];exact this
 ·intro b x hb
  have hx:=hk.eV b x hb;show E1.z x=none;cases hz:E1.z x with
  | none=>rfl
  | some r=>
   rcases Ad.tW x r hz with e | e | e
   ·have e:E.z x=some r:=e
    rw [hk.apart b x hb] at e; simp at e
   ·exact absurd hb ((hk.ar.z x (hG.ar e)).2 b)
   ·omega
 ·intro b c q tb sb tc sc hb hc e1 e2
  have key:∀ {b tb sb},(S.back P g.bs g.fs vs rs A).get b=some (.aP tb sb)->(b < A.next/\b ∉ jw g.fs/\A.get b=some (.aP tb sb))\/∃ i,b=A.next+i/\(S.mem P vs rs).get (S.nr+i)=some (.aP tb sb):=by
   intro b tb sb hb;rcases hinv b _ hb with ⟨_,_,_,e,_⟩ | ⟨_,Fs,h1⟩ | ⟨_,e⟩ | ⟨i,q,rfl,h2,e⟩
   ·simp at e
   ·exact .inl ⟨hk.live b _ h1,Fs,h1⟩
   ·simp at e
   ·subst e
    exact .inr ⟨i,rfl,UA OO h2⟩
  have Ih:∀ {b c tb sb i},b < A.next->b ∉ jw g.fs->A.get b=some (.aP tb sb)->c=A.next+i->E.φ b=some q->E1.φ (S.nr+i)=some q->False:=by
   intro b c tb sb i _ h2 h3 _ h5 h6;rcases Ad.se _ _ h6 with ⟨c',e⟩ | e
   ·obtain ⟨f',_,_,k1,k2,k3⟩:=QG c' q e
    have:=hk.gz b f' q _ _ _ _ h3 k3 h5 k2;subst this;exact h2 k1
   ·have:=hk.ik b q h5; omega
  rcases key hb with ⟨h1,h2,h3⟩ | ⟨i,rfl,h2⟩ <;> rcases key hc with ⟨k1,k2,k3⟩ | ⟨j,rfl,k2⟩
  ·rw [Env.C8 h1] at e1; rw [Env.C8 k1] at e2
   exact hk.gz b c q _ _ _ _ h3 k3 e1 e2
  ·rw [Env.C8 h1] at e1; rw [Env.C7] at e2
   exact (Ih h1 h2 h3 rfl e1 e2).elim
  ·rw [Env.C7] at e1; rw [Env.C8 k1] at e2
   exact (Ih k1 k2 k3 rfl e2 e1).elim
  ·rw [Env.C7] at e1 e2
   have:=hs.gz _ _ q _ _ _ _ h2 k2 e1 e2;omega
 ·intro b x hb; have h1:=hk.jI b x hb; rw [aJ.back,fJ,fU]; omega
 ·intro b q hb
  rw [aJ.back,fJ,fU];by_cases h1:b < A.next
  ·omega
  ·obtain ⟨i,rfl⟩:=Nat.exists_eq_add_of_le (Nat.le_of_not_lt h1)
   rw [Env.C7] at hb;have:=hs.kK _ _ hb;rw [aJ.mem,fJ,po OO] at this;omega
 ·intro b o hb
  rw [aJ.back,fJ,fU];rcases hinv b _ hb with ⟨hbs,_⟩ | ⟨_,_,h1⟩ | ⟨h1,_⟩ | ⟨i,q,rfl,h2,_⟩
  ·obtain ⟨k,mF⟩:=vp b hbs
   obtain ⟨p,r,x,bL,_,_,h3,_⟩:=VW k b mF;have:=hk.jI b x h3; omega
  ·have:=hk.live b _ h1; omega
  ·obtain ⟨_,_,⟨_,_,h3⟩ | ⟨_,h3⟩⟩:=Yy b h1
   ·have:=hk.live b _ h3; omega
   ·have:=hk.live b _ h3; omega
  ·have:=(cG.1 h2).1; omega
 ·intro b x hb; have:=hk.eV b x hb; have:=Ad.eH.next; omega
 ·intro b q hb
  by_cases h1:b < A.next
  ·rw [Env.C8 h1] at hb
   have:=hk.ik b q hb; have:=Ad.eH.next; omega
  ·obtain ⟨i,rfl⟩:=Nat.exists_eq_add_of_le (Nat.le_of_not_lt h1)
   rw [Env.C7] at hb;exact hs.ik _ _ hb
 ·exact r6
 ·rw [aJ.back,fJ,fU]; omega
 ·intro x hx cH hna
  exact Ng x hx (fun k b hb e=>by
   obtain ⟨_,_,h6⟩:=amf k b hb;rw [cH b e] at h6;simp at h6) fun q=>hna (hG.at q)
 ·intro b r e
  exact (Ad.tW b r e).imp id (fun e=>e.imp hG.ar id)
 ·intro b q hb
  by_cases h1:b < A.next
  ·rw [Env.C8 h1] at hb; exact .inl ⟨b,hb⟩
  ·obtain ⟨i,rfl⟩:=Nat.exists_eq_add_of_le (Nat.le_of_not_lt h1)
   rw [Env.C7] at hb;rcases Ad.se _ _ hb with ⟨c,e⟩ | e
   ·obtain ⟨f',_,_,_,k2,_⟩:=QG c q e
    exact .inl ⟨f',k2⟩
   ·exact .inr e
 ·intro q hq cH hna
  refine Ad.oU q hq (fun c e=>?_) fun k=>hna (hG.af k);obtain ⟨f',_,_,_,k2,_⟩:=QG c q e;exact cH f' k2
 ·exact aet
 ·exact ajD
 ·rintro y (q | ⟨q,h1,h2⟩)
  ·exact (aet y q).imp .inl id
  ·rcases Ad.vz q y h2 with h2 | h2
   ·rcases ajD q h1 with h1 | h1
    ·exact .inl (.inr ⟨q,h1,h2⟩)
    ·rw [hk.fresh q h1] at h2; simp at h2
   ·exact .inr h2
theorem restore {S:aJ} {t:bd} {A:ae} {B B1:St} {g:GR} {ρ kD:Ren} {base N:Nat} {w w1:World} {a1:Act} {vs:List KV} {rs:List (List KV)} {E1:Env} (hG:dq P S t A g) (hk:dr P E A B)
  (ht:iR P E1 kD (S.tm S.nr S.ids vs) N a1) (hs:dr P E1 (S.mem P vs rs) B1) (Ad:Co base (E.sub A g.bs g.fs S.nr) (S.mem P g.vs g.rs) B ρ w E1 (S.mem P vs rs) B1 kD w1) (JA:∀ k,k < S.rows.length->E1.κ k=(E.sub A g.bs g.fs S.nr).κ k)
  (hv:eO S.dC vs=true) (OO:rs.length=S.rows.length) (hrg:∀ (k:Nat) p r,S.rows[k]? = some p->rs[k]? = some r->dh p.2.1 r=true) :
  ∃ E',iR P E' kD (S.tm A.next g.bs vs) N a1/\Ev P base E A B ρ w E' (S.back P g.bs g.fs vs rs A) B1 kD w1:=⟨_,ac8 hG hk ht hs Ad JA hv OO hrg⟩
end Go.K
end
