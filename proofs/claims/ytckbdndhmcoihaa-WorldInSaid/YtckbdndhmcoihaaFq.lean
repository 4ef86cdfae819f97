/- Part of the proof of WorldIn: the machine, shown to be the model's, and plain models. No conditions. -/
import Derived.ScopeJumps
import Derived.Test.YtckbdndhmcoihaaEq
import Derived.LoopN
set_option linter.unusedSimpArgs false
set_option linter.unusedVariables false
section
namespace Go.K
open Go Go.aG
variable {P:Program} {E:Env}
inductive Sub (root:Code):Nat->Code->Prop where
 | root:Sub root 1 root
 | ao0 {p:Nat} {a b:Code} : Sub root p (.seq a b)->Sub root (2 * p) a
 | akh {p:Nat} {a b:Code} : Sub root p (.seq a b)->Sub root (2 * p+1) b
 | amP {p:Nat} {c:Operand} {a b:Code} : Sub root p (.cond c a b)->Sub root (2 * p) a
 | amQ {p:Nat} {c:Operand} {a b:Code} : Sub root p (.cond c a b)->Sub root (2 * p+1) b
 | block {p id:Nat} {a:Code} : Sub root p (.block id a)->Sub root (2 * p) a
 | loop {p:Nat} {a:Code} : Sub root p (.loop a)->Sub root (2 * p) a
 | scope {p:Nat} {a:Code} : Sub root p (.scope a)->Sub root (2 * p) a
def abD (P:Program) (N:Nat) {R:Type} (c:Code) (f:KE R->bf->ae->Option R):Prop:=
 ∀ (k:KE R) (r:R) (t:bf) (A:ae) (E:Env) (B:St) (ρ:Ren) (base:Nat) (a:Act) (w:World) (Q:Exit->Act->World->Prop),f k t A=some r->iZ P E ρ t N a->KJ P E A B ρ base w->
  (∀ e t' E' A' B' aF a' w',k e t' A' = some r->iZ P E' aF t' N a'->a'.defers=a.defers->Ev P base E A B ρ w E' A' B' aF w'->Q e.out a' w')->c.wp P Q a w
def Rs (P:Program) (N:Nat) (body:Code) (F:bf->ae->wG):Prop:=∀ (R:Type) (k:KE R) (r:R) (t:bf) (A:ae) (E:Env) (B:St) (ρ:Ren) (base:Nat) (a:Act) (w:World) (Q:Exit->Act->World->Prop),Tx F k t A=some r->iZ P E ρ t N a->KJ P E A B ρ base w->
  (∀ e t' E' A' B' aF a' w',k e t' A' = some r->iZ P E' aF t' N a'->a'.defers=a.defers->Ev P base E A B ρ w E' A' B' aF w'->Q e.out a' w')->Code.rounds P body Q gx a w
theorem Vr {c:Code} {Q:Exit->Act->World->Prop} (k:Nat):∀ {n:Nat} {a:Act} {w:World},Code.rounds P c Q n a w->Code.rounds P c Q (n+k) a w
 | 0,_,_,h=>h.elim
 | n+1,a,w,h=>by
  rw [show n+1+k=n+k+1 by omega,rounds_succ];rw [rounds_succ] at h;exact Code.wp_mono (fun e a w q=>by cases e <;> first | exact Vr k q | exact q) h
def vJ (P:Program) (l:Nat) (c:Code) (Q:Exit->Act->World->Prop):Nat->Act->World->Prop
 | 0,_,_=>False
 | m+1,a,w=>c.wp P (Exit.jump l (vJ P l c Q m) Q) a w
def abE (P:Program) (N:Nat) (l:Nat) (rest:Code) (F:bf->ae->wG):Prop:=∀ (R:Type) (k:KE R) (r:R) (t:bf) (A:ae) (E:Env) (B:St) (ρ:Ren) (base:Nat) (a:Act) (w:World) (Q:Exit->Act->World->Prop),wG.run (Xn k) (F t A)=some r->iZ P E ρ t N a->KJ P E A B ρ base w->
  (∀ e t' E' A' B' aF a' w',k e t' A' = some r->iZ P E' aF t' N a'->a'.defers=a.defers->Ev P base E A B ρ w E' A' B' aF w'->Q e.out a' w')->∃ m,vJ P l rest Q m a w
theorem adR {p:Nat->Prop} : ∀ n,p n->∃ m,p m/\∀ k,p k->m<=k
 | 0,h=>⟨0,h,fun _ _=>r6 _⟩
 | n+1,h=>by
  by_cases hk:∃ k,k<=n/\p k
  ·obtain ⟨k,tY,WZ⟩:=hk
   have key:∀ b k,k<=b->p k->∃ m,p m/\∀ k,p k->m<=k:=by
    intro b
    induction b with
    | zero=>intro k h1 h2; exact ⟨k,h2,fun _ _=>by omega⟩
    | succ b ih=>
     intro k h1 h2;by_cases hx:∃ k',k'<=b/\p k'
     ·obtain ⟨k',x1,x2⟩:=hx; exact ih k' x1 x2
     ·exact ⟨k,h2,fun q hq=>by
       by_cases hqb:q<=b
       ·exact absurd ⟨q,hqb,hq⟩ hx
       ·omega⟩
   exact key n k tY WZ
  ·exact ⟨n+1,h,fun k hp=>by
    by_cases hkn:k<=n
    ·exact absurd ⟨k,hkn,hp⟩ hk
    ·omega⟩
open Classical in
noncomputable def Vs (p:Nat->Prop):Nat:=if h:∃ n,p n then (adR h.choose h.choose_spec).choose else 0
theorem Vt {p:Nat->Prop} {n:Nat} (h:p n):p (Vs p)/\Vs p<=n:=by
 have hx:∃ n,p n:=⟨n,h⟩
 unfold Vs;rw [dif_pos hx];have:=(adR hx.choose hx.choose_spec).choose_spec;exact ⟨this.1,this.2 n h⟩
theorem afd {c rest:Code} {l:Nat} {Q:Exit->Act->World->Prop} {a:Act} {w:World} (hf:findLabel c l=some rest) (h:c.wp P (Exit.jump l (fun a w=>∃ m,vJ P l rest Q m a w) Q) a w):(Code.scope c).wp P Q a w:=by
 refine wp_scope_jumps l (fun a w=>∃ m,vJ P l rest Q m a w) (fun a w=>Vs fun m=>vJ P l rest Q m a w) hf h fun a w ⟨n,hn⟩=>?_;have hm:=(Vt (p:=fun m=>vJ P l rest Q m a w) hn).1;generalize (Vs fun m=>vJ P l rest Q m a w)=m at hm ⊢;cases m with
 | zero=>exact hm.elim
 | succ m=>
  refine Code.wp_mono (fun e a' w' q=>?_) hm;cases e with
  | goto l'=>
   obtain ⟨rfl,q⟩:=q;exact ⟨rfl,⟨m,q⟩,Nat.lt_succ_of_le (Vt (p:=fun m=>vJ P _ rest Q m a' w') q).2⟩
  | normal=>exact q
  | exit id=>exact q
  | ret=>exact q
  | panic ch=>exact q
  | outgrown=>exact q
def aki (P:Program) (cfg:dF) (f:FuncId) (root:Code):Prop:=(∀ p F body,cfg.lp f p=some F->Sub root p (.loop body)->∀ N,codeOk N body=true->Rs P N body F)/\
 ∀ p F c,cfg.lp f p=some F->Sub root p (.scope c)->∀ N,codeOk N c=true->∀ l,Kz c=some l->∃ rest,findLabel c l=some rest/\abE P N l rest F
section
variable {R:Type} {cfg:dF} {aR:kz R} {L:Nat} {f:FuncId}
theorem Vu {N:Nat} {c:Code} {g:KE R->bf->ae->Option R} (hg:abD P N c g):∀ (n:Nat) (k:KE R) (r:R) (t:bf) (A:ae) (E:Env) (B:St) (ρ:Ren) (base:Nat) (a:Act) (w:World) (Q:Exit->Act->World->Prop),Xm g k n t A=some r->iZ P E ρ t N a->KJ P E A B ρ base w->
  (∀ e t' E' A' B' aF a' w',k e t' A' = some r->iZ P E' aF t' N a'->a'.defers=a.defers->Ev P base E A B ρ w E' A' B' aF w'->Q e.out a' w')->Code.rounds P c Q n a w
 | 0,k,r,t,A,E,B,ρ,base,a,w,Q,h,ht,hj,hq=>by exact absurd h (by simp [Xm])
 | n+1,k,r,t,A,E,B,ρ,base,a,w,Q,h,ht,hj,hq=>by
  rw [rounds_succ];have h:g (Tw k (Xm g k n)) t A=some r:=h;refine hg _ r t A E B ρ base a w _ h ht hj fun e t' E' A' B' aF a' w' h1 h2 h3 h4=>?_;cases e with
  | normal=>
   have h1:Xm g k n t' A' = some r:=h1;exact Vu hg n k r t' A' E' B' aF base a' w' Q h1 h2 h4.kj fun e t'' H6 A'' Jc vv TK HQ q1 q2 q3 q4=>hq e t'' H6 A'' Jc vv TK HQ q1 q2 (q3.trans h3) (h4.trans q4)
  | exit id=>exact hq (.exit id) t' E' A' B' aF a' w' h1 h2 h3 h4
  | goto l=>exact hq (.goto l) t' E' A' B' aF a' w' h1 h2 h3 h4
  | ret=>exact hq .ret t' E' A' B' aF a' w' h1 h2 h3 h4
theorem Vv {N:Nat} {c:Code} {g:KE R->bf->ae->Option R} {F:bf->ae->wG} (hg:abD P N c g) (hF:Rs P N c F):∀ (n:Nat) (k:KE R) (r:R) (t:bf) (A:ae) (E:Env) (B:St) (ρ:Ren) (base:Nat) (a:Act) (w:World) (Q:Exit->Act->World->Prop),Xo g F k n t A=some r->iZ P E ρ t N a->KJ P E A B ρ base w->
  (∀ e t' E' A' B' aF a' w',k e t' A' = some r->iZ P E' aF t' N a'->a'.defers=a.defers->Ev P base E A B ρ w E' A' B' aF w'->Q e.out a' w')->Code.rounds P c Q (gx+n) a w
 | 0,k,r,t,A,E,B,ρ,base,a,w,Q,h,ht,hj,hq=>hF R k r t A E B ρ base a w Q h ht hj hq
 | n+1,k,r,t,A,E,B,ρ,base,a,w,Q,h,ht,hj,hq=>by
  have h:Bool.rec (motive:=fun _=>Option R) (Tx F k t A) (g (Tw k (Xo g F k n)) t A) (aeQ (F t A))=some r:=h;cases ho:aeQ (F t A) with
  | false=>
   rw [ho] at h;exact Vr (n+1) (hF R k r t A E B ρ base a w Q h ht hj hq)
  | true=>
   rw [ho] at h;have h:g (Tw k (Xo g F k n)) t A=some r:=h;rw [show gx+(n+1)=gx+n+1 by omega,rounds_succ];refine hg _ r t A E B ρ base a w _ h ht hj fun e t' E' A' B' aF a' w' h1 h2 h3 h4=>?_;cases e with
   | normal=>
    have h1:Xo g F k n t' A' = some r:=h1;exact Vv hg hF n k r t' A' E' B' aF base a' w' Q h1 h2 h4.kj fun e t'' H6 A'' Jc vv TK HQ q1 q2 q3 q4=>hq e t'' H6 A'' Jc vv TK HQ q1 q2 (q3.trans h3) (h4.trans q4)
   | exit id=>exact hq (.exit id) t' E' A' B' aF a' w' h1 h2 h3 h4
   | goto l=>exact hq (.goto l) t' E' A' B' aF a' w' h1 h2 h3 h4
   | ret=>exact hq .ret t' E' A' B' aF a' w' h1 h2 h3 h4
theorem iw (eW:rD P cfg.pc) (ug:I9 P aR) (hm:P.follows .mixedOrders=true) {root:Code} (iH:aki P cfg f root) {N:Nat} : ∀ (c:Code) (p:Nat),Sub root p c->codeOk N c=true->abD P N c (o3 P cfg aR L f c p)
 | .skip,p,_,_=>by
  intro k r t A E B ρ base a w Q h ht hj hq;exact wp_skip (hq .normal t E A B ρ a w h ht rfl (.refl hj.k hj.s))
 | .ret,p,_,_=>by
  intro k r t A E B ρ base a w Q h ht hj hq;exact wp_ret (hq .ret t E A B ρ a w h ht rfl (.refl hj.k hj.s))
 | .exit id,p,_,_=>by
  intro k r t A E B ρ base a w Q h ht hj hq;exact wp_exit (hq (.exit id) t E A B ρ a w h ht rfl (.refl hj.k hj.s))
 | .label l,p,_,_=>by
  intro k r t A E B ρ base a w Q h ht hj hq;exact wp_label (hq .normal t E A B ρ a w h ht rfl (.refl hj.k hj.s))
 | .goto l,p,_,_=>by
  intro k r t A E B ρ base a w Q h ht hj hq;exact wp_goto (hq (.goto l) t E A B ρ a w h ht rfl (.refl hj.k hj.s))
 | .region id ops false,p,_,hc=>by
  intro k r t A E B ρ base a w Q h ht hj hq;have h:YL P cfg aR ops.toList (fun t A=>k .normal t A) ops.toList t A=some r:=h;refine wp_region ?_;have:=P2 (Q:=Q) (base:=base) eW ug (N:=N) (all:=ops.toList) hc ops.toList 0 t E A B ρ a w (by simp) h ht hj fun t' E' A' B' aF a' w' h1 h2 h3 h4=>hq .normal t' E' A' B' aF a' w' h1 h2 h3 h4;rw [List.range_eq_range'];simpa using this
 | .region id ops true,p,_,hc=>by
  intro k r t A E B ρ base a w Q h ht hj hq;have h:aaY P cfg aR ops.toList true (fun t A=>k .normal t A) t A=some r:=h;unfold aaY at h;cases ho:agb P cfg ops.toList with
  | false=>
   rw [ho] at h;cases hcr:Nz P cfg ops.toList with
   | true=>
    rw [hcr] at h;exact afc (all:=ops.toList) eW ug hm hc hcr h ht hj fun t' E' A' B' aF a' w' h1 h2 h3 h4=>hq .normal t' E' A' B' aF a' w' h1 h2 h3 h4
   | false=>
    rw [hcr] at h;cases hb:U5 P cfg ops.toList with
    | false=>rw [hb] at h; exact absurd h (by simp)
    | true=>
     rw [hb] at h;exact agK (all:=ops.toList) eW hm hc hb h ht hj fun t' E' A' B' aF a' w' h1 h2 h3 h4=>hq .normal t' E' A' B' aF a' w' h1 h2 h3 h4
  | true=>
   rw [ho] at h;exact adg (all:=ops.toList) eW hm hc ho h ht hj fun t' E' A' B' aF a' w' h1 h2 h3 h4=>hq .normal t' E' A' B' aF a' w' h1 h2 h3 h4
 | .seq x y,p,hs,hc=>by
  simp only [codeOk,ao] at hc;intro k r t A E B ρ base a w Q h ht hj hq;have h:o3 P cfg aR L f x (2 * p) (Tw k fun t A=>o3 P cfg aR L f y (2 * p+1) k t A) t A=some r:=h;refine wp_seq ?_;refine iw eW ug hm iH x (2 * p) hs.ao0 hc.1 _ r t A E B ρ base a w _ h ht hj fun e t' E' A' B' aF a' w' h1 h2 h3 h4=>?_;cases e with
  | normal=>
   have h1:o3 P cfg aR L f y (2 * p+1) k t' A' = some r:=h1;exact iw eW ug hm iH y (2 * p+1) hs.akh hc.2 k r t' A' E' B' aF base a' w' Q h1 h2 h4.kj fun e t'' H6 A'' Jc vv TK HQ q1 q2 q3 q4=>hq e t'' H6 A'' Jc vv TK HQ q1 q2 (q3.trans h3) (h4.trans q4)
  | exit id=>exact hq (.exit id) t' E' A' B' aF a' w' h1 h2 h3 h4
  | goto l=>exact hq (.goto l) t' E' A' B' aF a' w' h1 h2 h3 h4
  | ret=>exact hq .ret t' E' A' B' aF a' w' h1 h2 h3 h4
 | .cond c x y,p,hs,hc=>by
  simp only [codeOk,ao] at hc;intro k r t A E B ρ base a w Q h ht hj hq;have h:aeO t c (fun t=>o3 P cfg aR L f x (2 * p) k t A) (fun t=>o3 P cfg aR L f y (2 * p+1) k t A)=some r:=h;have key:∃ t',(∀ i,t'.get i=t.get i)/\((a.eval c = .bool true/\o3 P cfg aR L f x (2 * p) k t' A=some r)\/(a.eval c = .bool false/\o3 P cfg aR L f y (2 * p+1) k t' A=some r)):=by
   have sD:=ht.ev c;cases c with
   | tmp d=>
    have h:BK.rec (motive:=fun _=>Option R) (fun b=>Bool.rec (motive:=fun _=>Option R) (o3 P cfg aR L f y (2 * p+1) k (t.set (.bool false) d) A) (o3 P cfg aR L f x (2 * p) k (t.set (.bool true) d) A) b) none none (yr ((t.get d).getD .bh))=some r:=h;cases hb:yr ((t.get d).getD .bh) with
    | no=>rw [hb] at h; exact absurd h (by simp)
    | kL=>rw [hb] at h; exact absurd h (by simp)
    | bool b=>
     rw [hb] at h;have hbv:=F5 hb;have sD:VC P E ρ ((t.get d).getD .bh) (a.eval (.tmp d)):=sD;rw [hbv] at sD;have:=sD.eK;refine ⟨t.set (.bool b) d,NP hb,?_⟩;cases b
     ·exact .inr ⟨this,h⟩
     ·exact .inl ⟨this,h⟩
   | const v=>
    have h:BK.rec (motive:=fun _=>Option R) (fun b=>Bool.rec (motive:=fun _=>Option R) (o3 P cfg aR L f y (2 * p+1) k t A) (o3 P cfg aR L f x (2 * p) k t A) b) none none (yr (gD t (.const v)))=some r:=h;cases hb:yr (gD t (.const v)) with
    | no=>rw [hb] at h; exact absurd h (by simp)
    | kL=>rw [hb] at h; exact absurd h (by simp)
    | bool b=>
     rw [hb] at h;rw [F5 hb] at sD;have:=sD.eK;refine ⟨t,fun _=>rfl,?_⟩;cases b
     ·exact .inr ⟨this,h⟩
     ·exact .inl ⟨this,h⟩
   | global g=>exact absurd h (by simp [aeO,gD,yr])
   | func g=>exact absurd h (by simp [aeO,gD,yr])
  obtain ⟨t',Lq,h⟩:=key;have ht':=ht.same Lq;rcases h with ⟨hb,h⟩ | ⟨hb,h⟩
  ·exact wp_cond_true hb (iw eW ug hm iH x (2 * p) hs.amP hc.1 k r t' A E B ρ base a w Q h ht' hj hq)
  ·exact wp_cond_false hb (iw eW ug hm iH y (2 * p+1) hs.amQ hc.2 k r t' A E B ρ base a w Q h ht' hj hq)
 | .block id x,p,hs,hc=>by
  have hc:codeOk N x=true:=hc;intro k r t A E B ρ base a w Q h ht hj hq;have h:o3 P cfg aR L f x (2 * p) (ajX id k) t A=some r:=h;refine wp_block ?_;refine iw eW ug hm iH x (2 * p) hs.block hc _ r t A E B ρ base a w _ h ht hj fun e t' E' A' B' aF a' w' h1 h2 h3 h4=>?_;cases e with
  | normal=>exact hq .normal t' E' A' B' aF a' w' h1 h2 h3 h4
  | exit id'=>
   have h1:Bool.rec (motive:=fun _=>Option R) (k (.exit id') t' A') (k .normal t' A') (Nat.beq id' id)=some r:=h1;cases hb:Nat.beq id' id with
   | true=>
    rw [hb] at h1;have:=aL hb;simp only [ah.out,Exit.inBlock,aD this];exact hq .normal t' E' A' B' aF a' w' h1 h2 h3 h4
   | false=>
    rw [hb] at h1;have:=Nat.ne_of_beq_eq_false hb;simp only [ah.out,Exit.inBlock,aa this];exact hq (.exit id') t' E' A' B' aF a' w' h1 h2 h3 h4
  | goto l=>exact hq (.goto l) t' E' A' B' aF a' w' h1 h2 h3 h4
  | ret=>exact hq .ret t' E' A' B' aF a' w' h1 h2 h3 h4
 | .loop x,p,hs,hc=>by
  have hc:codeOk N x=true:=hc;intro k r t A E B ρ base a w Q h ht hj hq;have h:Option.rec (motive:=fun _=>bf->ae->Option R) (Xm (o3 P cfg aR L f x (2 * p)) k L) (fun F=>Xo (o3 P cfg aR L f x (2 * p)) F k L) (cfg.lp f p) t A=some r:=h;cases hF:cfg.lp f p with
  | some F=>
   rw [hF] at h;exact wp_loop_rounds (gx+L) (Vv (iw eW ug hm iH x (2 * p) hs.loop hc) (iH.1 p F x hF hs N hc) L k r t A E B ρ base a w Q h ht hj hq)
  | none=>
   rw [hF] at h;exact wp_loop_rounds L (Vu (iw eW ug hm iH x (2 * p) hs.loop hc) L k r t A E B ρ base a w Q h ht hj hq)
 | .scope x,p,hs,hc=>by
  have hc:codeOk N x=true:=hc;intro k r t A E B ρ base a w Q h ht hj hq;have h:Option.rec (motive:=fun _=>bf->ae->Option R) (o3 P cfg aR L f x (2 * p) (aaZ k)) (fun F=>o3 P cfg aR L f x (2 * p) (aeP (Kz x) F k)) (cfg.lp f p) t A=some r:=h;cases hF:cfg.lp f p with
  | none=>
   rw [hF] at h;refine wp_scope_straight ?_;refine iw eW ug hm iH x (2 * p) hs.scope hc _ r t A E B ρ base a w _ h ht hj fun e t' E' A' B' aF a' w' h1 h2 h3 h4=>?_;cases e with
   | normal=>exact hq .normal t' E' A' B' aF a' w' h1 h2 h3 h4
   | exit id=>exact hq (.exit id) t' E' A' B' aF a' w' h1 h2 h3 h4
   | goto l=>exact absurd h1 (by simp [aaZ])
   | ret=>exact hq .ret t' E' A' B' aF a' w' h1 h2 h3 h4
  | some F=>
   rw [hF] at h;have h:o3 P cfg aR L f x (2 * p) (aeP (Kz x) F k) t A=some r:=h;cases hl:Kz x with
   | none=>
    refine wp_scope_straight ?_;refine iw eW ug hm iH x (2 * p) hs.scope hc _ r t A E B ρ base a w _ h ht hj fun e t' E' A' B' aF a' w' h1 h2 h3 h4=>?_;rw [hl] at h1;cases e with
    | normal=>exact hq .normal t' E' A' B' aF a' w' h1 h2 h3 h4
    | exit id=>exact hq (.exit id) t' E' A' B' aF a' w' h1 h2 h3 h4
    | goto l=>exact absurd h1 (by simp [aeP])
    | ret=>exact hq .ret t' E' A' B' aF a' w' h1 h2 h3 h4
   | some l=>
    obtain ⟨rest,Ki,apH⟩:=iH.2 p F x hF hs N hc l hl;refine afd Ki ?_;refine iw eW ug hm iH x (2 * p) hs.scope hc _ r t A E B ρ base a w _ h ht hj fun e t' E' A' B' aF a' w' h1 h2 h3 h4=>?_;rw [hl] at h1;cases e with
    | normal=>exact hq .normal t' E' A' B' aF a' w' h1 h2 h3 h4
    | exit id=>exact hq (.exit id) t' E' A' B' aF a' w' h1 h2 h3 h4
    | goto l'=>
     have hx:Bool.rec (motive:=fun _=>Option R) none (wG.run (Xn k) (F t' A')) (Nat.beq l' l)=some r:=h1;cases hb:Nat.beq l' l with
     | false=>rw [hb] at hx; exact absurd hx (by simp)
     | true=>
      rw [hb] at hx;have hll:=aL hb;subst hll;have hx:wG.run (Xn k) (F t' A')=some r:=hx;refine ⟨rfl,apH R k r t' A' E' B' aF base a' w' Q hx h2 h4.kj fun e2 t2 E2 A2 B2 xC a2 w2 q1 q2 q3 q4=>?_⟩;exact hq e2 t2 E2 A2 B2 xC a2 w2 q1 q2 (q3.trans h3) (h4.trans q4)
    | ret=>exact hq .ret t' E' A' B' aF a' w' h1 h2 h3 h4
 | .rangeFunc ..,p,_,_ | .refuse _,p,_,_=>by
  intro k r t A E B ρ base a w Q h ht hj hq;exact absurd h (by simp [o3])
end
theorem Ji:∀ (l:List KV) (i k:Nat) (t:bf),(o4 l i t).get k=if i<=k/\k < i+l.length then l[k - i]? else t.get k
 | [],i,k,t=>by
  rw [o4,aa];simp
 | v::l,i,k,t=>by
  rw [o4,Ji l (i+1) k,Trie.oX];by_cases h1:k=i
  ·subst h1
   rw [aa (by omega),aD rfl,aD (by simp)];simp
  ·by_cases h2:i+1<=k/\k < i+1+l.length
   ·rw [aD h2,aD (by simp; omega),show k - i=(k - (i+1))+1 by omega]
    simp
   ·rw [aa h2,aa h1,aa (by simp; omega)]
theorem GH {A:ae} {B:St} {base N:Nat} {w:World} {ρ:Ren} {t:bf} {a:Act} (hj:KJ P E A B ρ base w) (ht:iZ P E ρ t N a):∀ (rs:List ResultVar) (vs:List KV),Mx P A t rs=some vs->
  ∃ b7,rU P E ρ vs b7/\(rs.mapM (Z7 a)).run P w=Result.ok b7 w
 | [],vs,h=>by simp [Mx] at h; subst h; exact ⟨[],⟨[],.nil,.nil⟩,by simp⟩
 | .tmp x::rs,vs,h=>by
  simp only [Mx] at h;obtain ⟨us,hu,rfl⟩:=cj.1 h;obtain ⟨us',⟨m,h1,h3⟩,h2⟩:=GH hj ht rs us hu;obtain ⟨u,h4,h5⟩:=ht.ev (.tmp x);refine ⟨_::us',⟨u::m,.cons h4 h1,.cons h5 h3⟩,?_⟩;simp [List.mapM_cons,h2,Act.eval,Z7]
 | .cell x ty::rs,vs,h=>by
  simp only [Mx] at h;split at h
  ·rename_i v hv
   obtain ⟨us,hu,rfl⟩:=cj.1 h;obtain ⟨us',⟨m,h1,h3⟩,h2⟩:=GH hj ht rs us hu;obtain ⟨u,h4,h5⟩:=ht.ev (.tmp x);have hg:aI (AJ P ty A [gD t (.tmp x)]) v:=by rw [hv]; exact rfl
   obtain ⟨z,h6,h7⟩:=agn E A B _ _ v hj.k (.cons h4 .nil) hg;have h6:loadAt P ty B u=some z:=h6;obtain ⟨ad,h8,z',h9,px⟩:=Si (P:=P) hj.s.rel h5 h6;refine ⟨z'::us',⟨z::m,.cons h7 h1,.cons h9 h3⟩,?_⟩;have h8:a.tmps.getD x undef = .pointer (some ad):=h8;simp only [List.mapM_cons,Sem.run_bind,Z7,h8,asAddr,Sem.run_pure,ir,px,h2]
  ·simp at h
theorem Qd {ρ:Ren} {vs:List KV} {b7:List Value} (h:rU P E ρ vs b7):VC P E ρ (I2 vs) (if h:b7.toArray.size=1 then b7.toArray[0] else .tuple b7.toArray):=by
 obtain ⟨m,h1,h2⟩:=h
 match vs with
 | []=>
  rw [h1.b6] at h2;rw [h2.b6];exact ⟨_,.Xq .nil,VR.mkTuple .nil⟩
 | [v]=>
  obtain ⟨u,rfl,h3⟩:=h1.ee;obtain ⟨y,ys,rfl,h4,h5⟩:=h2.cons_inv;rw [h5.b6];exact ⟨u,h3,h4⟩
 | v::v2::vs=>
  obtain ⟨u,us,rfl,h3,h4⟩:=h1.cons_inv;obtain ⟨u2,us2,rfl,h5,h6⟩:=h4.cons_inv;obtain ⟨y,ys,rfl,h7,h8⟩:=h2.cons_inv;obtain ⟨y2,ys2,rfl,h9,px⟩:=h8.cons_inv;rw [dif_neg (by simp)];exact ⟨_,.Xq (.cons h3 (.cons h5 h6)),VR.mkTuple (.cons h7 (.cons h9 px))⟩
def afe (vs:List Value):Value:=if h:vs.toArray.size=1 then vs.toArray[0] else .tuple vs.toArray
theorem NV {R:Type} {cfg:dF} {aR:kz R} (eW:rD P cfg.pc) (ug:I9 P aR) (hm:P.follows .mixedOrders=true) (L:Nat) {f:FuncId} {fn:Func} {c:Code} (hf:P.funcs[f]? = some fn) (hb:fn.body=some c) (cI:codeOk fn.ntmps c=true) (iH:aki P cfg f c)
  {args:List KV} {A:ae} {k:List KV->ae->Option R} {r:R} (h:o3 P cfg aR L f c 1 (agc P fn k) (o4 args 0 .leaf) A=some r) {E:Env} {B:St} {ρ:Ren} {dY:List Value} {base:Nat} {w:World} (hv:rU P E ρ args dY) (hj:KJ P E A B ρ base w) :
  Calls P f dY.toArray w fun e w'=>∃ vs b7 E' A' B' aF,e = .returned (afe b7)/\rU P E' aF vs b7/\Ev P base E A B ρ w E' A' B' aF w'/\k vs A' = some r:=by
 refine calls_of_wp hf hb ?_;obtain ⟨aiK,RP,Ti⟩:=hv;have hlen:dY.length=args.length:=by rw [Ti.length,RP.length]
 have ht:iZ P E ρ (o4 args 0 .leaf) (max fn.ntmps args.length) { tmps:=dY.toArray++Array.replicate (fn.ntmps - dY.toArray.size) undef,defers:=[] }:=by
  have dT:(dY.toArray++Array.replicate (fn.ntmps - dY.toArray.size) undef).size=max fn.ntmps args.length:=by
   simp [hlen];omega
  refine ⟨dT,fun i=>?_,fun i hi=>?_⟩
  ·rw [Ji]
   simp only [r6,true_and,bd,Nat.sub_zero,Trie.Rc];by_cases hi:i < args.length
   ·rw [aD hi]
    obtain ⟨u,hu⟩:∃ u,args[i]? = some u:=⟨_,cJ hi⟩
    obtain ⟨m,h1,h2⟩:=RP.get hu;obtain ⟨u',h3,h4⟩:=Ti.get h1;rw [hu];have:(dY.toArray++Array.replicate (fn.ntmps - dY.toArray.size) undef).getD i undef=u':=by
     rw [kY,Array.getElem?_append_left (by simpa [hlen] using hi)];simp [h3]
    rw [this];exact ⟨m,h2,h4⟩
   ·rw [aa hi]
    exact VC.bh
  ·rw [Ji,aa,Trie.Rc]
   simp only [r6,true_and,bd];have:=Nat.le_max_right fn.ntmps args.length;omega
 have adN:codeOk (max fn.ntmps args.length) c=true:=mq (Nat.le_max_left _ _) c cI;refine iw (L:=L) (f:=f) (N:=max fn.ntmps args.length) eW ug hm iH c 1 .root adN _ r _ A E B ρ base _ w _ h ht hj fun e t' E' A' B' aF a' w' h1 h2 h3 h4=>?_;have fin:∀ vs,Mx P A' t' fn.results.toList=some vs->k vs A' = some r->∀ e:ah,(e = .normal\/e = .ret)->bodyPost P fn (fun e w'=>∃ vs b7 E' A' B' aF,e = .returned (afe b7)/\rU P E' aF vs b7/\Ev P base E A B ρ w E' A' B' aF w'/\k vs A' = some r) e.out a' w':=by
  intro vs hr hk e he;obtain ⟨b7,hvs,lI⟩:=GH (P:=P) h4.kj h2 _ _ hr;have agQ:(results fn a'.tmps).run P w' = .ok (if h:b7.toArray.size=1 then b7.toArray[0] else .tuple b7.toArray) w':=by
   rw [YI,Sem.run_bind,Array.mapM_eq_mapM_toList,Sem.run_map,lI];rfl
  have abF:bodyPost P fn (fun e w'=>∃ vs b7 E' A' B' aF,e = .returned (afe b7)/\rU P E' aF vs b7/\Ev P base E A B ρ w E' A' B' aF w'/\k vs A' = some r) .ret a' w':=by
   exact ⟨h3,_,agQ,vs,b7,E',A',B',aF,rfl,hvs,h4,hk⟩
  rcases he with rfl | rfl
  ·exact abF
  ·exact abF
 cases e with
 | normal=>
  have h1:Option.rec (motive:=fun _=>Option R) none (fun vs=>k vs A') (Mx P A' t' fn.results.toList)=some r:=h1;cases hr:Mx P A' t' fn.results.toList with
  | none=>rw [hr] at h1; exact absurd h1 (by simp)
  | some vs=>rw [hr] at h1; exact fin vs hr h1 .normal (.inl rfl)
 | ret=>
  have h1:Option.rec (motive:=fun _=>Option R) none (fun vs=>k vs A') (Mx P A' t' fn.results.toList)=some r:=h1;cases hr:Mx P A' t' fn.results.toList with
  | none=>rw [hr] at h1; exact absurd h1 (by simp)
  | some vs=>rw [hr] at h1; exact fin vs hr h1 .ret (.inr rfl)
 | exit id=>exact absurd h1 (by simp [agc])
 | goto l=>exact absurd h1 (by simp [agc])
end Go.K
end
section
namespace Go.K
open Go Go.aG
variable {P:Program} {E:Env}
def adS (P:Program) (ac:FuncId->Option (List KV->ae->yq)):Prop:=∀ g F,ac g=some F->∀ {R:Type} (args:List KV) (A:ae) (k:KV->ae->Option R) (r:R),yq.run k (F args A)=some r->x9 P g/\
 ∀ (E:Env) (B:St) (ρ:Ren) (base:Nat) (w:World) (dY:List Value),rU P E ρ args dY->KJ P E A B ρ base w->
  Calls P g dY.toArray w fun e w'=>∃ v v' E' A' B' aF,e = .returned v'/\VC P E' aF v v'/\Ev P base E A B ρ w E' A' B' aF w'/\k v A' = some r
theorem adS.none {P:Program} : adS P fun _=>.none:=fun g F h=>by simp at h
def vK (P:Program) (cfg:dF):Prop:=adS P cfg.x.ac/\∀ f fn c,P.funcs[f]? = some fn->fn.body=some c->aki P cfg f c
theorem Qe {R:Type} {cfg:dF} {aR:kz R} {L:Nat} {f:FuncId} {args:List KV} {A:ae} {k:List KV->ae->Option R} {r:R} (hP:P.funcs.toList.all kG=true) (h:Xp P cfg aR L f args A k=some r) :
  ∃ fn c, P.funcs[f]? = some fn ∧ fn.body = some c ∧ codeOk fn.ntmps c = true ∧ (fn.name == "runtime.NumGoroutine") = false ∧ o3 P cfg aR L f c 1 (agc P fn k) (o4 args 0 .leaf) A = some r := by
 unfold Xp at h;split at h
 ·rename_i fn hf
  split at h
  ·rename_i c hc
   have hf' : P.funcs[f]? = some fn:=by simpa using hf
   have cI:=fk.1 hP fn (gu hf);unfold kG at cI;rw [hc] at cI;simp only [ao,ma] at cI;exact ⟨fn,c,hf',hc,cI.1,cI.2,h⟩
  ·simp at h
 ·simp at h
theorem uK {R:Type} {cfg:dF} (hP:P.funcs.toList.all kG=true) (hm:P.follows .mixedOrders=true) (eW:rD P cfg.pc) (iH:vK P cfg) (L:Nat):∀ n,I9 (R:=R) P (HX P cfg L n)
 | 0=>fun f args A k r h=>absurd h (by simp [HX])
 | n+1=>fun f args A k r h=>by
  have h:Bool.rec (motive:=fun _=>Option R) none (Option.rec (motive:=fun _=>Option R) (Xp P cfg (HX P cfg L n) L f args A fun vs B=>k (I2 vs) B) (fun F=>yq.run k (F args A)) (cfg.x.ac f)) (Nat.blt f yB)=some r:=h;cases hy:Nat.blt f yB with
  | false=>rw [hy] at h; exact absurd h (by simp)
  | true=>
   rw [hy] at h;cases hac:cfg.x.ac f with
   | some F=>
    rw [hac] at h;exact iH.1 f F hac args A k r h
   | none=>
    rw [hac] at h;have h:Xp P cfg (HX P cfg L n) L f args A (fun vs B=>k (I2 vs) B)=some r:=h;obtain ⟨fn,c,hf,hc,cI,hnm,h⟩:=Qe hP h;refine ⟨⟨hy,fn,hf,by simp [hc],hnm⟩,fun E B ρ base w dY hv hj=>?_⟩;refine (NV eW (uK hP hm eW iH L n) hm L hf hc cI (iH.2 f fn c hf hc) h hv hj).mono ?_;rintro e w' ⟨vs,b7,E',A',B',aF,rfl,h1,h2,h3⟩;exact ⟨I2 vs,_,E',A',B',aF,rfl,Qd h1,h2,h3⟩
def ZF (E E0:Env):Prop:=∀ b r,E.z b=some r->∃ r0,E0.z b=some r0/\r0.bp=r.bp/\r0.cs=r.cs
theorem ZF.of {E E0:Env} (h:E0.z=E.z):ZF E E0:=fun b r e=>⟨r,by rw [h]; exact e,rfl,rfl⟩
mutual
theorem VK.zK {E0:Env} (hz:ZF E E0):∀ {v:KV} {u:Value} {c:CK},VK P E v u->kindOk c v=true->VK P E0 v u
 | .int k n,u,c,h,_=>h
 | .bool b,u,c,h,_=>h
 | .str s,u,c,h,_=>h
 | .ts T m n es acc,u,c,h,hk=>by
  cases c <;> simp [kindOk] at hk;rename_i t;cases m <;> simp at hk;obtain ⟨ht,bo,h1,a,cap,rfl,h2,h3,h4⟩:=h.lh;simp only [VK];refine ⟨ht,bo,aV.zEs hz h1 ht.typed,a,cap,rfl,h2,?_,trivial⟩;refine h3.imp id ?_;rintro ⟨b,off,r,e1,e2,e3⟩;obtain ⟨r0,q1,q2,q3⟩:=hz b r e2;exact ⟨b,off,r0,e1,q1,by rw [q2]; exact e3.1,by rw [q3]; exact e3.2⟩
 | .agg cs,u,c,h,hk=>by cases c <;> simp [kindOk] at hk
 | .kL cs,u,c,h,hk=>by cases c <;> simp [kindOk] at hk
 | .tp T Tc i k es acc,u,c,h,hk=>by cases c <;> simp [kindOk] at hk
 | .al T b o n,u,c,h,hk=>by cases c <;> simp [kindOk] at hk
 | .ap T Tc b i k,u,c,h,hk=>by cases c <;> simp [kindOk] at hk
 | .ptr b off,u,c,h,hk=>by cases c <;> simp [kindOk] at hk
 | .sl b off n cap,u,c,h,hk=>by cases c <;> simp [kindOk] at hk
 | .Hl,u,c,h,hk=>by cases c <;> simp [kindOk] at hk
 | .ky,u,c,h,hk=>by cases c <;> simp [kindOk] at hk
 | .Dk,u,c,h,hk=>by cases c <;> simp [kindOk] at hk
 | .map b,u,c,h,hk=>by cases c <;> simp [kindOk] at hk
 | .fn f a b,u,c,h,hk=>by cases c <;> simp [kindOk] at hk
 | .IZ,u,c,h,hk=>by cases c <;> simp [kindOk] at hk
 | .iface t x,u,c,h,hk=>by cases c <;> simp [kindOk] at hk
 | .I0,u,c,h,hk=>by cases c <;> simp [kindOk] at hk
 | .bh,u,c,h,hk=>by cases c <;> simp [kindOk] at hk
theorem VK.zE {E0:Env} (hz:ZF E E0):∀ {v:KV} {u:Value} {l:Lay},VK P E v u->cv l v=true->VK P E0 v u
 | .int k n,u,l,h,_=>h
 | .bool b,u,l,h,_=>h
 | .str s,u,l,h,_=>h
 | .agg cs,u,l,h,hk=>by
  simp only [cv,ao] at hk;obtain ⟨m,rfl,h1⟩:=h.kQ;exact .rR (aV.zKs hz h1 hk.2)
 | .ts T m n es acc,u,l,h,hk=>by
  have mO:∃ c,kindOk c (.ts T m n es acc)=true:=by
   simp only [cv,ao] at hk;cases qL:l.ks with
   | nil=>rw [qL] at hk; simp [aE] at hk
   | cons c cs=>rw [qL] at hk; simp only [aE,ao] at hk; exact ⟨c,hk.2.1⟩
  obtain ⟨c,hk⟩:=mO;cases c <;> simp [kindOk] at hk;rename_i t;cases m <;> simp at hk;obtain ⟨ht,bo,h1,a,cap,rfl,h2,h3,h4⟩:=h.lh;simp only [VK];refine ⟨ht,bo,aV.zEs hz h1 ht.typed,a,cap,rfl,h2,?_,trivial⟩;refine h3.imp id ?_;rintro ⟨b,off,r,e1,e2,e3⟩;obtain ⟨r0,q1,q2,q3⟩:=hz b r e2;exact ⟨b,off,r0,e1,q1,by rw [q2]; exact e3.1,by rw [q3]; exact e3.2⟩
 | .kL cs,u,l,h,hk=>by simp [cv] at hk
 | .tp T Tc i k es acc,u,l,h,hk=>by
  obtain ⟨h1,_⟩:=gq hk;cases qL:l.ks with
  | nil=>rw [qL] at h1; simp [KV.cells,aE] at h1
  | cons c cs=>rw [qL] at h1; cases c <;> simp [KV.cells,aE,kindOk] at h1
 | .al T b o n,u,l,h,hk=>by
  obtain ⟨h1,_⟩:=gq hk;cases qL:l.ks with
  | nil=>rw [qL] at h1; simp [KV.cells,aE] at h1
  | cons c cs=>rw [qL] at h1; cases c <;> simp [KV.cells,aE,kindOk] at h1
 | .ap T Tc b i k,u,l,h,hk=>by
  obtain ⟨h1,_⟩:=gq hk;cases qL:l.ks with
  | nil=>rw [qL] at h1; simp [KV.cells,aE] at h1
  | cons c cs=>rw [qL] at h1; cases c <;> simp [KV.cells,aE,kindOk] at h1
 | .ptr b off,u,l,h,hk=>by
  obtain ⟨h1,_⟩:=gq hk;cases qL:l.ks with
  | nil=>rw [qL] at h1; simp [KV.cells,aE] at h1
  | cons c cs=>rw [qL] at h1; cases c <;> simp [KV.cells,aE,kindOk] at h1
 | .sl b off n cap,u,l,h,hk=>by
  obtain ⟨h1,_⟩:=gq hk;cases qL:l.ks with
  | nil=>rw [qL] at h1; simp [KV.cells,aE] at h1
  | cons c cs=>rw [qL] at h1; cases c <;> simp [KV.cells,aE,kindOk] at h1
 | .Hl,u,l,h,hk=>h
 | .ky,u,l,h,hk=>h
 | .Dk,u,l,h,hk=>h
 | .map b,u,l,h,hk=>by
  obtain ⟨h1,_⟩:=gq hk;cases qL:l.ks with
  | nil=>rw [qL] at h1; simp [KV.cells,aE] at h1
  | cons c cs=>rw [qL] at h1; cases c <;> simp [KV.cells,aE,kindOk] at h1
 | .fn f a b,u,l,h,hk=>by
  obtain ⟨h1,_⟩:=gq hk;cases qL:l.ks with
  | nil=>rw [qL] at h1; simp [KV.cells,aE] at h1
  | cons c cs=>rw [qL] at h1; cases c <;> simp [KV.cells,aE,kindOk] at h1
 | .IZ,u,l,h,hk=>h
 | .iface t x,u,l,h,hk=>by
  obtain ⟨h1,_⟩:=gq hk;cases qL:l.ks with
  | nil=>rw [qL] at h1; simp [KV.cells,aE] at h1
  | cons c cs=>rw [qL] at h1; cases c <;> simp [KV.cells,aE,kindOk] at h1
 | .I0,u,l,h,hk=>h
 | .bh,u,l,h,hk=>h
theorem aV.zKs {E0:Env} (hz:ZF E E0):∀ {vs:List KV} {us:List Value} {ks:List CK},aV P E vs us->aE ks vs=true->aV P E0 vs us
 | [],us,ks,h,_=>by rw [h.b6]; exact .nil
 | v::vs,us,[],h,hk=>by simp [aE] at hk
 | v::vs,us,c::ks,h,hk=>by
  simp only [aE,ao] at hk;simp only [aV] at h ⊢;obtain ⟨y,ys,e,h1,h2⟩:=h;exact ⟨y,ys,e,VK.zK hz h1 hk.1,aV.zKs hz h2 hk.2⟩
theorem aV.zEs {E0:Env} (hz:ZF E E0):∀ {vs:List KV} {us:List Value} {l:Lay},aV P E vs us->dJ l vs=true->aV P E0 vs us
 | [],us,l,h,_=>by rw [h.b6]; exact .nil
 | v::vs,us,l,h,hk=>by
  simp only [dJ,ao] at hk;simp only [aV] at h ⊢;obtain ⟨y,ys,e,h1,h2⟩:=h;exact ⟨y,ys,e,VK.zE hz h1 hk.1,aV.zEs hz h2 hk.2⟩
end
theorem VK.amR {E0:Env} (hz:ZF E E0) {c:CK} {v:KV} {u:Value} (h:VK P E v u):VK P E0 (K.nV c v) u:=by
 have hn:=h.nV (c:=c);cases hk:kindOk c (K.nV c v) with
 | true=>exact hn.zK hz hk
 | false=>
  have:K.nV c v = .bh:=by
   revert hk
   unfold K.nV;split
   ·intro hk; simp [kindOk] at hk
   ·rename_i t t' m n es acc
    cases hb:Nat.beq t t' with
    | false=>intro _; rfl
    | true=>intro hk; simp [kindOk] at hk
   ·cases hb:kindOk c v with
    | false=>intro _; rfl
    | true=>intro hk; rw [aj,hb] at hk; simp at hk
  rw [this];exact .vC
theorem aV.agR {E0:Env} (hz:ZF E E0):∀ {ks:List CK} {cs:List KV} {l:List Value},aV P E cs l->cs.length=ks.length->aV P E0 (K.Dl ks cs) l
 | [],[],l,h,_=>by rw [h.b6]; exact .nil
 | [],_::_,_,_,e=>by simp at e
 | _::_,[],_,_,e=>by simp at e
 | c::ks,v::cs,l,h,e=>by
  obtain ⟨y,ys,rfl,h1,h2⟩:=h.cons_inv;exact .cons (h1.amR hz) (aV.agR hz h2 (by simpa using e))
theorem VK.aoe {E0:Env} (hz:ZF E E0) {l:Lay} {v:KV} {u:Value} (h:VK P E v u):VK P E0 (K.dN l v) u:=by
 unfold K.dN;split
 ·rename_i cs
  obtain ⟨m,rfl,h1⟩:=h.kQ;cases hb:(l.agg&&Nat.beq cs.length l.ks.length) with
  | false=>exact .vC
  | true=>
   simp only [ao] at hb;exact .rR (h1.agR hz (aL hb.2))
 ·cases l.agg with
  | true=>exact .vC
  | false=>
   rw [aH];split
   ·exact h.amR hz
   ·exact .vC
theorem VK.apI {E0:Env} (hz:ZF E E0) {t:TypeId} {v:KV} {u:Value} (h:VK P E v u):VK P E0 (K.U2 P t v) u:=by
 unfold K.U2;cases hb:cv (aQ P t) (K.dN (aQ P t) v) with
 | false=>exact .vC
 | true=>exact VK.gV _ hb (h.aoe hz)
theorem aV.NW {E0:Env} (hz:ZF E E0):∀ {ts:List TypeId} {vs:List KV} {us:List Value},aV P E vs us->vs.length=ts.length->aV P E0 (normArgs P ts vs) us
 | [],[],us,h,_=>by rw [h.b6]; exact .nil
 | [],_::_,_,_,e=>by simp at e
 | _::_,[],_,_,e=>by simp at e
 | t::ts,v::vs,us,h,e=>by
  obtain ⟨y,ys,rfl,h1,h2⟩:=h.cons_inv;exact .cons (h1.apI hz) (aV.NW hz h2 (by simpa using e))
theorem Jj:∀ (ts:List TypeId) (vs:List KV),zL P ts vs=normArgs P ts vs
 | [],vs=>by cases vs <;> rfl
 | t::ts,[]=>rfl
 | t::ts,v::vs=>by simp [zL,normArgs,Jj ts vs]
theorem MG:∀ {ts:List TypeId} {vs:List KV},vs.length=ts.length->(normArgs P ts vs).length=ts.length
 | [],[],_=>rfl
 | [],_::_,e=>by simp at e
 | _::_,[],e=>by simp at e
 | t::ts,v::vs,e=>by simp [normArgs,MG (ts:=ts) (vs:=vs) (by simpa using e)]
def Env.bare (E:Env):Env:={ E with κ:=fun _=>none,φ:=fun _=>none,α:=fun _=>none }
theorem dr.bare {A:ae} {B:St} (h:dr P E A B):dr P E.bare .empty B where
 row b cs bp hb:=by simp [ae.empty,ae.get] at hb
 aP b top sz hb:=by simp [ae.empty,ae.get] at hb
 z:=h.z
 apart b x e:=by simp [Env.bare] at e
 inj b c x e:=by simp [Env.bare] at e
 gK b c g _ _ _ _ _ _ e:=by simp [Env.bare] at e
 jP b x e:=by simp [Env.bare] at e
 kR b g e:=by simp [Env.bare] at e
 live b o hb:=by simp [ae.empty,ae.get] at hb
 eV b x e:=by simp [Env.bare] at e
 lJ:=h.lJ
 iv b g e:=by simp [Env.bare] at e
 fresh:=h.fresh
 mem:=h.mem
 ar:=by
  have hn:∀ b v,¬ ae.empty.get b=some (.arr v):=fun b v hb=>by simp [ae.empty,ae.get] at hb
  exact ⟨fun b v hb=>(hn b v hb).elim,fun b v hb=>by simp [ae.empty,ae.get] at hb,fun x ⟨b,v,_,_,hb,_⟩=>(hn b v hb).elim,fun b c v u x L N L' N' hb=>(hn b v hb).elim,fun b c v u x y L N L' N' cs e own g k bP e' rC k' hb=>(hn b v hb).elim,fun b x e=>by simp [Env.bare] at e,fun b p e=>by simp [Env.bare] at e,fun b x L N e=>by simp [Env.bare] at e,fun b v x L N cs e own g k hb=>(hn b v hb).elim,fun b v hb=>(hn b v hb).elim⟩
theorem agS {x:Nat} : ¬ AR .empty E.bare x:=fun ⟨b,v,_,_,hb,_⟩=>by simp [ae.empty,ae.get] at hb
theorem agT {B:St} {g:Nat} : ¬ AF .empty E.bare B g:=fun ⟨b,v,_,_,_,_,_,_,_,hb,_⟩=>by simp [ae.empty,ae.get] at hb
theorem amS {B:St} {y:Nat} : ¬ AT .empty E.bare B y:=fun q=>q.elim agS fun ⟨_,q,_⟩=>agT q
theorem Ev.bare {base:Nat} {A A1:ae} {B B1:St} {ρ kM:Ren} {w w1:World} {E1:Env} (h:dr P E A B) (sD:Ev P base E.bare .empty B ρ w E1 A1 B1 kM w1):Ev P base E A B ρ w { E with z:=E1.z } A B1 kM w1:=by
 have hle:E.le { E with z:=E1.z }:=⟨fun _ _ e=>e,fun _ _ e=>e,sD.le.z,fun _ _ e=>e⟩
 have NX:∀ x,x < B.next->B1.get x=B.get x:=fun x hx=>sD.dR x hx (fun b e=>by simp [Env.bare] at e) amS;have mS:∀ g,g < B.next->B1.members g=B.members g:=fun g hg=>sD.o5 g hg (fun b e=>by simp [Env.bare] at e) agT;have fZ:=sD.eJ.next;have PV:∀ b r,E1.z b=some r->E.z b=some r\/B.next<=b:=fun b r e=>by
  rcases sD.ud b r e with e | e | e
  ·exact .inl e
  ·exact (agS e).elim
  ·exact .inr e
 have sq:∀ y,AR A { E with z:=E1.z } y->AR A E y:=fun y q=>q;have ao1:∀ g,AF A E B g->g < B.next:=fun g ⟨b,v,x,L,N,cs,e,own,k,h1,h2,h3⟩=>(h.ar.vD b v x L N cs e own g k h1 h2 h3).1;have LG:∀ g,AF A { E with z:=E1.z } B1 g->AF A E B g:=fun g ⟨b,v,x,L,N,cs,e,own,k,h1,h2,h3⟩=>⟨b,v,x,L,N,cs,e,own,k,h1,h2,by rw [<- NX x (h.ar.eV b x L N h2)]; exact h3⟩
 refine ⟨⟨?_,?_,sD.fY.z,?_,h.inj,h.gK,h.jP,h.kR,h.live,?_,sD.fY.lJ,?_,sD.fY.fresh,sD.fY.mem,h.ar.dR hle (fun _=>rfl) (fun _ _ e=>e) (fun _ _ e=>e) (aC _) fZ (fun x q=>NX x (h.I5 q)) PV (fun _ _ e=>.inl e) (fun b g e=>.inl ⟨b,e⟩) (fun g q=>mS g (ao1 g q)) h.mem⟩,sD.eJ,hle,aC _,fun x hx _ _=>NX x hx,fun _ _ e=>.inl e,fun b r e=>(PV b r e).imp id .inr,fun _ _ e=>.inl ⟨_,e⟩,fun g hg _ _=>mS g hg,fun y q=>.inl (sq y q),fun g q=>.inl (LG g q),sD.vE,fun y q=>.inl (q.imp (sq y) fun ⟨g,q1,q2⟩=>⟨g,LG g q1,by rw [<- mS g (ao1 g (LG g q1))]; exact q2⟩),sD.rows,fun _ e=>e⟩
 ·intro b cs bp hb
  obtain ⟨x,c,h1,h2,h3⟩:=h.row b cs bp hb;exact ⟨x,c,h1,by rw [NX x (h.eV b x h1)]; exact h2,h3.mono hle⟩
 ·intro b top sz hb
  rcases h.aP b top sz hb with h1 | ⟨g,h1,h2,h3⟩
  ·exact .inl h1
  ·have hg:=h.iv b g h1
   refine .inr ⟨g,h1,h2,fun x hx cs e own f k hr=>?_⟩;rw [mS g hg] at hx;rw [NX x (h.mem g x hx)] at hr;exact h3 x hx cs e own f k hr
 ·intro b x hb
  have hx:=h.eV b x hb;cases hz:E1.z x with
  | none=>rfl
  | some r=>
   rcases PV x r hz with e | e
   ·rw [h.apart b x hb] at e; simp at e
   ·omega
 ·intro b x hb; have:=h.eV b x hb; omega
 ·intro b g hb; have:=h.iv b g hb; omega
theorem amT {g:FuncId} {F:List KV->KR KV} (hy:Nat.blt g yB=true) (hP:P.funcs.toList.all kG=true) (hm:P.follows .mixedOrders=true)
  (h:∀ aff v,aff.length=(bT P g).length->aI (F (normArgs P (bT P g) aff)) v->∃ cfg L n,rD P cfg.pc/\vK P cfg/\EN P cfg L n g (normArgs P (bT P g) aff)=some v):bB P g F:=by
 intro args v hF hlen;obtain ⟨cfg,L,n,eW,iH,lI⟩:=h _ v hlen hF;have ug:=uK (R:=KV) hP hm eW iH L n;obtain ⟨fn,c,hf,hc,cI,hnm,lI⟩:=Qe hP lI;refine ⟨⟨hy,fn,hf,by simp [hc],hnm⟩,fun E A B ρ base w dY hv hj=>?_⟩;obtain ⟨aiK,RP,Ti⟩:=hv;have hv0:rU P E.bare ρ (normArgs P (bT P g) args) dY:=⟨aiK,aV.NW (E:=E) (E0:=E.bare) (.of rfl) RP hlen,Ti⟩
 refine (NV eW ug hm L hf hc cI (iH.2 g fn c hf hc) lI hv0 ⟨hj.k.bare,hj.s⟩).mono ?_;rintro e w' ⟨vs,b7,E0,A0,B1,kM,rfl,⟨m,h1,h1'⟩,h2,h3⟩;have h3:Bool.rec (motive:=fun _=>Option KV) none (some (I2 (zL P (vA P g) (AE A0 vs).1))) (Nat.beq vs.length (vA P g).length)=some v:=h3;obtain ⟨E1,hf1,h1⟩:=KD h2.fY h1;have sD:=Ev.bare hj.k (h2.trans (hf1.ev (.refl h2.eJ.fY)));cases hb:Nat.beq vs.length (vA P g).length with
 | false=>rw [hb] at h3; exact absurd h3 (by simp)
 | true=>
  rw [hb] at h3;have h3:some (I2 (zL P (vA P g) (AE A0 vs).1))=some v:=h3;simp only [bQ] at h3;subst h3;refine ⟨_,_,B1,kM,rfl,Qd ⟨m,?_,h1'⟩,sD⟩;rw [Jj];exact aV.NW (E:=E1) (E0:={ E with z:=E1.z }) (.of rfl) h1 ((NN A0 vs).trans (aL hb))
end Go.K
end
section
namespace Go.K
open Go Go.aG
noncomputable section
inductive CD where
 | k (c:CK)
 | lit (v:KV)
 | aP (t:TypeId)
 | arr (t:TypeId)
 | ref (w:KV)
def XG (bs:List Nat) (v:KV):KV:=
 match v with
 | .ptr j o=>.ptr (bs.getD j 0) o
 | v=>v
def BU (bs:List Nat):List KV->List KV
 | []=>[]
 | v::vs=>XG bs v::BU bs vs
def inst (bs:List Nat) (v:KV):KV:=
 match v with
 | .ptr j o=>.ptr (bs.getD j 0) o
 | .fn f first cap=>.fn f (BU bs first) (BU bs cap)
 | v=>v
def isP (nr:Nat):KV->Bool
 | .ptr j _=>Nat.blt j nr
 | _=>false
def abG (nr:Nat):List KV->Bool
 | []=>true
 | v::vs=>isP nr v&&abG nr vs
def Y2 (nr:Nat):KV->Bool
 | .ptr j _=>Nat.blt j nr
 | .fn (.func _) first cap=>abG nr first&&abG nr cap
 | _=>false
def eqP:KV->KV->Bool
 | .ptr a o,.ptr b q=>Nat.beq a b&&Nat.beq o q
 | _,_=>false
def abH:List KV->List KV->Bool
 | [],[]=>true
 | v::vs,u::us=>eqP v u&&abH vs us
 | _,_=>false
def Qf:KV->KV->Bool
 | .ptr a o,.ptr b q=>Nat.beq a b&&Nat.beq o q
 | .fn (.func f) a b,.fn (.func g) c d=>Nat.beq f g&&abH a c&&abH b d
 | _,_=>false
def za:KV->KV->Bool
 | .fn (.func f) [] [],.fn (.func g) [] []=>Nat.beq f g
 | .Hl,.Hl=>true
 | .ky,.ky=>true
 | .Dk,.Dk=>true
 | .IZ,.IZ=>true
 | .I0,.I0=>true
 | _,_=>false
def Qg (A:ae) (t:TypeId) (v:KV):KV:=
 match v with
 | .ky=>.ts t .any 0 [] qN
 | .al t' b o _=>match A.get b with
  | some (.arr (.ts t2 _ N es acc))=>cond (Nat.beq t t'&&Nat.beq t t2&&Nat.beq o 0) (.ts t .any N es acc) .bh
  | _=>.bh
 | _=>.bh
def eN (P:Program) (A:ae) (d:CD) (v:KV):KV:=
 match d with
 | .k c=>cond (kindOk c (nV c v)) (b8 P du (leaf c (nV c v))) .bh
 | .lit w=>cond (za w v) w .bh
 | .aP t=>match v with
  | .ky=>b8 P du (.ts t .any 0 [] qN)
  | .ts t' (.aP _) n es acc=>cond (Nat.beq t t') (b8 P du (.ts t .any n es acc)) .bh
  | _=>.bh
 | .arr t=>b8 P du (Qg A t v)
 | .ref w=>w
def eO (P:Program) (A:ae):List CD->List KV->List KV
 | d::ds,v::vs=>eN P A d v::eO P A ds vs
 | _,_=>[]
def jt (d:CD) (v:KV):Bool:=
 match d with
 | .k c=>kindOk c v
 | .lit w=>za w v
 | .aP t=>kindOk (.slice t) v
 | .arr t=>kindOk (.slice t) v
 | .ref w=>Qf w v
def df:List CD->List KV->Bool
 | [],[]=>true
 | d::ds,v::vs=>jt d v&&df ds vs
 | _,_=>false
structure VD where
 agg:Bool
 ks:List CD
def yN (P:Program) (A:ae) (d:VD) (v:KV):KV:=
 match v with
 | .agg cs=>cond (d.agg&&Nat.beq cs.length d.ks.length) (.agg (eO P A d.ks cs)) .bh
 | v=>cond d.agg .bh (match d.ks with
  | [c]=>eN P A c v
  | _=>.bh)
def zO (d:VD) (v:KV):Bool:=
 match v with
 | .agg cs=>d.agg&&df d.ks cs
 | v=>!d.agg&&df d.ks [v]
structure aJ where
 dD:List (Tmp×VD)
 rows:List (Tmp×List CD×Nat)
 Vw:List (Tmp×Nat×Nat)
def valOf (t:bf) (i:Tmp):KV:=(t.get i).getD .bh
def oq (P:Program) (t:bf) (A:ae):List (Tmp×VD)->List KV
 | []=>[]
 | p::ps=>yN P A p.2 (valOf t p.1)::oq P t A ps
def eP:List (Tmp×VD)->List KV->Bool
 | [],[]=>true
 | p::ps,v::vs=>zO p.2 v&&eP ps vs
 | _,_=>false
def ao2:Option KV->Option Nat
 | some (.ptr b _)=>some b
 | _=>none
def aqF (t:bf) (i:Nat):Option Nat:=
 cond (Nat.blt i 100000) (ao2 (t.get i)) (match t.get (i % 100000) with
  | some (.fn _ first cap)=>ao2 (adD (i / 100000 - 1) (first++cap))
  | _=>none)
def rowOf (t:bf) (A:ae) (p:Tmp×List CD×Nat):Option (Nat×List KV):=
 match aqF t p.1 with
 | some b=>match A.get b with
  | some (.row cs e)=>cond (Nat.beq e p.2.2&&Nat.beq cs.length p.2.1.length) (some (b,cs)) none
  | _=>none
 | _=>none
def akj (t:bf) (A:ae) (p:Tmp×List CD×Nat):Nat:=((rowOf t A p).getD (0,[])).1
def Jk (t:bf) (A:ae) (p:Tmp×List CD×Nat):List KV:=((rowOf t A p).getD (0,[])).2
def Cl (t:bf) (A:ae):List (Tmp×List CD×Nat)->List Nat
 | []=>[]
 | p::ps=>akj t A p::Cl t A ps
def LJ (P:Program) (t:bf) (A:ae):List (Tmp×List CD×Nat)->List (List KV)
 | []=>[]
 | p::ps=>eO P A p.2.1 (Jk t A p)::LJ P t A ps
def BV (P:Program) (t:bf) (A:ae):List (Tmp×List CD×Nat)->Bool
 | []=>true
 | p::ps=>(rowOf t A p).isSome&&(df p.2.1 (eO P A p.2.1 (Jk t A p))&&BV P t A ps)
def amU (v:Option KV) (b:Option Nat) (off:Nat):Bool:=
 match v,b with
 | some (.ptr b o),some b'=>Nat.beq o off&&Nat.beq b b'
 | _,_=>false
def afg (v w:Option KV):Bool:=
 match v,w with
 | some (.al T b o n),some (.al T' b' o' n')=>Nat.beq T T'&&Nat.beq b b'&&Nat.beq o o'&&Nat.beq n n'
 | _,_=>false
def GI (p:Tmp×Nat×Nat):Bool:=Nat.blt p.2.1 1000000
def Rt (t:bf) (bs:List Nat):List (Tmp×Nat×Nat)->Bool
 | []=>true
 | p::ps=>cond (GI p) (amU (t.get p.1) bs[p.2.1]? p.2.2) (afg (t.get p.1) (t.get (p.2.1 - 1000000)))&&Rt t bs ps
def zP:List Nat->Bool
 | []=>true
 | b::bs=>bs.all (fun c=>!Nat.beq b c)&&zP bs
structure FI where
 ok:Bool
 f:Option Nat
 fm:Bool
def szL (P:Program) (t:TypeId):Nat:=(aQ P t).ks.length
def wU (P:Program) (A:ae) (t:TypeId) (v:KV):FI:=
 match v with
 | .ky=>⟨true,none,true⟩
 | .ts _ (.aP f) n _ _=>match A.get f with
  | some (.aP top sz)=>⟨cond (Nat.beq sz (szL P t)) (ak top n) false,some f,true⟩
  | _=>⟨false,none,true⟩
 | _=>⟨false,none,true⟩
def LK (P:Program) (A:ae) (t:TypeId) (v:KV):FI:=
 match v with
 | .ky=>⟨Nat.ble 1 (szL P t),none,false⟩
 | .al _ b _ n=>match A.get b with
  | some (.arr (.ts _ _ N _ _))=>⟨ak N n,some b,false⟩
  | _=>⟨false,none,false⟩
 | _=>⟨false,none,false⟩
def Cm:Option hO->Bool
 | some (.aP _ _)=>true
 | _=>false
theorem adT (P:Program) (A:ae) (t:TypeId) (v:KV):(wU P A t v).fm=true:=by
 unfold wU;split
 ·rfl
 ·split <;> rfl
 ·rfl
theorem alp (P:Program) (A:ae) (t:TypeId) (v:KV):(LK P A t v).fm=false:=by
 unfold LK;split
 ·rfl
 ·split <;> rfl
 ·rfl
theorem alq {P:Program} {A:ae} {t:TypeId} {v:KV} {x:Nat} (h:(wU P A t v).f=some x):Cm (A.get x)=true:=by
 unfold wU at h;split at h
 ·simp at h
 ·split at h
  ·rename_i e; simp at h; subst h; rw [e]; rfl
  ·simp at h
 ·simp at h
def lL (P:Program) (A:ae):List CD->List KV->List FI
 | .aP t::ds,v::vs=>wU P A t v::lL P A ds vs
 | .arr t::ds,v::vs=>LK P A t v::lL P A ds vs
 | _::ds,_::vs=>lL P A ds vs
 | _,_=>[]
def EY (P:Program) (t:bf) (A:ae):List (Tmp×VD)->List FI
 | []=>[]
 | p::ps=>lL P A p.2.ks (valOf t p.1).cells++EY P t A ps
def Jl (P:Program) (t:bf) (A:ae):List (Tmp×List CD×Nat)->List FI
 | []=>[]
 | p::ps=>lL P A p.2.1 (Jk t A p)++Jl P t A ps
def XH:List FI->Bool
 | []=>true
 | x::xs=>cond (XH xs) x.ok false
def NY:List FI->List (Option Nat)
 | []=>[]
 | x::xs=>x.f::NY xs
def jF:List (Option Nat)->List Nat
 | []=>[]
 | some f::xs=>f::jF xs
 | none::xs=>jF xs
def GJ (nr:Nat) (bs:List Nat):List CD->List KV->Bool
 | .ref w::ds,v::vs=>Y2 nr w&&(Qf (inst bs w) v&&GJ nr bs ds vs)
 | _::ds,_::vs=>GJ nr bs ds vs
 | _,_=>true
def LL (nr:Nat) (bs:List Nat) (t:bf):List (Tmp×VD)->Bool
 | []=>true
 | p::ps=>GJ nr bs p.2.ks (valOf t p.1).cells&&LL nr bs t ps
def XI (nr:Nat) (bs:List Nat) (t:bf) (A:ae):List (Tmp×List CD×Nat)->Bool
 | []=>true
 | p::ps=>GJ nr bs p.2.1 (Jk t A p)&&XI nr bs t A ps
structure GR where
 ok:Bool
 bs:List Nat
 fs:List (Option Nat)
 vs:List KV
 rs:List (List KV)
def aJ.RT (S:aJ) (P:Program) (t:bf) (A:ae):List FI:=EY P t A S.dD++Jl P t A S.rows
def aJ.dn (S:aJ) (P:Program) (t:bf) (A:ae):GR:=
 ⟨cond (BV P t A S.rows&&zP (Cl t A S.rows)&&Rt t (Cl t A S.rows) S.Vw&&eP S.dD (oq P t A S.dD)&&zP (jF (NY (S.RT P t A)))&&LL S.rows.length (Cl t A S.rows) t S.dD&&XI S.rows.length (Cl t A S.rows) t A S.rows) (XH (S.RT P t A)) false,
  Cl t A S.rows,NY (S.RT P t A),oq P t A S.dD,LJ P t A S.rows⟩
def NZ (j:Nat) (v:KV):KV:=
 match v with
 | .ts t _ n es acc=>.ts t (.aP j) n es acc
 | v=>v
def Ru (j:Nat) (v:KV):KV:=
 match v with
 | .ts t _ n _ _=>.al t j 0 n
 | v=>v
def ui:List CD->Nat
 | []=>0
 | .aP _::ds=>Nat.succ (ui ds)
 | .arr _::ds=>Nat.succ (ui ds)
 | _::ds=>ui ds
def sE (j:Nat) (bs:List Nat):List CD->List KV->List KV
 | .aP _::ds,v::vs=>NZ j v::sE (Nat.succ j) bs ds vs
 | .arr _::ds,v::vs=>Ru j v::sE (Nat.succ j) bs ds vs
 | .ref w::ds,_::vs=>inst bs w::sE j bs ds vs
 | _::ds,v::vs=>v::sE j bs ds vs
 | _,_=>[]
def Y3 (j:Nat) (bs:List Nat) (d:VD) (v:KV):KV:=
 match v with
 | .agg cs=>.agg (sE j bs d.ks cs)
 | v=>match d.ks with
  | [.aP _]=>NZ j v
  | [.arr _]=>Ru j v
  | [.ref w]=>inst bs w
  | _=>v
def OM (j:Nat) (bs:List Nat):List (Tmp×VD)->List KV->List (Nat×KV)
 | p::ps,v::vs=>(p.1,Y3 j bs p.2 v)::OM (j+ui p.2.ks) bs ps vs
 | _,_=>[]
def ot:List (Tmp×VD)->Nat
 | []=>0
 | p::ps=>ui p.2.ks+ot ps
def Y4 (j:Nat) (bs:List Nat):List (Tmp×List CD×Nat)->List (List KV)->List (List KV)
 | p::ps,r::rs=>sE j bs p.2.1 r::Y4 (j+ui p.2.1) bs ps rs
 | _,_=>[]
def o8 (P:Program):List CD->List KV->List hO
 | .aP t::ds,v::vs=>.aP (lenOf v) (szL P t)::o8 P ds vs
 | .arr _::ds,v::vs=>.arr v::o8 P ds vs
 | _::ds,_::vs=>o8 P ds vs
 | _,_=>[]
def Dy (P:Program):List (Tmp×VD)->List KV->List hO
 | p::ps,v::vs=>o8 P p.2.ks v.cells++Dy P ps vs
 | _,_=>[]
def EZ (P:Program):List (Tmp×List CD×Nat)->List (List KV)->List hO
 | p::ps,r::rs=>o8 P p.2.1 r++EZ P ps rs
 | _,_=>[]
def aJ.lens (S:aJ) (P:Program) (vs:List KV) (rs:List (List KV)):List hO:=Dy P S.dD vs++EZ P S.rows rs
def zQ (bs:List Nat):List (Tmp×Nat×Nat)->List (Nat×KV)
 | []=>[]
 | p::ps=>cond (GI p) ((p.1,.ptr (bs.getD p.2.1 0) p.2.2)::zQ bs ps) (zQ bs ps)
def TU (l:List (Nat×KV)) (i:Nat):KV:=((iJ l).get i).getD .bh
def N1 (l:List (Nat×KV)):List (Tmp×Nat×Nat)->List (Nat×KV)
 | []=>[]
 | p::ps=>cond (GI p) (N1 l ps) ((p.1,TU l (p.2.1 - 1000000))::N1 l ps)
def aJ.prs (S:aJ) (fb:Nat) (bs:List Nat) (vs:List KV):List (Nat×KV):=OM fb bs S.dD vs++(zQ bs S.Vw++N1 (OM fb bs S.dD vs) S.Vw)
def aJ.tm (S:aJ) (fb:Nat) (bs:List Nat) (vs:List KV):bf:=iJ (S.prs fb bs vs)
def aJ.Jm (S:aJ) (fb:Nat) (bs:List Nat) (rs:List (List KV)):List (List KV):=Y4 (fb+ot S.dD) bs S.rows rs
def vL (A:ae):List hO->ae
 | []=>A
 | p::ps=>vL (A.new p) ps
def Cn (A:ae):List (Option Nat)->ae
 | []=>A
 | some f::fs=>Cn (A.put f .dead) fs
 | none::fs=>Cn A fs
def pn (A:ae):List Nat->List (Tmp×List CD×Nat)->List (List KV)->ae
 | b::bs,p::ps,r::rs=>pn (A.put b (.row r p.2.2)) bs ps rs
 | _,_,_=>A
def aJ.back (S:aJ) (P:Program) (bs:List Nat) (fs:List (Option Nat)) (vs:List KV) (rs:List (List KV)) (A:ae):ae:=
 vL (Cn (pn A bs S.rows (S.Jm A.next bs rs)) fs) (S.lens P vs rs)
def uj (A:ae):List (Tmp×List CD×Nat)->List (List KV)->ae
 | p::ps,r::rs=>uj (A.new (.row r p.2.2)) ps rs
 | _,_=>A
def aJ.nr (S:aJ):Nat:=S.rows.length
def upto:Nat->List Nat->List Nat
 | 0,l=>l
 | n+1,l=>upto n (n::l)
def aJ.ids (S:aJ):List Nat:=upto S.rows.length []
def aJ.mem (S:aJ) (P:Program) (vs:List KV) (rs:List (List KV)):ae:=vL (uj .empty S.rows (S.Jm S.nr S.ids rs)) (S.lens P vs rs)
def vM:List Nat->List Nat->Bool
 | [],[]=>true
 | a::arD,b::bs=>Nat.beq a b&&vM arD bs
 | _,_=>false
def FJ (P:Program) (cfg:dF) (L n:Nat) (f:FuncId) (p:Nat) (body:Code) (S:aJ) (vs:List KV) (rs:List (List KV)):Option (ah×List KV×List (List KV)):=
 o3 P cfg (HX P cfg L n) L f body (2 * p) (fun e t A=>
  Bool.rec (motive:=fun _=>Option (ah×List KV×List (List KV))) none (some (e,(S.dn P t A).vs,(S.dn P t A).rs)) (cond (vM (S.dn P t A).bs S.ids) (S.dn P t A).ok false)) (S.tm S.nr S.ids vs) (S.mem P vs rs)
def mK:ah->Bool
 | .normal=>true
 | _=>false
def vN (rd:List KV->List (List KV)->Option (ah×List KV×List (List KV))):Nat->List KV->List (List KV)->Option (ah×List KV×List (List KV))
 | 0,_,_=>none
 | n+1,vs,rs=>match rd vs rs with
  | some (e,b7,iI)=>cond (mK e) (vN rd n b7 iI) (some (e,b7,iI))
  | none=>none
inductive wV where
 | no
 | out (e:ah) (vs:List KV) (rs:List (List KV))
 | br (c:Bool) (x y:wV)
def wV.ev:wV->Option (ah×List KV×List (List KV))
 | .no=>none
 | .out e vs rs=>some (e,vs,rs)
 | .br c x y=>cond c x.ev y.ev
def wV.tell (P:Program) (S:aJ) (bs:List Nat) (fs:List (Option Nat)) (A:ae):wV->wG
 | .no=>.no
 | .out e vs rs=>.out e (S.tm A.next bs vs) (S.back P bs fs vs rs A)
 | .br c x y=>.br c (x.tell P S bs fs A) (y.tell P S bs fs A)
abbrev LFn:=List KV->List (List KV)->wV
def isExact (v:KV):Bool:=
 match v with
 | .ts _ .exact _ _ _=>true
 | _=>false
def Vx:List CD->List KV->Bool
 | .aP _::ds,v::vs=>isExact v||Vx ds vs
 | .arr _::ds,v::vs=>isExact v||Vx ds vs
 | _::ds,_::vs=>Vx ds vs
 | _,_=>false
def akk (t:bf):List (Tmp×VD)->Bool
 | []=>false
 | p::ps=>Vx p.2.ks (valOf t p.1).cells||akk t ps
def akl (t:bf) (A:ae):List (Tmp×List CD×Nat)->Bool
 | []=>false
 | p::ps=>Vx p.2.1 (Jk t A p)||akl t A ps
def aJ.amV (S:aJ) (t:bf) (A:ae):Bool:=akk t S.dD||akl t A S.rows
def Vy (P:Program) (S:aJ) (F:LFn):bf->ae->wG:=fun t A=>
 cond (S.amV t A) .once <| .br (S.dn P t A).ok ((F (S.dn P t A).vs (S.dn P t A).rs).tell P S (S.dn P t A).bs (S.dn P t A).fs A) .no
end
end Go.K
end
section
namespace Go.K
open Go Go.aG
variable {P:Program} {E:Env}
theorem adU {w v:KV} (h:za w v=true):v=w:=by
 unfold za at h;split at h <;> simp at h
 ·rename_i f g; rw [h]
 all_goals rfl
theorem aiL {w v:KV} (h:za w v=true) {E0:Env} {u:Value} (k:VK P E v u):VK P E0 v u:=by
 have:=adU h;subst this;unfold za at h;split at h <;> try (simp at h)
 ·obtain ⟨l,m,rfl,h1,h2⟩:=k.KB
  rw [h1.b6,h2.b6];exact .agh .nil .nil
 all_goals exact k
theorem VK.mix {T:TypeId} {m m' : Mk} {n:Nat} {es pt:List KV} {acc ay:Nat->KV} {u:Value} (h:VK P E (.ts T m n es acc) u) (k:VK P E (.ts T m' n pt ay) u):VK P E (.ts T m n pt ay) u:=by
 obtain ⟨_,bo,_,a,cap,rfl,h2,_,h4⟩:=h.lh;obtain ⟨ht,aqG,k1,a',aaK,e,_,k3,_⟩:=k.lh;simp only [Value.slice.injEq] at e;obtain ⟨rfl,_,rfl⟩:=e;simp only [VK];exact ⟨ht,aqG,k1,a,cap,rfl,h2,k3,h4⟩
theorem VK.swap {E0:Env} (hz:E0.z=E.z) {T:TypeId} {m m' : Mk} {n:Nat} {es:List KV} {acc:Nat->KV} {u:Value} (h:VK P E (.ts T m n es acc) u) (hm:∀ sz a cap,u = .slice a n cap->Rn E sz a n cap m->Rn E0 sz a n cap m'):VK P E0 (.ts T m' n es acc) u:=by
 obtain ⟨ht,bo,h1,a,cap,rfl,h2,h3,h4⟩:=h.lh;simp only [VK];refine ⟨ht,bo,aV.zEs (.of hz) h1 ht.typed,a,cap,rfl,h2,?_,hm _ _ _ rfl h4⟩;refine h3.imp id ?_;rintro ⟨b,off,r,e1,e2,e3⟩;exact ⟨b,off,r,e1,by rw [hz]; exact e2,e3⟩
theorem TV (t:TypeId) (m:Mk) (n:Nat) (es:List KV) (acc:Nat->KV):∃ pt ay,b8 P du (.ts t m n es acc) = .ts t .any n pt ay:=⟨_,_,rfl⟩
theorem aiM {c:CK} {v:KV} (h:kindOk c v=true):leaf c v=v:=by
 cases c <;> cases v <;> simp [kindOk] at h
 ·subst h; rfl
 ·rfl
 ·rfl
 ·rename_i t t' m n es acc
  cases m <;> simp at h;subst h; rfl
theorem VK.nCD {A:ae} {d:CD} {v:KV} {u:Value} (h:VK P E v u) (hd:∀ w,d≠.ref w) (ha:∀ t,d≠.arr t):VK P E (eN P A d v) u:=by
 cases d with
 | ref w=>exact absurd rfl (hd w)
 | arr t=>exact absurd rfl (ha t)
 | k c=>
  show VK P E (cond (kindOk c (K.nV c v)) (K.b8 P du (leaf c (K.nV c v))) .bh) u;cases hb:kindOk c (K.nV c v) with
  | false=>exact .vC
  | true=>
   rw [aj,aiM hb];exact VK.b8 _ h.nV
 | lit w=>
  show VK P E (cond (za w v) w .bh) u;cases hb:za w v with
  | true=>rw [adU hb] at h; exact h
  | false=>exact .vC
 | aP t=>
  unfold eN;cases v with
  | ky=>have:=h.pw; subst this; exact VK.b8 _ .aiv
  | ts t' m n es acc=>
   cases m with
   | aP f=>
    show VK P E (cond (Nat.beq t t') _ .bh) u;cases hb:Nat.beq t t' with
    | false=>exact .vC
    | true=>
     have:=aL hb;subst this;exact VK.b8 du h.amv
   | _=>exact .vC
  | _=>exact .vC
def Lk (E E0:Env) (f:Option Nat) (j:Nat):Prop:=∀ x g,f=some x->E.φ x=some g->E0.φ j=some g
theorem VK.akm {E0:Env} (hz:E0.z=E.z) {A:ae} {t:TypeId} {v:KV} {u:Value} {j:Nat} (h:VK P E v u) (hg:jt (.aP t) (eN P A (.aP t) v)=true) (hl:Lk E E0 (wU P A t v).f j) (cI:(wU P A t v).ok=true):VK P E0 (NZ j (eN P A (.aP t) v)) u:=by
 cases v with
 | ky=>
  have:=h.pw; subst this;have h1:VK P E (K.b8 P du (.ts t .any 0 [] qN)) (.slice none 0 0):=VK.b8 _ .aiv;obtain ⟨pt,ay,e⟩:=TV (P:=P) t .any 0 [] qN;show VK P E0 (NZ j (K.b8 P du (.ts t .any 0 [] qN))) _;rw [e] at h1 ⊢;exact h1.swap hz fun sz a cap he _=>by
   simp only [Value.slice.injEq] at he;obtain ⟨rfl,_,rfl⟩:=he;exact ⟨rfl,.inl ⟨rfl,rfl⟩⟩
 | ts t' m n es acc=>
  cases m with
  | aP f=>
   have e1:eN P A (.aP t) (.ts t' (.aP f) n es acc)=cond (Nat.beq t t') (K.b8 P du (.ts t .any n es acc)) .bh:=rfl;rw [e1] at hg ⊢;cases hb:Nat.beq t t' with
   | false=>rw [hb] at hg; simp [jt,kindOk] at hg
   | true=>
    have:=aL hb;subst this;have h1:=VK.b8 (P:=P) du h.amv;obtain ⟨pt,ay,e⟩:=TV (P:=P) t .any n es acc;rw [aj,e];rw [e] at h1;have hf:(wU P A t (.ts t (.aP f) n es acc)).f=some f:=by
     revert cI
     unfold wU;simp only;split
     ·intro _; rfl
     ·intro cI; simp at cI
    exact (h.mix h1).swap hz fun sz a cap he hm=>by
     refine ⟨hm.1,hm.2.imp id ?_⟩;rintro ⟨b,r,g,q1,q2,q3,q4,q5⟩;exact ⟨b,r,g,q1,by rw [hz]; exact q2,q3,hl f g hf q4,q5⟩
  | any=>simp [wU] at cI
  | exact=>simp [wU] at cI
 | _=>simp [wU] at cI
def La (E E0:Env) (f:Option Nat) (j:Nat):Prop:=∀ x p,f=some x->E.α x=some p->E0.α j=some p
theorem aiN:K.b8 P du .bh = .bh:=rfl
theorem XJ {A:ae} {t:TypeId} {v:KV} (hg:jt (.arr t) (eN P A (.arr t) v)=true):v = .ky\/∃ b n m N es acc,v = .al t b 0 n/\A.get b=some (.arr (.ts t m N es acc))/\eN P A (.arr t) v=K.b8 P du (.ts t .any N es acc):=by
 have hu:∀ w,w=KV.bh->jt (.arr t) (K.b8 P du w)=false:=fun w e=>by rw [e]; rfl
 have hg:jt (.arr t) (K.b8 P du (Qg A t v))=true:=hg;have e0:eN P A (.arr t) v=K.b8 P du (Qg A t v):=rfl;rw [e0];cases v with
 | ky=>exact .inl rfl
 | al t' b o n=>
  have e1:Qg A t (.al t' b o n)=(match A.get b with
   | some (.arr (.ts t2 _ N es acc))=>cond (Nat.beq t t'&&Nat.beq t t2&&Nat.beq o 0) (.ts t .any N es acc) .bh
   | _=>.bh):=rfl
  rw [e1] at hg ⊢;split at hg
  ·rename_i t2 m N es acc hb
   cases hc:(Nat.beq t t'&&Nat.beq t t2&&Nat.beq o 0) with
   | false=>rw [hc,aH,hu _ rfl] at hg; simp at hg
   | true=>
    simp only [ao] at hc;have:=aL hc.1.1;subst this;have:=aL hc.1.2;subst this;have:=aL hc.2;subst this;refine .inr ⟨b,n,m,N,es,acc,rfl,hb,?_⟩;rw [aj]
  ·rw [hu _ rfl] at hg; simp at hg
 | _=>exact absurd (hg.symm.trans (hu _ rfl)) (by simp)
theorem VK.amW {E0:Env} {A:ae} {t:TypeId} {v:KV} {u:Value} {j:Nat} (h:VK P E v u) (hg:jt (.arr t) (eN P A (.arr t) v)=true) (hl:La E E0 (LK P A t v).f j) (cI:(LK P A t v).ok=true):VK P E0 (Ru j (eN P A (.arr t) v)) u:=by
 rcases XJ hg with rfl | ⟨b,n,m,N,es,acc,rfl,hb,he⟩
 ·have:=h.pw; subst this
  exact .PN (.inl ⟨rfl,rfl,rfl⟩)
 ·obtain ⟨pt,ay,e⟩:=TV (P:=P) t .any N es acc
  rw [he,e];have hao:LK P A t (.al t b 0 n)=⟨ak N n,some b,false⟩:=by simp only [LK,hb]
  rw [hao] at cI hl;have hN:N=n:=aL cI;subst hN;show VK P E0 (.al t j 0 N) u;rcases h.yL with ⟨q1,_,q2⟩ | ⟨x,L,M,c,q1,q2⟩
  ·exact .PN (.inl ⟨q1,rfl,q2⟩)
  ·exact .PN (.inr ⟨x,L,M,c,hl b _ rfl q1,q2⟩)
theorem VK.gCD {E0:Env} (hz:E0.z=E.z) {d:CD} {v:KV} {u:Value} (h:VK P E v u) (hg:jt d v=true) (hd:∀ w,d≠.ref w):VK P E0 v u:=by
 cases d with
 | ref w=>exact absurd rfl (hd w)
 | arr t=>exact h.zK (c:=.slice t) (.of hz) hg
 | k c=>exact h.zK (.of hz) hg
 | lit w=>exact aiL hg h
 | aP t=>exact h.zK (c:=.slice t) (.of hz) hg
theorem jU {A:ae} : ∀ {ds:List CD} {vs:List KV},vs.length=ds.length->(lL P A ds vs).length=ui ds
 | [],[],_=>rfl
 | [],_::_,e=>by simp at e
 | _::_,[],e=>by simp at e
 | .k c::ds,v::vs,e=>by simp only [lL,ui]; exact jU (by simpa using e)
 | .lit w::ds,v::vs,e=>by simp only [lL,ui]; exact jU (by simpa using e)
 | .aP t::ds,v::vs,e=>by simp only [lL,ui,qT]; rw [jU (by simpa using e)]
 | .arr t::ds,v::vs,e=>by simp only [lL,ui,qT]; rw [jU (by simpa using e)]
 | .ref w::ds,v::vs,e=>by simp only [lL,ui]; exact jU (by simpa using e)
theorem aof {a b:KV} (h:eqP a b=true):a=b:=by
 unfold eqP at h;split at h
 ·simp only [ao] at h
  rw [aL h.1,aL h.2]
 ·simp at h
theorem abI:∀ {a b:List KV},abH a b=true->a=b
 | [],[],_=>rfl
 | [],_::_,h=>by simp [abH] at h
 | _::_,[],h=>by simp [abH] at h
 | x::a,y::b,h=>by
  simp only [abH,ao] at h;rw [aof h.1,abI h.2]
theorem Rv {a b:KV} (h:Qf a b=true):a=b:=by
 unfold Qf at h;split at h
 ·simp only [ao] at h
  rw [aL h.1,aL h.2]
 ·simp only [ao] at h
  rw [aL h.1.1,abI h.1.2,abI h.2]
 ·simp at h
def Rk (E E0:Env) (nr:Nat) (bs H9:List Nat):Prop:=∀ j x,j < nr->E.κ (bs.getD j 0)=some x->E0.κ (H9.getD j 0)=some x
theorem VK.XG {E0:Env} {nr:Nat} {bs H9:List Nat} (hk:Rk E E0 nr bs H9) {w:KV} {u:Value} (hw:isP nr w=true) (h:VK P E (K.XG bs w) u):VK P E0 (K.XG H9 w) u:=by
 cases w <;> simp [isP] at hw;rename_i j o;obtain ⟨x,h1,rfl⟩:=(show VK P E (.ptr (bs.getD j 0) o) u from h).ig;exact .Cg (hk j x hw h1)
theorem aV.BU {E0:Env} {nr:Nat} {bs H9:List Nat} (hk:Rk E E0 nr bs H9):∀ {ws:List KV} {us:List Value},abG nr ws=true->aV P E (K.BU bs ws) us->aV P E0 (K.BU H9 ws) us
 | [],us,_,h=>by rw [h.b6]; exact .nil
 | w::ws,us,hw,h=>by
  simp only [abG,ao] at hw;obtain ⟨y,ys,rfl,h1,h2⟩:=aV.cons_inv (show aV P E (K.XG bs w::K.BU bs ws) us from h);exact .cons (VK.XG hk hw.1 h1) (aV.BU hk hw.2 h2)
theorem VK.inst {E0:Env} {nr:Nat} {bs H9:List Nat} (hk:Rk E E0 nr bs H9) {w:KV} {u:Value} (hw:Y2 nr w=true) (h:VK P E (K.inst bs w) u):VK P E0 (K.inst H9 w) u:=by
 cases w with
 | ptr j o=>
  obtain ⟨x,h1,rfl⟩:=(show VK P E (.ptr (bs.getD j 0) o) u from h).ig;exact .Cg (hk j x (by simpa [Y2] using hw) h1)
 | fn f first cap=>
  cases f with
  | func f=>
   simp only [Y2,ao] at hw;obtain ⟨l,m,rfl,h1,h2⟩:=(show VK P E (.fn (.func f) (K.BU bs first) (K.BU bs cap)) u from h).KB;exact .agh (aV.BU hk hw.1 h1) (aV.BU hk hw.2 h2)
  | _=>simp [Y2] at hw
 | _=>simp [Y2] at hw
def po (E E0:Env) (l:List FI) (j:Nat):Prop:=∀ (i:Nat) fi,l[i]? = some fi->fi.ok=true/\(fi.fm=true->Lk E E0 fi.f (j+i))/\La E E0 fi.f (j+i)
theorem po.left {E0:Env} {l m:List FI} {j:Nat} (h:po E E0 (l++m) j):po E E0 l j:=fun i fi e=>h i fi (by rw [qS (cH.1 e).1]; exact e)
theorem po.right {E0:Env} {l m:List FI} {j:Nat} (h:po E E0 (l++m) j):po E E0 m (j+l.length):=fun i fi e=>by
 have:=h (l.length+i) fi (by rw [tS (by omega)]; simpa using e);rw [HK]; exact this
theorem po.head {E0:Env} {x:FI} {l:List FI} {j:Nat} (h:po E E0 (x::l) j):x.ok=true/\(x.fm=true->Lk E E0 x.f j)/\La E E0 x.f j:=h 0 x rfl
theorem po.tail {E0:Env} {x:FI} {l:List FI} {j:Nat} (h:po E E0 (x::l) j):po E E0 l (j+1):=fun i fi e=>by
 have:=h (i+1) fi (by simpa using e);rw [show j+1+i=j+(i+1) by omega]; exact this
theorem aV.cellsIn {E0:Env} (hz:E0.z=E.z) {A:ae} {nr:Nat} {bs H9:List Nat} (hk:Rk E E0 nr bs H9):∀ {ds:List CD} {vs:List KV} {us:List Value} {j:Nat},aV P E vs us->vs.length=ds.length->df ds (eO P A ds vs)=true->po E E0 (lL P A ds vs) j->GJ nr bs ds vs=true->aV P E0 (sE j H9 ds (eO P A ds vs)) us
 | [],[],us,j,h,_,_,_,_=>by rw [h.b6]; exact .nil
 | [],_::_,_,_,_,e,_,_,_=>by simp at e
 | _::_,[],_,_,_,e,_,_,_=>by simp at e
 | d::ds,v::vs,us,j,h,e,hg,hf,hr=>by
  simp only [eO,df,ao] at hg;obtain ⟨y,ys,rfl,h1,h2⟩:=h.cons_inv;have e' : vs.length=ds.length:=by simpa using e
  cases d with
  | k c=>exact .cons ((h1.nCD (by simp) (by simp)).gCD (d:=.k c) hz hg.1 (by simp)) (aV.cellsIn hz hk h2 e' hg.2 hf hr)
  | lit w=>exact .cons ((h1.nCD (by simp) (by simp)).gCD (d:=.lit w) hz hg.1 (by simp)) (aV.cellsIn hz hk h2 e' hg.2 hf hr)
  | aP t=>exact .cons (h1.akm hz hg.1 (hf.head.2.1 (adT ..)) hf.head.1) (aV.cellsIn hz hk h2 e' hg.2 hf.tail hr)
  | arr t=>exact .cons (h1.amW hg.1 hf.head.2.2 hf.head.1) (aV.cellsIn hz hk h2 e' hg.2 hf.tail hr)
  | ref w=>
   simp only [GJ,ao] at hr;exact .cons (VK.inst hk hr.1 (by rw [Rv hr.2.1]; exact h1)) (aV.cellsIn hz hk h2 e' hg.2 hf hr.2.2)
theorem afh {ds:List CD} {v:KV} (h:df ds [v] = true):∃ d,ds = [d]/\jt d v=true:=by
 cases ds with
 | nil=>simp [df] at h
 | cons d ds=>
  simp only [df,ao] at h;cases ds with
  | nil=>exact ⟨d,rfl,h.1⟩
  | cons e ds=>simp [df] at h
theorem Bq {d:VD} {v:KV} (h:zO d v=true):(∃ cs,v = .agg cs/\d.agg=true/\df d.ks cs=true)\/((∀ cs,v≠.agg cs)/\d.agg=false/\∃ c,d.ks = [c]/\jt c v=true):=by
 by_cases ha:∃ cs,v = .agg cs
 ·obtain ⟨cs,rfl⟩:=ha
  simp only [zO,ao] at h;exact .inl ⟨cs,rfl,h.1,h.2⟩
 ·have h:(!d.agg&&df d.ks [v])=true:=by
   cases v <;> first | exact h | exact absurd ⟨_,rfl⟩ ha
  simp only [ao,ma] at h;exact .inr ⟨fun cs e=>ha ⟨cs,e⟩,h.1,afh h.2⟩
theorem Br {A:ae} {d:VD} {v:KV} (h:zO d (yN P A d v)=true):(∃ cs,v = .agg cs/\cs.length=d.ks.length/\yN P A d v = .agg (eO P A d.ks cs)/\df d.ks (eO P A d.ks cs)=true)\/
  ((∀ cs,v≠.agg cs)/\∃ c,d.ks = [c]/\yN P A d v=eN P A c v/\jt c (eN P A c v)=true/\v.cells = [v]/\(∀ cs,eN P A c v≠.agg cs)):=by
 have amX:zO d .bh=false:=by
  cases hb:zO d .bh with
  | false=>rfl
  | true=>
   rcases Bq hb with ⟨cs,e,_⟩ | ⟨_,_,c,_,hc⟩
   ·simp at e
   ·cases c with
    | k c=>cases c <;> simp [jt,kindOk] at hc
    | lit w=>cases w <;> first | (simp [jt,za] at hc; done) | (rename_i f a b; cases f <;> cases a <;> cases b <;> simp [jt,za] at hc)
    | aP t=>simp [jt,kindOk] at hc
    | arr t=>simp [jt,kindOk] at hc
    | ref w=>
     have hc:Qf w .bh=true:=hc;have:=Rv hc;subst this;simp [Qf] at hc
 by_cases ha:∃ cs,v = .agg cs
 ·obtain ⟨cs,rfl⟩:=ha
  have e:yN P A d (.agg cs)=cond (d.agg&&Nat.beq cs.length d.ks.length) (.agg (eO P A d.ks cs)) .bh:=rfl;cases hb:(d.agg&&Nat.beq cs.length d.ks.length) with
  | false=>rw [e,hb,aH,amX] at h; simp at h
  | true=>
   rw [e,hb,aj] at h;simp only [ao] at hb;simp only [zO,ao] at h;exact .inl ⟨cs,rfl,aL hb.2,by rw [e]; simp only [hb.1,hb.2,cz,aj],h.2⟩
 ·have e:yN P A d v=cond d.agg .bh (match d.ks with | [c]=>eN P A c v | _=>.bh):=by
   cases v <;> first | rfl | exact absurd ⟨_,rfl⟩ ha
  have wN:v.cells = [v]:=by cases v <;> first | rfl | exact absurd ⟨_,rfl⟩ ha
  cases Ch:d.agg with
  | true=>rw [e,Ch,aj,amX] at h; simp at h
  | false=>
   rw [Ch,aH] at e;rw [e] at h;split at h
   ·rename_i c hc
    rw [hc] at e;simp only at e;rcases Bq h with ⟨cs,e2,h2,_⟩ | ⟨h1,_,c',h2,h3⟩
    ·rw [Ch] at h2; simp at h2
    ·rw [hc] at h2
     simp only [List.cons.injEq,and_true] at h2;subst h2;exact .inr ⟨fun cs ec=>ha ⟨cs,ec⟩,c,hc,e,h3,wN,h1⟩
   ·rw [amX] at h; simp at h
theorem F7 {A:ae} {d:VD} {v:KV} (h:zO d (yN P A d v)=true):v.cells.length=d.ks.length:=by
 rcases Br h with ⟨cs,rfl,h1,_⟩ | ⟨_,c,h1,_,_,h2,_⟩
 ·exact h1
 ·rw [h1,h2]; rfl
theorem VK.ao3 {E0:Env} (hz:E0.z=E.z) {A:ae} {nr:Nat} {bs H9:List Nat} (hk:Rk E E0 nr bs H9) {d:VD} {v:KV} {u:Value} {j:Nat} (h:VK P E v u) (hg:zO d (yN P A d v)=true) (hf:po E E0 (lL P A d.ks v.cells) j) (hr:GJ nr bs d.ks v.cells=true):VK P E0 (Y3 j H9 d (yN P A d v)) u:=by
 rcases Br hg with ⟨cs,rfl,h1,h2,h3⟩ | ⟨h0,c,h1,h2,h3,h4,h5⟩
 ·rw [h2]
  obtain ⟨l,rfl,k⟩:=h.kQ;exact .rR (aV.cellsIn hz hk k h1 h3 hf hr)
 ·rw [h2]
  have e:Y3 j H9 d (eN P A c v)=(match d.ks with | [.aP _]=>NZ j (eN P A c v) | [.arr _]=>Ru j (eN P A c v) | [.ref w]=>K.inst H9 w | _=>eN P A c v):=by
   generalize eN P A c v=w at h5;cases w <;> first | rfl | exact absurd rfl (h5 _)
  rw [e,h1];rw [h1,h4] at hf hr;cases c with
  | k c=>exact (h.nCD (by simp) (by simp)).gCD (d:=.k c) hz h3 (by simp)
  | lit w=>exact (h.nCD (by simp) (by simp)).gCD (d:=.lit w) hz h3 (by simp)
  | aP t=>exact h.akm hz h3 (hf.head.2.1 (adT ..)) hf.head.1
  | arr t=>exact h.amW h3 hf.head.2.2 hf.head.1
  | ref w=>
   simp only [GJ,ao] at hr;exact VK.inst hk hr.1 (by rw [Rv hr.2.1]; exact h)
theorem VK.Xr {A:ae} {nr:Nat} {bs:List Nat} {d:VD} {t:bf} {i:Tmp} (h:zO d (yN P A d (valOf t i))=true) (hr:GJ nr bs d.ks (valOf t i).cells=true):∃ v,t.get i=some v:=by
 cases hg:t.get i with
 | some v=>exact ⟨v,rfl⟩
 | none=>
  exfalso;have e:valOf t i = .bh:=by simp [valOf,hg]
  rw [e] at h hr;rcases Br h with ⟨cs,e2,_⟩ | ⟨_,c,qL,_,h3,_,_⟩
  ·simp at e2
  ·cases c with
   | ref w=>
    rw [qL] at hr;have hr:(Y2 nr w&&(Qf (K.inst bs w) .bh&&true))=true:=hr;simp only [ao] at hr;have h1:=hr.2.1;have:=Rv h1;rw [this] at h1;simp [Qf] at h1
   | k c=>
    have h4:kindOk c (K.nV c .bh)=false:=by cases c <;> rfl
    have h5:eN P A (.k c) .bh = .bh:=by
     show cond (kindOk c (K.nV c .bh)) (K.b8 P du (leaf c (K.nV c .bh))) KV.bh=KV.bh;rw [h4]; rfl
    rw [h5] at h3;cases c <;> simp [jt,kindOk] at h3
   | lit w=>cases w <;> first | (simp [eN,jt,za] at h3; done) | (rename_i f a b; cases f <;> cases a <;> cases b <;> simp [eN,jt,za] at h3)
   | aP t=>simp [eN,jt,kindOk] at h3
   | arr t=>exact absurd h3 (by simp [eN,Qg,aiN,jt,kindOk])
end Go.K
end
section
namespace Go.K
open Go Go.aG
variable {P:Program} {E:Env}
theorem abJ:∀ {bs:List Nat},zP bs=true->∀ (i j b:Nat),bs[i]? = some b->bs[j]? = some b->i=j
 | [],_,i,j,b,hi,_=>by simp at hi
 | a::bs,h,i,j,b,hi,hj=>by
  simp only [zP,ao,fk,ma] at h;cases i with
  | zero=>
   cases j with
   | zero=>rfl
   | succ j=>
    simp at hi hj; subst hi;have:=h.1 a (gu hj);exact absurd (tT a) (by rw [this]; simp)
  | succ i=>
   cases j with
   | zero=>
    simp at hi hj; subst hj;have:=h.1 a (gu hi);exact absurd (tT a) (by rw [this]; simp)
   | succ j=>
    simp at hi hj;rw [abJ h.2 i j b hi hj]
theorem zb:∀ {l:List (Option Nat)} {f:Nat},f∈jF l↔some f∈l
 | [],f=>by simp [jF]
 | some g::l,f=>by simp [jF,zb (l:=l)]
 | none::l,f=>by simp [jF,zb (l:=l)]
theorem zR:∀ {l:List (Option Nat)},zP (jF l)=true->∀ (i j f:Nat),l[i]? = some (some f)->l[j]? = some (some f)->i=j
 | [],_,i,j,b,hi,_=>by simp at hi
 | none::l,h,i,j,f,hi,hj=>by
  cases i with
  | zero=>simp at hi
  | succ i=>
   cases j with
   | zero=>simp at hj
   | succ j=>
    simp at hi hj;rw [zR (l:=l) h i j f hi hj]
 | some g::l,h,i,j,f,hi,hj=>by
  simp only [jF,zP,ao,fk,ma] at h;have key:∀ {k:Nat},l[k]? = some (some g)->False:=by
   intro k hk;have:=h.1 g (zb.2 (gu hk));exact absurd (tT g) (by rw [this]; simp)
  cases i with
  | zero=>
   cases j with
   | zero=>rfl
   | succ j=>
    simp at hi hj; subst hi;exact (key hj).elim
  | succ i=>
   cases j with
   | zero=>
    simp at hi hj; subst hj;exact (key hi).elim
   | succ j=>
    simp at hi hj;rw [zR (l:=l) h.2 i j f hi hj]
theorem N3:∀ {l:List FI} {i:Nat} {x:FI},l[i]? = some x->(NY l)[i]? = some x.f
 | [],_,_,h=>by simp at h
 | y::l,0,x,h=>by simp at h; subst h; rfl
 | y::l,i+1,x,h=>by simp at h; simpa [NY] using N3 h
theorem uL:∀ {l:List FI},(NY l).length=l.length
 | []=>rfl
 | y::l=>by simp [NY,uL]
theorem TW:∀ {l:List FI},XH l=true->∀ x∈l,x.ok=true
 | [],_,x,h=>by simp at h
 | y::l,h,x,hx=>by
  simp only [XH] at h;cases hl:XH l with
  | false=>rw [hl] at h; simp at h
  | true=>
   rw [hl,aj] at h;rcases de.1 hx with rfl | hx
   ·exact h
   ·exact TW hl x hx
theorem fN:∀ (l:List hO) (A:ae),(vL A l).next=A.next+l.length
 | [],_=>rfl
 | p::l,A=>by rw [vL,fN l]; simp; omega
theorem Dz:∀ {l:List hO} {A:ae} {x:Nat},x < A.next->(vL A l).get x=A.get x
 | [],_,_,_=>rfl
 | p::l,A,x,h=>by rw [vL,Dz (by simp; omega),ae.cp,aa (by omega)]
theorem Qh:∀ {l:List hO} {A:ae} {i:Nat} {p:hO},l[i]? = some p->(vL A l).get (A.next+i)=some p
 | [],_,_,_,h=>by simp at h
 | q::l,A,0,p,h=>by
  simp at h; subst h;rw [vL,yI,Dz (by simp),ae.cp,aD rfl]
 | q::l,A,i+1,p,h=>by
  simp at h;have:=Qh (A:=A.new q) h;rw [ae.bX] at this;rw [vL,show A.next+(i+1)=A.next+1+i by omega];exact this
theorem Vz:∀ {l:List hO} {A:ae} {x:Nat} {o:hO},(vL A l).get x=some o->(A.get x=some o/\x < A.next+l.length)\/(x < A.next/\A.get x=some o)\/(∃ i p,x=A.next+i/\l[i]? = some p/\o=p)\/A.get x=some o
 | [],_,_,_,h=>.inr (.inr (.inr h))
 | p::l,A,x,o,h=>by
  rw [vL] at h;have key:(A.new p).get x=some o->(∃ i q,x=A.next+i/\(p::l)[i]? = some q/\o=q)\/A.get x=some o:=by
   intro h;rw [ae.cp] at h;split at h
   ·rename_i e; simp at h; exact .inl ⟨0,p,by omega,rfl,h.symm⟩
   ·exact .inr h
  rcases Vz h with ⟨h,_⟩ | ⟨_,h⟩ | ⟨i,q,e,h1,h2⟩ | h
  ·exact .inr (.inr (key h))
  ·exact .inr (.inr (key h))
  ·exact .inr (.inr (.inl ⟨i+1,q,by rw [e]; simp; omega,by simpa using h1,h2⟩))
  ·exact .inr (.inr (key h))
theorem VA {l:List hO} {A:ae} {x:Nat} {o:hO} (h:(vL A l).get x=some o):A.get x=some o\/∃ i p,x=A.next+i/\l[i]? = some p/\o=p:=by
 rcases Vz h with ⟨h,_⟩ | ⟨_,h⟩ | h | h
 ·exact .inl h
 ·exact .inl h
 ·exact .inr h
 ·exact .inl h
theorem KK:∀ (l:List (Option Nat)) (A:ae),(Cn A l).next=A.next
 | [],_=>rfl
 | some f::l,A=>by rw [Cn,KK l]; rfl
 | none::l,A=>by rw [Cn,KK l]
theorem E4:∀ {l:List (Option Nat)} {A:ae} {x:Nat},(Cn A l).get x=if x∈jF l then some .dead else A.get x
 | [],A,x=>by simp [Cn,jF]
 | none::l,A,x=>by rw [Cn,E4,jF]
 | some f::l,A,x=>by
  rw [Cn,E4,jF,ae.bA];by_cases h1:x∈jF l
  ·rw [aD h1,aD (r7 _ h1)]
  ·rw [aa h1]
   by_cases h2:x=f
   ·rw [aD h2,aD (by simp [h2])]
   ·rw [aa h2,aa (by simp [h1,h2])]
theorem TX:∀ (bs:List Nat) (ps:List (Tmp×List CD×Nat)) (rs:List (List KV)) (A:ae),(pn A bs ps rs).next=A.next
 | [],_,_,_=>rfl
 | _::_,[],_,_=>rfl
 | _::_,_::_,[],_=>rfl
 | b::bs,p::ps,r::rs,A=>by rw [pn,TX bs ps rs]; rfl
theorem KL:∀ {bs:List Nat} {ps:List (Tmp×List CD×Nat)} {rs:List (List KV)} {A:ae} {x:Nat},x ∉ bs->(pn A bs ps rs).get x=A.get x
 | [],_,_,_,_,_=>rfl
 | _::_,[],_,_,_,_=>rfl
 | _::_,_::_,[],_,_,_=>rfl
 | b::bs,p::ps,r::rs,A,x,h=>by
  simp only [de,not_or] at h;rw [pn,KL h.2,ae.bA,aa h.1]
theorem agU:∀ {bs:List Nat} {ps:List (Tmp×List CD×Nat)} {rs:List (List KV)} {A:ae} {k b:Nat} {p:Tmp×List CD×Nat} {r:List KV},zP bs=true->bs[k]? = some b->ps[k]? = some p->rs[k]? = some r->(pn A bs ps rs).get b=some (.row r p.2.2)
 | [],_,_,_,_,_,_,_,_,h,_,_=>by simp at h
 | _::_,[],_,_,_,_,_,_,_,_,h,_=>by simp at h
 | _::_,_::_,[],_,_,_,_,_,_,_,_,h=>by simp at h
 | b::bs,p::ps,r::rs,A,k,x,p',r',hn,hb,hp,hr=>by
  have Nr:=hn;simp only [zP,ao] at hn;cases k with
  | zero=>
   simp at hb hp hr;subst hb hp hr;rw [pn,KL,ae.bA,aD rfl];intro hm;have:=fk.1 hn.1 b hm;simp at this
  | succ k=>
   simp only [M9] at hb hp hr;rw [pn];exact agU hn.2 hb hp hr
theorem adV:∀ {ps:List (Tmp×List CD×Nat)} {rs:List (List KV)} {A:ae},rs.length=ps.length->(uj A ps rs).next=A.next+ps.length
 | [],[],_,_=>rfl
 | [],_::_,_,h=>by simp at h
 | _::_,[],_,h=>by simp at h
 | p::ps,r::rs,A,h=>by rw [uj,adV (by simpa using h)]; simp; omega
theorem agV:∀ {ps:List (Tmp×List CD×Nat)} {rs:List (List KV)} {A:ae} {x:Nat},x < A.next->(uj A ps rs).get x=A.get x
 | [],_,_,_,_=>rfl
 | _::_,[],_,_,_=>rfl
 | p::ps,r::rs,A,x,h=>by rw [uj,agV (by simp; omega),ae.cp,aa (by omega)]
theorem akn:∀ {ps:List (Tmp×List CD×Nat)} {rs:List (List KV)} {A:ae} {k:Nat} {p:Tmp×List CD×Nat} {r:List KV},ps[k]? = some p->rs[k]? = some r->(uj A ps rs).get (A.next+k)=some (.row r p.2.2)
 | [],_,_,_,_,_,h,_=>by simp at h
 | _::_,[],_,_,_,_,_,h=>by simp at h
 | p::ps,r::rs,A,k,p',r',hp,hr=>by
  cases k with
  | zero=>
   simp at hp hr; subst hp hr;rw [uj,yI,agV (by simp),ae.cp,aD rfl]
  | succ k=>
   simp only [M9] at hp hr;have:=akn (A:=A.new (.row r p.2.2)) hp hr;rw [uj];simpa [Nat.add_comm,Nat.add_left_comm] using this
theorem agW:∀ {ps:List (Tmp×List CD×Nat)} {rs:List (List KV)} {A:ae} {x:Nat} {o:hO},(uj A ps rs).get x=some o->A.get x=some o\/∃ k p r,x=A.next+k/\ps[k]? = some p/\rs[k]? = some r/\o = .row r p.2.2
 | [],_,_,_,_,h=>.inl h
 | _::_,[],_,_,_,h=>.inl h
 | p::ps,r::rs,A,x,o,h=>by
  rw [uj] at h;rcases agW h with h | ⟨k,p',r',rfl,h1,h2,h3⟩
  ·rw [ae.cp] at h
   by_cases e:x=A.next
   ·rw [aD e] at h; simp at h
    exact .inr ⟨0,p,r,by omega,rfl,rfl,h.symm⟩
   ·rw [aa e] at h; exact .inl h
  ·exact .inr ⟨k+1,p',r',by simp; omega,by simpa using h1,by simpa using h2,h3⟩
theorem adW:∀ (n:Nat) (l:List Nat) (k:Nat),(upto n l)[k]? = if k < n then some k else l[k - n]?
 | 0,l,k=>by simp [upto]
 | n+1,l,k=>by
  rw [upto,adW n];by_cases h:k < n
  ·rw [aD h,aD (by omega)]
  ·rw [aa h]
   by_cases h2:k=n
   ·subst h2
    rw [aD (by omega)];simp
   ·rw [aa (by omega),show k - n=(k - (n+1))+1 by omega]
    simp
theorem Jn (S:aJ) (k:Nat) (h:k < S.rows.length):S.ids[k]? = some k:=by rw [aJ.ids,adW,aD h]
theorem KM:∀ {a b:List Nat},vM a b=true->a=b
 | [],[],_=>rfl
 | [],_::_,h=>by simp [vM] at h
 | _::_,[],h=>by simp [vM] at h
 | x::a,y::b,h=>by
  simp only [vM,ao] at h;rw [aL h.1,KM h.2]
theorem KN {t:bf} {A:ae} {p:Tmp×List CD×Nat} (h:(rowOf t A p).isSome=true):∃ b cs,A.get b=some (.row cs p.2.2)/\cs.length=p.2.1.length/\akj t A p=b/\Jk t A p=cs:=by
 unfold rowOf at h;split at h
 ·rename_i b hb
  split at h
  ·rename_i cs e hr
   cases hc:(Nat.beq e p.2.2&&Nat.beq cs.length p.2.1.length) with
   | false=>rw [hc] at h; simp at h
   | true=>
    have hro:rowOf t A p=some (b,cs):=by simp only [rowOf,hb,hr,hc,aj]
    simp only [ao] at hc;have he:=aL hc.1;subst he;exact ⟨b,cs,hr,aL hc.2,by simp [akj,hro],by simp [Jk,hro]⟩
  ·simp at h
 ·simp at h
structure dp (P:Program) (S:aJ) (t:bf) (A:ae) (g:GR):Prop where
 rows:BV P t A S.rows=true
 nodup:zP g.bs=true
 Vw:Rt t g.bs S.Vw=true
 dD:eP S.dD g.vs=true
 aag:zP (jF g.fs)=true
 amY:LL S.rows.length g.bs t S.dD=true
 ao4:XI S.rows.length g.bs t A S.rows=true
 xz:XH (S.RT P t A)=true
 bs:g.bs=Cl t A S.rows
 fs:g.fs=NY (S.RT P t A)
 vs:g.vs=oq P t A S.dD
 rs:g.rs=LJ P t A S.rows
theorem F8 {S:aJ} {t:bf} {A:ae} (h:(S.dn P t A).ok=true):dp P S t A (S.dn P t A):=by
 unfold aJ.dn at h ⊢;simp only at h ⊢;cases hc:(BV P t A S.rows&&zP (Cl t A S.rows)&&Rt t (Cl t A S.rows) S.Vw&&eP S.dD (oq P t A S.dD)&&zP (jF (NY (S.RT P t A)))&&LL S.rows.length (Cl t A S.rows) t S.dD&&XI S.rows.length (Cl t A S.rows) t A S.rows) with
 | false=>rw [hc] at h; simp at h
 | true=>
  rw [hc,aj] at h;simp only [ao] at hc;exact ⟨hc.1.1.1.1.1.1,hc.1.1.1.1.1.2,hc.1.1.1.1.2,hc.1.1.1.2,hc.1.1.2,hc.1.2,hc.2,h,rfl,rfl,rfl,rfl⟩
theorem abK {t:bf} {A:ae} : ∀ {ps:List (Tmp×List CD×Nat)} {k:Nat} {p:Tmp×List CD×Nat},ps[k]? = some p->(Cl t A ps)[k]? = some (akj t A p)
 | [],_,_,h=>by simp at h
 | p::ps,0,q,h=>by simp at h; subst h; rfl
 | p::ps,k+1,q,h=>by simp at h; simpa [Cl] using abK h
theorem FK {t:bf} {A:ae} : ∀ {ps:List (Tmp×List CD×Nat)},(Cl t A ps).length=ps.length
 | []=>rfl
 | p::ps=>by simp [Cl,FK]
theorem SE {t:bf} {A:ae} : ∀ {ps:List (Tmp×List CD×Nat)},(LJ P t A ps).length=ps.length
 | []=>rfl
 | p::ps=>by simp [LJ,SE]
theorem Y5 {t:bf} {A:ae} : ∀ {ps:List (Tmp×List CD×Nat)},BV P t A ps=true->∀ {k:Nat} {p:Tmp×List CD×Nat},ps[k]? = some p->(rowOf t A p).isSome=true/\df p.2.1 (eO P A p.2.1 (Jk t A p))=true
 | [],_,k,p,h=>by simp at h
 | q::ps,h,k,p,hp=>by
  simp only [BV,ao] at h;cases k with
  | zero=>simp at hp; subst hp; exact ⟨h.1,h.2.1⟩
  | succ k=>simp at hp; exact Y5 h.2.2 hp
theorem VB:∀ {ps:List (Tmp×List CD×Nat)} {rs:List (List KV)},rs.length=ps.length->∀ (j:Nat) (bs:List Nat),(Y4 j bs ps rs).length=ps.length
 | [],[],_,_,_=>rfl
 | [],_::_,h,_,_=>by simp at h
 | _::_,[],h,_,_=>by simp at h
 | p::ps,r::rs,h,j,bs=>by simp [Y4,VB (by simpa using h)]
def CR (j:Nat):List (Tmp×List CD×Nat)->Nat->Nat
 | [],_=>j
 | _::_,0=>j
 | p::ps,k+1=>CR (j+ui p.2.1) ps k
theorem Rw {bs:List Nat} : ∀ {ps:List (Tmp×List CD×Nat)} {rs:List (List KV)} {j k:Nat} {p:Tmp×List CD×Nat} {r:List KV},ps[k]? = some p->rs[k]? = some r->(Y4 j bs ps rs)[k]? = some (sE (CR j ps k) bs p.2.1 r)
 | [],_,_,_,_,_,h,_=>by simp at h
 | _::_,[],_,_,_,_,_,h=>by simp at h
 | p::ps,r::rs,j,0,p',r',h1,h2=>by simp at h1 h2; subst h1 h2; rfl
 | p::ps,r::rs,j,k+1,p',r',h1,h2=>by
  simp at h1 h2;simp only [Y4,M9];exact Rw h1 h2
theorem abL {E0:Env} {t:bf} {A:ae} : ∀ {ps:List (Tmp×List CD×Nat)} {j:Nat},BV P t A ps=true->po E E0 (Jl P t A ps) j->∀ {k:Nat} {p:Tmp×List CD×Nat},ps[k]? = some p->po E E0 (lL P A p.2.1 (Jk t A p)) (CR j ps k)
 | [],_,_,_,_,_,h=>by simp at h
 | q::ps,j,hr,hf,k,p,hp=>by
  simp only [BV,ao] at hr;obtain ⟨b,cs,_,hl,_,hC⟩:=KN hr.1;cases k with
  | zero=>simp at hp; subst hp; exact hf.left
  | succ k=>
   simp at hp;have:=hf.right;rw [jU (by rw [hC]; exact hl)] at this;exact abL hr.2.2 this hp
theorem FL {t:bf} {A:ae} : ∀ {ps:List (Tmp×VD)},eP ps (oq P t A ps)=true->(EY P t A ps).length=ot ps
 | [],_=>rfl
 | p::ps,h=>by
  simp only [oq,eP,ao] at h;simp only [EY,ot,kF];rw [jU (F7 h.1),FL h.2]
def MH (P:Program) (A:ae) (x:FI) (q:hO):Prop:=
 (∃ n sz,q = .aP n sz/\((x.f=none/\n=0)\/∃ f,x.f=some f/\A.get f=some (.aP n sz)))\/
 ∃ t v,q = .arr v/\((x.f=none/\1<=aU P t/\v=K.b8 P du (.ts t .any 0 [] qN))\/∃ f m N es acc,x.f=some f/\A.get f=some (.arr (.ts t m N es acc))/\v=K.b8 P du (.ts t .any N es acc))
theorem amZ {A:ae} {t:TypeId} {v:KV} (cI:(LK P A t v).ok=true) (hg:jt (.arr t) (eN P A (.arr t) v)=true):MH P A (LK P A t v) (.arr (eN P A (.arr t) v)):=by
 rcases XJ hg with rfl | ⟨b,n,m,N,es,acc,rfl,hb,he⟩
 ·exact .inr ⟨t,_,rfl,.inl ⟨rfl,dX cI,rfl⟩⟩
 ·refine .inr ⟨t,_,rfl,.inr ⟨b,m,N,es,acc,?_,hb,he⟩⟩
  simp only [LK,hb]
theorem am0 {A:ae} {t:TypeId} {v:KV} (cI:(wU P A t v).ok=true) (hg:jt (.aP t) (eN P A (.aP t) v)=true):MH P A (wU P A t v) (.aP (lenOf (eN P A (.aP t) v)) (szL P t)):=by
 refine .inl ⟨_,_,rfl,?_⟩;cases v with
 | ky=>exact .inl ⟨rfl,rfl⟩
 | ts t' m n es acc=>
  cases m with
  | aP f=>
   have e1:eN P A (.aP t) (.ts t' (.aP f) n es acc)=cond (Nat.beq t t') (K.b8 P du (.ts t .any n es acc)) .bh:=rfl;rw [e1] at hg ⊢;cases hb:Nat.beq t t' with
   | false=>rw [hb] at hg; simp [jt,kindOk] at hg
   | true=>
    rw [aj];refine .inr ⟨f,?_,?_⟩
    ·revert cI
     unfold wU;simp only;split
     ·intro _; rfl
     ·intro cI; simp at cI
    ·revert cI
     unfold wU;simp only;split
     ·rename_i top sz he
      intro cI;simp only at cI;cases hs:Nat.beq sz (szL P t) with
      | false=>rw [hs] at cI; simp at cI
      | true=>
       rw [hs,aj] at cI;have h1:=aL hs;have h2:=aL (show Nat.beq top n=true from cI);subst h1 h2;exact he
     ·intro cI; simp at cI
  | any=>simp [wU] at cI
  | exact=>simp [wU] at cI
 | _=>simp [wU] at cI
theorem zc {A:ae} : ∀ {ds:List CD} {vs:List KV} {i:Nat} {x:FI},vs.length=ds.length->df ds (eO P A ds vs)=true->(lL P A ds vs)[i]? = some x->x.ok=true->∃ q,(o8 P ds (eO P A ds vs))[i]? = some q/\MH P A x q
 | [],[],_,_,_,_,h,_=>by simp [lL] at h
 | [],_::_,_,_,e,_,_,_=>by simp at e
 | _::_,[],_,_,e,_,_,_=>by simp at e
 | .k c::ds,v::vs,i,x,e,hg,h,cI=>by
  simp only [eO,df,ao] at hg;have h' : (lL P A ds vs)[i]? = some x:=h;exact zc (ds:=ds) (vs:=vs) (by simpa using e) hg.2 h' cI
 | .lit c::ds,v::vs,i,x,e,hg,h,cI=>by
  simp only [eO,df,ao] at hg;have h' : (lL P A ds vs)[i]? = some x:=h;exact zc (ds:=ds) (vs:=vs) (by simpa using e) hg.2 h' cI
 | .ref c::ds,v::vs,i,x,e,hg,h,cI=>by
  simp only [eO,df,ao] at hg;have h' : (lL P A ds vs)[i]? = some x:=h;exact zc (ds:=ds) (vs:=vs) (by simpa using e) hg.2 h' cI
 | .aP t::ds,v::vs,i,x,e,hg,h,cI=>by
  simp only [eO,df,ao] at hg;cases i with
  | zero=>
   simp [lL] at h;subst h;exact ⟨_,rfl,am0 cI hg.1⟩
  | succ i=>
   simp [lL] at h;obtain ⟨q,h1,h2⟩:=zc (by simpa using e) hg.2 h cI;exact ⟨q,by simpa [o8,eO] using h1,h2⟩
 | .arr t::ds,v::vs,i,x,e,hg,h,cI=>by
  simp only [eO,df,ao] at hg;cases i with
  | zero=>
   simp [lL] at h;subst h;exact ⟨_,rfl,amZ cI hg.1⟩
  | succ i=>
   simp [lL] at h;obtain ⟨q,h1,h2⟩:=zc (by simpa using e) hg.2 h cI;exact ⟨q,by simpa [o8,eO] using h1,h2⟩
theorem oP:∀ {ds:List CD} {vs:List KV},vs.length=ds.length->(o8 P ds vs).length=ui ds
 | [],[],_=>rfl
 | [],_::_,e=>by simp at e
 | _::_,[],e=>by simp at e
 | .k c::ds,v::vs,e=>by simp only [o8,ui]; exact oP (by simpa using e)
 | .lit w::ds,v::vs,e=>by simp only [o8,ui]; exact oP (by simpa using e)
 | .ref w::ds,v::vs,e=>by simp only [o8,ui]; exact oP (by simpa using e)
 | .aP t::ds,v::vs,e=>by simp only [o8,ui,qT]; rw [oP (by simpa using e)]
 | .arr t::ds,v::vs,e=>by simp only [o8,ui,qT]; rw [oP (by simpa using e)]
theorem DA:∀ {ds:List CD} {vs:List KV},df ds vs=true->vs.length=ds.length
 | [],[],_=>rfl
 | [],_::_,h=>by simp [df] at h
 | _::_,[],h=>by simp [df] at h
 | d::ds,v::vs,h=>by
  simp only [df,ao] at h;simp [DA h.2]
theorem Qi {d:VD} {v:KV} (h:zO d v=true):v.cells.length=d.ks.length:=by
 rcases Bq h with ⟨cs,rfl,_,h1⟩ | ⟨h0,_,c,h1,_⟩
 ·exact DA h1
 ·have:v.cells = [v]:=by cases v <;> first | rfl | exact absurd rfl (h0 _)
  rw [this,h1]; rfl
theorem FM:∀ {ps:List (Tmp×VD)} {vs:List KV},eP ps vs=true->(Dy P ps vs).length=ot ps
 | [],[],_=>rfl
 | [],_::_,h=>by simp [eP] at h
 | _::_,[],h=>by simp [eP] at h
 | p::ps,v::vs,h=>by
  simp only [eP,ao] at h;simp only [Dy,ot,kF];rw [oP (Qi h.1),FM h.2]
theorem Y6 {t:bf} {A:ae} : ∀ {ps:List (Tmp×VD)} {i:Nat} {x:FI},eP ps (oq P t A ps)=true->(EY P t A ps)[i]? = some x->x.ok=true->∃ p,(Dy P ps (oq P t A ps))[i]? = some p/\MH P A x p
 | [],_,_,_,h,_=>by simp [EY] at h
 | p::ps,i,x,hg,h,cI=>by
  simp only [oq,eP,ao] at hg;simp only [EY] at h;have hl:=F7 hg.1;by_cases hi:i < (lL P A p.2.ks (valOf t p.1).cells).length
  ·rw [qS hi] at h
   have hg' : df p.2.ks (eO P A p.2.ks (valOf t p.1).cells)=true/\(yN P A p.2 (valOf t p.1)).cells=eO P A p.2.ks (valOf t p.1).cells:=by
    rcases Br hg.1 with ⟨cs,e,_,h2,h3⟩ | ⟨_,c,h1,h2,h3,h4,h5⟩
    ·rw [e] at h2 ⊢; exact ⟨h3,by rw [h2]; rfl⟩
    ·rw [h4,h1]
     refine ⟨by simp [eO,df,h3],?_⟩;rw [h2];show (eN P A c (valOf t p.1)).cells = [eN P A c (valOf t p.1)];generalize eN P A c (valOf t p.1)=w at h5 ⊢;cases w <;> first | rfl | exact absurd rfl (h5 _)
   obtain ⟨q,h2,h3⟩:=zc hl hg'.1 h cI;refine ⟨q,?_,h3⟩;simp only [oq,Dy];rw [hg'.2,qS (cH.1 h2).1];exact h2
  ·rw [tS (by omega)] at h
   obtain ⟨q,h1,h2⟩:=Y6 hg.2 h cI;refine ⟨q,?_,h2⟩;simp only [oq,Dy];have e1:(o8 P p.2.ks (yN P A p.2 (valOf t p.1)).cells).length=(lL P A p.2.ks (valOf t p.1).cells).length:=by rw [oP (Qi hg.1),jU hl]
   rw [tS (by omega),e1];exact h1
theorem Y7 {t:bf} {A:ae} : ∀ {ps:List (Tmp×List CD×Nat)} {i:Nat} {x:FI},BV P t A ps=true->(Jl P t A ps)[i]? = some x->x.ok=true->∃ p,(EZ P ps (LJ P t A ps))[i]? = some p/\MH P A x p
 | [],_,_,_,h,_=>by simp [Jl] at h
 | p::ps,i,x,hg,h,cI=>by
  simp only [BV,ao] at hg;simp only [Jl] at h;obtain ⟨b,cs,_,hl,_,hC⟩:=KN hg.1;rw [<- hC] at hl;by_cases hi:i < (lL P A p.2.1 (Jk t A p)).length
  ·rw [qS hi] at h
   obtain ⟨q,h2,h3⟩:=zc hl hg.2.1 h cI;refine ⟨q,?_,h3⟩;simp only [LJ,EZ];rw [qS (cH.1 h2).1];exact h2
  ·rw [tS (by omega)] at h
   obtain ⟨q,h1,h2⟩:=Y7 hg.2.2 h cI;refine ⟨q,?_,h2⟩;simp only [LJ,EZ];have e1:(o8 P p.2.1 (eO P A p.2.1 (Jk t A p))).length=(lL P A p.2.1 (Jk t A p)).length:=by rw [oP (DA hg.2.1),jU hl]
   rw [tS (by omega),e1];exact h1
theorem LM:∀ {ps:List (Tmp×List CD×Nat)} {rs:List (List KV)},rs.length=ps.length->(∀ (k:Nat) p r,ps[k]? = some p->rs[k]? = some r->df p.2.1 r=true)->∀ {l:Nat},l=(ps.map fun p=>ui p.2.1).sum->(EZ P ps rs).length=l
 | [],[],_,_,l,hl=>by subst hl; rfl
 | [],_::_,h,_,_,_=>by simp at h
 | _::_,[],h,_,_,_=>by simp at h
 | p::ps,r::rs,h,hk,l,hl=>by
  simp only [EZ,kF];rw [oP (DA (hk 0 p r rfl rfl)),LM (by simpa using h) (fun k p r h1 h2=>hk (k+1) p r (by simpa using h1) (by simpa using h2)) rfl,hl];simp
theorem SF {t:bf} {A:ae} : ∀ {ps:List (Tmp×List CD×Nat)},BV P t A ps=true->(Jl P t A ps).length=(ps.map fun p=>ui p.2.1).sum
 | [],_=>rfl
 | p::ps,h=>by
  simp only [BV,ao] at h;obtain ⟨b,cs,_,hl,_,hC⟩:=KN h.1;simp only [Jl,kF,List.map_cons,List.sum_cons];rw [jU (by rw [hC]; exact hl),SF h.2.2]
end Go.K
end
section
namespace Go.K
open Go Go.aG
variable {P:Program} {E:Env}
noncomputable def Env.sub (E:Env) (A:ae) (bs:List Nat) (fs:List (Option Nat)) (nr:Nat):Env:=
 { κ:=fun i=>(bs[i]?).bind E.κ,z:=E.z,φ:=fun i=>if nr<=i then (fs[i - nr]?).bind (fun f=>f.bind fun x=>cond (Cm (A.get x)) (E.φ x) none) else none,α:=fun i=>if nr<=i then (fs[i - nr]?).bind (fun f=>f.bind E.α) else none }
theorem Rx {E:Env} {A:ae} {x q:Nat} (e:cond (Cm (A.get x)) (E.φ x) none=some q):E.φ x=some q/\Cm (A.get x)=true:=by
 cases h:Cm (A.get x) with
 | true=>rw [h] at e; exact ⟨e,rfl⟩
 | false=>rw [h] at e; simp at e
theorem agX {A:ae} {x:Nat} (h:Cm (A.get x)=true):∃ n sz,A.get x=some (.aP n sz):=by
 unfold Cm at h;split at h
 ·rename_i n sz e; exact ⟨n,sz,e⟩
 ·simp at h
theorem Env.abM {A:ae} {bs:List Nat} {fs:List (Option Nat)} {nr i:Nat} : (E.sub A bs fs nr).φ (nr+i)=(fs[i]?).bind (fun f=>f.bind fun x=>cond (Cm (A.get x)) (E.φ x) none):=by
 simp only [Env.sub];rw [aD (by omega),show nr+i - nr=i by omega]
theorem Env.Jo {A:ae} {bs:List Nat} {fs:List (Option Nat)} {nr i:Nat} : (E.sub A bs fs nr).α (nr+i)=(fs[i]?).bind (fun f=>f.bind E.α):=by
 simp only [Env.sub];rw [aD (by omega),show nr+i - nr=i by omega]
theorem N4:∀ {l:List (Nat×KV)} {i:Nat} {v:KV},(iJ l).get i=some v->(i,v)∈l
 | [],i,v,h=>by simp [iJ] at h
 | p::ps,i,v,h=>by
  rw [iJ,Trie.oX] at h;split at h
  ·rename_i e
   simp at h; subst h e;simp
  ·exact r7 _ (N4 h)
theorem iZ.iJ {ρ:Ren} {l:List (Nat×KV)} {N:Nat} {a:Act} (hs:a.tmps.size=N) (h:∀ q∈l,q.1 < N/\VC P E ρ q.2 (a.tmps.getD q.1 undef)):iZ P E ρ (K.iJ l) N a:=by
 refine ⟨hs,fun i=>?_,fun i hi=>?_⟩
 ·cases hg:(K.iJ l).get i with
  | none=>exact .bh
  | some v=>exact (h _ (N4 hg)).2
 ·cases hg:(K.iJ l).get i with
  | none=>rfl
  | some v=>have:=(h _ (N4 hg)).1; exact absurd hi (Nat.not_le_of_lt this)
theorem E5 {A:ae} {x:Nat} : ∀ {ds:List CD} {vs:List KV} {fi:FI},fi∈lL P A ds vs->fi.fm=true->fi.f=some x->Cm (A.get x)=true
 | [],_,_,h,_,_=>by simp [lL] at h
 | d::ds,[],_,h,_,_=>by cases d <;> simp [lL] at h
 | d::ds,v::vs,fi,h,hm,hx=>by
  cases d <;> simp only [lL,de] at h
  ·exact E5 h hm hx
  ·exact E5 h hm hx
  ·rcases h with rfl | h
   ·exact alq hx
   ·exact E5 h hm hx
  ·rcases h with rfl | h
   ·rw [alp] at hm; simp at hm
   ·exact E5 h hm hx
  ·exact E5 h hm hx
theorem aJ.aog (S:aJ) {t:bf} {A:ae} {x:Nat} {fi:FI} (h:fi∈S.RT P t A) (hm:fi.fm=true) (hx:fi.f=some x):Cm (A.get x)=true:=by
 have one:∀ {ps:List (Tmp×VD)},fi∈EY P t A ps->Cm (A.get x)=true:=by
  intro ps
  induction ps with
  | nil=>intro h; simp [EY] at h
  | cons p ps ih=>
   intro h;simp only [EY,jM] at h;exact h.elim (fun h=>E5 h hm hx) ih
 have two:∀ {ps:List (Tmp×List CD×Nat)},fi∈Jl P t A ps->Cm (A.get x)=true:=by
  intro ps
  induction ps with
  | nil=>intro h; simp [Jl] at h
  | cons p ps ih=>
   intro h;simp only [Jl,jM] at h;exact h.elim (fun h=>E5 h hm hx) ih
 simp only [aJ.RT,jM] at h;exact h.elim one two
theorem dp.hyp {S:aJ} {t:bf} {A:ae} {g:GR} (h:dp P S t A g):po E (E.sub A g.bs g.fs S.nr) (S.RT P t A) S.nr:=fun i fi hi=>by
 refine ⟨TW h.xz fi (gu hi),fun hm x q hx hq=>?_,fun x q hx hq=>?_⟩
 ·rw [Env.abM,h.fs,N3 hi,dQ,hx,dQ,S.aog (gu hi) hm hx]
  exact hq
 ·rw [Env.Jo,h.fs,N3 hi,dQ,hx,dQ]
  exact hq
theorem agY {E0:Env} {t:bf} {A:ae} {ρ:Ren} {N nr:Nat} {bs H9:List Nat} {a:Act} (hz:E0.z=E.z) (hk:Rk E E0 nr bs H9) (ht:iZ P E ρ t N a):∀ {ps:List (Tmp×VD)} {j:Nat},eP ps (oq P t A ps)=true->po E E0 (EY P t A ps) j->LL nr bs t ps=true->∀ q∈OM j H9 ps (oq P t A ps),q.1 < N/\VC P E0 ρ q.2 (a.tmps.getD q.1 undef)
 | [],_,_,_,_,q,hq=>by simp [OM] at hq
 | p::ps,j,hg,hf,hr,q,hq=>by
  simp only [LL,ao] at hr;simp only [oq,eP,ao] at hg;simp only [oq,OM,de] at hq;rcases hq with rfl | hq
  ·refine ⟨?_,?_⟩
   ·obtain ⟨v,hv⟩:=VK.Xr hg.1 hr.1
    by_cases hN:N<=p.1
    ·rw [ht.none _ hN] at hv; simp at hv
    ·exact Nat.lt_of_not_le hN
   ·obtain ⟨u,h1,h2⟩:=ht.val p.1
    exact ⟨u,h1.ao3 hz hk hg.1 hf.left hr.1,h2⟩
  ·have h2:=hf.right
   rw [jU (F7 hg.1)] at h2;exact agY hz hk ht hg.2 h2 hr.2 q hq
theorem LN {bs:List Nat} : ∀ {ps:List (Tmp×Nat×Nat)} {q:Nat×KV},q∈zQ bs ps->∃ p∈ps,GI p=true/\q=(p.1,.ptr (bs.getD p.2.1 0) p.2.2)
 | [],_,h=>by simp [zQ] at h
 | p::ps,q,h=>by
  unfold zQ at h;cases hp:GI p with
  | true=>
   rw [hp,aj] at h;rcases de.1 h with rfl | h
   ·exact ⟨p,by simp,hp,rfl⟩
   ·obtain ⟨p',h1,h2⟩:=LN h
    exact ⟨p',r7 _ h1,h2⟩
  | false=>
   rw [hp,aH] at h;obtain ⟨p',h1,h2⟩:=LN h;exact ⟨p',r7 _ h1,h2⟩
theorem TY {l:List (Nat×KV)} : ∀ {ps:List (Tmp×Nat×Nat)} {q:Nat×KV},q∈N1 l ps->∃ p∈ps,GI p=false/\q=(p.1,TU l (p.2.1 - 1000000))
 | [],_,h=>by simp [N1] at h
 | p::ps,q,h=>by
  unfold N1 at h;cases hp:GI p with
  | false=>
   rw [hp,aH] at h;rcases de.1 h with rfl | h
   ·exact ⟨p,by simp,hp,rfl⟩
   ·obtain ⟨p',h1,h2⟩:=TY h
    exact ⟨p',r7 _ h1,h2⟩
  | true=>
   rw [hp,aj] at h;obtain ⟨p',h1,h2⟩:=TY h;exact ⟨p',r7 _ h1,h2⟩
theorem aiO {v w:Option KV} (h:afg v w=true):v=w/\v.isSome=true:=by
 unfold afg at h;split at h
 ·simp only [ao] at h
  obtain ⟨⟨⟨h1,h2⟩,h3⟩,h4⟩:=h;rw [aL h1,aL h2,aL h3,aL h4];exact ⟨rfl,rfl⟩
 ·simp at h
theorem KO {t:bf} {bs:List Nat} : ∀ {ps:List (Tmp×Nat×Nat)},Rt t bs ps=true->∀ q∈ps,(GI q=true->∃ b,t.get q.1=some (.ptr b q.2.2)/\bs[q.2.1]? = some b)/\(GI q=false->t.get q.1=t.get (q.2.1 - 1000000)/\(t.get q.1).isSome=true)
 | [],_,q,hq=>by simp at hq
 | p::ps,h,q,hq=>by
  simp only [Rt,ao] at h;rcases de.1 hq with rfl | hq
  ·refine ⟨fun hp=>?_,fun hp=>?_⟩
   ·have h1:=h.1
    rw [hp,aj] at h1;unfold amU at h1;split at h1
    ·rename_i b o b' e1 e2
     simp only [ao] at h1;have:=aL h1.1;have:=aL h1.2
     subst_vars
     exact ⟨_,e1,e2⟩
    ·simp at h1
   ·have h1:=h.1
    rw [hp,aH] at h1;exact aiO h1
  ·exact KO h.2 q hq
theorem dp.rk {S:aJ} {t:bf} {A:ae} {g:GR} (h:dp P S t A g):Rk E (E.sub A g.bs g.fs S.nr) S.rows.length g.bs S.ids:=fun j x hj e=>by
 have bm:j < g.bs.length:=by rw [h.bs,FK]; exact hj
 rw [fH,cJ bm] at e;rw [fH,Jn S j hj];simp only [Env.sub,dI,cJ bm,dQ];exact e
theorem VE:∀ {l:List (Nat×KV)} {i:Nat} {v:KV},(iJ l).get i=some v->(i,v)∈l
 | [],_,_,h=>by simp [iJ] at h
 | x::l,i,v,h=>by
  rw [iJ,Trie.oX] at h;split at h
  ·rename_i e
   simp only [bQ] at h;subst h; subst e;exact Q9 ..
  ·exact r7 _ (VE h)
theorem adX {E E0:Env} {A:ae} {t:bf} (hz:E0.z=E.z) {nr:Nat} {bs H9:List Nat} (hk:Rk E E0 nr bs H9):∀ {ps:List (Tmp×VD)} {j:Nat},eP ps (oq P t A ps)=true->po E E0 (EY P t A ps) j->LL nr bs t ps=true->∀ q∈OM j H9 ps (oq P t A ps),∀ u,VK P E (valOf t q.1) u->VK P E0 q.2 u
 | [],_,_,_,_,q,hq,_,_=>by simp [OM] at hq
 | p::ps,j,hg,hf,hr,q,hq,u,hu=>by
  simp only [oq,eP,ao] at hg;simp only [LL,ao] at hr;simp only [oq,OM,de] at hq;rcases hq with rfl | hq
  ·exact hu.ao3 hz hk hg.1 hf.left hr.1
  ·have h2:=hf.right
   rw [jU (F7 hg.1)] at h2;exact adX hz hk hg.2 h2 hr.2 q hq u hu
theorem dp.tkr {S:aJ} {t:bf} {A:ae} {g:GR} {ρ:Ren} {N:Nat} {a:Act} (h:dp P S t A g) (ht:iZ P E ρ t N a):iZ P (E.sub A g.bs g.fs S.nr) ρ (S.tm S.nr S.ids g.vs) N a:=by
 refine iZ.iJ ht.size fun q hq=>?_;have hh:po E (E.sub A g.bs g.fs S.nr) (S.RT P t A) S.nr:=h.hyp;rcases jM.1 hq with hq | hq
 ·rw [h.vs] at hq
  exact agY (E:=E) (E0:=E.sub A g.bs g.fs S.nr) (A:=A) rfl h.rk ht (h.vs ▸ h.dD) hh.left h.amY q hq
 rcases jM.1 hq with hq | hq
 ·obtain ⟨p,hp,hip,rfl⟩:=LN hq
  obtain ⟨b,h1,h2⟩:=(KO h.Vw p hp).1 hip;refine ⟨?_,?_⟩
  ·by_cases hN:N<=p.1
   ·rw [ht.none _ hN] at h1; simp at h1
   ·exact Nat.lt_of_not_le hN
  ·have hk:p.2.1 < S.rows.length:=by
    have:=(cH.1 h2).1;rw [h.bs,FK] at this; exact this
   have hv:=ht.val p.1;rw [h1] at hv;obtain ⟨u,h3,h4⟩:=hv;refine ⟨u,?_,h4⟩;obtain ⟨x,h5,rfl⟩:=(show VK P E (.ptr b p.2.2) u from h3).ig;have:S.ids.getD p.2.1 0=p.2.1:=by rw [fH,Jn S _ hk]; rfl
   rw [this];exact .Cg (by simp [Env.sub,h2,h5])
 ·obtain ⟨p,hp,hip,rfl⟩:=TY hq
  obtain ⟨h1,h2⟩:=(KO h.Vw p hp).2 hip;refine ⟨?_,?_⟩
  ·by_cases hN:N<=p.1
   ·rw [ht.none _ hN] at h2; simp at h2
   ·exact Nat.lt_of_not_le hN
  ·obtain ⟨u,h3,h4⟩:=ht.val p.1
   rw [h1] at h3;have h3:VK P E (valOf t (p.2.1 - 1000000)) u:=h3;show ∃ u,VK P _ (TU _ (p.2.1 - 1000000)) u/\_;unfold TU;cases hl:(iJ (OM S.nr S.ids S.dD g.vs)).get (p.2.1 - 1000000) with
   | none=>exact VC.bh
   | some v=>
    refine ⟨u,?_,h4⟩;have hm:=VE hl;rw [h.vs] at hm;exact adX (E:=E) (E0:=E.sub A g.bs g.fs S.nr) (A:=A) rfl h.rk (h.vs ▸ h.dD) hh.left h.amY _ hm u h3
theorem dp.row {S:aJ} {t:bf} {A:ae} {g:GR} (h:dp P S t A g) {k:Nat} {p:Tmp×List CD×Nat} (hp:S.rows[k]? = some p):∃ b cs,g.bs[k]? = some b/\A.get b=some (.row cs p.2.2)/\cs.length=p.2.1.length/\Jk t A p=cs/\g.rs[k]? = some (eO P A p.2.1 cs)/\df p.2.1 (eO P A p.2.1 cs)=true:=by
 obtain ⟨h1,h2⟩:=Y5 h.rows hp;obtain ⟨b,cs,h4,h5,h6,h7⟩:=KN h1;refine ⟨b,cs,by rw [h.bs,abK hp,h6],h4,h5,h7,?_,by rw [<- h7]; exact h2⟩;have:∀ {ps:List (Tmp×List CD×Nat)} {k:Nat},ps[k]? = some p->(LJ P t A ps)[k]? = some (eO P A p.2.1 (Jk t A p)):=by
  intro ps
  induction ps with
  | nil=>intro k h; simp at h
  | cons q ps ih=>
   intro k h;cases k with
   | zero=>simp at h; subst h; rfl
   | succ k=>simp at h; simpa [LJ] using ih h
 rw [h.rs,this hp,h7]
theorem dp.rV {S:aJ} {t:bf} {A:ae} {g:GR} (h:dp P S t A g):g.rs.length=S.rows.length:=by rw [h.rs,SE]
theorem dp.Y8 {S:aJ} {t:bf} {A:ae} {g:GR} (h:dp P S t A g):g.bs.length=S.rows.length:=by rw [h.bs,FK]
theorem dp.ua {S:aJ} {t:bf} {A:ae} {g:GR} (h:dp P S t A g):∀ (k:Nat) p r,S.rows[k]? = some p->g.rs[k]? = some r->df p.2.1 r=true:=fun k p r hp hr=>by
 obtain ⟨b,cs,_,_,_,_,h1,h2⟩:=h.row hp;rw [hr] at h1; simp at h1; subst h1; exact h2
theorem dp.lens {S:aJ} {t:bf} {A:ae} {g:GR} (h:dp P S t A g):(S.lens P g.vs g.rs).length=(S.RT P t A).length:=by
 simp only [aJ.lens,aJ.RT,kF];rw [FM h.dD,LM h.rV h.ua rfl,SF h.rows,FL (h.vs ▸ h.dD)]
theorem dp.fact {S:aJ} {t:bf} {A:ae} {g:GR} (h:dp P S t A g) {i:Nat} {q:hO} (hq:(S.lens P g.vs g.rs)[i]? = some q):∃ fi,(S.RT P t A)[i]? = some fi/\g.fs[i]? = some fi.f/\MH P A fi q:=by
 have bm:i < (S.RT P t A).length:=by rw [<- h.lens]; exact (cH.1 hq).1
 have hfi:=cJ bm;have cI:=TW h.xz _ (Rb bm);refine ⟨_,hfi,by rw [h.fs]; exact N3 hfi,?_⟩;have hv:(EY P t A S.dD).length=ot S.dD:=FL (h.vs ▸ h.dD);have hlv:(Dy P S.dD g.vs).length=ot S.dD:=FM h.dD;simp only [aJ.lens] at hq;have agZ:=hfi;simp only [aJ.RT] at agZ;by_cases hi:i < ot S.dD
 ·rw [qS (by omega)] at hq agZ
  obtain ⟨p,h1,h2⟩:=Y6 (h.vs ▸ h.dD) agZ cI;rw [h.vs,h1] at hq;simp at hq; subst hq; exact h2
 ·rw [tS (by omega)] at hq agZ
  obtain ⟨p,h1,h2⟩:=Y7 h.rows agZ cI;rw [h.rs,hlv,<- hv,h1] at hq;simp at hq; subst hq; exact h2
theorem TZ {t:bf} {A:ae} {nr:Nat} {bs:List Nat} : ∀ {ps:List (Tmp×List CD×Nat)},XI nr bs t A ps=true->∀ {k:Nat} {p:Tmp×List CD×Nat},ps[k]? = some p->GJ nr bs p.2.1 (Jk t A p)=true
 | [],_,k,p,h=>by simp at h
 | q::ps,h,k,p,hp=>by
  simp only [XI,ao] at h;cases k with
  | zero=>simp at hp; subst hp; exact h.1
  | succ k=>simp at hp; exact TZ h.2 hp
theorem py {S:aJ} {rs:List (List KV)} (h:rs.length=S.rows.length):(uj .empty S.rows (S.Jm S.nr S.ids rs)).next=S.nr:=by
 show (uj .empty S.rows (Y4 (S.nr+ot S.dD) S.ids S.rows rs)).next=S.nr;rw [adV (VB h _ _)];simp [ae.empty,aJ.nr]
theorem Jp {S:aJ} {vs:List KV} {rs:List (List KV)} (h:rs.length=S.rows.length) {b:Nat} {o:hO} (hb:(S.mem P vs rs).get b=some o) :
  (∃ p r,S.rows[b]? = some p/\rs[b]? = some r/\o = .row (sE (CR (S.nr+ot S.dD) S.rows b) S.ids p.2.1 r) p.2.2)\/∃ i q,b=S.nr+i/\(S.lens P vs rs)[i]? = some q/\o=q:=by
 rcases VA hb with hb | ⟨i,q,h1,h2,h3⟩
 ·rcases agW hb with e | ⟨k,p,r,rfl,h1,h2,h3⟩
  ·simp [ae.empty,ae.get] at e
  ·have hk:(ae.empty.next+k)=k:=by simp [ae.empty]
   rw [hk];have bm:k < rs.length:=by rw [h]; exact (cH.1 h1).1
   have e1:=cJ bm;have e2:=Rw (bs:=S.ids) (j:=S.nr+ot S.dD) h1 e1;have h2:(Y4 (S.nr+ot S.dD) S.ids S.rows rs)[k]? = some r:=h2;rw [e2] at h2;simp at h2;exact .inl ⟨p,_,h1,e1,by rw [h3,<- h2]⟩
 ·rw [py h] at h1
  exact .inr ⟨i,q,h1,h2,h3⟩
theorem Qj {t:TypeId} {n:Nat} {es:List KV} {acc:Nat->KV} {bo:List Value} (ht:hX P t n es acc) (h:aV P E es bo):∃ pt ay,K.b8 P du (.ts t .any n es acc) = .ts t .any n pt ay/\hX P t n pt ay/\aV P E pt bo:=by
 refine ⟨(List.range n).map fun i=>gV P (K.b8 P 5) t (acc i),fun i=>gV P (K.b8 P 5) t (acc i),rfl,?_⟩;have Dt:∀ i,i < n->∃ e e',es[i]? = some e/\bo[i]? = some e'/\acc i=e/\cv (aQ P t) e=true/\VK P E e e':=by
  intro i hi;have hl:i < es.length:=by rw [<- ht.len]; exact hi
  have e1:=cJ hl;obtain ⟨e',e2,e3⟩:=h.get e1;exact ⟨_,e',e1,e2,by rw [ht.acc i hi,fH,e1]; rfl,gL ht.typed e1,e3⟩
 have hlen:bo.length=n:=by rw [h.length,ht.len]
 refine ⟨⟨by simp,fun i hi=>?_,?_⟩,?_⟩
 ·rw [fH,pg,List.getElem?_range hi]; rfl
 ·refine o7 fun i e he=>?_
  rw [pg] at he;by_cases hi:i < n
  ·rw [List.getElem?_range hi] at he
   simp only [Option.map_some,bQ] at he;obtain ⟨x,x',_,_,q3,q4,_⟩:=Dt i hi;rw [<- he,q3,gV];obtain ⟨r1,r2,_⟩:=NF q4;rw [r1];exact abf q4 (I7 5 r2) (by simp)
  ·rw [List.getElem?_eq_none (by simp; omega)] at he; simp at he
 ·refine aV.aeR (by simp [hlen]) fun i e e' he Lv=>?_
  rw [pg] at he;by_cases hi:i < n
  ·rw [List.getElem?_range hi] at he
   simp only [Option.map_some,bQ] at he;obtain ⟨x,x',_,q2,q3,q4,q5⟩:=Dt i hi;rw [Lv] at q2;simp only [bQ] at q2;subst q2;rw [<- he,q3];exact VK.gV 5 q4 q5
  ·rw [List.getElem?_eq_none (by simp; omega)] at he; simp at he
theorem dp.ako {S:aJ} {t:bf} {A:ae} {g:GR} (h:dp P S t A g) {b:Nat} {v:KV} (hb:(S.mem P g.vs g.rs).get b=some (.arr v)) :
  ∃ i T,b=S.nr+i/\((g.fs[i]? = some none/\1<=aU P T/\v=K.b8 P du (.ts T .any 0 [] qN))\/∃ f m N es acc,g.fs[i]? = some (some f)/\A.get f=some (.arr (.ts T m N es acc))/\v=K.b8 P du (.ts T .any N es acc)):=by
 rcases Jp h.rV hb with ⟨p,r,_,_,h3⟩ | ⟨i,q,rfl,h2,h3⟩
 ·simp at h3
 ·subst h3
  obtain ⟨fi,h4,h5,h6⟩:=h.fact h2;rcases h6 with ⟨_,_,e,_⟩ | ⟨T,v',e,h6⟩
  ·simp at e
  ·simp only [hO.arr.injEq] at e
   subst e;rcases h6 with ⟨h6,h7⟩ | ⟨f,m,N,es,acc,h6,h7⟩
   ·exact ⟨i,T,rfl,.inl ⟨by rw [h5,h6],h7⟩⟩
   ·exact ⟨i,T,rfl,.inr ⟨f,m,N,es,acc,by rw [h5,h6],h7⟩⟩
theorem dp.Jq {S:aJ} {t:bf} {A:ae} {g:GR} (h:dp P S t A g) {b:Nat} {v:KV} (hb:(S.mem P g.vs g.rs).get b=some (.arr v)) {p:Nat×Nat×Nat} (hp:(E.sub A g.bs g.fs S.nr).α b=some p) :
  ∃ i f u,b=S.nr+i/\g.fs[i]? = some (some f)/\A.get f=some (.arr u)/\E.α f=some p:=by
 obtain ⟨i,T,rfl,h1⟩:=h.ako hb;rw [Env.Jo] at hp;rcases h1 with ⟨h1,_⟩ | ⟨f,m,N,es,acc,h1,h2,_⟩
 ·rw [h1] at hp; simp at hp
 ·rw [h1] at hp; exact ⟨i,f,_,rfl,h1,h2,hp⟩
theorem dp.AR {S:aJ} {t:bf} {A:ae} {g:GR} (h:dp P S t A g) {x:Nat} (q:K.AR (S.mem P g.vs g.rs) (E.sub A g.bs g.fs S.nr) x):∃ f u L N,f∈jF g.fs/\A.get f=some (.arr u)/\E.α f=some (x,L,N):=by
 obtain ⟨b,v,L,N,h1,h2⟩:=q;obtain ⟨i,f,u,_,h3,h4,h5⟩:=h.Jq h1 h2;exact ⟨f,u,L,N,zb.2 (gu h3),h4,h5⟩
theorem dp.ar {S:aJ} {t:bf} {A:ae} {g:GR} (h:dp P S t A g) {x:Nat} (q:K.AR (S.mem P g.vs g.rs) (E.sub A g.bs g.fs S.nr) x):K.AR A E x:=by
 obtain ⟨f,u,L,N,_,h2,h3⟩:=h.AR q;exact ⟨f,u,L,N,h2,h3⟩
theorem dp.AF {S:aJ} {t:bf} {A:ae} {B:St} {g:GR} (h:dp P S t A g) {q:Nat} (k:K.AF (S.mem P g.vs g.rs) (E.sub A g.bs g.fs S.nr) B q):∃ f u x L N cs e own m,f∈jF g.fs/\A.get f=some (.arr u)/\E.α f=some (x,L,N)/\B.get x=some (.row cs e own (some (q,m))):=by
 obtain ⟨b,v,x,L,N,cs,e,own,m,h1,h2,h3⟩:=k;obtain ⟨i,f,u,_,h4,h5,h6⟩:=h.Jq h1 h2;exact ⟨f,u,x,L,N,cs,e,own,m,zb.2 (gu h4),h5,h6,h3⟩
theorem dp.af {S:aJ} {t:bf} {A:ae} {B:St} {g:GR} (h:dp P S t A g) {q:Nat} (k:K.AF (S.mem P g.vs g.rs) (E.sub A g.bs g.fs S.nr) B q):K.AF A E B q:=by
 obtain ⟨f,u,x,L,N,cs,e,own,m,_,h1,h2,h3⟩:=h.AF k;exact ⟨f,u,x,L,N,cs,e,own,m,h1,h2,h3⟩
theorem dp.at {S:aJ} {t:bf} {A:ae} {B:St} {g:GR} (h:dp P S t A g) {y:Nat} (k:K.AT (S.mem P g.vs g.rs) (E.sub A g.bs g.fs S.nr) B y):K.AT A E B y:=k.imp h.ar fun ⟨q,h1,h2⟩=>⟨q,h.af h1,h2⟩
theorem dp.fY {S:aJ} {t:bf} {A:ae} {B:St} {g:GR} (h:dp P S t A g) (hk:dr P E A B):dr P (E.sub A g.bs g.fs S.nr) (S.mem P g.vs g.rs) B where
 row b cs bp hb:=by
  rcases Jp h.rV hb with ⟨p,r,h1,h2,h3⟩ | ⟨i,q,_,h2,h3⟩
  ·simp only [hO.row.injEq] at h3
   obtain ⟨rfl,rfl⟩:=h3;obtain ⟨b',cs,h4,h5,h6,h7,h8,h9⟩:=h.row h1;rw [h2] at h8; simp at h8; subst h8;obtain ⟨x,bP,px,GD,h12⟩:=hk.row _ _ _ h5;refine ⟨x,bP,by simp [Env.sub,h4,px],GD,?_⟩;have hh:po E (E.sub A g.bs g.fs S.nr) (S.RT P t A) S.nr:=h.hyp;have hr:=hh.right;rw [FL (h.vs ▸ h.dD)] at hr;have:=abL h.rows hr h1;rw [h7] at this;have hrr:=TZ h.ao4 h1;rw [h7] at hrr;exact aV.cellsIn (E:=E) (E0:=E.sub A g.bs g.fs S.nr) rfl h.rk h12 h6 h9 this hrr
  ·subst h3
   obtain ⟨fi,_,_,h6⟩:=h.fact h2;rcases h6 with ⟨_,_,e,_⟩ | ⟨_,_,e,_⟩ <;> simp at e
 aP b top sz hb:=by
  rcases Jp h.rV hb with ⟨p,r,_,_,h3⟩ | ⟨i,q,rfl,h2,h3⟩
  ·simp at h3
  ·subst h3
   obtain ⟨fi,h4,h5,h6⟩:=h.fact h2;rcases h6 with ⟨_,_,e,h6⟩ | ⟨_,_,e,_⟩
   ·simp only [hO.aP.injEq] at e
    obtain ⟨rfl,rfl⟩:=e;rw [Env.abM,h5,dQ];rcases h6 with ⟨h6,h7⟩ | ⟨f,h6,h7⟩
    ·rw [h6]; exact .inl ⟨h7,rfl⟩
    ·rw [h6,dQ,show Cm (A.get f)=true by rw [h7]; rfl,aj]; exact hk.aP f _ _ h7
   ·simp at e
 z:=hk.z
 apart b x e:=by
  simp only [Env.sub,cE] at e;obtain ⟨b',_,e⟩:=e;exact hk.apart b' x e
 inj b c x e1 e2:=by
  simp only [Env.sub,cE] at e1 e2;obtain ⟨b',h1,e1⟩:=e1;obtain ⟨c',h2,e2⟩:=e2;have:=hk.inj _ _ _ e1 e2;subst this;exact abJ h.nodup _ _ _ h1 h2
 gK b c q tb sb tc sc hb hc e1 e2:=by
  have key:∀ {b t s},(S.mem P g.vs g.rs).get b=some (.aP t s)->∃ i,b=S.nr+i/\((g.fs[i]? = some none)\/∃ f,g.fs[i]? = some (some f)/\A.get f=some (.aP t s)):=by
   intro b t s hb;rcases Jp h.rV hb with ⟨p,r,_,_,h3⟩ | ⟨i,q1,rfl,h2,h3⟩
   ·simp at h3
   subst h3;obtain ⟨fi,h4,h5,h6⟩:=h.fact h2;rcases h6 with ⟨_,_,e,h6⟩ | ⟨_,_,e,_⟩
   ·simp only [hO.aP.injEq] at e
    obtain ⟨rfl,rfl⟩:=e;rcases h6 with ⟨h6,_⟩ | ⟨f,h6,h7⟩
    ·exact ⟨i,rfl,.inl (by rw [h5,h6])⟩
    ·exact ⟨i,rfl,.inr ⟨f,by rw [h5,h6],h7⟩⟩
   ·simp at e
  obtain ⟨i,rfl,h1⟩:=key hb;obtain ⟨j,rfl,h2⟩:=key hc;rw [Env.abM] at e1 e2;rcases h1 with h1 | ⟨f,h1,h3⟩
  ·rw [h1] at e1; simp at e1
  rcases h2 with h2 | ⟨f',h2,h4⟩
  ·rw [h2] at e2; simp at e2
  rw [h1,dQ,dQ] at e1;rw [h2,dQ,dQ] at e2;rw [show Cm (A.get f)=true by rw [h3]; rfl,aj] at e1;rw [show Cm (A.get f')=true by rw [h4]; rfl,aj] at e2;have:=hk.gK f f' q _ _ _ _ h3 h4 e1 e2;subst this;have:=zR h.aag i j f h1 h2;omega
 jP b x e:=by
  simp only [Env.sub,cE] at e;obtain ⟨b',h1,_⟩:=e;have:b < g.bs.length:=(cH.1 h1).1;rw [aJ.mem,fN,py h.rV];rw [h.Y8] at this;simp only [aJ.nr]; omega
 kR b q e:=by
  simp only [Env.sub] at e;split at e
  ·rename_i hle
   obtain ⟨f,h1,_⟩:=cE.1 e;have h2:b - S.nr < g.fs.length:=(cH.1 h1).1;rw [h.fs,uL,<- h.lens] at h2;rw [aJ.mem,fN,py h.rV];omega
  ·simp at e
 live b o hb:=by
  rw [aJ.mem,fN,py h.rV];rcases Jp h.rV hb with ⟨p,r,h1,_,_⟩ | ⟨i,q,rfl,h2,h3⟩
  ·have:=(cH.1 h1).1
   simp only [aJ.nr]; omega
  ·have:=(cH.1 h2).1
   omega
 eV b x e:=by
  simp only [Env.sub,cE] at e;obtain ⟨b',_,e⟩:=e;exact hk.eV b' x e
 lJ:=hk.lJ
 iv b q e:=by
  simp only [Env.sub] at e;split at e
  ·obtain ⟨f,_,e⟩:=cE.1 e
   obtain ⟨f',_,e⟩:=cE.1 e;exact hk.iv _ _ (Rx e).1
  ·simp at e
 fresh:=hk.fresh
 mem:=hk.mem
 ar:=by
  have afi:∀ b p,(E.sub A g.bs g.fs S.nr).α b=some p->S.nr<=b/\b - S.nr < g.fs.length/\∃ f,E.α f=some p:=by
   intro b p e;simp only [Env.sub] at e;split at e
   ·rename_i hle
    obtain ⟨f,h1,e⟩:=cE.1 e;obtain ⟨f',_,e⟩:=cE.1 e;exact ⟨hle,(cH.1 h1).1,f',e⟩
   ·simp at e
  refine ⟨fun b v hb=>?_,fun b v hb=>?_,fun x q=>?_,fun b c v u x L N L' N' h1 h2 h3 h4=>?_,fun b c v u x y L N L' N' cs e own q k bP e' rC k' h1 h2 h3 h4 h5 h6=>?_,fun b x e=>?_,fun b p e=>?_,fun b x L N e=>?_,fun b v x L N cs e own q k h1 h2 h3=>?_,fun b v hb=>?_⟩
  ·obtain ⟨i,T,rfl,h1⟩:=h.ako hb
   rcases h1 with ⟨h1,h2,h3⟩ | ⟨f,m,N,es,acc,h1,h2,h3⟩
   ·obtain ⟨pt,ay,e1,e2,_⟩:=Qj (P:=P) (E:=E) (t:=T) (n:=0) (es:=[]) (acc:=qN) (bo:=[]) ⟨rfl,fun i hi=>by omega,rfl⟩ .nil
    rw [e1] at h3;refine ⟨T,0,pt,ay,h3,e2,h2,.inl ⟨rfl,?_⟩⟩;rw [Env.Jo,h1]; rfl
   ·obtain ⟨T2,N2,pt,ay,e,ht,dT,yu⟩:=hk.ar.arr f _ h2
    simp only [KV.ts.injEq] at e;obtain ⟨rfl,rfl,rfl,rfl,rfl⟩:=e;rcases yu with ⟨h4,h5⟩ | ⟨x,cs,bN,bo,h4,h5,h6,h7⟩
    ·subst h4
     have TH:es = []:=qR.1 ht.len.symm;subst TH;obtain ⟨pt,ay,e1,e2,_⟩:=Qj (P:=P) (E:=E) (bo:=[]) ht .nil;rw [e1] at h3;refine ⟨T,0,pt,ay,h3,e2,dT,.inl ⟨rfl,?_⟩⟩;rw [Env.Jo,h1]; exact h5
    ·obtain ⟨pt,ay,e1,e2,e3⟩:=Qj ht h6
     rw [e1] at h3;refine ⟨T,N,pt,ay,h3,e2,dT,.inr ⟨x,cs,bN,bo,?_,h5,aV.zEs (E:=E) (E0:=E.sub A g.bs g.fs S.nr) (.of rfl) e3 e2.typed,h7⟩⟩;rw [Env.Jo,h1]; exact h4
  ·rcases Jp h.rV hb with ⟨p,r,_,_,h3⟩ | ⟨i,q,rfl,h2,h3⟩
   ·simp at h3
   ·subst h3
    obtain ⟨fi,_,_,h6⟩:=h.fact h2;rcases h6 with ⟨_,_,e,_⟩ | ⟨_,_,e,_⟩ <;> simp at e
  ·obtain ⟨h1,h2⟩:=hk.ar.z x (h.ar q)
   refine ⟨h1,fun c e=>?_⟩;simp only [Env.sub,cE] at e;obtain ⟨b',_,e⟩:=e;exact h2 b' e
  ·obtain ⟨i,f,u1,rfl,k1,k2,k3⟩:=h.Jq h1 h3
   obtain ⟨j,f',u2,rfl,k1',k2',k3'⟩:=h.Jq h2 h4;have:=hk.ar.inj f f' u1 u2 x L N L' N' k2 k2' k3 k3';subst this;have:=zR h.aag i j f k1 k1';omega
  ·obtain ⟨i,f,u1,rfl,k1,k2,k3⟩:=h.Jq h1 h3
   obtain ⟨j,f',u2,rfl,k1',k2',k3'⟩:=h.Jq h2 h4;have:=hk.ar.xz f f' u1 u2 x y L N L' N' cs e own q k bP e' rC k' k2 k2' k3 k3' h5 h6;subst this;have:=zR h.aag i j f k1 k1';omega
  ·cases uc:(E.sub A g.bs g.fs S.nr).α b with
   | none=>rfl
   | some p=>
    obtain ⟨h1,_,_⟩:=afi b p uc;simp only [Env.sub,cE] at e;obtain ⟨b',h2,_⟩:=e;have:b < g.bs.length:=(cH.1 h2).1;rw [h.Y8] at this;simp only [aJ.nr] at h1; omega
  ·obtain ⟨h1,h2,_⟩:=afi b p e
   rw [h.fs,uL,<- h.lens] at h2;rw [aJ.mem,fN,py h.rV];omega
  ·obtain ⟨_,_,f,e⟩:=afi b _ e
   exact hk.ar.eV f x L N e
  ·obtain ⟨i,f,u,rfl,k1,k2,k3⟩:=h.Jq h1 h2
   obtain ⟨h4,h5,h6⟩:=hk.ar.vD f u x L N cs e own q k k2 k3 h3;refine ⟨h4,fun c e=>?_,fun y hy cD=>?_⟩
   ·simp only [Env.sub] at e
    split at e
    ·obtain ⟨f1,_,e⟩:=cE.1 e
     obtain ⟨f',_,e⟩:=cE.1 e;exact h5 f' (Rx e).1
    ·simp at e
   ·obtain ⟨h7,h8,h9⟩:=h6 y hy cD
    refine ⟨h7,fun q=>h8 (h.ar q),fun c e=>?_⟩;simp only [Env.sub,cE] at e;obtain ⟨b',_,e⟩:=e;exact h9 b' e
  ·rcases Jp h.rV hb with ⟨p,r,_,_,h3⟩ | ⟨i,q,rfl,h2,_⟩
   ·simp at h3
   ·refine ⟨?_,?_⟩
    ·rw [aJ.mem,fN,py h.rV]
     have:=(cH.1 h2).1;omega
    ·simp only [Env.sub]
     rw [List.getElem?_eq_none (by rw [h.Y8]; simp only [aJ.nr]; omega)];rfl
structure Co (base:Nat) (E:Env) (A:ae) (B:St) (ρ:Ren) (w:World) (E' : Env) (A' : ae) (B' : St) (aF:Ren) (w' : World):Prop where
 eJ:jb base ρ B w aF B' w'
 z:∀ b r,E.z b=some r->E'.z b=some r
 dR:∀ x,x < B.next->(∀ b,E.κ b≠some x)->¬ AT A E B x->B'.get x=B.get x
 new:∀ b x,E'.κ b=some x->(∃ c,E.κ c=some x)\/B.next<=x
 ud:∀ b r,E'.z b=some r->E.z b=some r\/AR A E b\/B.next<=b
 su:∀ b g,E'.φ b=some g->(∃ c,E.φ c=some g)\/B.next<=g
 o5:∀ g,g < B.next->(∀ b,E.φ b≠some g)->¬ AF A E B g->B'.members g=B.members g
 kA:∀ x,AR A' E' x->AR A E x\/B.next<=x
 kS:∀ g,AF A' E' B' g->AF A E B g\/B.next<=g
 vE:∀ g y,y∈B'.members g->y∈B.members g\/B.next<=y
 mh:∀ y,AT A' E' B' y->AT A E B y\/B.next<=y
 rows:∀ y,y < B.next->∀ cs e own bN,B'.get y=some (.row cs e own bN)->∃ mg,B.get y=some (.row mg e own bN)/\mg.length=cs.length
theorem Co.trans {base:Nat} {E1 E2 E3:Env} {A1 A2 A3:ae} {B1 B2 B3:St} {kM xC ρ3:Ren} {w1 w2 w3:World} (h:Co base E1 A1 B1 kM w1 E2 A2 B2 xC w2) (k:Co base E2 A2 B2 xC w2 E3 A3 B3 ρ3 w3):Co base E1 A1 B1 kM w1 E3 A3 B3 ρ3 w3 where
 eJ:=h.eJ.trans k.eJ
 z b r e:=k.z b r (h.z b r e)
 dR x hx hn ha:=by
  refine (k.dR x (fa hx h.eJ.next) (fun b e=>?_) fun q=>?_).trans (h.dR x hx hn ha)
  ·rcases h.new b x e with ⟨c,e⟩ | e
   ·exact hn c e
   ·omega
  ·rcases h.mh x q with e | e
   ·exact ha e
   ·omega
 new b x e:=by
  rcases k.new b x e with ⟨c,e⟩ | e
  ·exact h.new c x e
  ·have:=h.eJ.next; exact .inr (by omega)
 ud b r e:=by
  rcases k.ud b r e with e | e | e
  ·exact h.ud b r e
  ·exact .inr (h.kA b e)
  ·have:=h.eJ.next; exact .inr (.inr (by omega))
 su b g e:=by
  rcases k.su b g e with ⟨c,e⟩ | e
  ·exact h.su c g e
  ·have:=h.eJ.next; exact .inr (by omega)
 o5 g hg hn ha:=by
  refine (k.o5 g (fa hg h.eJ.next) (fun b e=>?_) fun q=>?_).trans (h.o5 g hg hn ha)
  ·rcases h.su b g e with ⟨c,e⟩ | e
   ·exact hn c e
   ·omega
  ·rcases h.kS g q with e | e
   ·exact ha e
   ·omega
 kA x e:=by
  rcases k.kA x e with e | e
  ·exact h.kA x e
  ·have:=h.eJ.next; exact .inr (by omega)
 kS g e:=by
  rcases k.kS g e with e | e
  ·exact h.kS g e
  ·have:=h.eJ.next; exact .inr (by omega)
 vE g y e:=by
  rcases k.vE g y e with e | e
  ·exact h.vE g y e
  ·have:=h.eJ.next; exact .inr (by omega)
 mh y e:=by
  rcases k.mh y e with e | e
  ·exact h.mh y e
  ·have:=h.eJ.next; exact .inr (by omega)
 rows y hy cs e own bN q:=by
  obtain ⟨c1,h1,h2⟩:=k.rows y (fa hy h.eJ.next) cs e own bN q;obtain ⟨c0,h3,h4⟩:=h.rows y hy c1 e own bN h1;exact ⟨c0,h3,h4.trans h2⟩
theorem Ev.co {base:Nat} {A A1:ae} {B B1:St} {ρ kM:Ren} {w w1:World} {E1:Env} {S:aJ} {t:bf} {g:GR} (h:Ev P base E A B ρ w E1 A1 B1 kM w1) (hG:dp P S t A1 g):Co base E A B ρ w (E1.sub A1 g.bs g.fs S.nr) (S.mem P g.vs g.rs) B1 kM w1 where
 eJ:=h.eJ
 z:=h.le.z
 dR x hx hn ha:=h.dR x hx (fun b e=>absurd e (hn b)) ha
 new b x e:=by
  simp only [Env.sub,cE] at e;obtain ⟨b',_,e⟩:=e;exact (h.new b' x e).imp (fun e=>⟨_,e⟩) (·.2)
 ud:=h.ud
 su b g e:=by
  simp only [Env.sub] at e;split at e
  ·obtain ⟨f,_,e⟩:=cE.1 e
   obtain ⟨f',_,e⟩:=cE.1 e;exact h.su _ _ (Rx e).1
  ·simp at e
 o5:=h.o5
 kA x q:=h.kA x (hG.ar q)
 kS g q:=h.kS g (hG.af q)
 vE:=h.vE
 mh y q:=h.mh y (hG.at q)
 rows:=h.rows
def VF (nr:Nat):List CD->Bool
 | []=>true
 | .ref w::ds=>Y2 nr w&&VF nr ds
 | _::ds=>VF nr ds
theorem Jr {nr:Nat} {bs:List Nat} : ∀ {ds:List CD} {vs:List KV},GJ nr bs ds vs=true->vs.length=ds.length->VF nr ds=true
 | [],_,_,_=>rfl
 | _::_,[],_,e=>by simp at e
 | .k c::ds,v::vs,h,e=>Jr (ds:=ds) (vs:=vs) h (by simpa using e)
 | .lit c::ds,v::vs,h,e=>Jr (ds:=ds) (vs:=vs) h (by simpa using e)
 | .aP c::ds,v::vs,h,e=>Jr (ds:=ds) (vs:=vs) h (by simpa using e)
 | .arr c::ds,v::vs,h,e=>Jr (ds:=ds) (vs:=vs) h (by simpa using e)
 | .ref w::ds,v::vs,h,e=>by
  simp only [GJ,ao] at h;simp only [VF,ao];exact ⟨h.1,Jr h.2.2 (by simpa using e)⟩
def T3 (E1 E2:Env) (i j n:Nat):Prop:=∀ m,m < n->(∀ g,E1.φ (i+m)=some g->E2.φ (j+m)=some g)/\∀ p,E1.α (i+m)=some p->E2.α (j+m)=some p
theorem T3.tail {E1 E2:Env} {i j n:Nat} (h:T3 E1 E2 i j (n+1)):T3 E1 E2 (i+1) (j+1) n:=fun m hm=>by
 have:=h (m+1) (by omega);rw [show i+(m+1)=i+1+m by omega,show j+(m+1)=j+1+m by omega] at this;exact this
theorem T3.left {E1 E2:Env} {i j n n' : Nat} (h:T3 E1 E2 i j n') (hn:n<=n'):T3 E1 E2 i j n:=fun m hm=>h m (by omega)
theorem T3.right {E1 E2:Env} {i j n n' : Nat} (h:T3 E1 E2 i j (n+n')):T3 E1 E2 (i+n) (j+n) n':=fun m hm=>by
 have:=h (n+m) (by omega);rw [<- HK,<- HK] at this;exact this
theorem aV.CS {E1 E2:Env} (hz:E2.z=E1.z) {nr:Nat} {T4 bs2:List Nat} (hk:Rk E1 E2 nr T4 bs2):∀ {ds:List CD} {vs:List KV} {us:List Value} {i j:Nat},aV P E1 (sE i T4 ds vs) us->df ds vs=true->VF nr ds=true->T3 E1 E2 i j (ui ds)->aV P E2 (sE j bs2 ds vs) us
 | [],[],us,_,_,h,_,_,_=>by rw [h.b6]; exact .nil
 | [],_::_,_,_,_,_,hg,_,_=>by simp [df] at hg
 | _::_,[],_,_,_,_,hg,_,_=>by simp [df] at hg
 | d::ds,v::vs,us,i,j,h,hg,hw,hf=>by
  simp only [df,ao] at hg;cases d with
  | k c=>
   obtain ⟨y,ys,rfl,h1,h2⟩:=aV.cons_inv (show aV P E1 (v::sE i T4 ds vs) us from h);exact .cons (h1.gCD (d:=.k c) hz hg.1 (by simp)) (aV.CS hz hk h2 hg.2 hw hf)
  | lit w=>
   obtain ⟨y,ys,rfl,h1,h2⟩:=aV.cons_inv (show aV P E1 (v::sE i T4 ds vs) us from h);exact .cons (h1.gCD (d:=.lit w) hz hg.1 (by simp)) (aV.CS hz hk h2 hg.2 hw hf)
  | ref w=>
   simp only [VF,ao] at hw;obtain ⟨y,ys,rfl,h1,h2⟩:=aV.cons_inv (show aV P E1 (inst T4 w::sE i T4 ds vs) us from h);exact .cons (VK.inst hk hw.1 h1) (aV.CS hz hk h2 hg.2 hw.2 hf)
  | aP t=>
   obtain ⟨y,ys,rfl,h1,h2⟩:=aV.cons_inv (show aV P E1 (NZ i v::sE (i+1) T4 ds vs) us from h);refine .cons ?_ (aV.CS (i:=i+1) (j:=j+1) hz hk h2 hg.2 hw (T3.tail hf));have hv:∃ n es acc,v = .ts t .any n es acc:=by
    have hg1:kindOk (.slice t) v=true:=hg.1;cases v <;> simp [kindOk] at hg1;rename_i t' m n es acc;cases m <;> simp at hg1;subst hg1; exact ⟨_,_,_,rfl⟩
   obtain ⟨n,es,acc,rfl⟩:=hv;exact VK.swap hz (show VK P E1 (.ts t (.aP i) n es acc) y from h1) fun sz a cap _ hm=>by
    refine ⟨hm.1,hm.2.imp id ?_⟩;rintro ⟨b,r,g,q1,q2,q3,q4,q5⟩;exact ⟨b,r,g,q1,by rw [hz]; exact q2,q3,(hf 0 (by simp [ui])).1 g q4,q5⟩
  | arr t=>
   obtain ⟨y,ys,rfl,h1,h2⟩:=aV.cons_inv (show aV P E1 (Ru i v::sE (i+1) T4 ds vs) us from h);refine .cons ?_ (aV.CS (i:=i+1) (j:=j+1) hz hk h2 hg.2 hw (T3.tail hf));have hv:∃ n es acc,v = .ts t .any n es acc:=by
    have hg1:kindOk (.slice t) v=true:=hg.1;cases v <;> simp [kindOk] at hg1;rename_i t' m n es acc;cases m <;> simp at hg1;subst hg1; exact ⟨_,_,_,rfl⟩
   obtain ⟨n,es,acc,rfl⟩:=hv;show VK P E2 (.al t j 0 n) y;rcases (show VK P E1 (.al t i 0 n) y from h1).yL with ⟨q1,q2,q3⟩ | ⟨x,L,N,c,q1,q2⟩
   ·exact .PN (.inl ⟨q1,q2,q3⟩)
   ·exact .PN (.inr ⟨x,L,N,c,(hf 0 (by simp [ui])).2 _ q1,q2⟩)
theorem alr (j:Nat) (bs:List Nat) (d:VD) (cs:List KV):Y3 j bs d (.agg cs) = .agg (sE j bs d.ks cs):=rfl
theorem adY {j:Nat} {bs:List Nat} {d:VD} {v:KV} (h:∀ cs,v≠.agg cs) {c:CD} (hc:d.ks = [c]) : [Y3 j bs d v] = sE j bs d.ks [v]:=by
 have e:Y3 j bs d v=(match d.ks with | [.aP _]=>NZ j v | [.arr _]=>Ru j v | [.ref w]=>inst bs w | _=>v):=by
  cases v <;> first | rfl | exact absurd rfl (h _)
 rw [e,hc];cases c <;> rfl
theorem VK.apJ {E1 E2:Env} (hz:E2.z=E1.z) {nr:Nat} {T4 bs2:List Nat} (hk:Rk E1 E2 nr T4 bs2) {d:VD} {v:KV} {u:Value} {i j:Nat} (h:VK P E1 (Y3 i T4 d v) u) (hg:zO d v=true) (hw:VF nr d.ks=true) (hf:T3 E1 E2 i j (ui d.ks)):VK P E2 (Y3 j bs2 d v) u:=by
 rcases Bq hg with ⟨cs,rfl,_,h2⟩ | ⟨h0,_,c,h1,h2⟩
 ·rw [alr] at h ⊢
  obtain ⟨l,rfl,k⟩:=h.kQ;exact .rR (aV.CS hz hk k h2 hw hf)
 ·have k:aV P E1 (sE i T4 d.ks [v]) [u]:=by rw [<- adY h0 h1]; exact .cons h .nil
  have k2:=aV.CS hz hk k (by rw [h1]; simp [df,h2]) hw hf;rw [<- adY h0 h1] at k2;obtain ⟨y,e,k3⟩:=k2.ee;simp at e; subst e; exact k3
def uk (P:Program) (E1 E2:Env):List (Nat×KV)->List (Nat×KV)->Prop
 | [],[]=>True
 | x::xs,y::ys=>x.1=y.1/\(∀ u,VK P E1 x.2 u->VK P E2 y.2 u)/\uk P E1 E2 xs ys
 | _,_=>False
theorem uk.append {E1 E2:Env} : ∀ {a b c d:List (Nat×KV)},uk P E1 E2 a b->uk P E1 E2 c d->uk P E1 E2 (a++c) (b++d)
 | [],[],_,_,_,h=>h
 | [],_::_,_,_,h,_=>h.elim
 | _::_,[],_,_,h,_=>h.elim
 | _::_,_::_,_,_,h,k=>⟨h.1,h.2.1,uk.append h.2.2 k⟩
theorem uk.get {E1 E2:Env} : ∀ {a b:List (Nat×KV)},uk P E1 E2 a b->∀ i,((iJ a).get i=none/\(iJ b).get i=none)\/∃ x y,(iJ a).get i=some x/\(iJ b).get i=some y/\∀ u,VK P E1 x u->VK P E2 y u
 | [],[],_,i=>.inl (by simp [iJ])
 | [],_::_,h,_=>h.elim
 | _::_,[],h,_=>h.elim
 | x::a,y::b,h,i=>by
  rw [iJ,iJ,Trie.oX,Trie.oX];by_cases e:i=x.1
  ·rw [aD e,aD (by rw [e,h.1])]
   exact .inr ⟨_,_,rfl,rfl,h.2.1⟩
  ·rw [aa e,aa (by rw [<- h.1]; exact e)]
   exact uk.get h.2.2 i
theorem iZ.am1 {E1 E2:Env} {ρ:Ren} {l m:List (Nat×KV)} {N:Nat} {a:Act} (h:iZ P E1 ρ (K.iJ l) N a) (hp:uk P E1 E2 l m):iZ P E2 ρ (K.iJ m) N a:=by
 refine ⟨h.size,fun i=>?_,fun i hi=>?_⟩
 ·rcases hp.get i with ⟨_,h2⟩ | ⟨x,y,h1,h2,h3⟩
  ·rw [h2]; exact .bh
  ·have:=h.val i
   rw [h1] at this;rw [h2];obtain ⟨u,k1,k2⟩:=this;exact ⟨u,h3 u k1,k2⟩
 ·rcases hp.get i with ⟨_,h2⟩ | ⟨x,y,h1,h2,h3⟩
  ·exact h2
  ·have:=h.none i hi
   rw [h1] at this; simp at this
def wsV (nr:Nat):List (Tmp×VD)->Bool
 | []=>true
 | p::ps=>VF nr p.2.ks&&wsV nr ps
theorem akp {A:ae} {t:bf} {nr:Nat} {bs:List Nat} : ∀ {ps:List (Tmp×VD)},LL nr bs t ps=true->eP ps (oq P t A ps)=true->wsV nr ps=true
 | [],_,_=>rfl
 | p::ps,h,hg=>by
  simp only [LL,ao] at h;simp only [oq,eP,ao] at hg;simp only [wsV,ao];exact ⟨Jr h.1 (F7 hg.1),akp h.2 hg.2⟩
theorem adZ {E1 E2:Env} (hz:E2.z=E1.z) {nr:Nat} {T4 bs2:List Nat} (hk:Rk E1 E2 nr T4 bs2):∀ {ps:List (Tmp×VD)} {vs:List KV} {i j:Nat},eP ps vs=true->wsV nr ps=true->T3 E1 E2 i j (ot ps)->uk P E1 E2 (OM i T4 ps vs) (OM j bs2 ps vs)
 | [],[],_,_,_,_,_=>trivial
 | [],_::_,_,_,hg,_,_=>by simp [eP] at hg
 | _::_,[],_,_,hg,_,_=>by simp [eP] at hg
 | p::ps,v::vs,i,j,hg,hw,hf=>by
  simp only [wsV,ao] at hw;simp only [eP,ao] at hg;have hf:T3 E1 E2 i j (ui p.2.ks+ot ps):=hf;exact ⟨rfl,fun u h=>h.apJ hz hk hg.1 hw.1 (hf.left (Nat.le_add_right _ _)),adZ hz hk hg.2 hw.2 hf.right⟩
theorem ag0 {E1 E2:Env} {ids bs:List Nat} : ∀ {ps:List (Tmp×Nat×Nat)},(∀ p∈ps,GI p=true->∀ x,E1.κ (ids.getD p.2.1 0)=some x->E2.κ (bs.getD p.2.1 0)=some x)->uk P E1 E2 (zQ ids ps) (zQ bs ps)
 | [],_=>trivial
 | p::ps,h=>by
  have ih:=ag0 (E1:=E1) (E2:=E2) (ids:=ids) (bs:=bs) (ps:=ps) fun q hq=>h q (by simp [hq]);unfold zQ;cases hp:GI p with
  | true=>
   exact ⟨rfl,fun u k=>by
    obtain ⟨x,h1,rfl⟩:=(show VK P E1 (.ptr (ids.getD p.2.1 0) p.2.2) u from k).ig;exact .Cg (h p (by simp) hp x h1),ih⟩
  | false=>exact ih
theorem ag1 {E1 E2:Env} {a b:List (Nat×KV)} (hab:uk P E1 E2 a b):∀ {ps:List (Tmp×Nat×Nat)},uk P E1 E2 (N1 a ps) (N1 b ps)
 | []=>trivial
 | p::ps=>by
  have ih:=ag1 hab (ps:=ps);unfold N1;cases hp:GI p with
  | true=>exact ih
  | false=>
   refine ⟨rfl,fun u k=>?_,ih⟩;have k:VK P E1 (TU a (p.2.1 - 1000000)) u:=k;show VK P E2 (TU b (p.2.1 - 1000000)) u;unfold TU at k ⊢;rcases hab.get (p.2.1 - 1000000) with ⟨h1,h2⟩ | ⟨x,y,h1,h2,h3⟩
   ·rw [h1] at k
    rw [h2];simp [VK]
   ·rw [h1] at k
    rw [h2];exact h3 u k
end Go.K
end
section
namespace Go.K
open Go Go.aG
variable {P:Program} {E:Env}
theorem IB:∀ (ps:List (Tmp×List CD×Nat)) (j k:Nat),CR j ps k=j+CR 0 ps k
 | [],j,k=>by simp [CR]
 | _::_,j,0=>by simp [CR]
 | p::ps,j,k+1=>by
  simp only [CR];rw [IB ps (j+ui p.2.1) k,IB ps (0+ui p.2.1) k];omega
theorem mem_row {S:aJ} {vs:List KV} {rs:List (List KV)} (h:rs.length=S.rows.length) {k:Nat} {p:Tmp×List CD×Nat} {r:List KV} (hp:S.rows[k]? = some p) (hr:rs[k]? = some r):(S.mem P vs rs).get k=some (.row (sE (CR (S.nr+ot S.dD) S.rows k) S.ids p.2.1 r) p.2.2):=by
 have hk:k < S.nr:=(cH.1 hp).1;rw [aJ.mem,Dz (by rw [py h]; exact hk)];have:=akn (A:=.empty) hp (show (S.Jm S.nr S.ids rs)[k]? = some _ from Rw hp hr);simpa [ae.empty] using this
theorem VG {S:aJ} {vs:List KV} {rs:List (List KV)} (h:rs.length=S.rows.length) {i:Nat} {q:hO} (hq:(S.lens P vs rs)[i]? = some q):(S.mem P vs rs).get (S.nr+i)=some q:=by
 have:=Qh (A:=uj .empty S.rows (S.Jm S.nr S.ids rs)) hq;rw [py h] at this;exact this
def Env.up (E E1:Env) (nr nx:Nat):Env:={ κ:=E.κ,z:=E1.z,φ:=fun b=>if nx<=b then E1.φ (nr+(b - nx)) else E.φ b,α:=fun b=>if nx<=b then E1.α (nr+(b - nx)) else E.α b }
theorem Env.DB {E1:Env} {nr nx j:Nat} : (E.up E1 nr nx).φ (nx+j)=E1.φ (nr+j):=by
 simp only [Env.up];rw [aD (by omega),show nx+j - nx=j by omega]
theorem Env.DC {E1:Env} {nr nx b:Nat} (h:b < nx):(E.up E1 nr nx).φ b=E.φ b:=by
 simp only [Env.up];rw [aa (by omega)]
theorem Env.MI {E1:Env} {nr nx j:Nat} : (E.up E1 nr nx).α (nx+j)=E1.α (nr+j):=by
 simp only [Env.up];rw [aD (by omega),show nx+j - nx=j by omega]
theorem Env.MJ {E1:Env} {nr nx b:Nat} (h:b < nx):(E.up E1 nr nx).α b=E.α b:=by
 simp only [Env.up];rw [aa (by omega)]
theorem ad0 {S:aJ} {t:bf} {A:ae} {B B1:St} {g:GR} {ρ kM:Ren} {base N:Nat} {w w1:World} {a1:Act} {vs:List KV} {rs:List (List KV)} {E1:Env} (hG:dp P S t A g) (hk:dr P E A B)
  (ht:iZ P E1 kM (S.tm S.nr S.ids vs) N a1) (hs:dr P E1 (S.mem P vs rs) B1) (AO:Co base (E.sub A g.bs g.fs S.nr) (S.mem P g.vs g.rs) B ρ w E1 (S.mem P vs rs) B1 kM w1) (Kj:∀ k,k < S.rows.length->E1.κ k=(E.sub A g.bs g.fs S.nr).κ k)
  (hv:eP S.dD vs=true) (Pz:rs.length=S.rows.length) (hrg:∀ (k:Nat) p r,S.rows[k]? = some p->rs[k]? = some r->df p.2.1 r=true) :
  iZ P (E.up E1 S.nr A.next) kM (S.tm A.next g.bs vs) N a1/\Ev P base E A B ρ w (E.up E1 S.nr A.next) (S.back P g.bs g.fs vs rs A) B1 kM w1:=by
 have hle:E.le (E.up E1 S.nr A.next):=⟨fun b p e=>by rw [Env.MJ (hk.ar.jP b p e)]; exact e,fun _ _ e=>e,fun b r e=>AO.z b r e,fun b q e=>by rw [Env.DC (hk.kR b q e)]; exact e⟩
 have am2:∀ (k b:Nat),g.bs[k]? = some b->E1.κ k=E.κ b:=fun k b hb=>by
  rw [Kj k (by rw [<- hG.Y8]; exact (cH.1 hb).1)];simp [Env.sub,hb]
 have fZ:(Cn (pn A g.bs S.rows (S.Jm A.next g.bs rs)) g.fs).next=A.next:=by rw [KK,TX]
 have NX:∀ x,x < B.next->(∀ (k b:Nat),g.bs[k]? = some b->E.κ b≠some x)->¬ AT (S.mem P g.vs g.rs) (E.sub A g.bs g.fs S.nr) B x->B1.get x=B.get x:=fun x hx cD ha=>AO.dR x hx (fun k e=>by
  simp only [Env.sub,cE] at e;obtain ⟨b,h1,e⟩:=e;exact cD k b h1 e) ha
 have ZG:∀ f,f∈jF g.fs->∃ i:Nat,g.fs[i]? = some (some f)/\((∃ n sz,A.get f=some (.aP n sz))\/∃ v,A.get f=some (.arr v)):=by
  intro f hf;obtain ⟨i,hi⟩:=List.getElem?_of_mem (zb.1 hf);have bm:i < (S.lens P g.vs g.rs).length:=by rw [hG.lens,<- uL,<- hG.fs]; exact (cH.1 hi).1
  obtain ⟨fi,_,h2,h3⟩:=hG.fact (cJ bm);rw [hi] at h2; simp at h2;rcases h3 with ⟨n,sz,_,⟨h3,_⟩ | ⟨f',h3,h4⟩⟩ | ⟨T,v,_,⟨h3,_⟩ | ⟨f',m,N,es,acc,h3,h4,_⟩⟩
  ·rw [h3] at h2; simp at h2
  ·rw [h3] at h2; simp at h2; subst h2; exact ⟨i,hi,.inl ⟨_,_,h4⟩⟩
  ·rw [h3] at h2; simp at h2
  ·rw [h3] at h2; simp at h2; subst h2; exact ⟨i,hi,.inr ⟨_,h4⟩⟩
 have ao5:∀ f v,f∈jF g.fs->A.get f=some v->(∃ n sz,v = .aP n sz)\/∃ u,v = .arr u:=by
  intro f v hf hv;obtain ⟨_,_,⟨n,sz,h1⟩ | ⟨u,h1⟩⟩:=ZG f hf
  ·rw [hv] at h1; simp at h1; exact .inl ⟨n,sz,h1⟩
  ·rw [hv] at h1; simp at h1; exact .inr ⟨u,h1⟩
 have hrk:Rk E1 (E.up E1 S.nr A.next) S.rows.length S.ids g.bs:=fun j x hj e=>by
  have bm:j < g.bs.length:=by rw [hG.Y8]; exact hj
  rw [fH,Jn S j hj,dI] at e;rw [fH,cJ bm,dI];show E.κ _=some x;rw [<- am2 j _ (cJ bm)]; exact e
 have Xe:∀ (k b:Nat),g.bs[k]? = some b->∃ (p:Tmp×List CD×Nat) (r:List KV) (x:Nat) (bP:List Value),S.rows[k]? = some p/\rs[k]? = some r/\E.κ b=some x/\B1.get x=some (.row bP p.2.2 true none)/\aV P (E.up E1 S.nr A.next) (sE (CR (A.next+ot S.dD) S.rows k) g.bs p.2.1 r) bP/\
   (Cn (pn A g.bs S.rows (S.Jm A.next g.bs rs)) g.fs).get b=some (.row (sE (CR (A.next+ot S.dD) S.rows k) g.bs p.2.1 r) p.2.2)/\b ∉ jF g.fs:=by
  intro k b hb;have bm:k < S.rows.length:=by rw [<- hG.Y8]; exact (cH.1 hb).1
  have hp:=cJ bm;have hr:=cJ (show k < rs.length by rw [Pz]; exact bm);obtain ⟨b',cs,q1,q2,_⟩:=hG.row hp;rw [hb] at q1; simp at q1; subst q1;obtain ⟨x,bP,h1,h2,h3⟩:=hs.row k _ _ (mem_row Pz hp hr);have hnf:b ∉ jF g.fs:=fun hf=>by
   rcases ao5 b _ hf q2 with ⟨_,_,e⟩ | ⟨_,e⟩ <;> simp at e
  refine ⟨_,_,x,bP,hp,hr,by rw [<- am2 k b hb]; exact h1,h2,?_,?_,hnf⟩
  ·have hws:VF S.rows.length S.rows[k].2.1=true:=by
    obtain ⟨_,mg,_,_,Mi,hc0,_,_⟩:=hG.row hp;have:=TZ hG.ao4 hp;rw [hc0] at this;exact Jr this Mi
   refine aV.CS (E1:=E1) (E2:=E.up E1 S.nr A.next) rfl hrk h3 (hrg _ _ _ hp hr) hws fun m _=>⟨fun q e=>?_,fun q e=>?_⟩
   ·rw [IB,show A.next+ot S.dD+CR 0 S.rows k+m=A.next+(ot S.dD+CR 0 S.rows k+m) by omega,Env.DB]
    rw [IB,show S.nr+ot S.dD+CR 0 S.rows k+m=S.nr+(ot S.dD+CR 0 S.rows k+m) by omega] at e;exact e
   ·rw [IB,show A.next+ot S.dD+CR 0 S.rows k+m=A.next+(ot S.dD+CR 0 S.rows k+m) by omega,Env.MI]
    rw [IB,show S.nr+ot S.dD+CR 0 S.rows k+m=S.nr+(ot S.dD+CR 0 S.rows k+m) by omega] at e;exact e
  ·rw [E4,aa hnf]
   exact agU hG.nodup hb hp (show (S.Jm A.next g.bs rs)[k]? = some _ from Rw hp hr)
 have am3:∀ (k b:Nat),g.bs[k]? = some b->∃ cs e,A.get b=some (.row cs e):=by
  intro k b hb;have bm:k < S.rows.length:=by rw [<- hG.Y8]; exact (cH.1 hb).1
  obtain ⟨b',cs,q1,q2,_⟩:=hG.row (cJ bm);rw [hb] at q1; simp at q1; subst q1;exact ⟨_,_,q2⟩
 have rS:∀ b,b∈g.bs->∃ k:Nat,g.bs[k]? = some b:=fun b hb=>List.getElem?_of_mem hb;have Ry:∀ c q,(E.sub A g.bs g.fs S.nr).φ c=some q->∃ f n sz,f∈jF g.fs/\E.φ f=some q/\A.get f=some (.aP n sz):=by
  intro c q e;simp only [Env.sub] at e;split at e
  ·obtain ⟨f,h1,e⟩:=cE.1 e
   obtain ⟨f',h2,e⟩:=cE.1 e;subst h2;obtain ⟨e1,e2⟩:=Rx e;obtain ⟨n,sz,e3⟩:=agX e2;exact ⟨f',n,sz,zb.2 (gu h1),e1,e3⟩
  ·simp at e
 have hinv:∀ b o,(S.back P g.bs g.fs vs rs A).get b=some o->(b∈g.bs/\∃ cs e,o = .row cs e/\(Cn (pn A g.bs S.rows (S.Jm A.next g.bs rs)) g.fs).get b=some (.row cs e))\/(b ∉ g.bs/\b ∉ jF g.fs/\A.get b=some o)\/(b∈jF g.fs/\o = .dead)\/∃ i q,b=A.next+i/\(S.lens P vs rs)[i]? = some q/\o=q:=by
  intro b o hb;rcases VA hb with hb | ⟨i,q,h1,h2,h3⟩
  ·by_cases hbs:b∈g.bs
   ·obtain ⟨k,mO⟩:=rS b hbs
    obtain ⟨p,r,x,bP,h1,h2,h3,h4,h5,h6,h7⟩:=Xe k b mO;rw [h6] at hb; simp at hb;exact .inl ⟨hbs,_,_,hb.symm,h6⟩
   ·rw [E4] at hb
    split at hb
    ·rename_i hf; simp at hb; exact .inr (.inr (.inl ⟨hf,hb.symm⟩))
    ·rename_i hf
     rw [KL hbs] at hb;exact .inr (.inl ⟨hbs,hf,hb⟩)
  ·rw [fZ] at h1
   exact .inr (.inr (.inr ⟨i,q,h1,h2,h3⟩))
 have aqH:∀ b,A.get b=some wH->(S.back P g.bs g.fs vs rs A).get b=some wH:=fun b hb=>by
  have bm:=hk.live b _ hb;rw [aJ.back,Dz (by rw [fZ]; exact bm),E4,aa,KL]
  ·exact hb
  ·intro e
   obtain ⟨k,mO⟩:=rS b e;obtain ⟨_,_,h6⟩:=am3 k b mO;rw [hb] at h6;simp at h6
  ·intro e
   rcases ao5 b _ e hb with ⟨_,_,e2⟩ | ⟨_,e2⟩ <;> simp at e2
 have hnewobj:∀ i q,(S.lens P vs rs)[i]? = some q->(S.mem P vs rs).get (S.nr+i)=some q:=fun i q hq=>VG Pz hq;have akq:∀ (i:Nat) (q:hO),(S.lens P vs rs)[i]? = some q->(∃ n sz,q=hO.aP n sz)\/∃ v,q=hO.arr v:=by
  have one:∀ (ds:List CD) (vs:List KV),∀ q∈o8 P ds vs,(∃ n sz,q = .aP n sz)\/∃ v,q = .arr v:=by
   intro ds
   induction ds with
   | nil=>intro vs q hq; simp [o8] at hq
   | cons d ds ih=>
    intro vs q hq;cases vs with
    | nil=>cases d <;> simp [o8] at hq
    | cons v vs=>
     cases d <;> simp only [o8,de] at hq
     ·exact ih vs q hq
     ·exact ih vs q hq
     ·rcases hq with rfl | hq
      ·exact .inl ⟨_,_,rfl⟩
      ·exact ih vs q hq
     ·rcases hq with rfl | hq
      ·exact .inr ⟨_,rfl⟩
      ·exact ih vs q hq
     ·exact ih vs q hq
  have two:∀ (ps:List (Tmp×VD)) (vs:List KV),∀ q∈Dy P ps vs,(∃ n sz,q = .aP n sz)\/∃ v,q = .arr v:=by
   intro ps
   induction ps with
   | nil=>intro vs q hq; simp [Dy] at hq
   | cons p ps ih=>
    intro vs q hq;cases vs with
    | nil=>simp [Dy] at hq
    | cons v vs=>
     simp only [Dy,jM] at hq;exact hq.elim (one _ _ q) (ih vs q)
  have three:∀ (ps:List (Tmp×List CD×Nat)) (rs:List (List KV)),∀ q∈EZ P ps rs,(∃ n sz,q = .aP n sz)\/∃ v,q = .arr v:=by
   intro ps
   induction ps with
   | nil=>intro vs q hq; simp [EZ] at hq
   | cons p ps ih=>
    intro vs q hq;cases vs with
    | nil=>simp [EZ] at hq
    | cons v vs=>
     simp only [EZ,jM] at hq;exact hq.elim (one _ _ q) (ih vs q)
  intro i q hq;have:=gu hq;simp only [aJ.lens,jM] at this;exact this.elim (two _ _ q) (three _ _ q)
 have rT:∀ b v,(S.back P g.bs g.fs vs rs A).get b=some (.arr v)->(b < A.next/\b ∉ jF g.fs/\A.get b=some (.arr v)/\(E.up E1 S.nr A.next).α b=E.α b)\/∃ i,b=A.next+i/\(S.mem P vs rs).get (S.nr+i)=some (.arr v)/\(E.up E1 S.nr A.next).α b=E1.α (S.nr+i):=by
  intro b v hb;rcases hinv b _ hb with ⟨_,_,_,e,_⟩ | ⟨_,F3,h1⟩ | ⟨_,e⟩ | ⟨i,q,rfl,h2,e⟩
  ·simp at e
  ·exact .inl ⟨hk.live b _ h1,F3,h1,Env.MJ (hk.live b _ h1)⟩
  ·simp at e
  ·subst e; exact .inr ⟨i,rfl,VG Pz h2,Env.MI⟩
 have ao6:∀ {b v x L N},b ∉ jF g.fs->A.get b=some (.arr v)->E.α b=some (x,L,N)->¬ AR (S.mem P g.vs g.rs) (E.sub A g.bs g.fs S.nr) x:=by
  intro b v x L N F3 hb hx q;obtain ⟨f,u,L',N',h1,h2,h3⟩:=hG.AR q;have:=hk.ar.inj b f v u x L N L' N' hb h2 hx h3;subst this;exact F3 h1
 have aqI:∀ {b v x L N},b ∉ jF g.fs->A.get b=some (.arr v)->E.α b=some (x,L,N)->¬ AT (S.mem P g.vs g.rs) (E.sub A g.bs g.fs S.nr) B x:=by
  intro b v x L N F3 hb hx q;rcases q with q | ⟨aP,q,hm⟩
  ·exact ao6 F3 hb hx q
  ·obtain ⟨f,u,y,L',N',cs,e,own,m,h1,h2,h3,h4⟩:=hG.AF q
   by_cases Dg:x=y
   ·subst Dg
    have:=hk.ar.inj b f v u x L N L' N' hb h2 hx h3;subst this;exact F3 h1
   ·exact ((hk.ar.vD f u y L' N' cs e own aP m h2 h3 h4).2.2 x hm Dg).2.1 ⟨b,v,L,N,hb,hx⟩
 have MK:∀ {b v x L N},b ∉ jF g.fs->A.get b=some (.arr v)->E.α b=some (x,L,N)->B1.get x=B.get x:=by
  intro b v x L N F3 hb hx;exact NX x (hk.ar.eV b x L N hx) (fun k c _ e=>(hk.ar.z x ⟨b,v,L,N,hb,hx⟩).2 c e) (aqI F3 hb hx)
 have am4:∀ {i v x L N},(S.mem P vs rs).get (S.nr+i)=some (.arr v)->E1.α (S.nr+i)=some (x,L,N)->(∃ f u L' N',f∈jF g.fs/\A.get f=some (.arr u)/\E.α f=some (x,L',N'))\/B.next<=x:=by
  intro i v x L N h1 h2;rcases AO.kA x ⟨_,v,L,N,h1,h2⟩ with q | q
  ·obtain ⟨f,u,L',N',q1,q2,q3⟩:=hG.AR q
   exact .inl ⟨f,u,L',N',q1,q2,q3⟩
  ·exact .inr q
 have am5:∀ x,AR (S.back P g.bs g.fs vs rs A) (E.up E1 S.nr A.next) x->AR A E x\/AR (S.mem P vs rs) E1 x:=by
  rintro x ⟨b,v,L,N,h1,h2⟩;rcases rT b v h1 with ⟨q1,q2,q3,q4⟩ | ⟨i,rfl,q2,q3⟩
  ·rw [q4] at h2; exact .inl ⟨b,v,L,N,q3,h2⟩
  ·rw [q3] at h2; exact .inr ⟨_,v,L,N,q2,h2⟩
 have am6:∀ q,AF (S.back P g.bs g.fs vs rs A) (E.up E1 S.nr A.next) B1 q->AF A E B q\/AF (S.mem P vs rs) E1 B1 q:=by
  rintro q ⟨b,v,x,L,N,cs,e,own,k,h1,h2,h3⟩;rcases rT b v h1 with ⟨q1,q2,q3,q4⟩ | ⟨i,rfl,q2,q3⟩
  ·rw [q4] at h2
   rw [MK q2 q3 h2] at h3;exact .inl ⟨b,v,x,L,N,cs,e,own,k,q3,h2,h3⟩
  ·rw [q3] at h2; exact .inr ⟨_,v,x,L,N,cs,e,own,k,q2,h2,h3⟩
 have afj:∀ x,AR (S.back P g.bs g.fs vs rs A) (E.up E1 S.nr A.next) x->AR A E x\/B.next<=x:=fun x q=>by
  rcases am5 x q with q | q
  ·exact .inl q
  ·exact (AO.kA x q).imp hG.ar id
 have akr:∀ q,AF (S.back P g.bs g.fs vs rs A) (E.up E1 S.nr A.next) B1 q->AF A E B q\/B.next<=q:=fun x q=>by
  rcases am6 x q with q | q
  ·exact .inl q
  ·exact (AO.kS x q).imp hG.af id
 have am7:∀ x,x < B.next->E.z x=none->¬ AR (S.mem P g.vs g.rs) (E.sub A g.bs g.fs S.nr) x->E1.z x=none:=fun x hx h1 h2=>by
  cases hz:E1.z x with
  | none=>rfl
  | some r=>
   rcases AO.ud x r hz with e | e | e
   ·have e:E.z x=some r:=e
    rw [h1] at e; simp at e
   ·exact (h2 e).elim
   ·omega
 have ao7:∀ {b v x L N cs e own q k},b ∉ jF g.fs->A.get b=some (.arr v)->E.α b=some (x,L,N)->B.get x=some (.row cs e own (some (q,k)))->¬ AF (S.mem P g.vs g.rs) (E.sub A g.bs g.fs S.nr) B q:=by
  intro b v x L N cs e own q k F3 hb hx fv r;obtain ⟨f,u,y,L',N',bP,e',rC,m,h1,h2,h3,h4⟩:=hG.AF r;have:=hk.ar.xz b f v u x y L N L' N' cs e own q k bP e' rC m hb h2 hx h3 fv h4;subst this;exact F3 h1
 have sq:NB P (E.up E1 S.nr A.next) (S.back P g.bs g.fs vs rs A) B1:=by
  refine ⟨?_,?_,?_,?_,?_,?_,?_,?_,?_,?_⟩
  ·intro b v hb
   rcases rT b v hb with ⟨q1,q2,q3,q4⟩ | ⟨i,rfl,q2,q3⟩
   ·obtain ⟨T,N,es,acc,h1,h2,h3,h4⟩:=hk.ar.arr b v q3
    refine ⟨T,N,es,acc,h1,h2,h3,?_⟩;rcases h4 with ⟨h4,h5⟩ | ⟨x,cs,bN,bo,h4,h5,h6,h7⟩
    ·exact .inl ⟨h4,by rw [q4]; exact h5⟩
    ·exact .inr ⟨x,cs,bN,bo,by rw [q4]; exact h4,by rw [MK q2 q3 h4]; exact h5,h6.mono hle,h7⟩
   ·obtain ⟨T,N,es,acc,h1,h2,h3,h4⟩:=hs.ar.arr _ v q2
    refine ⟨T,N,es,acc,h1,h2,h3,?_⟩;rcases h4 with ⟨h4,h5⟩ | ⟨x,cs,bN,bo,h4,h5,h6,h7⟩
    ·exact .inl ⟨h4,by rw [q3]; exact h5⟩
    ·exact .inr ⟨x,cs,bN,bo,by rw [q3]; exact h4,h5,aV.zEs (E:=E1) (E0:=E.up E1 S.nr A.next) (.of rfl) h6 h2.typed,h7⟩
  ·intro b v hb
   rcases hinv b _ hb with ⟨_,_,_,e,_⟩ | ⟨_,_,h1⟩ | ⟨_,e⟩ | ⟨i,q,_,h2,e⟩
   ·simp at e
   ·obtain ⟨T,N,es,acc,h2,h3,h4,h5⟩:=hk.ar.iG b v h1
    have uc:(E.up E1 S.nr A.next).α b=E.α b:=Env.MJ (hk.live b _ h1);refine ⟨T,N,es,acc,h2,h3,h4,?_⟩;rcases h5 with ⟨h5,h6⟩ | ⟨x,r,bo,h5,h6,h7,h8,h9⟩
    ·exact .inl ⟨h5,by rw [uc]; exact h6⟩
    ·exact .inr ⟨x,r,bo,by rw [uc]; exact h5,AO.z x r h6,h7,h8.mono hle,h9⟩
   ·simp at e
   ·rcases akq i q h2 with ⟨_,_,e2⟩ | ⟨_,e2⟩ <;> rw [<- e] at e2 <;> simp at e2
  ·rintro x ⟨b,v,L,N,h1,h2⟩
   rcases rT b v h1 with ⟨q1,q2,q3,q4⟩ | ⟨i,rfl,q2,q3⟩
   ·rw [q4] at h2
    obtain ⟨h3,h4⟩:=hk.ar.z x ⟨b,v,L,N,q3,h2⟩;exact ⟨am7 x (hk.ar.eV b x L N h2) h3 (ao6 q2 q3 h2),h4⟩
   ·rw [q3] at h2
    refine ⟨(hs.ar.z x ⟨_,v,L,N,q2,h2⟩).1,fun c e=>?_⟩;rcases AO.kA x ⟨_,v,L,N,q2,h2⟩ with q | q
    ·exact (hk.ar.z x (hG.ar q)).2 c e
    ·have:=hk.eV c x e; omega
  ·intro b c v u x L N L' N' hb hc e1 e2
   have I8:∀ {b v c u L N L' N'},b ∉ jF g.fs->A.get b=some (.arr v)->E.α b=some (x,L,N)->(S.mem P vs rs).get (S.nr+c)=some (.arr u)->E1.α (S.nr+c)=some (x,L',N')->False:=by
    intro b v c u L N L' N' h1 h2 h3 h4 h5;rcases am4 h4 h5 with ⟨f,u',L2,N2,k1,k2,k3⟩ | k
    ·have:=hk.ar.inj b f v u' x L N L2 N2 h2 k2 h3 k3
     subst this;exact h1 k1
    ·have:=hk.ar.eV b x L N h3; omega
   rcases rT b v hb with ⟨q1,q2,q3,q4⟩ | ⟨i,rfl,q2,q3⟩ <;> rcases rT c u hc with ⟨r1,r2,r3,r4⟩ | ⟨j,rfl,r2,r3⟩
   ·rw [q4] at e1; rw [r4] at e2
    exact hk.ar.inj b c v u x L N L' N' q3 r3 e1 e2
   ·rw [q4] at e1; rw [r3] at e2
    exact (I8 q2 q3 e1 r2 e2).elim
   ·rw [q3] at e1; rw [r4] at e2
    exact (I8 r2 r3 e2 q2 e1).elim
   ·rw [q3] at e1; rw [r3] at e2
    have:=hs.ar.inj _ _ v u x L N L' N' q2 r2 e1 e2;omega
  ·intro b c v u x y L N L' N' cs e own q k bP e' rC k' hb hc e1 e2 w1 w2
   have I8:∀ {b v c u x y L N L' N' cs e own k bP e' rC k'},b ∉ jF g.fs->A.get b=some (.arr v)->E.α b=some (x,L,N)->(S.mem P vs rs).get (S.nr+c)=some (.arr u)->E1.α (S.nr+c)=some (y,L',N')->B1.get x=some (.row cs e own (some (q,k)))->B1.get y=some (.row bP e' rC (some (q,k')))->False:=by
    intro b v c u x y L N L' N' cs e own k bP e' rC k' h1 h2 h3 h4 h5 w1 w2;rw [MK h1 h2 h3] at w1;rcases AO.kS q ⟨_,u,y,L',N',bP,e',rC,k',h4,h5,w2⟩ with r | r
    ·exact ao7 h1 h2 h3 w1 r
    ·have:=(hk.ar.vD b v x L N cs e own q k h2 h3 w1).1; omega
   rcases rT b v hb with ⟨q1,q2,q3,q4⟩ | ⟨i,rfl,q2,q3⟩ <;> rcases rT c u hc with ⟨r1,r2,r3,r4⟩ | ⟨j,rfl,r2,r3⟩
   ·rw [q4] at e1; rw [r4] at e2
    rw [MK q2 q3 e1] at w1; rw [MK r2 r3 e2] at w2;exact hk.ar.xz b c v u x y L N L' N' cs e own q k bP e' rC k' q3 r3 e1 e2 w1 w2
   ·rw [q4] at e1; rw [r3] at e2
    exact (I8 q2 q3 e1 r2 e2 w1 w2).elim
   ·rw [q3] at e1; rw [r4] at e2
    exact (I8 r2 r3 e2 q2 e1 w2 w1).elim
   ·rw [q3] at e1; rw [r3] at e2
    have:=hs.ar.xz _ _ v u x y L N L' N' cs e own q k bP e' rC k' q2 r2 e1 e2 w1 w2;omega
  ·intro b x hb
   have hb:E.κ b=some x:=hb;rw [Env.MJ (hk.jP b x hb)];exact hk.ar.dis b x hb
  ·intro b p hb
   rw [aJ.back,fN,fZ];by_cases h1:b < A.next
   ·omega
   ·obtain ⟨i,rfl⟩:=Nat.exists_eq_add_of_le (Nat.le_of_not_lt h1)
    rw [Env.MI] at hb;have:=hs.ar.jP _ _ hb;rw [aJ.mem,fN,py Pz] at this;omega
  ·intro b x L N hb
   by_cases h1:b < A.next
   ·rw [Env.MJ h1] at hb
    have:=hk.ar.eV b x L N hb; have:=AO.eJ.next; omega
   ·obtain ⟨i,rfl⟩:=Nat.exists_eq_add_of_le (Nat.le_of_not_lt h1)
    rw [Env.MI] at hb;exact hs.ar.eV _ _ _ _ hb
  ·intro b v x L N cs e own q k hb hx fv
   rcases rT b v hb with ⟨q1,q2,q3,q4⟩ | ⟨i,rfl,q2,q3⟩
   ·rw [q4] at hx
    have aiP:=fv;rw [MK q2 q3 hx] at aiP;obtain ⟨h1,h2,h3⟩:=hk.ar.vD b v x L N cs e own q k q3 hx aiP;have hm:B1.members q=B.members q:=AO.o5 q h1 (fun c e=>by
     obtain ⟨f',_,_,_,k2,_⟩:=Ry c q e;exact h2 f' k2) (ao7 q2 q3 hx aiP)
    refine ⟨by have:=AO.eJ.next; omega,fun f e=>?_,fun y hy cD=>?_⟩
    ·by_cases hf:f < A.next
     ·rw [Env.DC hf] at e; exact h2 f e
     ·obtain ⟨j,rfl⟩:=Nat.exists_eq_add_of_le (Nat.le_of_not_lt hf)
      rw [Env.DB] at e;rcases AO.su _ _ e with ⟨c,e⟩ | e
      ·obtain ⟨f',_,_,_,k2,_⟩:=Ry c q e
       exact h2 f' k2
      ·omega
    ·rw [hm] at hy
     obtain ⟨h4,h5,h6⟩:=h3 y hy cD;have bm:=hk.mem q y hy;refine ⟨am7 y bm h4 fun r=>h5 (hG.ar r),fun r=>?_,h6⟩;rcases afj y r with r | r
     ·exact h5 r
     ·omega
   ·rw [q3] at hx
    obtain ⟨h1,h2,h3⟩:=hs.ar.vD _ v x L N cs e own q k q2 hx fv;have vx:=AO.kS q ⟨_,v,x,L,N,cs,e,own,k,q2,hx,fv⟩;refine ⟨h1,fun f e=>?_,fun y hy cD=>?_⟩
    ·by_cases hf:f < A.next
     ·rw [Env.DC hf] at e
      rcases vx with r | r
      ·obtain ⟨f0,u,x0,L0,N0,mg,e0,am8,m,k1,k2,k3,k4⟩:=hG.AF r
       exact (hk.ar.vD f0 u x0 L0 N0 mg e0 am8 q m k2 k3 k4).2.1 f e
      ·have:=hk.iv f q e; omega
     ·obtain ⟨j,rfl⟩:=Nat.exists_eq_add_of_le (Nat.le_of_not_lt hf)
      rw [Env.DB] at e;exact h2 _ e
    ·obtain ⟨h4,h5,h6⟩:=h3 y hy cD
     have Dt:y∈B.members q->(∀ c,c ∉ jF g.fs->∀ v' L' N',A.get c=some (.arr v')->E.α c≠some (y,L',N'))/\∀ c,E.κ c≠some y:=by
      intro hm;rcases vx with r | r
      ·obtain ⟨f0,u,x0,L0,N0,mg,e0,am8,m,k1,k2,k3,k4⟩:=hG.AF r
       by_cases hy0:y=x0
       ·subst hy0
        refine ⟨fun c hc v' L' N' p1 p2=>?_,(hk.ar.z y ⟨f0,u,L0,N0,k2,k3⟩).2⟩;have:=hk.ar.inj c f0 v' u y L' N' L0 N0 p1 k2 p2 k3;subst this;exact hc k1
       ·obtain ⟨_,p5,p6⟩:=(hk.ar.vD f0 u x0 L0 N0 mg e0 am8 q m k2 k3 k4).2.2 y hm hy0
        exact ⟨fun c _ v' L' N' p1 p2=>p5 ⟨c,v',L',N',p1,p2⟩,p6⟩
      ·rw [hk.fresh q r] at hm; simp at hm
     refine ⟨h4,?_,fun c e=>?_⟩
     ·rintro ⟨c,v',L',N',r1,r2⟩
      rcases rT c v' r1 with ⟨p1,p2,p3,p4⟩ | ⟨j,rfl,p2,p3⟩
      ·rw [p4] at r2
       rcases AO.vE q y hy with hm | hm
       ·exact (Dt hm).1 c p2 v' L' N' p3 r2
       ·have:=hk.ar.eV c y L' N' r2; omega
      ·rw [p3] at r2
       exact h5 ⟨_,v',L',N',p2,r2⟩
     ·have e:E.κ c=some y:=e
      rcases AO.vE q y hy with hm | hm
      ·exact (Dt hm).2 c e
      ·have:=hk.eV c y e; omega
  ·intro b v hb
   rw [aJ.back,fN,fZ];rcases rT b v hb with ⟨q1,q2,q3,q4⟩ | ⟨i,rfl,q2,q3⟩
   ·obtain ⟨k1,k2⟩:=hk.ar.nk b v q3
    exact ⟨by omega,k2⟩
   ·refine ⟨?_,?_⟩
    ·have:=hs.live _ _ q2
     rw [aJ.mem,fN,py Pz] at this;omega
    ·show E.κ (A.next+i)=none
     cases hq:E.κ (A.next+i) with
     | none=>rfl
     | some x=>have:=hk.jP _ x hq; omega
 refine ⟨?_,⟨⟨?_,?_,hs.z,?_,hk.inj,?_,?_,?_,?_,?_,hs.lJ,?_,hs.fresh,hs.mem,?_⟩,AO.eJ,hle,?_,?_,fun _ _ e=>.inl e,?_,?_,?_,?_,?_,AO.vE,?_,AO.rows,aqH⟩⟩
 ·have hro:=adZ (P:=P) (E1:=E1) (E2:=E.up E1 S.nr A.next) (i:=S.nr) (j:=A.next) rfl hrk hv (akp hG.amY (hG.vs ▸ hG.dD)) fun m _=>⟨fun q e=>by rw [Env.DB]; exact e,fun q e=>by rw [Env.MI]; exact e⟩
  refine iZ.am1 ht (uk.append hro (uk.append (ag0 fun p hp hip x e=>?_) (ag1 hro)));obtain ⟨b,_,h2⟩:=(KO hG.Vw p hp).1 hip;have bm:p.2.1 < S.rows.length:=by rw [<- hG.Y8]; exact (cH.1 h2).1
  rw [fH,Jn S _ bm] at e;rw [fH,h2];have e:E1.κ p.2.1=some x:=e;rw [am2 _ _ h2] at e;exact e
 ·intro b cs bp hb
  rcases hinv b _ hb with ⟨hbs,_,_,e,h1⟩ | ⟨hbs,_,h1⟩ | ⟨_,e⟩ | ⟨i,q,_,hq,e⟩
  ·obtain ⟨k,mO⟩:=rS b hbs
   obtain ⟨p,r,x,bP,q1,q2,q3,q4,q5,q6,q7⟩:=Xe k b mO;rw [h1] at q6;simp only [hO.row.injEq] at e;obtain ⟨rfl,rfl⟩:=e;simp only [bQ,hO.row.injEq] at q6;obtain ⟨rfl,rfl⟩:=q6;exact ⟨x,bP,q3,q4,q5⟩
  ·obtain ⟨x,c,q1,q2,q3⟩:=hk.row b cs bp h1
   refine ⟨x,c,q1,?_,q3.mono hle⟩;rw [NX x (hk.eV b x q1) (fun k b' VH e=>?_) fun q=>hk.aoX q1 (hG.at q)]
   ·exact q2
   ·have:=hk.inj _ _ _ q1 e
    subst this;exact hbs (gu VH)
  ·simp at e
  ·rcases akq i q hq with ⟨_,_,e2⟩ | ⟨_,e2⟩ <;> rw [<- e] at e2 <;> simp at e2
 ·intro b top sz hb
  rcases hinv b _ hb with ⟨_,_,_,e,_⟩ | ⟨hbs,F3,h1⟩ | ⟨_,e⟩ | ⟨i,q,rfl,h2,e⟩
  ·simp at e
  ·rcases hk.aP b top sz h1 with ⟨h2,h3⟩ | ⟨q,h2,h3,h4⟩
   ·exact .inl ⟨h2,by rw [Env.DC (hk.live b _ h1)]; exact h3⟩
   ·have hq:=hk.iv b q h2
    refine .inr ⟨q,by rw [Env.DC (hk.live b _ h1)]; exact h2,h3,fun x hx cs e own f k fv=>?_⟩;have hmq:B1.members q=B.members q:=AO.o5 q hq (fun c e=>by
     obtain ⟨f',_,_,h5,h6,h7⟩:=Ry c q e;have:=hk.gK b f' q _ _ _ _ h1 h7 h2 h6;subst this;exact F3 h5) fun k=>by
      obtain ⟨c,v,y,L,N,cs,e,own,m,h5,h6,h7⟩:=hG.af k;exact (hk.ar.vD c v y L N cs e own q m h5 h6 h7).2.1 b h2
    rw [hmq] at hx;obtain ⟨mg,q1,q2⟩:=AO.rows x (hk.mem q x hx) _ _ _ _ fv;obtain ⟨q3,q4⟩:=h4 x hx mg e own f k q1;exact ⟨q3,by rw [<- q2]; exact q4⟩
  ·simp at e
  ·subst e
   have:=hs.aP _ _ _ (VG Pz h2);rw [Env.DB];exact this
 ·intro b x hb
  have hx:=hk.eV b x hb;show E1.z x=none;cases hz:E1.z x with
  | none=>rfl
  | some r=>
   rcases AO.ud x r hz with e | e | e
   ·have e:E.z x=some r:=e
    rw [hk.apart b x hb] at e; simp at e
   ·exact absurd hb ((hk.ar.z x (hG.ar e)).2 b)
   ·omega
 ·intro b c q tb sb tc sc hb hc e1 e2
  have key:∀ {b tb sb},(S.back P g.bs g.fs vs rs A).get b=some (.aP tb sb)->(b < A.next/\b ∉ jF g.fs/\A.get b=some (.aP tb sb))\/∃ i,b=A.next+i/\(S.mem P vs rs).get (S.nr+i)=some (.aP tb sb):=by
   intro b tb sb hb;rcases hinv b _ hb with ⟨_,_,_,e,_⟩ | ⟨_,F3,h1⟩ | ⟨_,e⟩ | ⟨i,q,rfl,h2,e⟩
   ·simp at e
   ·exact .inl ⟨hk.live b _ h1,F3,h1⟩
   ·simp at e
   ·subst e
    exact .inr ⟨i,rfl,VG Pz h2⟩
  have I8:∀ {b c tb sb i},b < A.next->b ∉ jF g.fs->A.get b=some (.aP tb sb)->c=A.next+i->E.φ b=some q->E1.φ (S.nr+i)=some q->False:=by
   intro b c tb sb i _ h2 h3 _ h5 h6;rcases AO.su _ _ h6 with ⟨c',e⟩ | e
   ·obtain ⟨f',_,_,k1,k2,k3⟩:=Ry c' q e
    have:=hk.gK b f' q _ _ _ _ h3 k3 h5 k2;subst this;exact h2 k1
   ·have:=hk.iv b q h5; omega
  rcases key hb with ⟨h1,h2,h3⟩ | ⟨i,rfl,h2⟩ <;> rcases key hc with ⟨k1,k2,k3⟩ | ⟨j,rfl,k2⟩
  ·rw [Env.DC h1] at e1; rw [Env.DC k1] at e2
   exact hk.gK b c q _ _ _ _ h3 k3 e1 e2
  ·rw [Env.DC h1] at e1; rw [Env.DB] at e2
   exact (I8 h1 h2 h3 rfl e1 e2).elim
  ·rw [Env.DB] at e1; rw [Env.DC k1] at e2
   exact (I8 k1 k2 k3 rfl e2 e1).elim
  ·rw [Env.DB] at e1 e2
   have:=hs.gK _ _ q _ _ _ _ h2 k2 e1 e2;omega
 ·intro b x hb; have h1:=hk.jP b x hb; rw [aJ.back,fN,fZ]; omega
 ·intro b q hb
  rw [aJ.back,fN,fZ];by_cases h1:b < A.next
  ·omega
  ·obtain ⟨i,rfl⟩:=Nat.exists_eq_add_of_le (Nat.le_of_not_lt h1)
   rw [Env.DB] at hb;have:=hs.kR _ _ hb;rw [aJ.mem,fN,py Pz] at this;omega
 ·intro b o hb
  rw [aJ.back,fN,fZ];rcases hinv b _ hb with ⟨hbs,_⟩ | ⟨_,_,h1⟩ | ⟨h1,_⟩ | ⟨i,q,rfl,h2,_⟩
  ·obtain ⟨k,mO⟩:=rS b hbs
   obtain ⟨p,r,x,bP,_,_,h3,_⟩:=Xe k b mO;have:=hk.jP b x h3; omega
  ·have:=hk.live b _ h1; omega
  ·obtain ⟨_,_,⟨_,_,h3⟩ | ⟨_,h3⟩⟩:=ZG b h1
   ·have:=hk.live b _ h3; omega
   ·have:=hk.live b _ h3; omega
  ·have:=(cH.1 h2).1; omega
 ·intro b x hb; have:=hk.eV b x hb; have:=AO.eJ.next; omega
 ·intro b q hb
  by_cases h1:b < A.next
  ·rw [Env.DC h1] at hb
   have:=hk.iv b q hb; have:=AO.eJ.next; omega
  ·obtain ⟨i,rfl⟩:=Nat.exists_eq_add_of_le (Nat.le_of_not_lt h1)
   rw [Env.DB] at hb;exact hs.iv _ _ hb
 ·exact sq
 ·rw [aJ.back,fN,fZ]; omega
 ·intro x hx cD hna
  exact NX x hx (fun k b hb e=>by
   obtain ⟨_,_,h6⟩:=am3 k b hb;rw [cD b e] at h6;simp at h6) fun q=>hna (hG.at q)
 ·intro b r e
  exact (AO.ud b r e).imp id (fun e=>e.imp hG.ar id)
 ·intro b q hb
  by_cases h1:b < A.next
  ·rw [Env.DC h1] at hb; exact .inl ⟨b,hb⟩
  ·obtain ⟨i,rfl⟩:=Nat.exists_eq_add_of_le (Nat.le_of_not_lt h1)
   rw [Env.DB] at hb;rcases AO.su _ _ hb with ⟨c,e⟩ | e
   ·obtain ⟨f',_,_,_,k2,_⟩:=Ry c q e
    exact .inl ⟨f',k2⟩
   ·exact .inr e
 ·intro q hq cD hna
  refine AO.o5 q hq (fun c e=>?_) fun k=>hna (hG.af k);obtain ⟨f',_,_,_,k2,_⟩:=Ry c q e;exact cD f' k2
 ·exact afj
 ·exact akr
 ·rintro y (q | ⟨q,h1,h2⟩)
  ·exact (afj y q).imp .inl id
  ·rcases AO.vE q y h2 with h2 | h2
   ·rcases akr q h1 with h1 | h1
    ·exact .inl (.inr ⟨q,h1,h2⟩)
    ·rw [hk.fresh q h1] at h2; simp at h2
   ·exact .inr h2
theorem restore {S:aJ} {t:bf} {A:ae} {B B1:St} {g:GR} {ρ kM:Ren} {base N:Nat} {w w1:World} {a1:Act} {vs:List KV} {rs:List (List KV)} {E1:Env} (hG:dp P S t A g) (hk:dr P E A B)
  (ht:iZ P E1 kM (S.tm S.nr S.ids vs) N a1) (hs:dr P E1 (S.mem P vs rs) B1) (AO:Co base (E.sub A g.bs g.fs S.nr) (S.mem P g.vs g.rs) B ρ w E1 (S.mem P vs rs) B1 kM w1) (Kj:∀ k,k < S.rows.length->E1.κ k=(E.sub A g.bs g.fs S.nr).κ k)
  (hv:eP S.dD vs=true) (Pz:rs.length=S.rows.length) (hrg:∀ (k:Nat) p r,S.rows[k]? = some p->rs[k]? = some r->df p.2.1 r=true) :
  ∃ E',iZ P E' kM (S.tm A.next g.bs vs) N a1/\Ev P base E A B ρ w E' (S.back P g.bs g.fs vs rs A) B1 kM w1:=⟨_,ad0 hG hk ht hs AO Kj hv Pz hrg⟩
end Go.K
end
