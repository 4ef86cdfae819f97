/- Part of the proof of WorldPlain: the machine, shown to be the model's, and plain models. No conditions. -/
import Derived.ScopeJumps
import Derived.Test.YtckbdndhmcoihaaEp
import Derived.LoopN
set_option linter.unusedSimpArgs false
set_option linter.unusedVariables false
section
namespace Go.K
open Go Go.aI
variable {P:Program} {E:Env}
inductive Sub (root:Code):Nat->Code->Prop where
 | root:Sub root 1 root
 | anE {p:Nat} {a b:Code} : Sub root p (.seq a b)->Sub root (2 * p) a
 | aiV {p:Nat} {a b:Code} : Sub root p (.seq a b)->Sub root (2 * p+1) b
 | alu {p:Nat} {c:Operand} {a b:Code} : Sub root p (.cond c a b)->Sub root (2 * p) a
 | alv {p:Nat} {c:Operand} {a b:Code} : Sub root p (.cond c a b)->Sub root (2 * p+1) b
 | block {p id:Nat} {a:Code} : Sub root p (.block id a)->Sub root (2 * p) a
 | loop {p:Nat} {a:Code} : Sub root p (.loop a)->Sub root (2 * p) a
 | scope {p:Nat} {a:Code} : Sub root p (.scope a)->Sub root (2 * p) a
def aaf (P:Program) (N:Nat) {R:Type} (c:Code) (f:KE R->bd->ae->Option R):Prop:=
 ∀ (k:KE R) (r:R) (t:bd) (A:ae) (E:Env) (B:St) (ρ:Ren) (base:Nat) (a:Act) (w:World) (Q:Exit->Act->World->Prop),f k t A=some r->iW P E ρ t N a->KJ P E A B ρ base w->
  (∀ e t' E' A' B' aF a' w',k e t' A' = some r->iW P E' aF t' N a'->a'.defers=a.defers->Ev P base E A B ρ w E' A' B' aF w'->Q e.out a' w')->c.wp P Q a w
def Qi (P:Program) (N:Nat) (body:Code) (F:bd->ae->wb):Prop:=∀ (R:Type) (k:KE R) (r:R) (t:bd) (A:ae) (E:Env) (B:St) (ρ:Ren) (base:Nat) (a:Act) (w:World) (Q:Exit->Act->World->Prop),R6 F k t A=some r->iW P E ρ t N a->KJ P E A B ρ base w->
  (∀ e t' E' A' B' aF a' w',k e t' A' = some r->iW P E' aF t' N a'->a'.defers=a.defers->Ev P base E A B ρ w E' A' B' aF w'->Q e.out a' w')->Code.rounds P body Q gV a w
theorem TY {c:Code} {Q:Exit->Act->World->Prop} (k:Nat):∀ {n:Nat} {a:Act} {w:World},Code.rounds P c Q n a w->Code.rounds P c Q (n+k) a w
 | 0,_,_,h=>h.elim
 | n+1,a,w,h=>by
  rw [show n+1+k=n+k+1 by omega,rounds_succ];rw [rounds_succ] at h;exact Code.wp_mono (fun e a w q=>by cases e <;> first | exact TY k q | exact q) h
def vv (P:Program) (l:Nat) (c:Code) (Q:Exit->Act->World->Prop):Nat->Act->World->Prop
 | 0,_,_=>False
 | m+1,a,w=>c.wp P (Exit.jump l (vv P l c Q m) Q) a w
def aag (P:Program) (N:Nat) (l:Nat) (rest:Code) (F:bd->ae->wb):Prop:=∀ (R:Type) (k:KE R) (r:R) (t:bd) (A:ae) (E:Env) (B:St) (ρ:Ren) (base:Nat) (a:Act) (w:World) (Q:Exit->Act->World->Prop),wb.run (VH k) (F t A)=some r->iW P E ρ t N a->KJ P E A B ρ base w->
  (∀ e t' E' A' B' aF a' w',k e t' A' = some r->iW P E' aF t' N a'->a'.defers=a.defers->Ev P base E A B ρ w E' A' B' aF w'->Q e.out a' w')->∃ m,vv P l rest Q m a w
theorem acr {p:Nat->Prop} : ∀ n,p n->∃ m,p m/\∀ k,p k->m<=k
 | 0,h=>⟨0,h,fun _ _=>rQ _⟩
 | n+1,h=>by
  by_cases hk:∃ k,k<=n/\p k
  ·obtain ⟨k,tN,Vm⟩:=hk
   have key:∀ b k,k<=b->p k->∃ m,p m/\∀ k,p k->m<=k:=by
    intro b
    induction b with
    | zero=>intro k h1 h2; exact ⟨k,h2,fun _ _=>by omega⟩
    | succ b ih=>
     intro k h1 h2;by_cases hx:∃ k',k'<=b/\p k'
     ·obtain ⟨k',x1,x2⟩:=hx; exact ih k' x1 x2
     ·exact ⟨k,h2,fun q hq=>by
       by_cases hqb:q<=b
       ·exact absurd ⟨q,hqb,hq⟩ hx
       ·omega⟩
   exact key n k tN Vm
  ·exact ⟨n+1,h,fun k hp=>by
    by_cases hkn:k<=n
    ·exact absurd ⟨k,hkn,hp⟩ hk
    ·omega⟩
open Classical in
noncomputable def TZ (p:Nat->Prop):Nat:=if h:∃ n,p n then (acr h.choose h.choose_spec).choose else 0
theorem T3 {p:Nat->Prop} {n:Nat} (h:p n):p (TZ p)/\TZ p<=n:=by
 have hx:∃ n,p n:=⟨n,h⟩
 unfold TZ;rw [dif_pos hx];have:=(acr hx.choose hx.choose_spec).choose_spec;exact ⟨this.1,this.2 n h⟩
theorem adQ {c rest:Code} {l:Nat} {Q:Exit->Act->World->Prop} {a:Act} {w:World} (hf:findLabel c l=some rest) (h:c.wp P (Exit.jump l (fun a w=>∃ m,vv P l rest Q m a w) Q) a w):(Code.scope c).wp P Q a w:=by
 refine wp_scope_jumps l (fun a w=>∃ m,vv P l rest Q m a w) (fun a w=>TZ fun m=>vv P l rest Q m a w) hf h fun a w ⟨n,hn⟩=>?_;have hm:=(T3 (p:=fun m=>vv P l rest Q m a w) hn).1;generalize (TZ fun m=>vv P l rest Q m a w)=m at hm ⊢;cases m with
 | zero=>exact hm.elim
 | succ m=>
  refine Code.wp_mono (fun e a' w' q=>?_) hm;cases e with
  | goto l'=>
   obtain ⟨rfl,q⟩:=q;exact ⟨rfl,⟨m,q⟩,Nat.lt_succ_of_le (T3 (p:=fun m=>vv P _ rest Q m a' w') q).2⟩
  | normal=>exact q
  | exit id=>exact q
  | ret=>exact q
  | panic ch=>exact q
  | outgrown=>exact q
def aiW (P:Program) (cfg:dD) (f:FuncId) (root:Code):Prop:=(∀ p F body,cfg.lp f p=some F->Sub root p (.loop body)->∀ N,codeOk N body=true->Qi P N body F)/\
 ∀ p F c,cfg.lp f p=some F->Sub root p (.scope c)->∀ N,codeOk N c=true->∀ l,JC c=some l->∃ rest,findLabel c l=some rest/\aag P N l rest F
section
variable {R:Type} {cfg:dD} {aR:kq R} {L:Nat} {f:FuncId}
theorem T4 {N:Nat} {c:Code} {g:KE R->bd->ae->Option R} (hg:aaf P N c g):∀ (n:Nat) (k:KE R) (r:R) (t:bd) (A:ae) (E:Env) (B:St) (ρ:Ren) (base:Nat) (a:Act) (w:World) (Q:Exit->Act->World->Prop),VG g k n t A=some r->iW P E ρ t N a->KJ P E A B ρ base w->
  (∀ e t' E' A' B' aF a' w',k e t' A' = some r->iW P E' aF t' N a'->a'.defers=a.defers->Ev P base E A B ρ w E' A' B' aF w'->Q e.out a' w')->Code.rounds P c Q n a w
 | 0,k,r,t,A,E,B,ρ,base,a,w,Q,h,ht,hj,hq=>by exact absurd h (by simp [VG])
 | n+1,k,r,t,A,E,B,ρ,base,a,w,Q,h,ht,hj,hq=>by
  rw [rounds_succ];have h:g (R5 k (VG g k n)) t A=some r:=h;refine hg _ r t A E B ρ base a w _ h ht hj fun e t' E' A' B' aF a' w' h1 h2 h3 h4=>?_;cases e with
  | normal=>
   have h1:VG g k n t' A' = some r:=h1;exact T4 hg n k r t' A' E' B' aF base a' w' Q h1 h2 h4.kj fun e t'' G7 A'' H7 vd Sj GU q1 q2 q3 q4=>hq e t'' G7 A'' H7 vd Sj GU q1 q2 (q3.trans h3) (h4.trans q4)
  | exit id=>exact hq (.exit id) t' E' A' B' aF a' w' h1 h2 h3 h4
  | goto l=>exact hq (.goto l) t' E' A' B' aF a' w' h1 h2 h3 h4
  | ret=>exact hq .ret t' E' A' B' aF a' w' h1 h2 h3 h4
theorem T5 {N:Nat} {c:Code} {g:KE R->bd->ae->Option R} {F:bd->ae->wb} (hg:aaf P N c g) (hF:Qi P N c F):∀ (n:Nat) (k:KE R) (r:R) (t:bd) (A:ae) (E:Env) (B:St) (ρ:Ren) (base:Nat) (a:Act) (w:World) (Q:Exit->Act->World->Prop),VI g F k n t A=some r->iW P E ρ t N a->KJ P E A B ρ base w->
  (∀ e t' E' A' B' aF a' w',k e t' A' = some r->iW P E' aF t' N a'->a'.defers=a.defers->Ev P base E A B ρ w E' A' B' aF w'->Q e.out a' w')->Code.rounds P c Q (gV+n) a w
 | 0,k,r,t,A,E,B,ρ,base,a,w,Q,h,ht,hj,hq=>hF R k r t A E B ρ base a w Q h ht hj hq
 | n+1,k,r,t,A,E,B,ρ,base,a,w,Q,h,ht,hj,hq=>by
  have h:Bool.rec (motive:=fun _=>Option R) (R6 F k t A) (g (R5 k (VI g F k n)) t A) (adt (F t A))=some r:=h;cases ho:adt (F t A) with
  | false=>
   rw [ho] at h;exact TY (n+1) (hF R k r t A E B ρ base a w Q h ht hj hq)
  | true=>
   rw [ho] at h;have h:g (R5 k (VI g F k n)) t A=some r:=h;rw [show gV+(n+1)=gV+n+1 by omega,rounds_succ];refine hg _ r t A E B ρ base a w _ h ht hj fun e t' E' A' B' aF a' w' h1 h2 h3 h4=>?_;cases e with
   | normal=>
    have h1:VI g F k n t' A' = some r:=h1;exact T5 hg hF n k r t' A' E' B' aF base a' w' Q h1 h2 h4.kj fun e t'' G7 A'' H7 vd Sj GU q1 q2 q3 q4=>hq e t'' G7 A'' H7 vd Sj GU q1 q2 (q3.trans h3) (h4.trans q4)
   | exit id=>exact hq (.exit id) t' E' A' B' aF a' w' h1 h2 h3 h4
   | goto l=>exact hq (.goto l) t' E' A' B' aF a' w' h1 h2 h3 h4
   | ret=>exact hq .ret t' E' A' B' aF a' w' h1 h2 h3 h4
theorem iq (eT:rf P cfg.pc) (tW:H4 P aR) (hm:P.follows .mixedOrders=true) {root:Code} (iD:aiW P cfg f root) {N:Nat} : ∀ (c:Code) (p:Nat),Sub root p c->codeOk N c=true->aaf P N c (oI P cfg aR L f c p)
 | .skip,p,_,_=>by
  intro k r t A E B ρ base a w Q h ht hj hq;exact wp_skip (hq .normal t E A B ρ a w h ht rfl (.refl hj.k hj.s))
 | .ret,p,_,_=>by
  intro k r t A E B ρ base a w Q h ht hj hq;exact wp_ret (hq .ret t E A B ρ a w h ht rfl (.refl hj.k hj.s))
 | .exit id,p,_,_=>by
  intro k r t A E B ρ base a w Q h ht hj hq;exact wp_exit (hq (.exit id) t E A B ρ a w h ht rfl (.refl hj.k hj.s))
 | .label l,p,_,_=>by
  intro k r t A E B ρ base a w Q h ht hj hq;exact wp_label (hq .normal t E A B ρ a w h ht rfl (.refl hj.k hj.s))
 | .goto l,p,_,_=>by
  intro k r t A E B ρ base a w Q h ht hj hq;exact wp_goto (hq (.goto l) t E A B ρ a w h ht rfl (.refl hj.k hj.s))
 | .region id ops false,p,_,hc=>by
  intro k r t A E B ρ base a w Q h ht hj hq;have h:Xb P cfg aR ops.toList (fun t A=>k .normal t A) ops.toList t A=some r:=h;refine wp_region ?_;have:=OY (Q:=Q) (base:=base) eT tW (N:=N) (all:=ops.toList) hc ops.toList 0 t E A B ρ a w (by simp) h ht hj fun t' E' A' B' aF a' w' h1 h2 h3 h4=>hq .normal t' E' A' B' aF a' w' h1 h2 h3 h4;rw [List.range_eq_range'];simpa using this
 | .region id ops true,p,_,hc=>by
  intro k r t A E B ρ base a w Q h ht hj hq;have h:Zx P cfg aR ops.toList true (fun t A=>k .normal t A) t A=some r:=h;unfold Zx at h;cases ho:aeP P cfg ops.toList with
  | false=>
   rw [ho] at h;cases hcr:Mz P cfg ops.toList with
   | true=>
    rw [hcr] at h;exact adP (all:=ops.toList) eT tW hm hc hcr h ht hj fun t' E' A' B' aF a' w' h1 h2 h3 h4=>hq .normal t' E' A' B' aF a' w' h1 h2 h3 h4
   | false=>
    rw [hcr] at h;cases hb:TB P cfg ops.toList with
    | false=>rw [hb] at h; exact absurd h (by simp)
    | true=>
     rw [hb] at h;exact afn (all:=ops.toList) eT hm hc hb h ht hj fun t' E' A' B' aF a' w' h1 h2 h3 h4=>hq .normal t' E' A' B' aF a' w' h1 h2 h3 h4
  | true=>
   rw [ho] at h;exact abP (all:=ops.toList) eT hm hc ho h ht hj fun t' E' A' B' aF a' w' h1 h2 h3 h4=>hq .normal t' E' A' B' aF a' w' h1 h2 h3 h4
 | .seq x y,p,hs,hc=>by
  simp only [codeOk,ao] at hc;intro k r t A E B ρ base a w Q h ht hj hq;have h:oI P cfg aR L f x (2 * p) (R5 k fun t A=>oI P cfg aR L f y (2 * p+1) k t A) t A=some r:=h;refine wp_seq ?_;refine iq eT tW hm iD x (2 * p) hs.anE hc.1 _ r t A E B ρ base a w _ h ht hj fun e t' E' A' B' aF a' w' h1 h2 h3 h4=>?_;cases e with
  | normal=>
   have h1:oI P cfg aR L f y (2 * p+1) k t' A' = some r:=h1;exact iq eT tW hm iD y (2 * p+1) hs.aiV hc.2 k r t' A' E' B' aF base a' w' Q h1 h2 h4.kj fun e t'' G7 A'' H7 vd Sj GU q1 q2 q3 q4=>hq e t'' G7 A'' H7 vd Sj GU q1 q2 (q3.trans h3) (h4.trans q4)
  | exit id=>exact hq (.exit id) t' E' A' B' aF a' w' h1 h2 h3 h4
  | goto l=>exact hq (.goto l) t' E' A' B' aF a' w' h1 h2 h3 h4
  | ret=>exact hq .ret t' E' A' B' aF a' w' h1 h2 h3 h4
 | .cond c x y,p,hs,hc=>by
  simp only [codeOk,ao] at hc;intro k r t A E B ρ base a w Q h ht hj hq;have h:adr t c (fun t=>oI P cfg aR L f x (2 * p) k t A) (fun t=>oI P cfg aR L f y (2 * p+1) k t A)=some r:=h;have key:∃ t',(∀ i,t'.get i=t.get i)/\((a.eval c = .bool true/\oI P cfg aR L f x (2 * p) k t' A=some r)\/(a.eval c = .bool false/\oI P cfg aR L f y (2 * p+1) k t' A=some r)):=by
   have se:=ht.ev c;cases c with
   | tmp d=>
    have h:BK.rec (motive:=fun _=>Option R) (fun b=>Bool.rec (motive:=fun _=>Option R) (oI P cfg aR L f y (2 * p+1) k (t.set (.bool false) d) A) (oI P cfg aR L f x (2 * p) k (t.set (.bool true) d) A) b) none none (xT ((t.get d).getD .bf))=some r:=h;cases hb:xT ((t.get d).getD .bf) with
    | no=>rw [hb] at h; exact absurd h (by simp)
    | l8=>rw [hb] at h; exact absurd h (by simp)
    | bool b=>
     rw [hb] at h;have hbv:=Fj hb;have se:VC P E ρ ((t.get d).getD .bf) (a.eval (.tmp d)):=se;rw [hbv] at se;have:=se.eG;refine ⟨t.set (.bool b) d,MO hb,?_⟩;cases b
     ·exact .inr ⟨this,h⟩
     ·exact .inl ⟨this,h⟩
   | const v=>
    have h:BK.rec (motive:=fun _=>Option R) (fun b=>Bool.rec (motive:=fun _=>Option R) (oI P cfg aR L f y (2 * p+1) k t A) (oI P cfg aR L f x (2 * p) k t A) b) none none (xT (gq t (.const v)))=some r:=h;cases hb:xT (gq t (.const v)) with
    | no=>rw [hb] at h; exact absurd h (by simp)
    | l8=>rw [hb] at h; exact absurd h (by simp)
    | bool b=>
     rw [hb] at h;rw [Fj hb] at se;have:=se.eG;refine ⟨t,fun _=>rfl,?_⟩;cases b
     ·exact .inr ⟨this,h⟩
     ·exact .inl ⟨this,h⟩
   | global g=>exact absurd h (by simp [adr,gq,xT])
   | func g=>exact absurd h (by simp [adr,gq,xT])
  obtain ⟨t',Kg,h⟩:=key;have ht':=ht.same Kg;rcases h with ⟨hb,h⟩ | ⟨hb,h⟩
  ·exact wp_cond_true hb (iq eT tW hm iD x (2 * p) hs.alu hc.1 k r t' A E B ρ base a w Q h ht' hj hq)
  ·exact wp_cond_false hb (iq eT tW hm iD y (2 * p+1) hs.alv hc.2 k r t' A E B ρ base a w Q h ht' hj hq)
 | .block id x,p,hs,hc=>by
  have hc:codeOk N x=true:=hc;intro k r t A E B ρ base a w Q h ht hj hq;have h:oI P cfg aR L f x (2 * p) (aiB id k) t A=some r:=h;refine wp_block ?_;refine iq eT tW hm iD x (2 * p) hs.block hc _ r t A E B ρ base a w _ h ht hj fun e t' E' A' B' aF a' w' h1 h2 h3 h4=>?_;cases e with
  | normal=>exact hq .normal t' E' A' B' aF a' w' h1 h2 h3 h4
  | exit id'=>
   have h1:Bool.rec (motive:=fun _=>Option R) (k (.exit id') t' A') (k .normal t' A') (Nat.beq id' id)=some r:=h1;cases hb:Nat.beq id' id with
   | true=>
    rw [hb] at h1;have:=aK hb;simp only [ah.out,Exit.inBlock,aE this];exact hq .normal t' E' A' B' aF a' w' h1 h2 h3 h4
   | false=>
    rw [hb] at h1;have:=Nat.ne_of_beq_eq_false hb;simp only [ah.out,Exit.inBlock,aa this];exact hq (.exit id') t' E' A' B' aF a' w' h1 h2 h3 h4
  | goto l=>exact hq (.goto l) t' E' A' B' aF a' w' h1 h2 h3 h4
  | ret=>exact hq .ret t' E' A' B' aF a' w' h1 h2 h3 h4
 | .loop x,p,hs,hc=>by
  have hc:codeOk N x=true:=hc;intro k r t A E B ρ base a w Q h ht hj hq;have h:Option.rec (motive:=fun _=>bd->ae->Option R) (VG (oI P cfg aR L f x (2 * p)) k L) (fun F=>VI (oI P cfg aR L f x (2 * p)) F k L) (cfg.lp f p) t A=some r:=h;cases hF:cfg.lp f p with
  | some F=>
   rw [hF] at h;exact wp_loop_rounds (gV+L) (T5 (iq eT tW hm iD x (2 * p) hs.loop hc) (iD.1 p F x hF hs N hc) L k r t A E B ρ base a w Q h ht hj hq)
  | none=>
   rw [hF] at h;exact wp_loop_rounds L (T4 (iq eT tW hm iD x (2 * p) hs.loop hc) L k r t A E B ρ base a w Q h ht hj hq)
 | .scope x,p,hs,hc=>by
  have hc:codeOk N x=true:=hc;intro k r t A E B ρ base a w Q h ht hj hq;have h:Option.rec (motive:=fun _=>bd->ae->Option R) (oI P cfg aR L f x (2 * p) (Zy k)) (fun F=>oI P cfg aR L f x (2 * p) (ads (JC x) F k)) (cfg.lp f p) t A=some r:=h;cases hF:cfg.lp f p with
  | none=>
   rw [hF] at h;refine wp_scope_straight ?_;refine iq eT tW hm iD x (2 * p) hs.scope hc _ r t A E B ρ base a w _ h ht hj fun e t' E' A' B' aF a' w' h1 h2 h3 h4=>?_;cases e with
   | normal=>exact hq .normal t' E' A' B' aF a' w' h1 h2 h3 h4
   | exit id=>exact hq (.exit id) t' E' A' B' aF a' w' h1 h2 h3 h4
   | goto l=>exact absurd h1 (by simp [Zy])
   | ret=>exact hq .ret t' E' A' B' aF a' w' h1 h2 h3 h4
  | some F=>
   rw [hF] at h;have h:oI P cfg aR L f x (2 * p) (ads (JC x) F k) t A=some r:=h;cases hl:JC x with
   | none=>
    refine wp_scope_straight ?_;refine iq eT tW hm iD x (2 * p) hs.scope hc _ r t A E B ρ base a w _ h ht hj fun e t' E' A' B' aF a' w' h1 h2 h3 h4=>?_;rw [hl] at h1;cases e with
    | normal=>exact hq .normal t' E' A' B' aF a' w' h1 h2 h3 h4
    | exit id=>exact hq (.exit id) t' E' A' B' aF a' w' h1 h2 h3 h4
    | goto l=>exact absurd h1 (by simp [ads])
    | ret=>exact hq .ret t' E' A' B' aF a' w' h1 h2 h3 h4
   | some l=>
    obtain ⟨rest,Jm,aok⟩:=iD.2 p F x hF hs N hc l hl;refine adQ Jm ?_;refine iq eT tW hm iD x (2 * p) hs.scope hc _ r t A E B ρ base a w _ h ht hj fun e t' E' A' B' aF a' w' h1 h2 h3 h4=>?_;rw [hl] at h1;cases e with
    | normal=>exact hq .normal t' E' A' B' aF a' w' h1 h2 h3 h4
    | exit id=>exact hq (.exit id) t' E' A' B' aF a' w' h1 h2 h3 h4
    | goto l'=>
     have hx:Bool.rec (motive:=fun _=>Option R) none (wb.run (VH k) (F t' A')) (Nat.beq l' l)=some r:=h1;cases hb:Nat.beq l' l with
     | false=>rw [hb] at hx; exact absurd hx (by simp)
     | true=>
      rw [hb] at hx;have hll:=aK hb;subst hll;have hx:wb.run (VH k) (F t' A')=some r:=hx;refine ⟨rfl,aok R k r t' A' E' B' aF base a' w' Q hx h2 h4.kj fun e2 t2 E2 A2 B2 wZ a2 w2 q1 q2 q3 q4=>?_⟩;exact hq e2 t2 E2 A2 B2 wZ a2 w2 q1 q2 (q3.trans h3) (h4.trans q4)
    | ret=>exact hq .ret t' E' A' B' aF a' w' h1 h2 h3 h4
 | .rangeFunc ..,p,_,_ | .refuse _,p,_,_=>by
  intro k r t A E B ρ base a w Q h ht hj hq;exact absurd h (by simp [oI])
end
theorem Ie:∀ (l:List KV) (i k:Nat) (t:bd),(oJ l i t).get k=if i<=k/\k < i+l.length then l[k - i]? else t.get k
 | [],i,k,t=>by
  rw [oJ,aa];simp
 | v::l,i,k,t=>by
  rw [oJ,Ie l (i+1) k,Trie.oE];by_cases h1:k=i
  ·subst h1
   rw [aa (by omega),aE rfl,aE (by simp)];simp
  ·by_cases h2:i+1<=k/\k < i+1+l.length
   ·rw [aE h2,aE (by simp; omega),show k - i=(k - (i+1))+1 by omega]
    simp
   ·rw [aa h2,aa h1,aa (by simp; omega)]
theorem FY {A:ae} {B:St} {base N:Nat} {w:World} {ρ:Ren} {t:bd} {a:Act} (hj:KJ P E A B ρ base w) (ht:iW P E ρ t N a):∀ (rs:List ResultVar) (vs:List KV),Lt P A t rs=some vs->
  ∃ b6,rE P E ρ vs b6/\(rs.mapM (Yw a)).run P w=Result.ok b6 w
 | [],vs,h=>by simp [Lt] at h; subst h; exact ⟨[],⟨[],.nil,.nil⟩,by simp⟩
 | .tmp x::rs,vs,h=>by
  simp only [Lt] at h;obtain ⟨us,hu,rfl⟩:=ck.1 h;obtain ⟨us',⟨m,h1,h3⟩,h2⟩:=FY hj ht rs us hu;obtain ⟨u,h4,h5⟩:=ht.ev (.tmp x);refine ⟨_::us',⟨u::m,.cons h4 h1,.cons h5 h3⟩,?_⟩;simp [List.mapM_cons,h2,Act.eval,Yw]
 | .cell x ty::rs,vs,h=>by
  simp only [Lt] at h;split at h
  ·rename_i v hv
   obtain ⟨us,hu,rfl⟩:=ck.1 h;obtain ⟨us',⟨m,h1,h3⟩,h2⟩:=FY hj ht rs us hu;obtain ⟨u,h4,h5⟩:=ht.ev (.tmp x);have hg:aH (Ad P ty A [gq t (.tmp x)]) v:=by rw [hv]; exact rfl
   obtain ⟨z,h6,h7⟩:=ae0 E A B _ _ v hj.k (.cons h4 .nil) hg;have h6:loadAt P ty B u=some z:=h6;obtain ⟨ad,h8,z',h9,pd⟩:=Q3 (P:=P) hj.s.rel h5 h6;refine ⟨z'::us',⟨z::m,.cons h7 h1,.cons h9 h3⟩,?_⟩;have h8:a.tmps.getD x undef = .pointer (some ad):=h8;simp only [List.mapM_cons,Sem.run_bind,Yw,h8,asAddr,Sem.run_pure,ig,pd,h2]
  ·simp at h
theorem O9 {ρ:Ren} {vs:List KV} {b6:List Value} (h:rE P E ρ vs b6):VC P E ρ (HU vs) (if h:b6.toArray.size=1 then b6.toArray[0] else .tuple b6.toArray):=by
 obtain ⟨m,h1,h2⟩:=h
 match vs with
 | []=>
  rw [h1.bX] at h2;rw [h2.bX];exact ⟨_,.VL .nil,VR.mkTuple .nil⟩
 | [v]=>
  obtain ⟨u,rfl,h3⟩:=h1.dX;obtain ⟨y,ys,rfl,h4,h5⟩:=h2.cons_inv;rw [h5.bX];exact ⟨u,h3,h4⟩
 | v::v2::vs=>
  obtain ⟨u,us,rfl,h3,h4⟩:=h1.cons_inv;obtain ⟨u2,us2,rfl,h5,h6⟩:=h4.cons_inv;obtain ⟨y,ys,rfl,h7,h8⟩:=h2.cons_inv;obtain ⟨y2,ys2,rfl,h9,pd⟩:=h8.cons_inv;rw [dif_neg (by simp)];exact ⟨_,.VL (.cons h3 (.cons h5 h6)),VR.mkTuple (.cons h7 (.cons h9 pd))⟩
def adR (vs:List Value):Value:=if h:vs.toArray.size=1 then vs.toArray[0] else .tuple vs.toArray
theorem MU {R:Type} {cfg:dD} {aR:kq R} (eT:rf P cfg.pc) (tW:H4 P aR) (hm:P.follows .mixedOrders=true) (L:Nat) {f:FuncId} {fn:Func} {c:Code} (hf:P.funcs[f]? = some fn) (hb:fn.body=some c) (cM:codeOk fn.ntmps c=true) (iD:aiW P cfg f c)
  {args:List KV} {A:ae} {k:List KV->ae->Option R} {r:R} (h:oI P cfg aR L f c 1 (aeQ P fn k) (oJ args 0 .leaf) A=some r) {E:Env} {B:St} {ρ:Ren} {dV:List Value} {base:Nat} {w:World} (hv:rE P E ρ args dV) (hj:KJ P E A B ρ base w) :
  Calls P f dV.toArray w fun e w'=>∃ vs b6 E' A' B' aF,e = .returned (adR b6)/\rE P E' aF vs b6/\Ev P base E A B ρ w E' A' B' aF w'/\k vs A' = some r:=by
 refine calls_of_wp hf hb ?_;obtain ⟨ahr,QD,RT⟩:=hv;have hlen:dV.length=args.length:=by rw [RT.length,QD.length]
 have ht:iW P E ρ (oJ args 0 .leaf) (max fn.ntmps args.length) { tmps:=dV.toArray++Array.replicate (fn.ntmps - dV.toArray.size) undef,defers:=[] }:=by
  have dP:(dV.toArray++Array.replicate (fn.ntmps - dV.toArray.size) undef).size=max fn.ntmps args.length:=by
   simp [hlen];omega
  refine ⟨dP,fun i=>?_,fun i hi=>?_⟩
  ·rw [Ie]
   simp only [rQ,true_and,ba,Nat.sub_zero,Trie.P3];by_cases hi:i < args.length
   ·rw [aE hi]
    obtain ⟨u,hu⟩:∃ u,args[i]? = some u:=⟨_,cK hi⟩
    obtain ⟨m,h1,h2⟩:=QD.get hu;obtain ⟨u',h3,h4⟩:=RT.get h1;rw [hu];have:(dV.toArray++Array.replicate (fn.ntmps - dV.toArray.size) undef).getD i undef=u':=by
     rw [kT,Array.getElem?_append_left (by simpa [hlen] using hi)];simp [h3]
    rw [this];exact ⟨m,h2,h4⟩
   ·rw [aa hi]
    exact VC.bf
  ·rw [Ie,aa,Trie.P3]
   simp only [rQ,true_and,ba];have:=Nat.le_max_right fn.ntmps args.length;omega
 have acn:codeOk (max fn.ntmps args.length) c=true:=mg (Nat.le_max_left _ _) c cM;refine iq (L:=L) (f:=f) (N:=max fn.ntmps args.length) eT tW hm iD c 1 .root acn _ r _ A E B ρ base _ w _ h ht hj fun e t' E' A' B' aF a' w' h1 h2 h3 h4=>?_;have fin:∀ vs,Lt P A' t' fn.results.toList=some vs->k vs A' = some r->∀ e:ah,(e = .normal\/e = .ret)->bodyPost P fn (fun e w'=>∃ vs b6 E' A' B' aF,e = .returned (adR b6)/\rE P E' aF vs b6/\Ev P base E A B ρ w E' A' B' aF w'/\k vs A' = some r) e.out a' w':=by
  intro vs hr hk e he;obtain ⟨b6,hvs,lC⟩:=FY (P:=P) h4.kj h2 _ _ hr;have aft:(results fn a'.tmps).run P w' = .ok (if h:b6.toArray.size=1 then b6.toArray[0] else .tuple b6.toArray) w':=by
   rw [W8,Sem.run_bind,Array.mapM_eq_mapM_toList,Sem.run_map,lC];rfl
  have aah:bodyPost P fn (fun e w'=>∃ vs b6 E' A' B' aF,e = .returned (adR b6)/\rE P E' aF vs b6/\Ev P base E A B ρ w E' A' B' aF w'/\k vs A' = some r) .ret a' w':=by
   exact ⟨h3,_,aft,vs,b6,E',A',B',aF,rfl,hvs,h4,hk⟩
  rcases he with rfl | rfl
  ·exact aah
  ·exact aah
 cases e with
 | normal=>
  have h1:Option.rec (motive:=fun _=>Option R) none (fun vs=>k vs A') (Lt P A' t' fn.results.toList)=some r:=h1;cases hr:Lt P A' t' fn.results.toList with
  | none=>rw [hr] at h1; exact absurd h1 (by simp)
  | some vs=>rw [hr] at h1; exact fin vs hr h1 .normal (.inl rfl)
 | ret=>
  have h1:Option.rec (motive:=fun _=>Option R) none (fun vs=>k vs A') (Lt P A' t' fn.results.toList)=some r:=h1;cases hr:Lt P A' t' fn.results.toList with
  | none=>rw [hr] at h1; exact absurd h1 (by simp)
  | some vs=>rw [hr] at h1; exact fin vs hr h1 .ret (.inr rfl)
 | exit id=>exact absurd h1 (by simp [aeQ])
 | goto l=>exact absurd h1 (by simp [aeQ])
end Go.K
end
section
namespace Go.K
open Go Go.aI
variable {P:Program} {E:Env}
def acs (P:Program) (ac:FuncId->Option (List KV->ae->xS)):Prop:=∀ g F,ac g=some F->∀ {R:Type} (args:List KV) (A:ae) (k:KV->ae->Option R) (r:R),xS.run k (F args A)=some r->xC P g/\
 ∀ (E:Env) (B:St) (ρ:Ren) (base:Nat) (w:World) (dV:List Value),rE P E ρ args dV->KJ P E A B ρ base w->
  Calls P g dV.toArray w fun e w'=>∃ v v' E' A' B' aF,e = .returned v'/\VC P E' aF v v'/\Ev P base E A B ρ w E' A' B' aF w'/\k v A' = some r
theorem acs.none {P:Program} : acs P fun _=>.none:=fun g F h=>by simp at h
def vw (P:Program) (cfg:dD):Prop:=acs P cfg.x.ac/\∀ f fn c,P.funcs[f]? = some fn->fn.body=some c->aiW P cfg f c
theorem Pa {R:Type} {cfg:dD} {aR:kq R} {L:Nat} {f:FuncId} {args:List KV} {A:ae} {k:List KV->ae->Option R} {r:R} (hP:P.funcs.toList.all ky=true) (h:VJ P cfg aR L f args A k=some r) :
  ∃ fn c, P.funcs[f]? = some fn ∧ fn.body = some c ∧ codeOk fn.ntmps c = true ∧ (fn.name == "runtime.NumGoroutine") = false ∧ oI P cfg aR L f c 1 (aeQ P fn k) (oJ args 0 .leaf) A = some r := by
 unfold VJ at h;split at h
 ·rename_i fn hf
  split at h
  ·rename_i c hc
   have hf' : P.funcs[f]? = some fn:=by simpa using hf
   have cM:=fe.1 hP fn (gi hf);unfold ky at cM;rw [hc] at cM;simp only [ao,lU] at cM;exact ⟨fn,c,hf',hc,cM.1,cM.2,h⟩
  ·simp at h
 ·simp at h
theorem uz {R:Type} {cfg:dD} (hP:P.funcs.toList.all ky=true) (hm:P.follows .mixedOrders=true) (eT:rf P cfg.pc) (iD:vw P cfg) (L:Nat):∀ n,H4 (R:=R) P (G1 P cfg L n)
 | 0=>fun f args A k r h=>absurd h (by simp [G1])
 | n+1=>fun f args A k r h=>by
  have h:Bool.rec (motive:=fun _=>Option R) none (Option.rec (motive:=fun _=>Option R) (VJ P cfg (G1 P cfg L n) L f args A fun vs B=>k (HU vs) B) (fun F=>xS.run k (F args A)) (cfg.x.ac f)) (Nat.blt f yB)=some r:=h;cases hy:Nat.blt f yB with
  | false=>rw [hy] at h; exact absurd h (by simp)
  | true=>
   rw [hy] at h;cases hac:cfg.x.ac f with
   | some F=>
    rw [hac] at h;exact iD.1 f F hac args A k r h
   | none=>
    rw [hac] at h;have h:VJ P cfg (G1 P cfg L n) L f args A (fun vs B=>k (HU vs) B)=some r:=h;obtain ⟨fn,c,hf,hc,cM,hnm,h⟩:=Pa hP h;refine ⟨⟨hy,fn,hf,by simp [hc],hnm⟩,fun E B ρ base w dV hv hj=>?_⟩;refine (MU eT (uz hP hm eT iD L n) hm L hf hc cM (iD.2 f fn c hf hc) h hv hj).mono ?_;rintro e w' ⟨vs,b6,E',A',B',aF,rfl,h1,h2,h3⟩;exact ⟨HU vs,_,E',A',B',aF,rfl,O9 h1,h2,h3⟩
def X6 (E E0:Env):Prop:=∀ b r,E.z b=some r->∃ r0,E0.z b=some r0/\r0.bm=r.bm/\r0.cs=r.cs
theorem X6.of {E E0:Env} (h:E0.z=E.z):X6 E E0:=fun b r e=>⟨r,by rw [h]; exact e,rfl,rfl⟩
mutual
theorem VK.zK {E0:Env} (hz:X6 E E0):∀ {v:KV} {u:Value} {c:CK},VK P E v u->kindOk c v=true->VK P E0 v u
 | .int k n,u,c,h,_=>h
 | .bool b,u,c,h,_=>h
 | .str s,u,c,h,_=>h
 | .ts T m n es acc,u,c,h,hk=>by
  cases c <;> simp [kindOk] at hk;rename_i t;cases m <;> simp at hk;obtain ⟨ht,bh,h1,a,cap,rfl,h2,h3,h4⟩:=h.kY;simp only [VK];refine ⟨ht,bh,aV.zEs hz h1 ht.typed,a,cap,rfl,h2,?_,trivial⟩;refine h3.imp id ?_;rintro ⟨b,off,r,e1,e2,e3⟩;obtain ⟨r0,q1,q2,q3⟩:=hz b r e2;exact ⟨b,off,r0,e1,q1,by rw [q2]; exact e3.1,by rw [q3]; exact e3.2⟩
 | .agg cs,u,c,h,hk=>by cases c <;> simp [kindOk] at hk
 | .l8 cs,u,c,h,hk=>by cases c <;> simp [kindOk] at hk
 | .tp T Tc i k es acc,u,c,h,hk=>by cases c <;> simp [kindOk] at hk
 | .al T b o n,u,c,h,hk=>by cases c <;> simp [kindOk] at hk
 | .ap T Tc b i k,u,c,h,hk=>by cases c <;> simp [kindOk] at hk
 | .ptr b off,u,c,h,hk=>by cases c <;> simp [kindOk] at hk
 | .sl b off n cap,u,c,h,hk=>by cases c <;> simp [kindOk] at hk
 | .Gt,u,c,h,hk=>by cases c <;> simp [kindOk] at hk
 | .ko,u,c,h,hk=>by cases c <;> simp [kindOk] at hk
 | .CN,u,c,h,hk=>by cases c <;> simp [kindOk] at hk
 | .map b,u,c,h,hk=>by cases c <;> simp [kindOk] at hk
 | .fn f a b,u,c,h,hk=>by cases c <;> simp [kindOk] at hk
 | .HQ,u,c,h,hk=>by cases c <;> simp [kindOk] at hk
 | .iface t x,u,c,h,hk=>by cases c <;> simp [kindOk] at hk
 | .HR,u,c,h,hk=>by cases c <;> simp [kindOk] at hk
 | .bf,u,c,h,hk=>by cases c <;> simp [kindOk] at hk
theorem VK.zE {E0:Env} (hz:X6 E E0):∀ {v:KV} {u:Value} {l:Lay},VK P E v u->cw l v=true->VK P E0 v u
 | .int k n,u,l,h,_=>h
 | .bool b,u,l,h,_=>h
 | .str s,u,l,h,_=>h
 | .agg cs,u,l,h,hk=>by
  simp only [cw,ao] at hk;obtain ⟨m,rfl,h1⟩:=h.kK;exact .rC (aV.zKs hz h1 hk.2)
 | .ts T m n es acc,u,l,h,hk=>by
  have mD:∃ c,kindOk c (.ts T m n es acc)=true:=by
   simp only [cw,ao] at hk;cases qx:l.ks with
   | nil=>rw [qx] at hk; simp [aD] at hk
   | cons c cs=>rw [qx] at hk; simp only [aD,ao] at hk; exact ⟨c,hk.2.1⟩
  obtain ⟨c,hk⟩:=mD;cases c <;> simp [kindOk] at hk;rename_i t;cases m <;> simp at hk;obtain ⟨ht,bh,h1,a,cap,rfl,h2,h3,h4⟩:=h.kY;simp only [VK];refine ⟨ht,bh,aV.zEs hz h1 ht.typed,a,cap,rfl,h2,?_,trivial⟩;refine h3.imp id ?_;rintro ⟨b,off,r,e1,e2,e3⟩;obtain ⟨r0,q1,q2,q3⟩:=hz b r e2;exact ⟨b,off,r0,e1,q1,by rw [q2]; exact e3.1,by rw [q3]; exact e3.2⟩
 | .l8 cs,u,l,h,hk=>by simp [cw] at hk
 | .tp T Tc i k es acc,u,l,h,hk=>by
  obtain ⟨h1,_⟩:=gf hk;cases qx:l.ks with
  | nil=>rw [qx] at h1; simp [KV.cells,aD] at h1
  | cons c cs=>rw [qx] at h1; cases c <;> simp [KV.cells,aD,kindOk] at h1
 | .al T b o n,u,l,h,hk=>by
  obtain ⟨h1,_⟩:=gf hk;cases qx:l.ks with
  | nil=>rw [qx] at h1; simp [KV.cells,aD] at h1
  | cons c cs=>rw [qx] at h1; cases c <;> simp [KV.cells,aD,kindOk] at h1
 | .ap T Tc b i k,u,l,h,hk=>by
  obtain ⟨h1,_⟩:=gf hk;cases qx:l.ks with
  | nil=>rw [qx] at h1; simp [KV.cells,aD] at h1
  | cons c cs=>rw [qx] at h1; cases c <;> simp [KV.cells,aD,kindOk] at h1
 | .ptr b off,u,l,h,hk=>by
  obtain ⟨h1,_⟩:=gf hk;cases qx:l.ks with
  | nil=>rw [qx] at h1; simp [KV.cells,aD] at h1
  | cons c cs=>rw [qx] at h1; cases c <;> simp [KV.cells,aD,kindOk] at h1
 | .sl b off n cap,u,l,h,hk=>by
  obtain ⟨h1,_⟩:=gf hk;cases qx:l.ks with
  | nil=>rw [qx] at h1; simp [KV.cells,aD] at h1
  | cons c cs=>rw [qx] at h1; cases c <;> simp [KV.cells,aD,kindOk] at h1
 | .Gt,u,l,h,hk=>h
 | .ko,u,l,h,hk=>h
 | .CN,u,l,h,hk=>h
 | .map b,u,l,h,hk=>by
  obtain ⟨h1,_⟩:=gf hk;cases qx:l.ks with
  | nil=>rw [qx] at h1; simp [KV.cells,aD] at h1
  | cons c cs=>rw [qx] at h1; cases c <;> simp [KV.cells,aD,kindOk] at h1
 | .fn f a b,u,l,h,hk=>by
  obtain ⟨h1,_⟩:=gf hk;cases qx:l.ks with
  | nil=>rw [qx] at h1; simp [KV.cells,aD] at h1
  | cons c cs=>rw [qx] at h1; cases c <;> simp [KV.cells,aD,kindOk] at h1
 | .HQ,u,l,h,hk=>h
 | .iface t x,u,l,h,hk=>by
  obtain ⟨h1,_⟩:=gf hk;cases qx:l.ks with
  | nil=>rw [qx] at h1; simp [KV.cells,aD] at h1
  | cons c cs=>rw [qx] at h1; cases c <;> simp [KV.cells,aD,kindOk] at h1
 | .HR,u,l,h,hk=>h
 | .bf,u,l,h,hk=>h
theorem aV.zKs {E0:Env} (hz:X6 E E0):∀ {vs:List KV} {us:List Value} {ks:List CK},aV P E vs us->aD ks vs=true->aV P E0 vs us
 | [],us,ks,h,_=>by rw [h.bX]; exact .nil
 | v::vs,us,[],h,hk=>by simp [aD] at hk
 | v::vs,us,c::ks,h,hk=>by
  simp only [aD,ao] at hk;simp only [aV] at h ⊢;obtain ⟨y,ys,e,h1,h2⟩:=h;exact ⟨y,ys,e,VK.zK hz h1 hk.1,aV.zKs hz h2 hk.2⟩
theorem aV.zEs {E0:Env} (hz:X6 E E0):∀ {vs:List KV} {us:List Value} {l:Lay},aV P E vs us->dH l vs=true->aV P E0 vs us
 | [],us,l,h,_=>by rw [h.bX]; exact .nil
 | v::vs,us,l,h,hk=>by
  simp only [dH,ao] at hk;simp only [aV] at h ⊢;obtain ⟨y,ys,e,h1,h2⟩:=h;exact ⟨y,ys,e,VK.zE hz h1 hk.1,aV.zEs hz h2 hk.2⟩
end
theorem VK.alw {E0:Env} (hz:X6 E E0) {c:CK} {v:KV} {u:Value} (h:VK P E v u):VK P E0 (K.nK c v) u:=by
 have hn:=h.nK (c:=c);cases hk:kindOk c (K.nK c v) with
 | true=>exact hn.zK hz hk
 | false=>
  have:K.nK c v = .bf:=by
   revert hk
   unfold K.nK;split
   ·intro hk; simp [kindOk] at hk
   ·rename_i t t' m n es acc
    cases hb:Nat.beq t t' with
    | false=>intro _; rfl
    | true=>intro hk; simp [kindOk] at hk
   ·cases hb:kindOk c v with
    | false=>intro _; rfl
    | true=>intro hk; rw [aj,hb] at hk; simp at hk
  rw [this];exact .vm
theorem aV.afu {E0:Env} (hz:X6 E E0):∀ {ks:List CK} {cs:List KV} {l:List Value},aV P E cs l->cs.length=ks.length->aV P E0 (K.CO ks cs) l
 | [],[],l,h,_=>by rw [h.bX]; exact .nil
 | [],_::_,_,_,e=>by simp at e
 | _::_,[],_,_,e=>by simp at e
 | c::ks,v::cs,l,h,e=>by
  obtain ⟨y,ys,rfl,h1,h2⟩:=h.cons_inv;exact .cons (h1.alw hz) (aV.afu hz h2 (by simpa using e))
theorem VK.amP {E0:Env} (hz:X6 E E0) {l:Lay} {v:KV} {u:Value} (h:VK P E v u):VK P E0 (K.dJ l v) u:=by
 unfold K.dJ;split
 ·rename_i cs
  obtain ⟨m,rfl,h1⟩:=h.kK;cases hb:(l.agg&&Nat.beq cs.length l.ks.length) with
  | false=>exact .vm
  | true=>
   simp only [ao] at hb;exact .rC (h1.afu hz (aK hb.2))
 ·cases l.agg with
  | true=>exact .vm
  | false=>
   rw [aG];split
   ·exact h.alw hz
   ·exact .vm
theorem VK.aol {E0:Env} (hz:X6 E E0) {t:TypeId} {v:KV} {u:Value} (h:VK P E v u):VK P E0 (K.Ty P t v) u:=by
 unfold K.Ty;cases hb:cw (aQ P t) (K.dJ (aQ P t) v) with
 | false=>exact .vm
 | true=>exact VK.ik _ hb (h.amP hz)
theorem aV.MV {E0:Env} (hz:X6 E E0):∀ {ts:List TypeId} {vs:List KV} {us:List Value},aV P E vs us->vs.length=ts.length->aV P E0 (normArgs P ts vs) us
 | [],[],us,h,_=>by rw [h.bX]; exact .nil
 | [],_::_,_,_,e=>by simp at e
 | _::_,[],_,_,e=>by simp at e
 | t::ts,v::vs,us,h,e=>by
  obtain ⟨y,ys,rfl,h1,h2⟩:=h.cons_inv;exact .cons (h1.aol hz) (aV.MV hz h2 (by simpa using e))
theorem Ig:∀ (ts:List TypeId) (vs:List KV),zi P ts vs=normArgs P ts vs
 | [],vs=>by cases vs <;> rfl
 | t::ts,[]=>rfl
 | t::ts,v::vs=>by simp [zi,normArgs,Ig ts vs]
theorem LB:∀ {ts:List TypeId} {vs:List KV},vs.length=ts.length->(normArgs P ts vs).length=ts.length
 | [],[],_=>rfl
 | [],_::_,e=>by simp at e
 | _::_,[],e=>by simp at e
 | t::ts,v::vs,e=>by simp [normArgs,LB (ts:=ts) (vs:=vs) (by simpa using e)]
def Env.bare (E:Env):Env:={ E with κ:=fun _=>none,φ:=fun _=>none,α:=fun _=>none }
theorem dr.bare {A:ae} {B:St} (h:dr P E A B):dr P E.bare .empty B where
 row b cs bm hb:=by simp [ae.empty,ae.get] at hb
 aO b top sz hb:=by simp [ae.empty,ae.get] at hb
 z:=h.z
 apart b x e:=by simp [Env.bare] at e
 inj b c x e:=by simp [Env.bare] at e
 gD b c g _ _ _ _ _ _ e:=by simp [Env.bare] at e
 jM b x e:=by simp [Env.bare] at e
 kL b g e:=by simp [Env.bare] at e
 live b o hb:=by simp [ae.empty,ae.get] at hb
 eS b x e:=by simp [Env.bare] at e
 lD:=h.lD
 il b g e:=by simp [Env.bare] at e
 fresh:=h.fresh
 mem:=h.mem
 ar:=by
  have hn:∀ b v,¬ ae.empty.get b=some (.arr v):=fun b v hb=>by simp [ae.empty,ae.get] at hb
  exact ⟨fun b v hb=>(hn b v hb).elim,fun b v hb=>by simp [ae.empty,ae.get] at hb,fun x ⟨b,v,_,_,hb,_⟩=>(hn b v hb).elim,fun b c v u x L N L' N' hb=>(hn b v hb).elim,fun b c v u x y L N L' N' cs e own g k bM e' rb k' hb=>(hn b v hb).elim,fun b x e=>by simp [Env.bare] at e,fun b p e=>by simp [Env.bare] at e,fun b x L N e=>by simp [Env.bare] at e,fun b v x L N cs e own g k hb=>(hn b v hb).elim,fun b v hb=>(hn b v hb).elim⟩
theorem afv {x:Nat} : ¬ AR .empty E.bare x:=fun ⟨b,v,_,_,hb,_⟩=>by simp [ae.empty,ae.get] at hb
theorem afw {B:St} {g:Nat} : ¬ AF .empty E.bare B g:=fun ⟨b,v,_,_,_,_,_,_,_,hb,_⟩=>by simp [ae.empty,ae.get] at hb
theorem alx {B:St} {y:Nat} : ¬ AT .empty E.bare B y:=fun q=>q.elim afv fun ⟨_,q,_⟩=>afw q
theorem Ev.bare {base:Nat} {A A1:ae} {B B1:St} {ρ kF:Ren} {w w1:World} {E1:Env} (h:dr P E A B) (se:Ev P base E.bare .empty B ρ w E1 A1 B1 kF w1):Ev P base E A B ρ w { E with z:=E1.z } A B1 kF w1:=by
 have hle:E.le { E with z:=E1.z }:=⟨fun _ _ e=>e,fun _ _ e=>e,se.le.z,fun _ _ e=>e⟩
 have MW:∀ x,x < B.next->B1.get x=B.get x:=fun x hx=>se.dL x hx (fun b e=>by simp [Env.bare] at e) alx;have mI:∀ g,g < B.next->B1.members g=B.members g:=fun g hg=>se.oK g hg (fun b e=>by simp [Env.bare] at e) afw;have fU:=se.eE.next;have OQ:∀ b r,E1.z b=some r->E.z b=some r\/B.next<=b:=fun b r e=>by
  rcases se.tT b r e with e | e | e
  ·exact .inl e
  ·exact (afv e).elim
  ·exact .inr e
 have rX:∀ y,AR A { E with z:=E1.z } y->AR A E y:=fun y q=>q;have anF:∀ g,AF A E B g->g < B.next:=fun g ⟨b,v,x,L,N,cs,e,own,k,h1,h2,h3⟩=>(h.ar.vo b v x L N cs e own g k h1 h2 h3).1;have Kw:∀ g,AF A { E with z:=E1.z } B1 g->AF A E B g:=fun g ⟨b,v,x,L,N,cs,e,own,k,h1,h2,h3⟩=>⟨b,v,x,L,N,cs,e,own,k,h1,h2,by rw [<- MW x (h.ar.eS b x L N h2)]; exact h3⟩
 refine ⟨⟨?_,?_,se.fT.z,?_,h.inj,h.gD,h.jM,h.kL,h.live,?_,se.fT.lD,?_,se.fT.fresh,se.fT.mem,h.ar.dL hle (fun _=>rfl) (fun _ _ e=>e) (fun _ _ e=>e) (aB _) fU (fun x q=>MW x (h.HX q)) OQ (fun _ _ e=>.inl e) (fun b g e=>.inl ⟨b,e⟩) (fun g q=>mI g (anF g q)) h.mem⟩,se.eE,hle,aB _,fun x hx _ _=>MW x hx,fun _ _ e=>.inl e,fun b r e=>(OQ b r e).imp id .inr,fun _ _ e=>.inl ⟨_,e⟩,fun g hg _ _=>mI g hg,fun y q=>.inl (rX y q),fun g q=>.inl (Kw g q),se.vp,fun y q=>.inl (q.imp (rX y) fun ⟨g,q1,q2⟩=>⟨g,Kw g q1,by rw [<- mI g (anF g (Kw g q1))]; exact q2⟩),se.rows,fun _ e=>e⟩
 ·intro b cs bm hb
  obtain ⟨x,c,h1,h2,h3⟩:=h.row b cs bm hb;exact ⟨x,c,h1,by rw [MW x (h.eS b x h1)]; exact h2,h3.mono hle⟩
 ·intro b top sz hb
  rcases h.aO b top sz hb with h1 | ⟨g,h1,h2,h3⟩
  ·exact .inl h1
  ·have hg:=h.il b g h1
   refine .inr ⟨g,h1,h2,fun x hx cs e own f k hr=>?_⟩;rw [mI g hg] at hx;rw [MW x (h.mem g x hx)] at hr;exact h3 x hx cs e own f k hr
 ·intro b x hb
  have hx:=h.eS b x hb;cases hz:E1.z x with
  | none=>rfl
  | some r=>
   rcases OQ x r hz with e | e
   ·rw [h.apart b x hb] at e; simp at e
   ·omega
 ·intro b x hb; have:=h.eS b x hb; omega
 ·intro b g hb; have:=h.il b g hb; omega
theorem aly {g:FuncId} {F:List KV->KR KV} (hy:Nat.blt g yB=true) (hP:P.funcs.toList.all ky=true) (hm:P.follows .mixedOrders=true)
  (h:∀ adS v,adS.length=(bS P g).length->aH (F (normArgs P (bS P g) adS)) v->∃ cfg L n,rf P cfg.pc/\vw P cfg/\FT P cfg L n g (normArgs P (bS P g) adS)=some v):bZ P g F:=by
 intro args v hF hlen;obtain ⟨cfg,L,n,eT,iD,lC⟩:=h _ v hlen hF;have tW:=uz (R:=KV) hP hm eT iD L n;obtain ⟨fn,c,hf,hc,cM,hnm,lC⟩:=Pa hP lC;refine ⟨⟨hy,fn,hf,by simp [hc],hnm⟩,fun E A B ρ base w dV hv hj=>?_⟩;obtain ⟨ahr,QD,RT⟩:=hv;have hv0:rE P E.bare ρ (normArgs P (bS P g) args) dV:=⟨ahr,aV.MV (E:=E) (E0:=E.bare) (.of rfl) QD hlen,RT⟩
 refine (MU eT tW hm L hf hc cM (iD.2 g fn c hf hc) lC hv0 ⟨hj.k.bare,hj.s⟩).mono ?_;rintro e w' ⟨vs,b6,E0,A0,B1,kF,rfl,⟨m,h1,h1'⟩,h2,h3⟩;have h3:Bool.rec (motive:=fun _=>Option KV) none (some (HU (zi P (vj P g) (zZ A0 vs).1))) (Nat.beq vs.length (vj P g).length)=some v:=h3;obtain ⟨E1,hf1,h1⟩:=JF h2.fT h1;have se:=Ev.bare hj.k (h2.trans (hf1.ev (.refl h2.eE.fT)));cases hb:Nat.beq vs.length (vj P g).length with
 | false=>rw [hb] at h3; exact absurd h3 (by simp)
 | true=>
  rw [hb] at h3;have h3:some (HU (zi P (vj P g) (zZ A0 vs).1))=some v:=h3;simp only [bN] at h3;subst h3;refine ⟨_,_,B1,kF,rfl,O9 ⟨m,?_,h1'⟩,se⟩;rw [Ig];exact aV.MV (E:=E1) (E0:={ E with z:=E1.z }) (.of rfl) h1 ((MN A0 vs).trans (aK hb))
end Go.K
end
section
namespace Go.K
open Go Go.aI
noncomputable section
inductive CD where
 | k (c:CK)
 | lit (v:KV)
 | aO (t:TypeId)
 | arr (t:TypeId)
 | ref (w:KV)
def V2 (bs:List Nat) (v:KV):KV:=
 match v with
 | .ptr j o=>.ptr (bs.getD j 0) o
 | v=>v
def Bm (bs:List Nat):List KV->List KV
 | []=>[]
 | v::vs=>V2 bs v::Bm bs vs
def inst (bs:List Nat) (v:KV):KV:=
 match v with
 | .ptr j o=>.ptr (bs.getD j 0) o
 | .fn f first cap=>.fn f (Bm bs first) (Bm bs cap)
 | v=>v
def isP (nr:Nat):KV->Bool
 | .ptr j _=>Nat.blt j nr
 | _=>false
def aai (nr:Nat):List KV->Bool
 | []=>true
 | v::vs=>isP nr v&&aai nr vs
def Xs (nr:Nat):KV->Bool
 | .ptr j _=>Nat.blt j nr
 | .fn (.func _) first cap=>aai nr first&&aai nr cap
 | _=>false
def eqP:KV->KV->Bool
 | .ptr a o,.ptr b q=>Nat.beq a b&&Nat.beq o q
 | _,_=>false
def aaj:List KV->List KV->Bool
 | [],[]=>true
 | v::vs,u::us=>eqP v u&&aaj vs us
 | _,_=>false
def Pb:KV->KV->Bool
 | .ptr a o,.ptr b q=>Nat.beq a b&&Nat.beq o q
 | .fn (.func f) a b,.fn (.func g) c d=>Nat.beq f g&&aaj a c&&aaj b d
 | _,_=>false
def yH:KV->KV->Bool
 | .fn (.func f) [] [],.fn (.func g) [] []=>Nat.beq f g
 | .Gt,.Gt=>true
 | .ko,.ko=>true
 | .CN,.CN=>true
 | .HQ,.HQ=>true
 | .HR,.HR=>true
 | _,_=>false
def Pc (A:ae) (t:TypeId) (v:KV):KV:=
 match v with
 | .ko=>.ts t .any 0 [] qz
 | .al t' b o _=>match A.get b with
  | some (.arr (.ts t2 _ N es acc))=>cond (Nat.beq t t'&&Nat.beq t t2&&Nat.beq o 0) (.ts t .any N es acc) .bf
  | _=>.bf
 | _=>.bf
def eJ (P:Program) (A:ae) (d:CD) (v:KV):KV:=
 match d with
 | .k c=>cond (kindOk c (nK c v)) (ca P dB (leaf c (nK c v))) .bf
 | .lit w=>cond (yH w v) w .bf
 | .aO t=>match v with
  | .ko=>ca P dB (.ts t .any 0 [] qz)
  | .ts t' (.aO _) n es acc=>cond (Nat.beq t t') (ca P dB (.ts t .any n es acc)) .bf
  | _=>.bf
 | .arr t=>ca P dB (Pc A t v)
 | .ref w=>w
def eK (P:Program) (A:ae):List CD->List KV->List KV
 | d::ds,v::vs=>eJ P A d v::eK P A ds vs
 | _,_=>[]
def jo (d:CD) (v:KV):Bool:=
 match d with
 | .k c=>kindOk c v
 | .lit w=>yH w v
 | .aO t=>kindOk (.slice t) v
 | .arr t=>kindOk (.slice t) v
 | .ref w=>Pb w v
def df:List CD->List KV->Bool
 | [],[]=>true
 | d::ds,v::vs=>jo d v&&df ds vs
 | _,_=>false
structure VD where
 agg:Bool
 ks:List CD
def yj (P:Program) (A:ae) (d:VD) (v:KV):KV:=
 match v with
 | .agg cs=>cond (d.agg&&Nat.beq cs.length d.ks.length) (.agg (eK P A d.ks cs)) .bf
 | v=>cond d.agg .bf (match d.ks with
  | [c]=>eJ P A c v
  | _=>.bf)
def zl (d:VD) (v:KV):Bool:=
 match v with
 | .agg cs=>d.agg&&df d.ks cs
 | v=>!d.agg&&df d.ks [v]
structure aJ where
 dC:List (Tmp×VD)
 rows:List (Tmp×List CD×Nat)
 T6:List (Tmp×Nat×Nat)
def valOf (t:bd) (i:Tmp):KV:=(t.get i).getD .bf
def n4 (P:Program) (t:bd) (A:ae):List (Tmp×VD)->List KV
 | []=>[]
 | p::ps=>yj P A p.2 (valOf t p.1)::n4 P t A ps
def eL:List (Tmp×VD)->List KV->Bool
 | [],[]=>true
 | p::ps,v::vs=>zl p.2 v&&eL ps vs
 | _,_=>false
def anG:Option KV->Option Nat
 | some (.ptr b _)=>some b
 | _=>none
def aph (t:bd) (i:Nat):Option Nat:=
 cond (Nat.blt i 100000) (anG (t.get i)) (match t.get (i % 100000) with
  | some (.fn _ first cap)=>anG (acb (i / 100000 - 1) (first++cap))
  | _=>none)
def rowOf (t:bd) (A:ae) (p:Tmp×List CD×Nat):Option (Nat×List KV):=
 match aph t p.1 with
 | some b=>match A.get b with
  | some (.row cs e)=>cond (Nat.beq e p.2.2&&Nat.beq cs.length p.2.1.length) (some (b,cs)) none
  | _=>none
 | _=>none
def aiX (t:bd) (A:ae) (p:Tmp×List CD×Nat):Nat:=((rowOf t A p).getD (0,[])).1
def Ih (t:bd) (A:ae) (p:Tmp×List CD×Nat):List KV:=((rowOf t A p).getD (0,[])).2
def BO (t:bd) (A:ae):List (Tmp×List CD×Nat)->List Nat
 | []=>[]
 | p::ps=>aiX t A p::BO t A ps
def Kz (P:Program) (t:bd) (A:ae):List (Tmp×List CD×Nat)->List (List KV)
 | []=>[]
 | p::ps=>eK P A p.2.1 (Ih t A p)::Kz P t A ps
def Bn (P:Program) (t:bd) (A:ae):List (Tmp×List CD×Nat)->Bool
 | []=>true
 | p::ps=>(rowOf t A p).isSome&&(df p.2.1 (eK P A p.2.1 (Ih t A p))&&Bn P t A ps)
def alz (v:Option KV) (b:Option Nat) (off:Nat):Bool:=
 match v,b with
 | some (.ptr b o),some b'=>Nat.beq o off&&Nat.beq b b'
 | _,_=>false
def adT (v w:Option KV):Bool:=
 match v,w with
 | some (.al T b o n),some (.al T' b' o' n')=>Nat.beq T T'&&Nat.beq b b'&&Nat.beq o o'&&Nat.beq n n'
 | _,_=>false
def FZ (p:Tmp×Nat×Nat):Bool:=Nat.blt p.2.1 1000000
def Qj (t:bd) (bs:List Nat):List (Tmp×Nat×Nat)->Bool
 | []=>true
 | p::ps=>cond (FZ p) (alz (t.get p.1) bs[p.2.1]? p.2.2) (adT (t.get p.1) (t.get (p.2.1 - 1000000)))&&Qj t bs ps
def zn:List Nat->Bool
 | []=>true
 | b::bs=>bs.all (fun c=>!Nat.beq b c)&&zn bs
structure FI where
 ok:Bool
 f:Option Nat
 fm:Bool
def szL (P:Program) (t:TypeId):Nat:=(aQ P t).ks.length
def wA (P:Program) (A:ae) (t:TypeId) (v:KV):FI:=
 match v with
 | .ko=>⟨true,none,true⟩
 | .ts _ (.aO f) n _ _=>match A.get f with
  | some (.aO top sz)=>⟨cond (Nat.beq sz (szL P t)) (ai top n) false,some f,true⟩
  | _=>⟨false,none,true⟩
 | _=>⟨false,none,true⟩
def KB (P:Program) (A:ae) (t:TypeId) (v:KV):FI:=
 match v with
 | .ko=>⟨Nat.ble 1 (szL P t),none,false⟩
 | .al _ b _ n=>match A.get b with
  | some (.arr (.ts _ _ N _ _))=>⟨ai N n,some b,false⟩
  | _=>⟨false,none,false⟩
 | _=>⟨false,none,false⟩
def BP:Option gU->Bool
 | some (.aO _ _)=>true
 | _=>false
theorem acu (P:Program) (A:ae) (t:TypeId) (v:KV):(wA P A t v).fm=true:=by
 unfold wA;split
 ·rfl
 ·split <;> rfl
 ·rfl
theorem aj4 (P:Program) (A:ae) (t:TypeId) (v:KV):(KB P A t v).fm=false:=by
 unfold KB;split
 ·rfl
 ·split <;> rfl
 ·rfl
theorem aj5 {P:Program} {A:ae} {t:TypeId} {v:KV} {x:Nat} (h:(wA P A t v).f=some x):BP (A.get x)=true:=by
 unfold wA at h;split at h
 ·simp at h
 ·split at h
  ·rename_i e; simp at h; subst h; rw [e]; rfl
  ·simp at h
 ·simp at h
def lF (P:Program) (A:ae):List CD->List KV->List FI
 | .aO t::ds,v::vs=>wA P A t v::lF P A ds vs
 | .arr t::ds,v::vs=>KB P A t v::lF P A ds vs
 | _::ds,_::vs=>lF P A ds vs
 | _,_=>[]
def Ei (P:Program) (t:bd) (A:ae):List (Tmp×VD)->List FI
 | []=>[]
 | p::ps=>lF P A p.2.ks (valOf t p.1).cells++Ei P t A ps
def Ii (P:Program) (t:bd) (A:ae):List (Tmp×List CD×Nat)->List FI
 | []=>[]
 | p::ps=>lF P A p.2.1 (Ih t A p)++Ii P t A ps
def V3:List FI->Bool
 | []=>true
 | x::xs=>cond (V3 xs) x.ok false
def MX:List FI->List (Option Nat)
 | []=>[]
 | x::xs=>x.f::MX xs
def jB:List (Option Nat)->List Nat
 | []=>[]
 | some f::xs=>f::jB xs
 | none::xs=>jB xs
def F1 (nr:Nat) (bs:List Nat):List CD->List KV->Bool
 | .ref w::ds,v::vs=>Xs nr w&&(Pb (inst bs w) v&&F1 nr bs ds vs)
 | _::ds,_::vs=>F1 nr bs ds vs
 | _,_=>true
def KC (nr:Nat) (bs:List Nat) (t:bd):List (Tmp×VD)->Bool
 | []=>true
 | p::ps=>F1 nr bs p.2.ks (valOf t p.1).cells&&KC nr bs t ps
def V4 (nr:Nat) (bs:List Nat) (t:bd) (A:ae):List (Tmp×List CD×Nat)->Bool
 | []=>true
 | p::ps=>F1 nr bs p.2.1 (Ih t A p)&&V4 nr bs t A ps
structure GR where
 ok:Bool
 bs:List Nat
 fs:List (Option Nat)
 vs:List KV
 rs:List (List KV)
def aJ.QH (S:aJ) (P:Program) (t:bd) (A:ae):List FI:=Ei P t A S.dC++Ii P t A S.rows
def aJ.dp (S:aJ) (P:Program) (t:bd) (A:ae):GR:=
 ⟨cond (Bn P t A S.rows&&zn (BO t A S.rows)&&Qj t (BO t A S.rows) S.T6&&eL S.dC (n4 P t A S.dC)&&zn (jB (MX (S.QH P t A)))&&KC S.rows.length (BO t A S.rows) t S.dC&&V4 S.rows.length (BO t A S.rows) t A S.rows) (V3 (S.QH P t A)) false,
  BO t A S.rows,MX (S.QH P t A),n4 P t A S.dC,Kz P t A S.rows⟩
def MZ (j:Nat) (v:KV):KV:=
 match v with
 | .ts t _ n es acc=>.ts t (.aO j) n es acc
 | v=>v
def Qk (j:Nat) (v:KV):KV:=
 match v with
 | .ts t _ n _ _=>.al t j 0 n
 | v=>v
def tY:List CD->Nat
 | []=>0
 | .aO _::ds=>Nat.succ (tY ds)
 | .arr _::ds=>Nat.succ (tY ds)
 | _::ds=>tY ds
def sf (j:Nat) (bs:List Nat):List CD->List KV->List KV
 | .aO _::ds,v::vs=>MZ j v::sf (Nat.succ j) bs ds vs
 | .arr _::ds,v::vs=>Qk j v::sf (Nat.succ j) bs ds vs
 | .ref w::ds,_::vs=>inst bs w::sf j bs ds vs
 | _::ds,v::vs=>v::sf j bs ds vs
 | _,_=>[]
def Xt (j:Nat) (bs:List Nat) (d:VD) (v:KV):KV:=
 match v with
 | .agg cs=>.agg (sf j bs d.ks cs)
 | v=>match d.ks with
  | [.aO _]=>MZ j v
  | [.arr _]=>Qk j v
  | [.ref w]=>inst bs w
  | _=>v
def NG (j:Nat) (bs:List Nat):List (Tmp×VD)->List KV->List (Nat×KV)
 | p::ps,v::vs=>(p.1,Xt j bs p.2 v)::NG (j+tY p.2.ks) bs ps vs
 | _,_=>[]
def n5:List (Tmp×VD)->Nat
 | []=>0
 | p::ps=>tY p.2.ks+n5 ps
def Xu (j:Nat) (bs:List Nat):List (Tmp×List CD×Nat)->List (List KV)->List (List KV)
 | p::ps,r::rs=>sf j bs p.2.1 r::Xu (j+tY p.2.1) bs ps rs
 | _,_=>[]
def oO (P:Program):List CD->List KV->List gU
 | .aO t::ds,v::vs=>.aO (lenOf v) (szL P t)::oO P ds vs
 | .arr _::ds,v::vs=>.arr v::oO P ds vs
 | _::ds,_::vs=>oO P ds vs
 | _,_=>[]
def CZ (P:Program):List (Tmp×VD)->List KV->List gU
 | p::ps,v::vs=>oO P p.2.ks v.cells++CZ P ps vs
 | _,_=>[]
def Ej (P:Program):List (Tmp×List CD×Nat)->List (List KV)->List gU
 | p::ps,r::rs=>oO P p.2.1 r++Ej P ps rs
 | _,_=>[]
def aJ.lens (S:aJ) (P:Program) (vs:List KV) (rs:List (List KV)):List gU:=CZ P S.dC vs++Ej P S.rows rs
def zo (bs:List Nat):List (Tmp×Nat×Nat)->List (Nat×KV)
 | []=>[]
 | p::ps=>cond (FZ p) ((p.1,.ptr (bs.getD p.2.1 0) p.2.2)::zo bs ps) (zo bs ps)
def Sv (l:List (Nat×KV)) (i:Nat):KV:=((iH l).get i).getD .bf
def M0 (l:List (Nat×KV)):List (Tmp×Nat×Nat)->List (Nat×KV)
 | []=>[]
 | p::ps=>cond (FZ p) (M0 l ps) ((p.1,Sv l (p.2.1 - 1000000))::M0 l ps)
def aJ.prs (S:aJ) (fb:Nat) (bs:List Nat) (vs:List KV):List (Nat×KV):=NG fb bs S.dC vs++(zo bs S.T6++M0 (NG fb bs S.dC vs) S.T6)
def aJ.tm (S:aJ) (fb:Nat) (bs:List Nat) (vs:List KV):bd:=iH (S.prs fb bs vs)
def aJ.Ij (S:aJ) (fb:Nat) (bs:List Nat) (rs:List (List KV)):List (List KV):=Xu (fb+n5 S.dC) bs S.rows rs
def vx (A:ae):List gU->ae
 | []=>A
 | p::ps=>vx (A.new p) ps
def BQ (A:ae):List (Option Nat)->ae
 | []=>A
 | some f::fs=>BQ (A.put f .dead) fs
 | none::fs=>BQ A fs
def o3 (A:ae):List Nat->List (Tmp×List CD×Nat)->List (List KV)->ae
 | b::bs,p::ps,r::rs=>o3 (A.put b (.row r p.2.2)) bs ps rs
 | _,_,_=>A
def aJ.back (S:aJ) (P:Program) (bs:List Nat) (fs:List (Option Nat)) (vs:List KV) (rs:List (List KV)) (A:ae):ae:=
 vx (BQ (o3 A bs S.rows (S.Ij A.next bs rs)) fs) (S.lens P vs rs)
def tZ (A:ae):List (Tmp×List CD×Nat)->List (List KV)->ae
 | p::ps,r::rs=>tZ (A.new (.row r p.2.2)) ps rs
 | _,_=>A
def aJ.nr (S:aJ):Nat:=S.rows.length
def upto:Nat->List Nat->List Nat
 | 0,l=>l
 | n+1,l=>upto n (n::l)
def aJ.ids (S:aJ):List Nat:=upto S.rows.length []
def aJ.mem (S:aJ) (P:Program) (vs:List KV) (rs:List (List KV)):ae:=vx (tZ .empty S.rows (S.Ij S.nr S.ids rs)) (S.lens P vs rs)
def vy:List Nat->List Nat->Bool
 | [],[]=>true
 | a::aqd,b::bs=>Nat.beq a b&&vy aqd bs
 | _,_=>false
def EU (P:Program) (cfg:dD) (L n:Nat) (f:FuncId) (p:Nat) (body:Code) (S:aJ) (vs:List KV) (rs:List (List KV)):Option (ah×List KV×List (List KV)):=
 oI P cfg (G1 P cfg L n) L f body (2 * p) (fun e t A=>
  Bool.rec (motive:=fun _=>Option (ah×List KV×List (List KV))) none (some (e,(S.dp P t A).vs,(S.dp P t A).rs)) (cond (vy (S.dp P t A).bs S.ids) (S.dp P t A).ok false)) (S.tm S.nr S.ids vs) (S.mem P vs rs)
def mA:ah->Bool
 | .normal=>true
 | _=>false
def vz (rd:List KV->List (List KV)->Option (ah×List KV×List (List KV))):Nat->List KV->List (List KV)->Option (ah×List KV×List (List KV))
 | 0,_,_=>none
 | n+1,vs,rs=>match rd vs rs with
  | some (e,b6,iE)=>cond (mA e) (vz rd n b6 iE) (some (e,b6,iE))
  | none=>none
inductive wB where
 | no
 | out (e:ah) (vs:List KV) (rs:List (List KV))
 | br (c:Bool) (x y:wB)
def wB.ev:wB->Option (ah×List KV×List (List KV))
 | .no=>none
 | .out e vs rs=>some (e,vs,rs)
 | .br c x y=>cond c x.ev y.ev
def wB.tell (P:Program) (S:aJ) (bs:List Nat) (fs:List (Option Nat)) (A:ae):wB->wb
 | .no=>.no
 | .out e vs rs=>.out e (S.tm A.next bs vs) (S.back P bs fs vs rs A)
 | .br c x y=>.br c (x.tell P S bs fs A) (y.tell P S bs fs A)
abbrev LFn:=List KV->List (List KV)->wB
def isExact (v:KV):Bool:=
 match v with
 | .ts _ .exact _ _ _=>true
 | _=>false
def T7:List CD->List KV->Bool
 | .aO _::ds,v::vs=>isExact v||T7 ds vs
 | .arr _::ds,v::vs=>isExact v||T7 ds vs
 | _::ds,_::vs=>T7 ds vs
 | _,_=>false
def aiY (t:bd):List (Tmp×VD)->Bool
 | []=>false
 | p::ps=>T7 p.2.ks (valOf t p.1).cells||aiY t ps
def aiZ (t:bd) (A:ae):List (Tmp×List CD×Nat)->Bool
 | []=>false
 | p::ps=>T7 p.2.1 (Ih t A p)||aiZ t A ps
def aJ.alA (S:aJ) (t:bd) (A:ae):Bool:=aiY t S.dC||aiZ t A S.rows
def T8 (P:Program) (S:aJ) (F:LFn):bd->ae->wb:=fun t A=>
 cond (S.alA t A) .once <| .br (S.dp P t A).ok ((F (S.dp P t A).vs (S.dp P t A).rs).tell P S (S.dp P t A).bs (S.dp P t A).fs A) .no
end
end Go.K
end
section
namespace Go.K
open Go Go.aI
variable {P:Program} {E:Env}
theorem acv {w v:KV} (h:yH w v=true):v=w:=by
 unfold yH at h;split at h <;> simp at h
 ·rename_i f g; rw [h]
 all_goals rfl
theorem ahs {w v:KV} (h:yH w v=true) {E0:Env} {u:Value} (k:VK P E v u):VK P E0 v u:=by
 have:=acv h;subst this;unfold yH at h;split at h <;> try (simp at h)
 ·obtain ⟨l,m,rfl,h1,h2⟩:=k.JD
  rw [h1.bX,h2.bX];exact .aeU .nil .nil
 all_goals exact k
theorem VK.mix {T:TypeId} {m m' : Mk} {n:Nat} {es o9:List KV} {acc aw:Nat->KV} {u:Value} (h:VK P E (.ts T m n es acc) u) (k:VK P E (.ts T m' n o9 aw) u):VK P E (.ts T m n o9 aw) u:=by
 obtain ⟨_,bh,_,a,cap,rfl,h2,_,h4⟩:=h.kY;obtain ⟨ht,api,k1,a',Zc,e,_,k3,_⟩:=k.kY;simp only [Value.slice.injEq] at e;obtain ⟨rfl,_,rfl⟩:=e;simp only [VK];exact ⟨ht,api,k1,a,cap,rfl,h2,k3,h4⟩
theorem VK.swap {E0:Env} (hz:E0.z=E.z) {T:TypeId} {m m' : Mk} {n:Nat} {es:List KV} {acc:Nat->KV} {u:Value} (h:VK P E (.ts T m n es acc) u) (hm:∀ sz a cap,u = .slice a n cap->Qd E sz a n cap m->Qd E0 sz a n cap m'):VK P E0 (.ts T m' n es acc) u:=by
 obtain ⟨ht,bh,h1,a,cap,rfl,h2,h3,h4⟩:=h.kY;simp only [VK];refine ⟨ht,bh,aV.zEs (.of hz) h1 ht.typed,a,cap,rfl,h2,?_,hm _ _ _ rfl h4⟩;refine h3.imp id ?_;rintro ⟨b,off,r,e1,e2,e3⟩;exact ⟨b,off,r,e1,by rw [hz]; exact e2,e3⟩
theorem Sx (t:TypeId) (m:Mk) (n:Nat) (es:List KV) (acc:Nat->KV):∃ o9 aw,ca P dB (.ts t m n es acc) = .ts t .any n o9 aw:=⟨_,_,rfl⟩
theorem aht {c:CK} {v:KV} (h:kindOk c v=true):leaf c v=v:=by
 cases c <;> cases v <;> simp [kindOk] at h
 ·subst h; rfl
 ·rfl
 ·rfl
 ·rename_i t t' m n es acc
  cases m <;> simp at h;subst h; rfl
theorem VK.nCD {A:ae} {d:CD} {v:KV} {u:Value} (h:VK P E v u) (hd:∀ w,d≠.ref w) (ha:∀ t,d≠.arr t):VK P E (eJ P A d v) u:=by
 cases d with
 | ref w=>exact absurd rfl (hd w)
 | arr t=>exact absurd rfl (ha t)
 | k c=>
  show VK P E (cond (kindOk c (K.nK c v)) (K.ca P dB (leaf c (K.nK c v))) .bf) u;cases hb:kindOk c (K.nK c v) with
  | false=>exact .vm
  | true=>
   rw [aj,aht hb];exact VK.ca _ h.nK
 | lit w=>
  show VK P E (cond (yH w v) w .bf) u;cases hb:yH w v with
  | true=>rw [acv hb] at h; exact h
  | false=>exact .vm
 | aO t=>
  unfold eJ;cases v with
  | ko=>have:=h.pb; subst this; exact VK.ca _ .ahc
  | ts t' m n es acc=>
   cases m with
   | aO f=>
    show VK P E (cond (Nat.beq t t') _ .bf) u;cases hb:Nat.beq t t' with
    | false=>exact .vm
    | true=>
     have:=aK hb;subst this;exact VK.ca dB h.ak8
   | _=>exact .vm
  | _=>exact .vm
def Lk (E E0:Env) (f:Option Nat) (j:Nat):Prop:=∀ x g,f=some x->E.φ x=some g->E0.φ j=some g
theorem VK.ai0 {E0:Env} (hz:E0.z=E.z) {A:ae} {t:TypeId} {v:KV} {u:Value} {j:Nat} (h:VK P E v u) (hg:jo (.aO t) (eJ P A (.aO t) v)=true) (hl:Lk E E0 (wA P A t v).f j) (cM:(wA P A t v).ok=true):VK P E0 (MZ j (eJ P A (.aO t) v)) u:=by
 cases v with
 | ko=>
  have:=h.pb; subst this;have h1:VK P E (K.ca P dB (.ts t .any 0 [] qz)) (.slice none 0 0):=VK.ca _ .ahc;obtain ⟨o9,aw,e⟩:=Sx (P:=P) t .any 0 [] qz;show VK P E0 (MZ j (K.ca P dB (.ts t .any 0 [] qz))) _;rw [e] at h1 ⊢;exact h1.swap hz fun sz a cap he _=>by
   simp only [Value.slice.injEq] at he;obtain ⟨rfl,_,rfl⟩:=he;exact ⟨rfl,.inl ⟨rfl,rfl⟩⟩
 | ts t' m n es acc=>
  cases m with
  | aO f=>
   have e1:eJ P A (.aO t) (.ts t' (.aO f) n es acc)=cond (Nat.beq t t') (K.ca P dB (.ts t .any n es acc)) .bf:=rfl;rw [e1] at hg ⊢;cases hb:Nat.beq t t' with
   | false=>rw [hb] at hg; simp [jo,kindOk] at hg
   | true=>
    have:=aK hb;subst this;have h1:=VK.ca (P:=P) dB h.ak8;obtain ⟨o9,aw,e⟩:=Sx (P:=P) t .any n es acc;rw [aj,e];rw [e] at h1;have hf:(wA P A t (.ts t (.aO f) n es acc)).f=some f:=by
     revert cM
     unfold wA;simp only;split
     ·intro _; rfl
     ·intro cM; simp at cM
    exact (h.mix h1).swap hz fun sz a cap he hm=>by
     refine ⟨hm.1,hm.2.imp id ?_⟩;rintro ⟨b,r,g,q1,q2,q3,q4,q5⟩;exact ⟨b,r,g,q1,by rw [hz]; exact q2,q3,hl f g hf q4,q5⟩
  | any=>simp [wA] at cM
  | exact=>simp [wA] at cM
 | _=>simp [wA] at cM
def La (E E0:Env) (f:Option Nat) (j:Nat):Prop:=∀ x p,f=some x->E.α x=some p->E0.α j=some p
theorem ahu:K.ca P dB .bf = .bf:=rfl
theorem V5 {A:ae} {t:TypeId} {v:KV} (hg:jo (.arr t) (eJ P A (.arr t) v)=true):v = .ko\/∃ b n m N es acc,v = .al t b 0 n/\A.get b=some (.arr (.ts t m N es acc))/\eJ P A (.arr t) v=K.ca P dB (.ts t .any N es acc):=by
 have hu:∀ w,w=KV.bf->jo (.arr t) (K.ca P dB w)=false:=fun w e=>by rw [e]; rfl
 have hg:jo (.arr t) (K.ca P dB (Pc A t v))=true:=hg;have e0:eJ P A (.arr t) v=K.ca P dB (Pc A t v):=rfl;rw [e0];cases v with
 | ko=>exact .inl rfl
 | al t' b o n=>
  have e1:Pc A t (.al t' b o n)=(match A.get b with
   | some (.arr (.ts t2 _ N es acc))=>cond (Nat.beq t t'&&Nat.beq t t2&&Nat.beq o 0) (.ts t .any N es acc) .bf
   | _=>.bf):=rfl
  rw [e1] at hg ⊢;split at hg
  ·rename_i t2 m N es acc hb
   cases hc:(Nat.beq t t'&&Nat.beq t t2&&Nat.beq o 0) with
   | false=>rw [hc,aG,hu _ rfl] at hg; simp at hg
   | true=>
    simp only [ao] at hc;have:=aK hc.1.1;subst this;have:=aK hc.1.2;subst this;have:=aK hc.2;subst this;refine .inr ⟨b,n,m,N,es,acc,rfl,hb,?_⟩;rw [aj]
  ·rw [hu _ rfl] at hg; simp at hg
 | _=>exact absurd (hg.symm.trans (hu _ rfl)) (by simp)
theorem VK.alB {E0:Env} {A:ae} {t:TypeId} {v:KV} {u:Value} {j:Nat} (h:VK P E v u) (hg:jo (.arr t) (eJ P A (.arr t) v)=true) (hl:La E E0 (KB P A t v).f j) (cM:(KB P A t v).ok=true):VK P E0 (Qk j (eJ P A (.arr t) v)) u:=by
 rcases V5 hg with rfl | ⟨b,n,m,N,es,acc,rfl,hb,he⟩
 ·have:=h.pb; subst this
  exact .OI (.inl ⟨rfl,rfl,rfl⟩)
 ·obtain ⟨o9,aw,e⟩:=Sx (P:=P) t .any N es acc
  rw [he,e];have hao:KB P A t (.al t b 0 n)=⟨ai N n,some b,false⟩:=by simp only [KB,hb]
  rw [hao] at cM hl;have hN:N=n:=aK cM;subst hN;show VK P E0 (.al t j 0 N) u;rcases h.yh with ⟨q1,_,q2⟩ | ⟨x,L,M,c,q1,q2⟩
  ·exact .OI (.inl ⟨q1,rfl,q2⟩)
  ·exact .OI (.inr ⟨x,L,M,c,hl b _ rfl q1,q2⟩)
theorem VK.gCD {E0:Env} (hz:E0.z=E.z) {d:CD} {v:KV} {u:Value} (h:VK P E v u) (hg:jo d v=true) (hd:∀ w,d≠.ref w):VK P E0 v u:=by
 cases d with
 | ref w=>exact absurd rfl (hd w)
 | arr t=>exact h.zK (c:=.slice t) (.of hz) hg
 | k c=>exact h.zK (.of hz) hg
 | lit w=>exact ahs hg h
 | aO t=>exact h.zK (c:=.slice t) (.of hz) hg
theorem jR {A:ae} : ∀ {ds:List CD} {vs:List KV},vs.length=ds.length->(lF P A ds vs).length=tY ds
 | [],[],_=>rfl
 | [],_::_,e=>by simp at e
 | _::_,[],e=>by simp at e
 | .k c::ds,v::vs,e=>by simp only [lF,tY]; exact jR (by simpa using e)
 | .lit w::ds,v::vs,e=>by simp only [lF,tY]; exact jR (by simpa using e)
 | .aO t::ds,v::vs,e=>by simp only [lF,tY,qI]; rw [jR (by simpa using e)]
 | .arr t::ds,v::vs,e=>by simp only [lF,tY,qI]; rw [jR (by simpa using e)]
 | .ref w::ds,v::vs,e=>by simp only [lF,tY]; exact jR (by simpa using e)
theorem amQ {a b:KV} (h:eqP a b=true):a=b:=by
 unfold eqP at h;split at h
 ·simp only [ao] at h
  rw [aK h.1,aK h.2]
 ·simp at h
theorem aak:∀ {a b:List KV},aaj a b=true->a=b
 | [],[],_=>rfl
 | [],_::_,h=>by simp [aaj] at h
 | _::_,[],h=>by simp [aaj] at h
 | x::a,y::b,h=>by
  simp only [aaj,ao] at h;rw [amQ h.1,aak h.2]
theorem Ql {a b:KV} (h:Pb a b=true):a=b:=by
 unfold Pb at h;split at h
 ·simp only [ao] at h
  rw [aK h.1,aK h.2]
 ·simp only [ao] at h
  rw [aK h.1.1,aak h.1.2,aak h.2]
 ·simp at h
def Rk (E E0:Env) (nr:Nat) (bs Ha:List Nat):Prop:=∀ j x,j < nr->E.κ (bs.getD j 0)=some x->E0.κ (Ha.getD j 0)=some x
theorem VK.V2 {E0:Env} {nr:Nat} {bs Ha:List Nat} (hk:Rk E E0 nr bs Ha) {w:KV} {u:Value} (hw:isP nr w=true) (h:VK P E (K.V2 bs w) u):VK P E0 (K.V2 Ha w) u:=by
 cases w <;> simp [isP] at hw;rename_i j o;obtain ⟨x,h1,rfl⟩:=(show VK P E (.ptr (bs.getD j 0) o) u from h).hO;exact .BH (hk j x hw h1)
theorem aV.Bm {E0:Env} {nr:Nat} {bs Ha:List Nat} (hk:Rk E E0 nr bs Ha):∀ {ws:List KV} {us:List Value},aai nr ws=true->aV P E (K.Bm bs ws) us->aV P E0 (K.Bm Ha ws) us
 | [],us,_,h=>by rw [h.bX]; exact .nil
 | w::ws,us,hw,h=>by
  simp only [aai,ao] at hw;obtain ⟨y,ys,rfl,h1,h2⟩:=aV.cons_inv (show aV P E (K.V2 bs w::K.Bm bs ws) us from h);exact .cons (VK.V2 hk hw.1 h1) (aV.Bm hk hw.2 h2)
theorem VK.inst {E0:Env} {nr:Nat} {bs Ha:List Nat} (hk:Rk E E0 nr bs Ha) {w:KV} {u:Value} (hw:Xs nr w=true) (h:VK P E (K.inst bs w) u):VK P E0 (K.inst Ha w) u:=by
 cases w with
 | ptr j o=>
  obtain ⟨x,h1,rfl⟩:=(show VK P E (.ptr (bs.getD j 0) o) u from h).hO;exact .BH (hk j x (by simpa [Xs] using hw) h1)
 | fn f first cap=>
  cases f with
  | func f=>
   simp only [Xs,ao] at hw;obtain ⟨l,m,rfl,h1,h2⟩:=(show VK P E (.fn (.func f) (K.Bm bs first) (K.Bm bs cap)) u from h).JD;exact .aeU (aV.Bm hk hw.1 h1) (aV.Bm hk hw.2 h2)
  | _=>simp [Xs] at hw
 | _=>simp [Xs] at hw
def o4 (E E0:Env) (l:List FI) (j:Nat):Prop:=∀ (i:Nat) fi,l[i]? = some fi->fi.ok=true/\(fi.fm=true->Lk E E0 fi.f (j+i))/\La E E0 fi.f (j+i)
theorem o4.left {E0:Env} {l m:List FI} {j:Nat} (h:o4 E E0 (l++m) j):o4 E E0 l j:=fun i fi e=>h i fi (by rw [qH (cH.1 e).1]; exact e)
theorem o4.right {E0:Env} {l m:List FI} {j:Nat} (h:o4 E E0 (l++m) j):o4 E E0 m (j+l.length):=fun i fi e=>by
 have:=h (l.length+i) fi (by rw [tH (by omega)]; simpa using e);rw [GM]; exact this
theorem o4.head {E0:Env} {x:FI} {l:List FI} {j:Nat} (h:o4 E E0 (x::l) j):x.ok=true/\(x.fm=true->Lk E E0 x.f j)/\La E E0 x.f j:=h 0 x rfl
theorem o4.tail {E0:Env} {x:FI} {l:List FI} {j:Nat} (h:o4 E E0 (x::l) j):o4 E E0 l (j+1):=fun i fi e=>by
 have:=h (i+1) fi (by simpa using e);rw [show j+1+i=j+(i+1) by omega]; exact this
theorem aV.cellsIn {E0:Env} (hz:E0.z=E.z) {A:ae} {nr:Nat} {bs Ha:List Nat} (hk:Rk E E0 nr bs Ha):∀ {ds:List CD} {vs:List KV} {us:List Value} {j:Nat},aV P E vs us->vs.length=ds.length->df ds (eK P A ds vs)=true->o4 E E0 (lF P A ds vs) j->F1 nr bs ds vs=true->aV P E0 (sf j Ha ds (eK P A ds vs)) us
 | [],[],us,j,h,_,_,_,_=>by rw [h.bX]; exact .nil
 | [],_::_,_,_,_,e,_,_,_=>by simp at e
 | _::_,[],_,_,_,e,_,_,_=>by simp at e
 | d::ds,v::vs,us,j,h,e,hg,hf,hr=>by
  simp only [eK,df,ao] at hg;obtain ⟨y,ys,rfl,h1,h2⟩:=h.cons_inv;have e' : vs.length=ds.length:=by simpa using e
  cases d with
  | k c=>exact .cons ((h1.nCD (by simp) (by simp)).gCD (d:=.k c) hz hg.1 (by simp)) (aV.cellsIn hz hk h2 e' hg.2 hf hr)
  | lit w=>exact .cons ((h1.nCD (by simp) (by simp)).gCD (d:=.lit w) hz hg.1 (by simp)) (aV.cellsIn hz hk h2 e' hg.2 hf hr)
  | aO t=>exact .cons (h1.ai0 hz hg.1 (hf.head.2.1 (acu ..)) hf.head.1) (aV.cellsIn hz hk h2 e' hg.2 hf.tail hr)
  | arr t=>exact .cons (h1.alB hg.1 hf.head.2.2 hf.head.1) (aV.cellsIn hz hk h2 e' hg.2 hf.tail hr)
  | ref w=>
   simp only [F1,ao] at hr;exact .cons (VK.inst hk hr.1 (by rw [Ql hr.2.1]; exact h1)) (aV.cellsIn hz hk h2 e' hg.2 hf hr.2.2)
theorem adU {ds:List CD} {v:KV} (h:df ds [v] = true):∃ d,ds = [d]/\jo d v=true:=by
 cases ds with
 | nil=>simp [df] at h
 | cons d ds=>
  simp only [df,ao] at h;cases ds with
  | nil=>exact ⟨d,rfl,h.1⟩
  | cons e ds=>simp [df] at h
theorem AU {d:VD} {v:KV} (h:zl d v=true):(∃ cs,v = .agg cs/\d.agg=true/\df d.ks cs=true)\/((∀ cs,v≠.agg cs)/\d.agg=false/\∃ c,d.ks = [c]/\jo c v=true):=by
 by_cases ha:∃ cs,v = .agg cs
 ·obtain ⟨cs,rfl⟩:=ha
  simp only [zl,ao] at h;exact .inl ⟨cs,rfl,h.1,h.2⟩
 ·have h:(!d.agg&&df d.ks [v])=true:=by
   cases v <;> first | exact h | exact absurd ⟨_,rfl⟩ ha
  simp only [ao,lU] at h;exact .inr ⟨fun cs e=>ha ⟨cs,e⟩,h.1,adU h.2⟩
theorem AV {A:ae} {d:VD} {v:KV} (h:zl d (yj P A d v)=true):(∃ cs,v = .agg cs/\cs.length=d.ks.length/\yj P A d v = .agg (eK P A d.ks cs)/\df d.ks (eK P A d.ks cs)=true)\/
  ((∀ cs,v≠.agg cs)/\∃ c,d.ks = [c]/\yj P A d v=eJ P A c v/\jo c (eJ P A c v)=true/\v.cells = [v]/\(∀ cs,eJ P A c v≠.agg cs)):=by
 have alC:zl d .bf=false:=by
  cases hb:zl d .bf with
  | false=>rfl
  | true=>
   rcases AU hb with ⟨cs,e,_⟩ | ⟨_,_,c,_,hc⟩
   ·simp at e
   ·cases c with
    | k c=>cases c <;> simp [jo,kindOk] at hc
    | lit w=>cases w <;> first | (simp [jo,yH] at hc; done) | (rename_i f a b; cases f <;> cases a <;> cases b <;> simp [jo,yH] at hc)
    | aO t=>simp [jo,kindOk] at hc
    | arr t=>simp [jo,kindOk] at hc
    | ref w=>
     have hc:Pb w .bf=true:=hc;have:=Ql hc;subst this;simp [Pb] at hc
 by_cases ha:∃ cs,v = .agg cs
 ·obtain ⟨cs,rfl⟩:=ha
  have e:yj P A d (.agg cs)=cond (d.agg&&Nat.beq cs.length d.ks.length) (.agg (eK P A d.ks cs)) .bf:=rfl;cases hb:(d.agg&&Nat.beq cs.length d.ks.length) with
  | false=>rw [e,hb,aG,alC] at h; simp at h
  | true=>
   rw [e,hb,aj] at h;simp only [ao] at hb;simp only [zl,ao] at h;exact .inl ⟨cs,rfl,aK hb.2,by rw [e]; simp only [hb.1,hb.2,cC,aj],h.2⟩
 ·have e:yj P A d v=cond d.agg .bf (match d.ks with | [c]=>eJ P A c v | _=>.bf):=by
   cases v <;> first | rfl | exact absurd ⟨_,rfl⟩ ha
  have wm:v.cells = [v]:=by cases v <;> first | rfl | exact absurd ⟨_,rfl⟩ ha
  cases BI:d.agg with
  | true=>rw [e,BI,aj,alC] at h; simp at h
  | false=>
   rw [BI,aG] at e;rw [e] at h;split at h
   ·rename_i c hc
    rw [hc] at e;simp only at e;rcases AU h with ⟨cs,e2,h2,_⟩ | ⟨h1,_,c',h2,h3⟩
    ·rw [BI] at h2; simp at h2
    ·rw [hc] at h2
     simp only [List.cons.injEq,and_true] at h2;subst h2;exact .inr ⟨fun cs ec=>ha ⟨cs,ec⟩,c,hc,e,h3,wm,h1⟩
   ·rw [alC] at h; simp at h
theorem Fl {A:ae} {d:VD} {v:KV} (h:zl d (yj P A d v)=true):v.cells.length=d.ks.length:=by
 rcases AV h with ⟨cs,rfl,h1,_⟩ | ⟨_,c,h1,_,_,h2,_⟩
 ·exact h1
 ·rw [h1,h2]; rfl
theorem VK.anH {E0:Env} (hz:E0.z=E.z) {A:ae} {nr:Nat} {bs Ha:List Nat} (hk:Rk E E0 nr bs Ha) {d:VD} {v:KV} {u:Value} {j:Nat} (h:VK P E v u) (hg:zl d (yj P A d v)=true) (hf:o4 E E0 (lF P A d.ks v.cells) j) (hr:F1 nr bs d.ks v.cells=true):VK P E0 (Xt j Ha d (yj P A d v)) u:=by
 rcases AV hg with ⟨cs,rfl,h1,h2,h3⟩ | ⟨h0,c,h1,h2,h3,h4,h5⟩
 ·rw [h2]
  obtain ⟨l,rfl,k⟩:=h.kK;exact .rC (aV.cellsIn hz hk k h1 h3 hf hr)
 ·rw [h2]
  have e:Xt j Ha d (eJ P A c v)=(match d.ks with | [.aO _]=>MZ j (eJ P A c v) | [.arr _]=>Qk j (eJ P A c v) | [.ref w]=>K.inst Ha w | _=>eJ P A c v):=by
   generalize eJ P A c v=w at h5;cases w <;> first | rfl | exact absurd rfl (h5 _)
  rw [e,h1];rw [h1,h4] at hf hr;cases c with
  | k c=>exact (h.nCD (by simp) (by simp)).gCD (d:=.k c) hz h3 (by simp)
  | lit w=>exact (h.nCD (by simp) (by simp)).gCD (d:=.lit w) hz h3 (by simp)
  | aO t=>exact h.ai0 hz h3 (hf.head.2.1 (acu ..)) hf.head.1
  | arr t=>exact h.alB h3 hf.head.2.2 hf.head.1
  | ref w=>
   simp only [F1,ao] at hr;exact VK.inst hk hr.1 (by rw [Ql hr.2.1]; exact h)
theorem VK.VM {A:ae} {nr:Nat} {bs:List Nat} {d:VD} {t:bd} {i:Tmp} (h:zl d (yj P A d (valOf t i))=true) (hr:F1 nr bs d.ks (valOf t i).cells=true):∃ v,t.get i=some v:=by
 cases hg:t.get i with
 | some v=>exact ⟨v,rfl⟩
 | none=>
  exfalso;have e:valOf t i = .bf:=by simp [valOf,hg]
  rw [e] at h hr;rcases AV h with ⟨cs,e2,_⟩ | ⟨_,c,qx,_,h3,_,_⟩
  ·simp at e2
  ·cases c with
   | ref w=>
    rw [qx] at hr;have hr:(Xs nr w&&(Pb (K.inst bs w) .bf&&true))=true:=hr;simp only [ao] at hr;have h1:=hr.2.1;have:=Ql h1;rw [this] at h1;simp [Pb] at h1
   | k c=>
    have h4:kindOk c (K.nK c .bf)=false:=by cases c <;> rfl
    have h5:eJ P A (.k c) .bf = .bf:=by
     show cond (kindOk c (K.nK c .bf)) (K.ca P dB (leaf c (K.nK c .bf))) KV.bf=KV.bf;rw [h4]; rfl
    rw [h5] at h3;cases c <;> simp [jo,kindOk] at h3
   | lit w=>cases w <;> first | (simp [eJ,jo,yH] at h3; done) | (rename_i f a b; cases f <;> cases a <;> cases b <;> simp [eJ,jo,yH] at h3)
   | aO t=>simp [eJ,jo,kindOk] at h3
   | arr t=>exact absurd h3 (by simp [eJ,Pc,ahu,jo,kindOk])
end Go.K
end
section
namespace Go.K
open Go Go.aI
variable {P:Program} {E:Env}
theorem aal:∀ {bs:List Nat},zn bs=true->∀ (i j b:Nat),bs[i]? = some b->bs[j]? = some b->i=j
 | [],_,i,j,b,hi,_=>by simp at hi
 | a::bs,h,i,j,b,hi,hj=>by
  simp only [zn,ao,fe,lU] at h;cases i with
  | zero=>
   cases j with
   | zero=>rfl
   | succ j=>
    simp at hi hj; subst hi;have:=h.1 a (gi hj);exact absurd (tI a) (by rw [this]; simp)
  | succ i=>
   cases j with
   | zero=>
    simp at hi hj; subst hj;have:=h.1 a (gi hi);exact absurd (tI a) (by rw [this]; simp)
   | succ j=>
    simp at hi hj;rw [aal h.2 i j b hi hj]
theorem yI:∀ {l:List (Option Nat)} {f:Nat},f∈jB l↔some f∈l
 | [],f=>by simp [jB]
 | some g::l,f=>by simp [jB,yI (l:=l)]
 | none::l,f=>by simp [jB,yI (l:=l)]
theorem zp:∀ {l:List (Option Nat)},zn (jB l)=true->∀ (i j f:Nat),l[i]? = some (some f)->l[j]? = some (some f)->i=j
 | [],_,i,j,b,hi,_=>by simp at hi
 | none::l,h,i,j,f,hi,hj=>by
  cases i with
  | zero=>simp at hi
  | succ i=>
   cases j with
   | zero=>simp at hj
   | succ j=>
    simp at hi hj;rw [zp (l:=l) h i j f hi hj]
 | some g::l,h,i,j,f,hi,hj=>by
  simp only [jB,zn,ao,fe,lU] at h;have key:∀ {k:Nat},l[k]? = some (some g)->False:=by
   intro k hk;have:=h.1 g (yI.2 (gi hk));exact absurd (tI g) (by rw [this]; simp)
  cases i with
  | zero=>
   cases j with
   | zero=>rfl
   | succ j=>
    simp at hi hj; subst hi;exact (key hj).elim
  | succ i=>
   cases j with
   | zero=>
    simp at hi hj; subst hj;exact (key hi).elim
   | succ j=>
    simp at hi hj;rw [zp (l:=l) h.2 i j f hi hj]
theorem M1:∀ {l:List FI} {i:Nat} {x:FI},l[i]? = some x->(MX l)[i]? = some x.f
 | [],_,_,h=>by simp at h
 | y::l,0,x,h=>by simp at h; subst h; rfl
 | y::l,i+1,x,h=>by simp at h; simpa [MX] using M1 h
theorem uA:∀ {l:List FI},(MX l).length=l.length
 | []=>rfl
 | y::l=>by simp [MX,uA]
theorem Sy:∀ {l:List FI},V3 l=true->∀ x∈l,x.ok=true
 | [],_,x,h=>by simp at h
 | y::l,h,x,hx=>by
  simp only [V3] at h;cases hl:V3 l with
  | false=>rw [hl] at h; simp at h
  | true=>
   rw [hl,aj] at h;rcases de.1 hx with rfl | hx
   ·exact h
   ·exact Sy hl x hx
theorem fJ:∀ (l:List gU) (A:ae),(vx A l).next=A.next+l.length
 | [],_=>rfl
 | p::l,A=>by rw [vx,fJ l]; simp; omega
theorem C0:∀ {l:List gU} {A:ae} {x:Nat},x < A.next->(vx A l).get x=A.get x
 | [],_,_,_=>rfl
 | p::l,A,x,h=>by rw [vx,C0 (by simp; omega),ae.cq,aa (by omega)]
theorem Pd:∀ {l:List gU} {A:ae} {i:Nat} {p:gU},l[i]? = some p->(vx A l).get (A.next+i)=some p
 | [],_,_,_,h=>by simp at h
 | q::l,A,0,p,h=>by
  simp at h; subst h;rw [vx,ye,C0 (by simp),ae.cq,aE rfl]
 | q::l,A,i+1,p,h=>by
  simp at h;have:=Pd (A:=A.new q) h;rw [ae.bR] at this;rw [vx,show A.next+(i+1)=A.next+1+i by omega];exact this
theorem T9:∀ {l:List gU} {A:ae} {x:Nat} {o:gU},(vx A l).get x=some o->(A.get x=some o/\x < A.next+l.length)\/(x < A.next/\A.get x=some o)\/(∃ i p,x=A.next+i/\l[i]? = some p/\o=p)\/A.get x=some o
 | [],_,_,_,h=>.inr (.inr (.inr h))
 | p::l,A,x,o,h=>by
  rw [vx] at h;have key:(A.new p).get x=some o->(∃ i q,x=A.next+i/\(p::l)[i]? = some q/\o=q)\/A.get x=some o:=by
   intro h;rw [ae.cq] at h;split at h
   ·rename_i e; simp at h; exact .inl ⟨0,p,by omega,rfl,h.symm⟩
   ·exact .inr h
  rcases T9 h with ⟨h,_⟩ | ⟨_,h⟩ | ⟨i,q,e,h1,h2⟩ | h
  ·exact .inr (.inr (key h))
  ·exact .inr (.inr (key h))
  ·exact .inr (.inr (.inl ⟨i+1,q,by rw [e]; simp; omega,by simpa using h1,h2⟩))
  ·exact .inr (.inr (key h))
theorem Ua {l:List gU} {A:ae} {x:Nat} {o:gU} (h:(vx A l).get x=some o):A.get x=some o\/∃ i p,x=A.next+i/\l[i]? = some p/\o=p:=by
 rcases T9 h with ⟨h,_⟩ | ⟨_,h⟩ | h | h
 ·exact .inl h
 ·exact .inl h
 ·exact .inr h
 ·exact .inl h
theorem JK:∀ (l:List (Option Nat)) (A:ae),(BQ A l).next=A.next
 | [],_=>rfl
 | some f::l,A=>by rw [BQ,JK l]; rfl
 | none::l,A=>by rw [BQ,JK l]
theorem Ek:∀ {l:List (Option Nat)} {A:ae} {x:Nat},(BQ A l).get x=if x∈jB l then some .dead else A.get x
 | [],A,x=>by simp [BQ,jB]
 | none::l,A,x=>by rw [BQ,Ek,jB]
 | some f::l,A,x=>by
  rw [BQ,Ek,jB,ae.bB];by_cases h1:x∈jB l
  ·rw [aE h1,aE (rR _ h1)]
  ·rw [aa h1]
   by_cases h2:x=f
   ·rw [aE h2,aE (by simp [h2])]
   ·rw [aa h2,aa (by simp [h1,h2])]
theorem Sz:∀ (bs:List Nat) (ps:List (Tmp×List CD×Nat)) (rs:List (List KV)) (A:ae),(o3 A bs ps rs).next=A.next
 | [],_,_,_=>rfl
 | _::_,[],_,_=>rfl
 | _::_,_::_,[],_=>rfl
 | b::bs,p::ps,r::rs,A=>by rw [o3,Sz bs ps rs]; rfl
theorem JL:∀ {bs:List Nat} {ps:List (Tmp×List CD×Nat)} {rs:List (List KV)} {A:ae} {x:Nat},x ∉ bs->(o3 A bs ps rs).get x=A.get x
 | [],_,_,_,_,_=>rfl
 | _::_,[],_,_,_,_=>rfl
 | _::_,_::_,[],_,_,_=>rfl
 | b::bs,p::ps,r::rs,A,x,h=>by
  simp only [de,not_or] at h;rw [o3,JL h.2,ae.bB,aa h.1]
theorem afx:∀ {bs:List Nat} {ps:List (Tmp×List CD×Nat)} {rs:List (List KV)} {A:ae} {k b:Nat} {p:Tmp×List CD×Nat} {r:List KV},zn bs=true->bs[k]? = some b->ps[k]? = some p->rs[k]? = some r->(o3 A bs ps rs).get b=some (.row r p.2.2)
 | [],_,_,_,_,_,_,_,_,h,_,_=>by simp at h
 | _::_,[],_,_,_,_,_,_,_,_,h,_=>by simp at h
 | _::_,_::_,[],_,_,_,_,_,_,_,_,h=>by simp at h
 | b::bs,p::ps,r::rs,A,k,x,p',r',hn,hb,hp,hr=>by
  have Mq:=hn;simp only [zn,ao] at hn;cases k with
  | zero=>
   simp at hb hp hr;subst hb hp hr;rw [o3,JL,ae.bB,aE rfl];intro hm;have:=fe.1 hn.1 b hm;simp at this
  | succ k=>
   simp only [L9] at hb hp hr;rw [o3];exact afx hn.2 hb hp hr
theorem acw:∀ {ps:List (Tmp×List CD×Nat)} {rs:List (List KV)} {A:ae},rs.length=ps.length->(tZ A ps rs).next=A.next+ps.length
 | [],[],_,_=>rfl
 | [],_::_,_,h=>by simp at h
 | _::_,[],_,h=>by simp at h
 | p::ps,r::rs,A,h=>by rw [tZ,acw (by simpa using h)]; simp; omega
theorem afy:∀ {ps:List (Tmp×List CD×Nat)} {rs:List (List KV)} {A:ae} {x:Nat},x < A.next->(tZ A ps rs).get x=A.get x
 | [],_,_,_,_=>rfl
 | _::_,[],_,_,_=>rfl
 | p::ps,r::rs,A,x,h=>by rw [tZ,afy (by simp; omega),ae.cq,aa (by omega)]
theorem ai1:∀ {ps:List (Tmp×List CD×Nat)} {rs:List (List KV)} {A:ae} {k:Nat} {p:Tmp×List CD×Nat} {r:List KV},ps[k]? = some p->rs[k]? = some r->(tZ A ps rs).get (A.next+k)=some (.row r p.2.2)
 | [],_,_,_,_,_,h,_=>by simp at h
 | _::_,[],_,_,_,_,_,h=>by simp at h
 | p::ps,r::rs,A,k,p',r',hp,hr=>by
  cases k with
  | zero=>
   simp at hp hr; subst hp hr;rw [tZ,ye,afy (by simp),ae.cq,aE rfl]
  | succ k=>
   simp only [L9] at hp hr;have:=ai1 (A:=A.new (.row r p.2.2)) hp hr;rw [tZ];simpa [Nat.add_comm,Nat.add_left_comm] using this
theorem afz:∀ {ps:List (Tmp×List CD×Nat)} {rs:List (List KV)} {A:ae} {x:Nat} {o:gU},(tZ A ps rs).get x=some o->A.get x=some o\/∃ k p r,x=A.next+k/\ps[k]? = some p/\rs[k]? = some r/\o = .row r p.2.2
 | [],_,_,_,_,h=>.inl h
 | _::_,[],_,_,_,h=>.inl h
 | p::ps,r::rs,A,x,o,h=>by
  rw [tZ] at h;rcases afz h with h | ⟨k,p',r',rfl,h1,h2,h3⟩
  ·rw [ae.cq] at h
   by_cases e:x=A.next
   ·rw [aE e] at h; simp at h
    exact .inr ⟨0,p,r,by omega,rfl,rfl,h.symm⟩
   ·rw [aa e] at h; exact .inl h
  ·exact .inr ⟨k+1,p',r',by simp; omega,by simpa using h1,by simpa using h2,h3⟩
theorem acx:∀ (n:Nat) (l:List Nat) (k:Nat),(upto n l)[k]? = if k < n then some k else l[k - n]?
 | 0,l,k=>by simp [upto]
 | n+1,l,k=>by
  rw [upto,acx n];by_cases h:k < n
  ·rw [aE h,aE (by omega)]
  ·rw [aa h]
   by_cases h2:k=n
   ·subst h2
    rw [aE (by omega)];simp
   ·rw [aa (by omega),show k - n=(k - (n+1))+1 by omega]
    simp
theorem Ik (S:aJ) (k:Nat) (h:k < S.rows.length):S.ids[k]? = some k:=by rw [aJ.ids,acx,aE h]
theorem JM:∀ {a b:List Nat},vy a b=true->a=b
 | [],[],_=>rfl
 | [],_::_,h=>by simp [vy] at h
 | _::_,[],h=>by simp [vy] at h
 | x::a,y::b,h=>by
  simp only [vy,ao] at h;rw [aK h.1,JM h.2]
theorem JN {t:bd} {A:ae} {p:Tmp×List CD×Nat} (h:(rowOf t A p).isSome=true):∃ b cs,A.get b=some (.row cs p.2.2)/\cs.length=p.2.1.length/\aiX t A p=b/\Ih t A p=cs:=by
 unfold rowOf at h;split at h
 ·rename_i b hb
  split at h
  ·rename_i cs e hr
   cases hc:(Nat.beq e p.2.2&&Nat.beq cs.length p.2.1.length) with
   | false=>rw [hc] at h; simp at h
   | true=>
    have hro:rowOf t A p=some (b,cs):=by simp only [rowOf,hb,hr,hc,aj]
    simp only [ao] at hc;have he:=aK hc.1;subst he;exact ⟨b,cs,hr,aK hc.2,by simp [aiX,hro],by simp [Ih,hro]⟩
  ·simp at h
 ·simp at h
structure dq (P:Program) (S:aJ) (t:bd) (A:ae) (g:GR):Prop where
 rows:Bn P t A S.rows=true
 nodup:zn g.bs=true
 T6:Qj t g.bs S.T6=true
 dC:eL S.dC g.vs=true
 YF:zn (jB g.fs)=true
 alD:KC S.rows.length g.bs t S.dC=true
 anI:V4 S.rows.length g.bs t A S.rows=true
 wW:V3 (S.QH P t A)=true
 bs:g.bs=BO t A S.rows
 fs:g.fs=MX (S.QH P t A)
 vs:g.vs=n4 P t A S.dC
 rs:g.rs=Kz P t A S.rows
theorem Fm {S:aJ} {t:bd} {A:ae} (h:(S.dp P t A).ok=true):dq P S t A (S.dp P t A):=by
 unfold aJ.dp at h ⊢;simp only at h ⊢;cases hc:(Bn P t A S.rows&&zn (BO t A S.rows)&&Qj t (BO t A S.rows) S.T6&&eL S.dC (n4 P t A S.dC)&&zn (jB (MX (S.QH P t A)))&&KC S.rows.length (BO t A S.rows) t S.dC&&V4 S.rows.length (BO t A S.rows) t A S.rows) with
 | false=>rw [hc] at h; simp at h
 | true=>
  rw [hc,aj] at h;simp only [ao] at hc;exact ⟨hc.1.1.1.1.1.1,hc.1.1.1.1.1.2,hc.1.1.1.1.2,hc.1.1.1.2,hc.1.1.2,hc.1.2,hc.2,h,rfl,rfl,rfl,rfl⟩
theorem aam {t:bd} {A:ae} : ∀ {ps:List (Tmp×List CD×Nat)} {k:Nat} {p:Tmp×List CD×Nat},ps[k]? = some p->(BO t A ps)[k]? = some (aiX t A p)
 | [],_,_,h=>by simp at h
 | p::ps,0,q,h=>by simp at h; subst h; rfl
 | p::ps,k+1,q,h=>by simp at h; simpa [BO] using aam h
theorem EV {t:bd} {A:ae} : ∀ {ps:List (Tmp×List CD×Nat)},(BO t A ps).length=ps.length
 | []=>rfl
 | p::ps=>by simp [BO,EV]
theorem Rm {t:bd} {A:ae} : ∀ {ps:List (Tmp×List CD×Nat)},(Kz P t A ps).length=ps.length
 | []=>rfl
 | p::ps=>by simp [Kz,Rm]
theorem Xv {t:bd} {A:ae} : ∀ {ps:List (Tmp×List CD×Nat)},Bn P t A ps=true->∀ {k:Nat} {p:Tmp×List CD×Nat},ps[k]? = some p->(rowOf t A p).isSome=true/\df p.2.1 (eK P A p.2.1 (Ih t A p))=true
 | [],_,k,p,h=>by simp at h
 | q::ps,h,k,p,hp=>by
  simp only [Bn,ao] at h;cases k with
  | zero=>simp at hp; subst hp; exact ⟨h.1,h.2.1⟩
  | succ k=>simp at hp; exact Xv h.2.2 hp
theorem Ub:∀ {ps:List (Tmp×List CD×Nat)} {rs:List (List KV)},rs.length=ps.length->∀ (j:Nat) (bs:List Nat),(Xu j bs ps rs).length=ps.length
 | [],[],_,_,_=>rfl
 | [],_::_,h,_,_=>by simp at h
 | _::_,[],h,_,_=>by simp at h
 | p::ps,r::rs,h,j,bs=>by simp [Xu,Ub (by simpa using h)]
def Ck (j:Nat):List (Tmp×List CD×Nat)->Nat->Nat
 | [],_=>j
 | _::_,0=>j
 | p::ps,k+1=>Ck (j+tY p.2.1) ps k
theorem Qm {bs:List Nat} : ∀ {ps:List (Tmp×List CD×Nat)} {rs:List (List KV)} {j k:Nat} {p:Tmp×List CD×Nat} {r:List KV},ps[k]? = some p->rs[k]? = some r->(Xu j bs ps rs)[k]? = some (sf (Ck j ps k) bs p.2.1 r)
 | [],_,_,_,_,_,h,_=>by simp at h
 | _::_,[],_,_,_,_,_,h=>by simp at h
 | p::ps,r::rs,j,0,p',r',h1,h2=>by simp at h1 h2; subst h1 h2; rfl
 | p::ps,r::rs,j,k+1,p',r',h1,h2=>by
  simp at h1 h2;simp only [Xu,L9];exact Qm h1 h2
theorem aan {E0:Env} {t:bd} {A:ae} : ∀ {ps:List (Tmp×List CD×Nat)} {j:Nat},Bn P t A ps=true->o4 E E0 (Ii P t A ps) j->∀ {k:Nat} {p:Tmp×List CD×Nat},ps[k]? = some p->o4 E E0 (lF P A p.2.1 (Ih t A p)) (Ck j ps k)
 | [],_,_,_,_,_,h=>by simp at h
 | q::ps,j,hr,hf,k,p,hp=>by
  simp only [Bn,ao] at hr;obtain ⟨b,cs,_,hl,_,hC⟩:=JN hr.1;cases k with
  | zero=>simp at hp; subst hp; exact hf.left
  | succ k=>
   simp at hp;have:=hf.right;rw [jR (by rw [hC]; exact hl)] at this;exact aan hr.2.2 this hp
theorem EW {t:bd} {A:ae} : ∀ {ps:List (Tmp×VD)},eL ps (n4 P t A ps)=true->(Ei P t A ps).length=n5 ps
 | [],_=>rfl
 | p::ps,h=>by
  simp only [n4,eL,ao] at h;simp only [Ei,n5,kx];rw [jR (Fl h.1),EW h.2]
def LC (P:Program) (A:ae) (x:FI) (q:gU):Prop:=
 (∃ n sz,q = .aO n sz/\((x.f=none/\n=0)\/∃ f,x.f=some f/\A.get f=some (.aO n sz)))\/
 ∃ t v,q = .arr v/\((x.f=none/\1<=aU P t/\v=K.ca P dB (.ts t .any 0 [] qz))\/∃ f m N es acc,x.f=some f/\A.get f=some (.arr (.ts t m N es acc))/\v=K.ca P dB (.ts t .any N es acc))
theorem alE {A:ae} {t:TypeId} {v:KV} (cM:(KB P A t v).ok=true) (hg:jo (.arr t) (eJ P A (.arr t) v)=true):LC P A (KB P A t v) (.arr (eJ P A (.arr t) v)):=by
 rcases V5 hg with rfl | ⟨b,n,m,N,es,acc,rfl,hb,he⟩
 ·exact .inr ⟨t,_,rfl,.inl ⟨rfl,dT cM,rfl⟩⟩
 ·refine .inr ⟨t,_,rfl,.inr ⟨b,m,N,es,acc,?_,hb,he⟩⟩
  simp only [KB,hb]
theorem alF {A:ae} {t:TypeId} {v:KV} (cM:(wA P A t v).ok=true) (hg:jo (.aO t) (eJ P A (.aO t) v)=true):LC P A (wA P A t v) (.aO (lenOf (eJ P A (.aO t) v)) (szL P t)):=by
 refine .inl ⟨_,_,rfl,?_⟩;cases v with
 | ko=>exact .inl ⟨rfl,rfl⟩
 | ts t' m n es acc=>
  cases m with
  | aO f=>
   have e1:eJ P A (.aO t) (.ts t' (.aO f) n es acc)=cond (Nat.beq t t') (K.ca P dB (.ts t .any n es acc)) .bf:=rfl;rw [e1] at hg ⊢;cases hb:Nat.beq t t' with
   | false=>rw [hb] at hg; simp [jo,kindOk] at hg
   | true=>
    rw [aj];refine .inr ⟨f,?_,?_⟩
    ·revert cM
     unfold wA;simp only;split
     ·intro _; rfl
     ·intro cM; simp at cM
    ·revert cM
     unfold wA;simp only;split
     ·rename_i top sz he
      intro cM;simp only at cM;cases hs:Nat.beq sz (szL P t) with
      | false=>rw [hs] at cM; simp at cM
      | true=>
       rw [hs,aj] at cM;have h1:=aK hs;have h2:=aK (show Nat.beq top n=true from cM);subst h1 h2;exact he
     ·intro cM; simp at cM
  | any=>simp [wA] at cM
  | exact=>simp [wA] at cM
 | _=>simp [wA] at cM
theorem yJ {A:ae} : ∀ {ds:List CD} {vs:List KV} {i:Nat} {x:FI},vs.length=ds.length->df ds (eK P A ds vs)=true->(lF P A ds vs)[i]? = some x->x.ok=true->∃ q,(oO P ds (eK P A ds vs))[i]? = some q/\LC P A x q
 | [],[],_,_,_,_,h,_=>by simp [lF] at h
 | [],_::_,_,_,e,_,_,_=>by simp at e
 | _::_,[],_,_,e,_,_,_=>by simp at e
 | .k c::ds,v::vs,i,x,e,hg,h,cM=>by
  simp only [eK,df,ao] at hg;have h' : (lF P A ds vs)[i]? = some x:=h;exact yJ (ds:=ds) (vs:=vs) (by simpa using e) hg.2 h' cM
 | .lit c::ds,v::vs,i,x,e,hg,h,cM=>by
  simp only [eK,df,ao] at hg;have h' : (lF P A ds vs)[i]? = some x:=h;exact yJ (ds:=ds) (vs:=vs) (by simpa using e) hg.2 h' cM
 | .ref c::ds,v::vs,i,x,e,hg,h,cM=>by
  simp only [eK,df,ao] at hg;have h' : (lF P A ds vs)[i]? = some x:=h;exact yJ (ds:=ds) (vs:=vs) (by simpa using e) hg.2 h' cM
 | .aO t::ds,v::vs,i,x,e,hg,h,cM=>by
  simp only [eK,df,ao] at hg;cases i with
  | zero=>
   simp [lF] at h;subst h;exact ⟨_,rfl,alF cM hg.1⟩
  | succ i=>
   simp [lF] at h;obtain ⟨q,h1,h2⟩:=yJ (by simpa using e) hg.2 h cM;exact ⟨q,by simpa [oO,eK] using h1,h2⟩
 | .arr t::ds,v::vs,i,x,e,hg,h,cM=>by
  simp only [eK,df,ao] at hg;cases i with
  | zero=>
   simp [lF] at h;subst h;exact ⟨_,rfl,alE cM hg.1⟩
  | succ i=>
   simp [lF] at h;obtain ⟨q,h1,h2⟩:=yJ (by simpa using e) hg.2 h cM;exact ⟨q,by simpa [oO,eK] using h1,h2⟩
theorem ox:∀ {ds:List CD} {vs:List KV},vs.length=ds.length->(oO P ds vs).length=tY ds
 | [],[],_=>rfl
 | [],_::_,e=>by simp at e
 | _::_,[],e=>by simp at e
 | .k c::ds,v::vs,e=>by simp only [oO,tY]; exact ox (by simpa using e)
 | .lit w::ds,v::vs,e=>by simp only [oO,tY]; exact ox (by simpa using e)
 | .ref w::ds,v::vs,e=>by simp only [oO,tY]; exact ox (by simpa using e)
 | .aO t::ds,v::vs,e=>by simp only [oO,tY,qI]; rw [ox (by simpa using e)]
 | .arr t::ds,v::vs,e=>by simp only [oO,tY,qI]; rw [ox (by simpa using e)]
theorem C1:∀ {ds:List CD} {vs:List KV},df ds vs=true->vs.length=ds.length
 | [],[],_=>rfl
 | [],_::_,h=>by simp [df] at h
 | _::_,[],h=>by simp [df] at h
 | d::ds,v::vs,h=>by
  simp only [df,ao] at h;simp [C1 h.2]
theorem Pe {d:VD} {v:KV} (h:zl d v=true):v.cells.length=d.ks.length:=by
 rcases AU h with ⟨cs,rfl,_,h1⟩ | ⟨h0,_,c,h1,_⟩
 ·exact C1 h1
 ·have:v.cells = [v]:=by cases v <;> first | rfl | exact absurd rfl (h0 _)
  rw [this,h1]; rfl
theorem EX:∀ {ps:List (Tmp×VD)} {vs:List KV},eL ps vs=true->(CZ P ps vs).length=n5 ps
 | [],[],_=>rfl
 | [],_::_,h=>by simp [eL] at h
 | _::_,[],h=>by simp [eL] at h
 | p::ps,v::vs,h=>by
  simp only [eL,ao] at h;simp only [CZ,n5,kx];rw [ox (Pe h.1),EX h.2]
theorem Xw {t:bd} {A:ae} : ∀ {ps:List (Tmp×VD)} {i:Nat} {x:FI},eL ps (n4 P t A ps)=true->(Ei P t A ps)[i]? = some x->x.ok=true->∃ p,(CZ P ps (n4 P t A ps))[i]? = some p/\LC P A x p
 | [],_,_,_,h,_=>by simp [Ei] at h
 | p::ps,i,x,hg,h,cM=>by
  simp only [n4,eL,ao] at hg;simp only [Ei] at h;have hl:=Fl hg.1;by_cases hi:i < (lF P A p.2.ks (valOf t p.1).cells).length
  ·rw [qH hi] at h
   have hg' : df p.2.ks (eK P A p.2.ks (valOf t p.1).cells)=true/\(yj P A p.2 (valOf t p.1)).cells=eK P A p.2.ks (valOf t p.1).cells:=by
    rcases AV hg.1 with ⟨cs,e,_,h2,h3⟩ | ⟨_,c,h1,h2,h3,h4,h5⟩
    ·rw [e] at h2 ⊢; exact ⟨h3,by rw [h2]; rfl⟩
    ·rw [h4,h1]
     refine ⟨by simp [eK,df,h3],?_⟩;rw [h2];show (eJ P A c (valOf t p.1)).cells = [eJ P A c (valOf t p.1)];generalize eJ P A c (valOf t p.1)=w at h5 ⊢;cases w <;> first | rfl | exact absurd rfl (h5 _)
   obtain ⟨q,h2,h3⟩:=yJ hl hg'.1 h cM;refine ⟨q,?_,h3⟩;simp only [n4,CZ];rw [hg'.2,qH (cH.1 h2).1];exact h2
  ·rw [tH (by omega)] at h
   obtain ⟨q,h1,h2⟩:=Xw hg.2 h cM;refine ⟨q,?_,h2⟩;simp only [n4,CZ];have e1:(oO P p.2.ks (yj P A p.2 (valOf t p.1)).cells).length=(lF P A p.2.ks (valOf t p.1).cells).length:=by rw [ox (Pe hg.1),jR hl]
   rw [tH (by omega),e1];exact h1
theorem Xx {t:bd} {A:ae} : ∀ {ps:List (Tmp×List CD×Nat)} {i:Nat} {x:FI},Bn P t A ps=true->(Ii P t A ps)[i]? = some x->x.ok=true->∃ p,(Ej P ps (Kz P t A ps))[i]? = some p/\LC P A x p
 | [],_,_,_,h,_=>by simp [Ii] at h
 | p::ps,i,x,hg,h,cM=>by
  simp only [Bn,ao] at hg;simp only [Ii] at h;obtain ⟨b,cs,_,hl,_,hC⟩:=JN hg.1;rw [<- hC] at hl;by_cases hi:i < (lF P A p.2.1 (Ih t A p)).length
  ·rw [qH hi] at h
   obtain ⟨q,h2,h3⟩:=yJ hl hg.2.1 h cM;refine ⟨q,?_,h3⟩;simp only [Kz,Ej];rw [qH (cH.1 h2).1];exact h2
  ·rw [tH (by omega)] at h
   obtain ⟨q,h1,h2⟩:=Xx hg.2.2 h cM;refine ⟨q,?_,h2⟩;simp only [Kz,Ej];have e1:(oO P p.2.1 (eK P A p.2.1 (Ih t A p))).length=(lF P A p.2.1 (Ih t A p)).length:=by rw [ox (C1 hg.2.1),jR hl]
   rw [tH (by omega),e1];exact h1
theorem KD:∀ {ps:List (Tmp×List CD×Nat)} {rs:List (List KV)},rs.length=ps.length->(∀ (k:Nat) p r,ps[k]? = some p->rs[k]? = some r->df p.2.1 r=true)->∀ {l:Nat},l=(ps.map fun p=>tY p.2.1).sum->(Ej P ps rs).length=l
 | [],[],_,_,l,hl=>by subst hl; rfl
 | [],_::_,h,_,_,_=>by simp at h
 | _::_,[],h,_,_,_=>by simp at h
 | p::ps,r::rs,h,hk,l,hl=>by
  simp only [Ej,kx];rw [ox (C1 (hk 0 p r rfl rfl)),KD (by simpa using h) (fun k p r h1 h2=>hk (k+1) p r (by simpa using h1) (by simpa using h2)) rfl,hl];simp
theorem Rn {t:bd} {A:ae} : ∀ {ps:List (Tmp×List CD×Nat)},Bn P t A ps=true->(Ii P t A ps).length=(ps.map fun p=>tY p.2.1).sum
 | [],_=>rfl
 | p::ps,h=>by
  simp only [Bn,ao] at h;obtain ⟨b,cs,_,hl,_,hC⟩:=JN h.1;simp only [Ii,kx,List.map_cons,List.sum_cons];rw [jR (by rw [hC]; exact hl),Rn h.2.2]
end Go.K
end
section
namespace Go.K
open Go Go.aI
variable {P:Program} {E:Env}
noncomputable def Env.sub (E:Env) (A:ae) (bs:List Nat) (fs:List (Option Nat)) (nr:Nat):Env:=
 { κ:=fun i=>(bs[i]?).bind E.κ,z:=E.z,φ:=fun i=>if nr<=i then (fs[i - nr]?).bind (fun f=>f.bind fun x=>cond (BP (A.get x)) (E.φ x) none) else none,α:=fun i=>if nr<=i then (fs[i - nr]?).bind (fun f=>f.bind E.α) else none }
theorem Qn {E:Env} {A:ae} {x q:Nat} (e:cond (BP (A.get x)) (E.φ x) none=some q):E.φ x=some q/\BP (A.get x)=true:=by
 cases h:BP (A.get x) with
 | true=>rw [h] at e; exact ⟨e,rfl⟩
 | false=>rw [h] at e; simp at e
theorem afA {A:ae} {x:Nat} (h:BP (A.get x)=true):∃ n sz,A.get x=some (.aO n sz):=by
 unfold BP at h;split at h
 ·rename_i n sz e; exact ⟨n,sz,e⟩
 ·simp at h
theorem Env.aao {A:ae} {bs:List Nat} {fs:List (Option Nat)} {nr i:Nat} : (E.sub A bs fs nr).φ (nr+i)=(fs[i]?).bind (fun f=>f.bind fun x=>cond (BP (A.get x)) (E.φ x) none):=by
 simp only [Env.sub];rw [aE (by omega),show nr+i - nr=i by omega]
theorem Env.Il {A:ae} {bs:List Nat} {fs:List (Option Nat)} {nr i:Nat} : (E.sub A bs fs nr).α (nr+i)=(fs[i]?).bind (fun f=>f.bind E.α):=by
 simp only [Env.sub];rw [aE (by omega),show nr+i - nr=i by omega]
theorem M3:∀ {l:List (Nat×KV)} {i:Nat} {v:KV},(iH l).get i=some v->(i,v)∈l
 | [],i,v,h=>by simp [iH] at h
 | p::ps,i,v,h=>by
  rw [iH,Trie.oE] at h;split at h
  ·rename_i e
   simp at h; subst h e;simp
  ·exact rR _ (M3 h)
theorem iW.iH {ρ:Ren} {l:List (Nat×KV)} {N:Nat} {a:Act} (hs:a.tmps.size=N) (h:∀ q∈l,q.1 < N/\VC P E ρ q.2 (a.tmps.getD q.1 undef)):iW P E ρ (K.iH l) N a:=by
 refine ⟨hs,fun i=>?_,fun i hi=>?_⟩
 ·cases hg:(K.iH l).get i with
  | none=>exact .bf
  | some v=>exact (h _ (M3 hg)).2
 ·cases hg:(K.iH l).get i with
  | none=>rfl
  | some v=>have:=(h _ (M3 hg)).1; exact absurd hi (Nat.not_le_of_lt this)
theorem El {A:ae} {x:Nat} : ∀ {ds:List CD} {vs:List KV} {fi:FI},fi∈lF P A ds vs->fi.fm=true->fi.f=some x->BP (A.get x)=true
 | [],_,_,h,_,_=>by simp [lF] at h
 | d::ds,[],_,h,_,_=>by cases d <;> simp [lF] at h
 | d::ds,v::vs,fi,h,hm,hx=>by
  cases d <;> simp only [lF,de] at h
  ·exact El h hm hx
  ·exact El h hm hx
  ·rcases h with rfl | h
   ·exact aj5 hx
   ·exact El h hm hx
  ·rcases h with rfl | h
   ·rw [aj4] at hm; simp at hm
   ·exact El h hm hx
  ·exact El h hm hx
theorem aJ.amR (S:aJ) {t:bd} {A:ae} {x:Nat} {fi:FI} (h:fi∈S.QH P t A) (hm:fi.fm=true) (hx:fi.f=some x):BP (A.get x)=true:=by
 have one:∀ {ps:List (Tmp×VD)},fi∈Ei P t A ps->BP (A.get x)=true:=by
  intro ps
  induction ps with
  | nil=>intro h; simp [Ei] at h
  | cons p ps ih=>
   intro h;simp only [Ei,jJ] at h;exact h.elim (fun h=>El h hm hx) ih
 have two:∀ {ps:List (Tmp×List CD×Nat)},fi∈Ii P t A ps->BP (A.get x)=true:=by
  intro ps
  induction ps with
  | nil=>intro h; simp [Ii] at h
  | cons p ps ih=>
   intro h;simp only [Ii,jJ] at h;exact h.elim (fun h=>El h hm hx) ih
 simp only [aJ.QH,jJ] at h;exact h.elim one two
theorem dq.hyp {S:aJ} {t:bd} {A:ae} {g:GR} (h:dq P S t A g):o4 E (E.sub A g.bs g.fs S.nr) (S.QH P t A) S.nr:=fun i fi hi=>by
 refine ⟨Sy h.wW fi (gi hi),fun hm x q hx hq=>?_,fun x q hx hq=>?_⟩
 ·rw [Env.aao,h.fs,M1 hi,dK,hx,dK,S.amR (gi hi) hm hx]
  exact hq
 ·rw [Env.Il,h.fs,M1 hi,dK,hx,dK]
  exact hq
theorem afB {E0:Env} {t:bd} {A:ae} {ρ:Ren} {N nr:Nat} {bs Ha:List Nat} {a:Act} (hz:E0.z=E.z) (hk:Rk E E0 nr bs Ha) (ht:iW P E ρ t N a):∀ {ps:List (Tmp×VD)} {j:Nat},eL ps (n4 P t A ps)=true->o4 E E0 (Ei P t A ps) j->KC nr bs t ps=true->∀ q∈NG j Ha ps (n4 P t A ps),q.1 < N/\VC P E0 ρ q.2 (a.tmps.getD q.1 undef)
 | [],_,_,_,_,q,hq=>by simp [NG] at hq
 | p::ps,j,hg,hf,hr,q,hq=>by
  simp only [KC,ao] at hr;simp only [n4,eL,ao] at hg;simp only [n4,NG,de] at hq;rcases hq with rfl | hq
  ·refine ⟨?_,?_⟩
   ·obtain ⟨v,hv⟩:=VK.VM hg.1 hr.1
    by_cases hN:N<=p.1
    ·rw [ht.none _ hN] at hv; simp at hv
    ·exact Nat.lt_of_not_le hN
   ·obtain ⟨u,h1,h2⟩:=ht.val p.1
    exact ⟨u,h1.anH hz hk hg.1 hf.left hr.1,h2⟩
  ·have h2:=hf.right
   rw [jR (Fl hg.1)] at h2;exact afB hz hk ht hg.2 h2 hr.2 q hq
theorem KF {bs:List Nat} : ∀ {ps:List (Tmp×Nat×Nat)} {q:Nat×KV},q∈zo bs ps->∃ p∈ps,FZ p=true/\q=(p.1,.ptr (bs.getD p.2.1 0) p.2.2)
 | [],_,h=>by simp [zo] at h
 | p::ps,q,h=>by
  unfold zo at h;cases hp:FZ p with
  | true=>
   rw [hp,aj] at h;rcases de.1 h with rfl | h
   ·exact ⟨p,by simp,hp,rfl⟩
   ·obtain ⟨p',h1,h2⟩:=KF h
    exact ⟨p',rR _ h1,h2⟩
  | false=>
   rw [hp,aG] at h;obtain ⟨p',h1,h2⟩:=KF h;exact ⟨p',rR _ h1,h2⟩
theorem SA {l:List (Nat×KV)} : ∀ {ps:List (Tmp×Nat×Nat)} {q:Nat×KV},q∈M0 l ps->∃ p∈ps,FZ p=false/\q=(p.1,Sv l (p.2.1 - 1000000))
 | [],_,h=>by simp [M0] at h
 | p::ps,q,h=>by
  unfold M0 at h;cases hp:FZ p with
  | false=>
   rw [hp,aG] at h;rcases de.1 h with rfl | h
   ·exact ⟨p,by simp,hp,rfl⟩
   ·obtain ⟨p',h1,h2⟩:=SA h
    exact ⟨p',rR _ h1,h2⟩
  | true=>
   rw [hp,aj] at h;obtain ⟨p',h1,h2⟩:=SA h;exact ⟨p',rR _ h1,h2⟩
theorem ahv {v w:Option KV} (h:adT v w=true):v=w/\v.isSome=true:=by
 unfold adT at h;split at h
 ·simp only [ao] at h
  obtain ⟨⟨⟨h1,h2⟩,h3⟩,h4⟩:=h;rw [aK h1,aK h2,aK h3,aK h4];exact ⟨rfl,rfl⟩
 ·simp at h
theorem JO {t:bd} {bs:List Nat} : ∀ {ps:List (Tmp×Nat×Nat)},Qj t bs ps=true->∀ q∈ps,(FZ q=true->∃ b,t.get q.1=some (.ptr b q.2.2)/\bs[q.2.1]? = some b)/\(FZ q=false->t.get q.1=t.get (q.2.1 - 1000000)/\(t.get q.1).isSome=true)
 | [],_,q,hq=>by simp at hq
 | p::ps,h,q,hq=>by
  simp only [Qj,ao] at h;rcases de.1 hq with rfl | hq
  ·refine ⟨fun hp=>?_,fun hp=>?_⟩
   ·have h1:=h.1
    rw [hp,aj] at h1;unfold alz at h1;split at h1
    ·rename_i b o b' e1 e2
     simp only [ao] at h1;have:=aK h1.1;have:=aK h1.2
     subst_vars
     exact ⟨_,e1,e2⟩
    ·simp at h1
   ·have h1:=h.1
    rw [hp,aG] at h1;exact ahv h1
  ·exact JO h.2 q hq
theorem dq.rk {S:aJ} {t:bd} {A:ae} {g:GR} (h:dq P S t A g):Rk E (E.sub A g.bs g.fs S.nr) S.rows.length g.bs S.ids:=fun j x hj e=>by
 have bj:j < g.bs.length:=by rw [h.bs,EV]; exact hj
 rw [fD,cK bj] at e;rw [fD,Ik S j hj];simp only [Env.sub,fv,cK bj,dK];exact e
theorem Uc:∀ {l:List (Nat×KV)} {i:Nat} {v:KV},(iH l).get i=some v->(i,v)∈l
 | [],_,_,h=>by simp [iH] at h
 | x::l,i,v,h=>by
  rw [iH,Trie.oE] at h;split at h
  ·rename_i e
   simp only [bN] at h;subst h; subst e;exact P0 ..
  ·exact rR _ (Uc h)
theorem acy {E E0:Env} {A:ae} {t:bd} (hz:E0.z=E.z) {nr:Nat} {bs Ha:List Nat} (hk:Rk E E0 nr bs Ha):∀ {ps:List (Tmp×VD)} {j:Nat},eL ps (n4 P t A ps)=true->o4 E E0 (Ei P t A ps) j->KC nr bs t ps=true->∀ q∈NG j Ha ps (n4 P t A ps),∀ u,VK P E (valOf t q.1) u->VK P E0 q.2 u
 | [],_,_,_,_,q,hq,_,_=>by simp [NG] at hq
 | p::ps,j,hg,hf,hr,q,hq,u,hu=>by
  simp only [n4,eL,ao] at hg;simp only [KC,ao] at hr;simp only [n4,NG,de] at hq;rcases hq with rfl | hq
  ·exact hu.anH hz hk hg.1 hf.left hr.1
  ·have h2:=hf.right
   rw [jR (Fl hg.1)] at h2;exact acy hz hk hg.2 h2 hr.2 q hq u hu
theorem dq.tkr {S:aJ} {t:bd} {A:ae} {g:GR} {ρ:Ren} {N:Nat} {a:Act} (h:dq P S t A g) (ht:iW P E ρ t N a):iW P (E.sub A g.bs g.fs S.nr) ρ (S.tm S.nr S.ids g.vs) N a:=by
 refine iW.iH ht.size fun q hq=>?_;have hh:o4 E (E.sub A g.bs g.fs S.nr) (S.QH P t A) S.nr:=h.hyp;rcases jJ.1 hq with hq | hq
 ·rw [h.vs] at hq
  exact afB (E:=E) (E0:=E.sub A g.bs g.fs S.nr) (A:=A) rfl h.rk ht (h.vs ▸ h.dC) hh.left h.alD q hq
 rcases jJ.1 hq with hq | hq
 ·obtain ⟨p,hp,hip,rfl⟩:=KF hq
  obtain ⟨b,h1,h2⟩:=(JO h.T6 p hp).1 hip;refine ⟨?_,?_⟩
  ·by_cases hN:N<=p.1
   ·rw [ht.none _ hN] at h1; simp at h1
   ·exact Nat.lt_of_not_le hN
  ·have hk:p.2.1 < S.rows.length:=by
    have:=(cH.1 h2).1;rw [h.bs,EV] at this; exact this
   have hv:=ht.val p.1;rw [h1] at hv;obtain ⟨u,h3,h4⟩:=hv;refine ⟨u,?_,h4⟩;obtain ⟨x,h5,rfl⟩:=(show VK P E (.ptr b p.2.2) u from h3).hO;have:S.ids.getD p.2.1 0=p.2.1:=by rw [fD,Ik S _ hk]; rfl
   rw [this];exact .BH (by simp [Env.sub,h2,h5])
 ·obtain ⟨p,hp,hip,rfl⟩:=SA hq
  obtain ⟨h1,h2⟩:=(JO h.T6 p hp).2 hip;refine ⟨?_,?_⟩
  ·by_cases hN:N<=p.1
   ·rw [ht.none _ hN] at h2; simp at h2
   ·exact Nat.lt_of_not_le hN
  ·obtain ⟨u,h3,h4⟩:=ht.val p.1
   rw [h1] at h3;have h3:VK P E (valOf t (p.2.1 - 1000000)) u:=h3;show ∃ u,VK P _ (Sv _ (p.2.1 - 1000000)) u/\_;unfold Sv;cases hl:(iH (NG S.nr S.ids S.dC g.vs)).get (p.2.1 - 1000000) with
   | none=>exact VC.bf
   | some v=>
    refine ⟨u,?_,h4⟩;have hm:=Uc hl;rw [h.vs] at hm;exact acy (E:=E) (E0:=E.sub A g.bs g.fs S.nr) (A:=A) rfl h.rk (h.vs ▸ h.dC) hh.left h.alD _ hm u h3
theorem dq.row {S:aJ} {t:bd} {A:ae} {g:GR} (h:dq P S t A g) {k:Nat} {p:Tmp×List CD×Nat} (hp:S.rows[k]? = some p):∃ b cs,g.bs[k]? = some b/\A.get b=some (.row cs p.2.2)/\cs.length=p.2.1.length/\Ih t A p=cs/\g.rs[k]? = some (eK P A p.2.1 cs)/\df p.2.1 (eK P A p.2.1 cs)=true:=by
 obtain ⟨h1,h2⟩:=Xv h.rows hp;obtain ⟨b,cs,h4,h5,h6,h7⟩:=JN h1;refine ⟨b,cs,by rw [h.bs,aam hp,h6],h4,h5,h7,?_,by rw [<- h7]; exact h2⟩;have:∀ {ps:List (Tmp×List CD×Nat)} {k:Nat},ps[k]? = some p->(Kz P t A ps)[k]? = some (eK P A p.2.1 (Ih t A p)):=by
  intro ps
  induction ps with
  | nil=>intro k h; simp at h
  | cons q ps ih=>
   intro k h;cases k with
   | zero=>simp at h; subst h; rfl
   | succ k=>simp at h; simpa [Kz] using ih h
 rw [h.rs,this hp,h7]
theorem dq.rF {S:aJ} {t:bd} {A:ae} {g:GR} (h:dq P S t A g):g.rs.length=S.rows.length:=by rw [h.rs,Rm]
theorem dq.Xy {S:aJ} {t:bd} {A:ae} {g:GR} (h:dq P S t A g):g.bs.length=S.rows.length:=by rw [h.bs,EV]
theorem dq.tQ {S:aJ} {t:bd} {A:ae} {g:GR} (h:dq P S t A g):∀ (k:Nat) p r,S.rows[k]? = some p->g.rs[k]? = some r->df p.2.1 r=true:=fun k p r hp hr=>by
 obtain ⟨b,cs,_,_,_,_,h1,h2⟩:=h.row hp;rw [hr] at h1; simp at h1; subst h1; exact h2
theorem dq.lens {S:aJ} {t:bd} {A:ae} {g:GR} (h:dq P S t A g):(S.lens P g.vs g.rs).length=(S.QH P t A).length:=by
 simp only [aJ.lens,aJ.QH,kx];rw [EX h.dC,KD h.rF h.tQ rfl,Rn h.rows,EW (h.vs ▸ h.dC)]
theorem dq.fact {S:aJ} {t:bd} {A:ae} {g:GR} (h:dq P S t A g) {i:Nat} {q:gU} (hq:(S.lens P g.vs g.rs)[i]? = some q):∃ fi,(S.QH P t A)[i]? = some fi/\g.fs[i]? = some fi.f/\LC P A fi q:=by
 have bj:i < (S.QH P t A).length:=by rw [<- h.lens]; exact (cH.1 hq).1
 have hfi:=cK bj;have cM:=Sy h.wW _ (P2 bj);refine ⟨_,hfi,by rw [h.fs]; exact M1 hfi,?_⟩;have hv:(Ei P t A S.dC).length=n5 S.dC:=EW (h.vs ▸ h.dC);have hlv:(CZ P S.dC g.vs).length=n5 S.dC:=EX h.dC;simp only [aJ.lens] at hq;have afC:=hfi;simp only [aJ.QH] at afC;by_cases hi:i < n5 S.dC
 ·rw [qH (by omega)] at hq afC
  obtain ⟨p,h1,h2⟩:=Xw (h.vs ▸ h.dC) afC cM;rw [h.vs,h1] at hq;simp at hq; subst hq; exact h2
 ·rw [tH (by omega)] at hq afC
  obtain ⟨p,h1,h2⟩:=Xx h.rows afC cM;rw [h.rs,hlv,<- hv,h1] at hq;simp at hq; subst hq; exact h2
theorem SB {t:bd} {A:ae} {nr:Nat} {bs:List Nat} : ∀ {ps:List (Tmp×List CD×Nat)},V4 nr bs t A ps=true->∀ {k:Nat} {p:Tmp×List CD×Nat},ps[k]? = some p->F1 nr bs p.2.1 (Ih t A p)=true
 | [],_,k,p,h=>by simp at h
 | q::ps,h,k,p,hp=>by
  simp only [V4,ao] at h;cases k with
  | zero=>simp at hp; subst hp; exact h.1
  | succ k=>simp at hp; exact SB h.2 hp
theorem pe {S:aJ} {rs:List (List KV)} (h:rs.length=S.rows.length):(tZ .empty S.rows (S.Ij S.nr S.ids rs)).next=S.nr:=by
 show (tZ .empty S.rows (Xu (S.nr+n5 S.dC) S.ids S.rows rs)).next=S.nr;rw [acw (Ub h _ _)];simp [ae.empty,aJ.nr]
theorem Im {S:aJ} {vs:List KV} {rs:List (List KV)} (h:rs.length=S.rows.length) {b:Nat} {o:gU} (hb:(S.mem P vs rs).get b=some o) :
  (∃ p r,S.rows[b]? = some p/\rs[b]? = some r/\o = .row (sf (Ck (S.nr+n5 S.dC) S.rows b) S.ids p.2.1 r) p.2.2)\/∃ i q,b=S.nr+i/\(S.lens P vs rs)[i]? = some q/\o=q:=by
 rcases Ua hb with hb | ⟨i,q,h1,h2,h3⟩
 ·rcases afz hb with e | ⟨k,p,r,rfl,h1,h2,h3⟩
  ·simp [ae.empty,ae.get] at e
  ·have hk:(ae.empty.next+k)=k:=by simp [ae.empty]
   rw [hk];have bj:k < rs.length:=by rw [h]; exact (cH.1 h1).1
   have e1:=cK bj;have e2:=Qm (bs:=S.ids) (j:=S.nr+n5 S.dC) h1 e1;have h2:(Xu (S.nr+n5 S.dC) S.ids S.rows rs)[k]? = some r:=h2;rw [e2] at h2;simp at h2;exact .inl ⟨p,_,h1,e1,by rw [h3,<- h2]⟩
 ·rw [pe h] at h1
  exact .inr ⟨i,q,h1,h2,h3⟩
theorem Pf {t:TypeId} {n:Nat} {es:List KV} {acc:Nat->KV} {bh:List Value} (ht:gW P t n es acc) (h:aV P E es bh):∃ o9 aw,K.ca P dB (.ts t .any n es acc) = .ts t .any n o9 aw/\gW P t n o9 aw/\aV P E o9 bh:=by
 refine ⟨(List.range n).map fun i=>ik P (K.ca P 5) t (acc i),fun i=>ik P (K.ca P 5) t (acc i),rfl,?_⟩;have CU:∀ i,i < n->∃ e e',es[i]? = some e/\bh[i]? = some e'/\acc i=e/\cw (aQ P t) e=true/\VK P E e e':=by
  intro i hi;have hl:i < es.length:=by rw [<- ht.len]; exact hi
  have e1:=cK hl;obtain ⟨e',e2,e3⟩:=h.get e1;exact ⟨_,e',e1,e2,by rw [ht.acc i hi,fD,e1]; rfl,gE ht.typed e1,e3⟩
 have hlen:bh.length=n:=by rw [h.length,ht.len]
 refine ⟨⟨by simp,fun i hi=>?_,?_⟩,?_⟩
 ·rw [fD,oW,List.getElem?_range hi]; rfl
 ·refine oM fun i e he=>?_
  rw [oW] at he;by_cases hi:i < n
  ·rw [List.getElem?_range hi] at he
   simp only [Option.map_some,bN] at he;obtain ⟨x,x',_,_,q3,q4,_⟩:=CU i hi;rw [<- he,q3,ik];obtain ⟨r1,r2,_⟩:=MF q4;rw [r1];exact ZQ q4 (HZ 5 r2) (by simp)
  ·rw [List.getElem?_eq_none (by simp; omega)] at he; simp at he
 ·refine aV.adu (by simp [hlen]) fun i e e' he Kl=>?_
  rw [oW] at he;by_cases hi:i < n
  ·rw [List.getElem?_range hi] at he
   simp only [Option.map_some,bN] at he;obtain ⟨x,x',_,q2,q3,q4,q5⟩:=CU i hi;rw [Kl] at q2;simp only [bN] at q2;subst q2;rw [<- he,q3];exact VK.ik 5 q4 q5
  ·rw [List.getElem?_eq_none (by simp; omega)] at he; simp at he
theorem dq.ai2 {S:aJ} {t:bd} {A:ae} {g:GR} (h:dq P S t A g) {b:Nat} {v:KV} (hb:(S.mem P g.vs g.rs).get b=some (.arr v)) :
  ∃ i T,b=S.nr+i/\((g.fs[i]? = some none/\1<=aU P T/\v=K.ca P dB (.ts T .any 0 [] qz))\/∃ f m N es acc,g.fs[i]? = some (some f)/\A.get f=some (.arr (.ts T m N es acc))/\v=K.ca P dB (.ts T .any N es acc)):=by
 rcases Im h.rF hb with ⟨p,r,_,_,h3⟩ | ⟨i,q,rfl,h2,h3⟩
 ·simp at h3
 ·subst h3
  obtain ⟨fi,h4,h5,h6⟩:=h.fact h2;rcases h6 with ⟨_,_,e,_⟩ | ⟨T,v',e,h6⟩
  ·simp at e
  ·simp only [gU.arr.injEq] at e
   subst e;rcases h6 with ⟨h6,h7⟩ | ⟨f,m,N,es,acc,h6,h7⟩
   ·exact ⟨i,T,rfl,.inl ⟨by rw [h5,h6],h7⟩⟩
   ·exact ⟨i,T,rfl,.inr ⟨f,m,N,es,acc,by rw [h5,h6],h7⟩⟩
theorem dq.Ip {S:aJ} {t:bd} {A:ae} {g:GR} (h:dq P S t A g) {b:Nat} {v:KV} (hb:(S.mem P g.vs g.rs).get b=some (.arr v)) {p:Nat×Nat×Nat} (hp:(E.sub A g.bs g.fs S.nr).α b=some p) :
  ∃ i f u,b=S.nr+i/\g.fs[i]? = some (some f)/\A.get f=some (.arr u)/\E.α f=some p:=by
 obtain ⟨i,T,rfl,h1⟩:=h.ai2 hb;rw [Env.Il] at hp;rcases h1 with ⟨h1,_⟩ | ⟨f,m,N,es,acc,h1,h2,_⟩
 ·rw [h1] at hp; simp at hp
 ·rw [h1] at hp; exact ⟨i,f,_,rfl,h1,h2,hp⟩
theorem dq.AR {S:aJ} {t:bd} {A:ae} {g:GR} (h:dq P S t A g) {x:Nat} (q:K.AR (S.mem P g.vs g.rs) (E.sub A g.bs g.fs S.nr) x):∃ f u L N,f∈jB g.fs/\A.get f=some (.arr u)/\E.α f=some (x,L,N):=by
 obtain ⟨b,v,L,N,h1,h2⟩:=q;obtain ⟨i,f,u,_,h3,h4,h5⟩:=h.Ip h1 h2;exact ⟨f,u,L,N,yI.2 (gi h3),h4,h5⟩
theorem dq.ar {S:aJ} {t:bd} {A:ae} {g:GR} (h:dq P S t A g) {x:Nat} (q:K.AR (S.mem P g.vs g.rs) (E.sub A g.bs g.fs S.nr) x):K.AR A E x:=by
 obtain ⟨f,u,L,N,_,h2,h3⟩:=h.AR q;exact ⟨f,u,L,N,h2,h3⟩
theorem dq.AF {S:aJ} {t:bd} {A:ae} {B:St} {g:GR} (h:dq P S t A g) {q:Nat} (k:K.AF (S.mem P g.vs g.rs) (E.sub A g.bs g.fs S.nr) B q):∃ f u x L N cs e own m,f∈jB g.fs/\A.get f=some (.arr u)/\E.α f=some (x,L,N)/\B.get x=some (.row cs e own (some (q,m))):=by
 obtain ⟨b,v,x,L,N,cs,e,own,m,h1,h2,h3⟩:=k;obtain ⟨i,f,u,_,h4,h5,h6⟩:=h.Ip h1 h2;exact ⟨f,u,x,L,N,cs,e,own,m,yI.2 (gi h4),h5,h6,h3⟩
theorem dq.af {S:aJ} {t:bd} {A:ae} {B:St} {g:GR} (h:dq P S t A g) {q:Nat} (k:K.AF (S.mem P g.vs g.rs) (E.sub A g.bs g.fs S.nr) B q):K.AF A E B q:=by
 obtain ⟨f,u,x,L,N,cs,e,own,m,_,h1,h2,h3⟩:=h.AF k;exact ⟨f,u,x,L,N,cs,e,own,m,h1,h2,h3⟩
theorem dq.at {S:aJ} {t:bd} {A:ae} {B:St} {g:GR} (h:dq P S t A g) {y:Nat} (k:K.AT (S.mem P g.vs g.rs) (E.sub A g.bs g.fs S.nr) B y):K.AT A E B y:=k.imp h.ar fun ⟨q,h1,h2⟩=>⟨q,h.af h1,h2⟩
theorem dq.fT {S:aJ} {t:bd} {A:ae} {B:St} {g:GR} (h:dq P S t A g) (hk:dr P E A B):dr P (E.sub A g.bs g.fs S.nr) (S.mem P g.vs g.rs) B where
 row b cs bm hb:=by
  rcases Im h.rF hb with ⟨p,r,h1,h2,h3⟩ | ⟨i,q,_,h2,h3⟩
  ·simp only [gU.row.injEq] at h3
   obtain ⟨rfl,rfl⟩:=h3;obtain ⟨b',cs,h4,h5,h6,h7,h8,h9⟩:=h.row h1;rw [h2] at h8; simp at h8; subst h8;obtain ⟨x,bM,pd,FV,h12⟩:=hk.row _ _ _ h5;refine ⟨x,bM,by simp [Env.sub,h4,pd],FV,?_⟩;have hh:o4 E (E.sub A g.bs g.fs S.nr) (S.QH P t A) S.nr:=h.hyp;have hr:=hh.right;rw [EW (h.vs ▸ h.dC)] at hr;have:=aan h.rows hr h1;rw [h7] at this;have hrr:=SB h.anI h1;rw [h7] at hrr;exact aV.cellsIn (E:=E) (E0:=E.sub A g.bs g.fs S.nr) rfl h.rk h12 h6 h9 this hrr
  ·subst h3
   obtain ⟨fi,_,_,h6⟩:=h.fact h2;rcases h6 with ⟨_,_,e,_⟩ | ⟨_,_,e,_⟩ <;> simp at e
 aO b top sz hb:=by
  rcases Im h.rF hb with ⟨p,r,_,_,h3⟩ | ⟨i,q,rfl,h2,h3⟩
  ·simp at h3
  ·subst h3
   obtain ⟨fi,h4,h5,h6⟩:=h.fact h2;rcases h6 with ⟨_,_,e,h6⟩ | ⟨_,_,e,_⟩
   ·simp only [gU.aO.injEq] at e
    obtain ⟨rfl,rfl⟩:=e;rw [Env.aao,h5,dK];rcases h6 with ⟨h6,h7⟩ | ⟨f,h6,h7⟩
    ·rw [h6]; exact .inl ⟨h7,rfl⟩
    ·rw [h6,dK,show BP (A.get f)=true by rw [h7]; rfl,aj]; exact hk.aO f _ _ h7
   ·simp at e
 z:=hk.z
 apart b x e:=by
  simp only [Env.sub,cE] at e;obtain ⟨b',_,e⟩:=e;exact hk.apart b' x e
 inj b c x e1 e2:=by
  simp only [Env.sub,cE] at e1 e2;obtain ⟨b',h1,e1⟩:=e1;obtain ⟨c',h2,e2⟩:=e2;have:=hk.inj _ _ _ e1 e2;subst this;exact aal h.nodup _ _ _ h1 h2
 gD b c q tb sb tc sc hb hc e1 e2:=by
  have key:∀ {b t s},(S.mem P g.vs g.rs).get b=some (.aO t s)->∃ i,b=S.nr+i/\((g.fs[i]? = some none)\/∃ f,g.fs[i]? = some (some f)/\A.get f=some (.aO t s)):=by
   intro b t s hb;rcases Im h.rF hb with ⟨p,r,_,_,h3⟩ | ⟨i,q1,rfl,h2,h3⟩
   ·simp at h3
   subst h3;obtain ⟨fi,h4,h5,h6⟩:=h.fact h2;rcases h6 with ⟨_,_,e,h6⟩ | ⟨_,_,e,_⟩
   ·simp only [gU.aO.injEq] at e
    obtain ⟨rfl,rfl⟩:=e;rcases h6 with ⟨h6,_⟩ | ⟨f,h6,h7⟩
    ·exact ⟨i,rfl,.inl (by rw [h5,h6])⟩
    ·exact ⟨i,rfl,.inr ⟨f,by rw [h5,h6],h7⟩⟩
   ·simp at e
  obtain ⟨i,rfl,h1⟩:=key hb;obtain ⟨j,rfl,h2⟩:=key hc;rw [Env.aao] at e1 e2;rcases h1 with h1 | ⟨f,h1,h3⟩
  ·rw [h1] at e1; simp at e1
  rcases h2 with h2 | ⟨f',h2,h4⟩
  ·rw [h2] at e2; simp at e2
  rw [h1,dK,dK] at e1;rw [h2,dK,dK] at e2;rw [show BP (A.get f)=true by rw [h3]; rfl,aj] at e1;rw [show BP (A.get f')=true by rw [h4]; rfl,aj] at e2;have:=hk.gD f f' q _ _ _ _ h3 h4 e1 e2;subst this;have:=zp h.YF i j f h1 h2;omega
 jM b x e:=by
  simp only [Env.sub,cE] at e;obtain ⟨b',h1,_⟩:=e;have:b < g.bs.length:=(cH.1 h1).1;rw [aJ.mem,fJ,pe h.rF];rw [h.Xy] at this;simp only [aJ.nr]; omega
 kL b q e:=by
  simp only [Env.sub] at e;split at e
  ·rename_i hle
   obtain ⟨f,h1,_⟩:=cE.1 e;have h2:b - S.nr < g.fs.length:=(cH.1 h1).1;rw [h.fs,uA,<- h.lens] at h2;rw [aJ.mem,fJ,pe h.rF];omega
  ·simp at e
 live b o hb:=by
  rw [aJ.mem,fJ,pe h.rF];rcases Im h.rF hb with ⟨p,r,h1,_,_⟩ | ⟨i,q,rfl,h2,h3⟩
  ·have:=(cH.1 h1).1
   simp only [aJ.nr]; omega
  ·have:=(cH.1 h2).1
   omega
 eS b x e:=by
  simp only [Env.sub,cE] at e;obtain ⟨b',_,e⟩:=e;exact hk.eS b' x e
 lD:=hk.lD
 il b q e:=by
  simp only [Env.sub] at e;split at e
  ·obtain ⟨f,_,e⟩:=cE.1 e
   obtain ⟨f',_,e⟩:=cE.1 e;exact hk.il _ _ (Qn e).1
  ·simp at e
 fresh:=hk.fresh
 mem:=hk.mem
 ar:=by
  have adV:∀ b p,(E.sub A g.bs g.fs S.nr).α b=some p->S.nr<=b/\b - S.nr < g.fs.length/\∃ f,E.α f=some p:=by
   intro b p e;simp only [Env.sub] at e;split at e
   ·rename_i hle
    obtain ⟨f,h1,e⟩:=cE.1 e;obtain ⟨f',_,e⟩:=cE.1 e;exact ⟨hle,(cH.1 h1).1,f',e⟩
   ·simp at e
  refine ⟨fun b v hb=>?_,fun b v hb=>?_,fun x q=>?_,fun b c v u x L N L' N' h1 h2 h3 h4=>?_,fun b c v u x y L N L' N' cs e own q k bM e' rb k' h1 h2 h3 h4 h5 h6=>?_,fun b x e=>?_,fun b p e=>?_,fun b x L N e=>?_,fun b v x L N cs e own q k h1 h2 h3=>?_,fun b v hb=>?_⟩
  ·obtain ⟨i,T,rfl,h1⟩:=h.ai2 hb
   rcases h1 with ⟨h1,h2,h3⟩ | ⟨f,m,N,es,acc,h1,h2,h3⟩
   ·obtain ⟨o9,aw,e1,e2,_⟩:=Pf (P:=P) (E:=E) (t:=T) (n:=0) (es:=[]) (acc:=qz) (bh:=[]) ⟨rfl,fun i hi=>by omega,rfl⟩ .nil
    rw [e1] at h3;refine ⟨T,0,o9,aw,h3,e2,h2,.inl ⟨rfl,?_⟩⟩;rw [Env.Il,h1]; rfl
   ·obtain ⟨T2,N2,o9,aw,e,ht,dP,xU⟩:=hk.ar.arr f _ h2
    simp only [KV.ts.injEq] at e;obtain ⟨rfl,rfl,rfl,rfl,rfl⟩:=e;rcases xU with ⟨h4,h5⟩ | ⟨x,cs,bL,bh,h4,h5,h6,h7⟩
    ·subst h4
     have Sg:es = []:=qG.1 ht.len.symm;subst Sg;obtain ⟨o9,aw,e1,e2,_⟩:=Pf (P:=P) (E:=E) (bh:=[]) ht .nil;rw [e1] at h3;refine ⟨T,0,o9,aw,h3,e2,dP,.inl ⟨rfl,?_⟩⟩;rw [Env.Il,h1]; exact h5
    ·obtain ⟨o9,aw,e1,e2,e3⟩:=Pf ht h6
     rw [e1] at h3;refine ⟨T,N,o9,aw,h3,e2,dP,.inr ⟨x,cs,bL,bh,?_,h5,aV.zEs (E:=E) (E0:=E.sub A g.bs g.fs S.nr) (.of rfl) e3 e2.typed,h7⟩⟩;rw [Env.Il,h1]; exact h4
  ·rcases Im h.rF hb with ⟨p,r,_,_,h3⟩ | ⟨i,q,rfl,h2,h3⟩
   ·simp at h3
   ·subst h3
    obtain ⟨fi,_,_,h6⟩:=h.fact h2;rcases h6 with ⟨_,_,e,_⟩ | ⟨_,_,e,_⟩ <;> simp at e
  ·obtain ⟨h1,h2⟩:=hk.ar.z x (h.ar q)
   refine ⟨h1,fun c e=>?_⟩;simp only [Env.sub,cE] at e;obtain ⟨b',_,e⟩:=e;exact h2 b' e
  ·obtain ⟨i,f,u1,rfl,k1,k2,k3⟩:=h.Ip h1 h3
   obtain ⟨j,f',u2,rfl,k1',k2',k3'⟩:=h.Ip h2 h4;have:=hk.ar.inj f f' u1 u2 x L N L' N' k2 k2' k3 k3';subst this;have:=zp h.YF i j f k1 k1';omega
  ·obtain ⟨i,f,u1,rfl,k1,k2,k3⟩:=h.Ip h1 h3
   obtain ⟨j,f',u2,rfl,k1',k2',k3'⟩:=h.Ip h2 h4;have:=hk.ar.wW f f' u1 u2 x y L N L' N' cs e own q k bM e' rb k' k2 k2' k3 k3' h5 h6;subst this;have:=zp h.YF i j f k1 k1';omega
  ·cases tS:(E.sub A g.bs g.fs S.nr).α b with
   | none=>rfl
   | some p=>
    obtain ⟨h1,_,_⟩:=adV b p tS;simp only [Env.sub,cE] at e;obtain ⟨b',h2,_⟩:=e;have:b < g.bs.length:=(cH.1 h2).1;rw [h.Xy] at this;simp only [aJ.nr] at h1; omega
  ·obtain ⟨h1,h2,_⟩:=adV b p e
   rw [h.fs,uA,<- h.lens] at h2;rw [aJ.mem,fJ,pe h.rF];omega
  ·obtain ⟨_,_,f,e⟩:=adV b _ e
   exact hk.ar.eS f x L N e
  ·obtain ⟨i,f,u,rfl,k1,k2,k3⟩:=h.Ip h1 h2
   obtain ⟨h4,h5,h6⟩:=hk.ar.vo f u x L N cs e own q k k2 k3 h3;refine ⟨h4,fun c e=>?_,fun y hy cI=>?_⟩
   ·simp only [Env.sub] at e
    split at e
    ·obtain ⟨f1,_,e⟩:=cE.1 e
     obtain ⟨f',_,e⟩:=cE.1 e;exact h5 f' (Qn e).1
    ·simp at e
   ·obtain ⟨h7,h8,h9⟩:=h6 y hy cI
    refine ⟨h7,fun q=>h8 (h.ar q),fun c e=>?_⟩;simp only [Env.sub,cE] at e;obtain ⟨b',_,e⟩:=e;exact h9 b' e
  ·rcases Im h.rF hb with ⟨p,r,_,_,h3⟩ | ⟨i,q,rfl,h2,_⟩
   ·simp at h3
   ·refine ⟨?_,?_⟩
    ·rw [aJ.mem,fJ,pe h.rF]
     have:=(cH.1 h2).1;omega
    ·simp only [Env.sub]
     rw [List.getElem?_eq_none (by rw [h.Xy]; simp only [aJ.nr]; omega)];rfl
structure Co (base:Nat) (E:Env) (A:ae) (B:St) (ρ:Ren) (w:World) (E' : Env) (A' : ae) (B' : St) (aF:Ren) (w' : World):Prop where
 eE:iX base ρ B w aF B' w'
 z:∀ b r,E.z b=some r->E'.z b=some r
 dL:∀ x,x < B.next->(∀ b,E.κ b≠some x)->¬ AT A E B x->B'.get x=B.get x
 new:∀ b x,E'.κ b=some x->(∃ c,E.κ c=some x)\/B.next<=x
 tT:∀ b r,E'.z b=some r->E.z b=some r\/AR A E b\/B.next<=b
 rZ:∀ b g,E'.φ b=some g->(∃ c,E.φ c=some g)\/B.next<=g
 oK:∀ g,g < B.next->(∀ b,E.φ b≠some g)->¬ AF A E B g->B'.members g=B.members g
 kr:∀ x,AR A' E' x->AR A E x\/B.next<=x
 kM:∀ g,AF A' E' B' g->AF A E B g\/B.next<=g
 vp:∀ g y,y∈B'.members g->y∈B.members g\/B.next<=y
 lX:∀ y,AT A' E' B' y->AT A E B y\/B.next<=y
 rows:∀ y,y < B.next->∀ cs e own bL,B'.get y=some (.row cs e own bL)->∃ lW,B.get y=some (.row lW e own bL)/\lW.length=cs.length
theorem Co.trans {base:Nat} {E1 E2 E3:Env} {A1 A2 A3:ae} {B1 B2 B3:St} {kF wZ ρ3:Ren} {w1 w2 w3:World} (h:Co base E1 A1 B1 kF w1 E2 A2 B2 wZ w2) (k:Co base E2 A2 B2 wZ w2 E3 A3 B3 ρ3 w3):Co base E1 A1 B1 kF w1 E3 A3 B3 ρ3 w3 where
 eE:=h.eE.trans k.eE
 z b r e:=k.z b r (h.z b r e)
 dL x hx hn ha:=by
  refine (k.dL x (eY hx h.eE.next) (fun b e=>?_) fun q=>?_).trans (h.dL x hx hn ha)
  ·rcases h.new b x e with ⟨c,e⟩ | e
   ·exact hn c e
   ·omega
  ·rcases h.lX x q with e | e
   ·exact ha e
   ·omega
 new b x e:=by
  rcases k.new b x e with ⟨c,e⟩ | e
  ·exact h.new c x e
  ·have:=h.eE.next; exact .inr (by omega)
 tT b r e:=by
  rcases k.tT b r e with e | e | e
  ·exact h.tT b r e
  ·exact .inr (h.kr b e)
  ·have:=h.eE.next; exact .inr (.inr (by omega))
 rZ b g e:=by
  rcases k.rZ b g e with ⟨c,e⟩ | e
  ·exact h.rZ c g e
  ·have:=h.eE.next; exact .inr (by omega)
 oK g hg hn ha:=by
  refine (k.oK g (eY hg h.eE.next) (fun b e=>?_) fun q=>?_).trans (h.oK g hg hn ha)
  ·rcases h.rZ b g e with ⟨c,e⟩ | e
   ·exact hn c e
   ·omega
  ·rcases h.kM g q with e | e
   ·exact ha e
   ·omega
 kr x e:=by
  rcases k.kr x e with e | e
  ·exact h.kr x e
  ·have:=h.eE.next; exact .inr (by omega)
 kM g e:=by
  rcases k.kM g e with e | e
  ·exact h.kM g e
  ·have:=h.eE.next; exact .inr (by omega)
 vp g y e:=by
  rcases k.vp g y e with e | e
  ·exact h.vp g y e
  ·have:=h.eE.next; exact .inr (by omega)
 lX y e:=by
  rcases k.lX y e with e | e
  ·exact h.lX y e
  ·have:=h.eE.next; exact .inr (by omega)
 rows y hy cs e own bL q:=by
  obtain ⟨c1,h1,h2⟩:=k.rows y (eY hy h.eE.next) cs e own bL q;obtain ⟨c0,h3,h4⟩:=h.rows y hy c1 e own bL h1;exact ⟨c0,h3,h4.trans h2⟩
theorem Ev.co {base:Nat} {A A1:ae} {B B1:St} {ρ kF:Ren} {w w1:World} {E1:Env} {S:aJ} {t:bd} {g:GR} (h:Ev P base E A B ρ w E1 A1 B1 kF w1) (hG:dq P S t A1 g):Co base E A B ρ w (E1.sub A1 g.bs g.fs S.nr) (S.mem P g.vs g.rs) B1 kF w1 where
 eE:=h.eE
 z:=h.le.z
 dL x hx hn ha:=h.dL x hx (fun b e=>absurd e (hn b)) ha
 new b x e:=by
  simp only [Env.sub,cE] at e;obtain ⟨b',_,e⟩:=e;exact (h.new b' x e).imp (fun e=>⟨_,e⟩) (·.2)
 tT:=h.tT
 rZ b g e:=by
  simp only [Env.sub] at e;split at e
  ·obtain ⟨f,_,e⟩:=cE.1 e
   obtain ⟨f',_,e⟩:=cE.1 e;exact h.rZ _ _ (Qn e).1
  ·simp at e
 oK:=h.oK
 kr x q:=h.kr x (hG.ar q)
 kM g q:=h.kM g (hG.af q)
 vp:=h.vp
 lX y q:=h.lX y (hG.at q)
 rows:=h.rows
def Ud (nr:Nat):List CD->Bool
 | []=>true
 | .ref w::ds=>Xs nr w&&Ud nr ds
 | _::ds=>Ud nr ds
theorem Iq {nr:Nat} {bs:List Nat} : ∀ {ds:List CD} {vs:List KV},F1 nr bs ds vs=true->vs.length=ds.length->Ud nr ds=true
 | [],_,_,_=>rfl
 | _::_,[],_,e=>by simp at e
 | .k c::ds,v::vs,h,e=>Iq (ds:=ds) (vs:=vs) h (by simpa using e)
 | .lit c::ds,v::vs,h,e=>Iq (ds:=ds) (vs:=vs) h (by simpa using e)
 | .aO c::ds,v::vs,h,e=>Iq (ds:=ds) (vs:=vs) h (by simpa using e)
 | .arr c::ds,v::vs,h,e=>Iq (ds:=ds) (vs:=vs) h (by simpa using e)
 | .ref w::ds,v::vs,h,e=>by
  simp only [F1,ao] at h;simp only [Ud,ao];exact ⟨h.1,Iq h.2.2 (by simpa using e)⟩
def SC (E1 E2:Env) (i j n:Nat):Prop:=∀ m,m < n->(∀ g,E1.φ (i+m)=some g->E2.φ (j+m)=some g)/\∀ p,E1.α (i+m)=some p->E2.α (j+m)=some p
theorem SC.tail {E1 E2:Env} {i j n:Nat} (h:SC E1 E2 i j (n+1)):SC E1 E2 (i+1) (j+1) n:=fun m hm=>by
 have:=h (m+1) (by omega);rw [show i+(m+1)=i+1+m by omega,show j+(m+1)=j+1+m by omega] at this;exact this
theorem SC.left {E1 E2:Env} {i j n n' : Nat} (h:SC E1 E2 i j n') (hn:n<=n'):SC E1 E2 i j n:=fun m hm=>h m (by omega)
theorem SC.right {E1 E2:Env} {i j n n' : Nat} (h:SC E1 E2 i j (n+n')):SC E1 E2 (i+n) (j+n) n':=fun m hm=>by
 have:=h (n+m) (by omega);rw [<- GM,<- GM] at this;exact this
theorem aV.Cl {E1 E2:Env} (hz:E2.z=E1.z) {nr:Nat} {SD bs2:List Nat} (hk:Rk E1 E2 nr SD bs2):∀ {ds:List CD} {vs:List KV} {us:List Value} {i j:Nat},aV P E1 (sf i SD ds vs) us->df ds vs=true->Ud nr ds=true->SC E1 E2 i j (tY ds)->aV P E2 (sf j bs2 ds vs) us
 | [],[],us,_,_,h,_,_,_=>by rw [h.bX]; exact .nil
 | [],_::_,_,_,_,_,hg,_,_=>by simp [df] at hg
 | _::_,[],_,_,_,_,hg,_,_=>by simp [df] at hg
 | d::ds,v::vs,us,i,j,h,hg,hw,hf=>by
  simp only [df,ao] at hg;cases d with
  | k c=>
   obtain ⟨y,ys,rfl,h1,h2⟩:=aV.cons_inv (show aV P E1 (v::sf i SD ds vs) us from h);exact .cons (h1.gCD (d:=.k c) hz hg.1 (by simp)) (aV.Cl hz hk h2 hg.2 hw hf)
  | lit w=>
   obtain ⟨y,ys,rfl,h1,h2⟩:=aV.cons_inv (show aV P E1 (v::sf i SD ds vs) us from h);exact .cons (h1.gCD (d:=.lit w) hz hg.1 (by simp)) (aV.Cl hz hk h2 hg.2 hw hf)
  | ref w=>
   simp only [Ud,ao] at hw;obtain ⟨y,ys,rfl,h1,h2⟩:=aV.cons_inv (show aV P E1 (inst SD w::sf i SD ds vs) us from h);exact .cons (VK.inst hk hw.1 h1) (aV.Cl hz hk h2 hg.2 hw.2 hf)
  | aO t=>
   obtain ⟨y,ys,rfl,h1,h2⟩:=aV.cons_inv (show aV P E1 (MZ i v::sf (i+1) SD ds vs) us from h);refine .cons ?_ (aV.Cl (i:=i+1) (j:=j+1) hz hk h2 hg.2 hw (SC.tail hf));have hv:∃ n es acc,v = .ts t .any n es acc:=by
    have hg1:kindOk (.slice t) v=true:=hg.1;cases v <;> simp [kindOk] at hg1;rename_i t' m n es acc;cases m <;> simp at hg1;subst hg1; exact ⟨_,_,_,rfl⟩
   obtain ⟨n,es,acc,rfl⟩:=hv;exact VK.swap hz (show VK P E1 (.ts t (.aO i) n es acc) y from h1) fun sz a cap _ hm=>by
    refine ⟨hm.1,hm.2.imp id ?_⟩;rintro ⟨b,r,g,q1,q2,q3,q4,q5⟩;exact ⟨b,r,g,q1,by rw [hz]; exact q2,q3,(hf 0 (by simp [tY])).1 g q4,q5⟩
  | arr t=>
   obtain ⟨y,ys,rfl,h1,h2⟩:=aV.cons_inv (show aV P E1 (Qk i v::sf (i+1) SD ds vs) us from h);refine .cons ?_ (aV.Cl (i:=i+1) (j:=j+1) hz hk h2 hg.2 hw (SC.tail hf));have hv:∃ n es acc,v = .ts t .any n es acc:=by
    have hg1:kindOk (.slice t) v=true:=hg.1;cases v <;> simp [kindOk] at hg1;rename_i t' m n es acc;cases m <;> simp at hg1;subst hg1; exact ⟨_,_,_,rfl⟩
   obtain ⟨n,es,acc,rfl⟩:=hv;show VK P E2 (.al t j 0 n) y;rcases (show VK P E1 (.al t i 0 n) y from h1).yh with ⟨q1,q2,q3⟩ | ⟨x,L,N,c,q1,q2⟩
   ·exact .OI (.inl ⟨q1,q2,q3⟩)
   ·exact .OI (.inr ⟨x,L,N,c,(hf 0 (by simp [tY])).2 _ q1,q2⟩)
theorem aj6 (j:Nat) (bs:List Nat) (d:VD) (cs:List KV):Xt j bs d (.agg cs) = .agg (sf j bs d.ks cs):=rfl
theorem acz {j:Nat} {bs:List Nat} {d:VD} {v:KV} (h:∀ cs,v≠.agg cs) {c:CD} (hc:d.ks = [c]) : [Xt j bs d v] = sf j bs d.ks [v]:=by
 have e:Xt j bs d v=(match d.ks with | [.aO _]=>MZ j v | [.arr _]=>Qk j v | [.ref w]=>inst bs w | _=>v):=by
  cases v <;> first | rfl | exact absurd rfl (h _)
 rw [e,hc];cases c <;> rfl
theorem VK.aom {E1 E2:Env} (hz:E2.z=E1.z) {nr:Nat} {SD bs2:List Nat} (hk:Rk E1 E2 nr SD bs2) {d:VD} {v:KV} {u:Value} {i j:Nat} (h:VK P E1 (Xt i SD d v) u) (hg:zl d v=true) (hw:Ud nr d.ks=true) (hf:SC E1 E2 i j (tY d.ks)):VK P E2 (Xt j bs2 d v) u:=by
 rcases AU hg with ⟨cs,rfl,_,h2⟩ | ⟨h0,_,c,h1,h2⟩
 ·rw [aj6] at h ⊢
  obtain ⟨l,rfl,k⟩:=h.kK;exact .rC (aV.Cl hz hk k h2 hw hf)
 ·have k:aV P E1 (sf i SD d.ks [v]) [u]:=by rw [<- acz h0 h1]; exact .cons h .nil
  have k2:=aV.Cl hz hk k (by rw [h1]; simp [df,h2]) hw hf;rw [<- acz h0 h1] at k2;obtain ⟨y,e,k3⟩:=k2.dX;simp at e; subst e; exact k3
def ua (P:Program) (E1 E2:Env):List (Nat×KV)->List (Nat×KV)->Prop
 | [],[]=>True
 | x::xs,y::ys=>x.1=y.1/\(∀ u,VK P E1 x.2 u->VK P E2 y.2 u)/\ua P E1 E2 xs ys
 | _,_=>False
theorem ua.append {E1 E2:Env} : ∀ {a b c d:List (Nat×KV)},ua P E1 E2 a b->ua P E1 E2 c d->ua P E1 E2 (a++c) (b++d)
 | [],[],_,_,_,h=>h
 | [],_::_,_,_,h,_=>h.elim
 | _::_,[],_,_,h,_=>h.elim
 | _::_,_::_,_,_,h,k=>⟨h.1,h.2.1,ua.append h.2.2 k⟩
theorem ua.get {E1 E2:Env} : ∀ {a b:List (Nat×KV)},ua P E1 E2 a b->∀ i,((iH a).get i=none/\(iH b).get i=none)\/∃ x y,(iH a).get i=some x/\(iH b).get i=some y/\∀ u,VK P E1 x u->VK P E2 y u
 | [],[],_,i=>.inl (by simp [iH])
 | [],_::_,h,_=>h.elim
 | _::_,[],h,_=>h.elim
 | x::a,y::b,h,i=>by
  rw [iH,iH,Trie.oE,Trie.oE];by_cases e:i=x.1
  ·rw [aE e,aE (by rw [e,h.1])]
   exact .inr ⟨_,_,rfl,rfl,h.2.1⟩
  ·rw [aa e,aa (by rw [<- h.1]; exact e)]
   exact ua.get h.2.2 i
theorem iW.alG {E1 E2:Env} {ρ:Ren} {l m:List (Nat×KV)} {N:Nat} {a:Act} (h:iW P E1 ρ (K.iH l) N a) (hp:ua P E1 E2 l m):iW P E2 ρ (K.iH m) N a:=by
 refine ⟨h.size,fun i=>?_,fun i hi=>?_⟩
 ·rcases hp.get i with ⟨_,h2⟩ | ⟨x,y,h1,h2,h3⟩
  ·rw [h2]; exact .bf
  ·have:=h.val i
   rw [h1] at this;rw [h2];obtain ⟨u,k1,k2⟩:=this;exact ⟨u,h3 u k1,k2⟩
 ·rcases hp.get i with ⟨_,h2⟩ | ⟨x,y,h1,h2,h3⟩
  ·exact h2
  ·have:=h.none i hi
   rw [h1] at this; simp at this
def wsV (nr:Nat):List (Tmp×VD)->Bool
 | []=>true
 | p::ps=>Ud nr p.2.ks&&wsV nr ps
theorem ai3 {A:ae} {t:bd} {nr:Nat} {bs:List Nat} : ∀ {ps:List (Tmp×VD)},KC nr bs t ps=true->eL ps (n4 P t A ps)=true->wsV nr ps=true
 | [],_,_=>rfl
 | p::ps,h,hg=>by
  simp only [KC,ao] at h;simp only [n4,eL,ao] at hg;simp only [wsV,ao];exact ⟨Iq h.1 (Fl hg.1),ai3 h.2 hg.2⟩
theorem acA {E1 E2:Env} (hz:E2.z=E1.z) {nr:Nat} {SD bs2:List Nat} (hk:Rk E1 E2 nr SD bs2):∀ {ps:List (Tmp×VD)} {vs:List KV} {i j:Nat},eL ps vs=true->wsV nr ps=true->SC E1 E2 i j (n5 ps)->ua P E1 E2 (NG i SD ps vs) (NG j bs2 ps vs)
 | [],[],_,_,_,_,_=>trivial
 | [],_::_,_,_,hg,_,_=>by simp [eL] at hg
 | _::_,[],_,_,hg,_,_=>by simp [eL] at hg
 | p::ps,v::vs,i,j,hg,hw,hf=>by
  simp only [wsV,ao] at hw;simp only [eL,ao] at hg;have hf:SC E1 E2 i j (tY p.2.ks+n5 ps):=hf;exact ⟨rfl,fun u h=>h.aom hz hk hg.1 hw.1 (hf.left (Nat.le_add_right _ _)),acA hz hk hg.2 hw.2 hf.right⟩
theorem afD {E1 E2:Env} {ids bs:List Nat} : ∀ {ps:List (Tmp×Nat×Nat)},(∀ p∈ps,FZ p=true->∀ x,E1.κ (ids.getD p.2.1 0)=some x->E2.κ (bs.getD p.2.1 0)=some x)->ua P E1 E2 (zo ids ps) (zo bs ps)
 | [],_=>trivial
 | p::ps,h=>by
  have ih:=afD (E1:=E1) (E2:=E2) (ids:=ids) (bs:=bs) (ps:=ps) fun q hq=>h q (by simp [hq]);unfold zo;cases hp:FZ p with
  | true=>
   exact ⟨rfl,fun u k=>by
    obtain ⟨x,h1,rfl⟩:=(show VK P E1 (.ptr (ids.getD p.2.1 0) p.2.2) u from k).hO;exact .BH (h p (by simp) hp x h1),ih⟩
  | false=>exact ih
theorem afE {E1 E2:Env} {a b:List (Nat×KV)} (hab:ua P E1 E2 a b):∀ {ps:List (Tmp×Nat×Nat)},ua P E1 E2 (M0 a ps) (M0 b ps)
 | []=>trivial
 | p::ps=>by
  have ih:=afE hab (ps:=ps);unfold M0;cases hp:FZ p with
  | true=>exact ih
  | false=>
   refine ⟨rfl,fun u k=>?_,ih⟩;have k:VK P E1 (Sv a (p.2.1 - 1000000)) u:=k;show VK P E2 (Sv b (p.2.1 - 1000000)) u;unfold Sv at k ⊢;rcases hab.get (p.2.1 - 1000000) with ⟨h1,h2⟩ | ⟨x,y,h1,h2,h3⟩
   ·rw [h1] at k
    rw [h2];simp [VK]
   ·rw [h1] at k
    rw [h2];exact h3 u k
end Go.K
end
section
namespace Go.K
open Go Go.aI
variable {P:Program} {E:Env}
theorem Hw:∀ (ps:List (Tmp×List CD×Nat)) (j k:Nat),Ck j ps k=j+Ck 0 ps k
 | [],j,k=>by simp [Ck]
 | _::_,j,0=>by simp [Ck]
 | p::ps,j,k+1=>by
  simp only [Ck];rw [Hw ps (j+tY p.2.1) k,Hw ps (0+tY p.2.1) k];omega
theorem mem_row {S:aJ} {vs:List KV} {rs:List (List KV)} (h:rs.length=S.rows.length) {k:Nat} {p:Tmp×List CD×Nat} {r:List KV} (hp:S.rows[k]? = some p) (hr:rs[k]? = some r):(S.mem P vs rs).get k=some (.row (sf (Ck (S.nr+n5 S.dC) S.rows k) S.ids p.2.1 r) p.2.2):=by
 have hk:k < S.nr:=(cH.1 hp).1;rw [aJ.mem,C0 (by rw [pe h]; exact hk)];have:=ai1 (A:=.empty) hp (show (S.Ij S.nr S.ids rs)[k]? = some _ from Qm hp hr);simpa [ae.empty] using this
theorem Ue {S:aJ} {vs:List KV} {rs:List (List KV)} (h:rs.length=S.rows.length) {i:Nat} {q:gU} (hq:(S.lens P vs rs)[i]? = some q):(S.mem P vs rs).get (S.nr+i)=some q:=by
 have:=Pd (A:=tZ .empty S.rows (S.Ij S.nr S.ids rs)) hq;rw [pe h] at this;exact this
def Env.up (E E1:Env) (nr nx:Nat):Env:={ κ:=E.κ,z:=E1.z,φ:=fun b=>if nx<=b then E1.φ (nr+(b - nx)) else E.φ b,α:=fun b=>if nx<=b then E1.α (nr+(b - nx)) else E.α b }
theorem Env.C2 {E1:Env} {nr nx j:Nat} : (E.up E1 nr nx).φ (nx+j)=E1.φ (nr+j):=by
 simp only [Env.up];rw [aE (by omega),show nx+j - nx=j by omega]
theorem Env.C3 {E1:Env} {nr nx b:Nat} (h:b < nx):(E.up E1 nr nx).φ b=E.φ b:=by
 simp only [Env.up];rw [aa (by omega)]
theorem Env.LD {E1:Env} {nr nx j:Nat} : (E.up E1 nr nx).α (nx+j)=E1.α (nr+j):=by
 simp only [Env.up];rw [aE (by omega),show nx+j - nx=j by omega]
theorem Env.LF {E1:Env} {nr nx b:Nat} (h:b < nx):(E.up E1 nr nx).α b=E.α b:=by
 simp only [Env.up];rw [aa (by omega)]
theorem acB {S:aJ} {t:bd} {A:ae} {B B1:St} {g:GR} {ρ kF:Ren} {base N:Nat} {w w1:World} {a1:Act} {vs:List KV} {rs:List (List KV)} {E1:Env} (hG:dq P S t A g) (hk:dr P E A B)
  (ht:iW P E1 kF (S.tm S.nr S.ids vs) N a1) (hs:dr P E1 (S.mem P vs rs) B1) (Ag:Co base (E.sub A g.bs g.fs S.nr) (S.mem P g.vs g.rs) B ρ w E1 (S.mem P vs rs) B1 kF w1) (Jn:∀ k,k < S.rows.length->E1.κ k=(E.sub A g.bs g.fs S.nr).κ k)
  (hv:eL S.dC vs=true) (Ou:rs.length=S.rows.length) (hrg:∀ (k:Nat) p r,S.rows[k]? = some p->rs[k]? = some r->df p.2.1 r=true) :
  iW P (E.up E1 S.nr A.next) kF (S.tm A.next g.bs vs) N a1/\Ev P base E A B ρ w (E.up E1 S.nr A.next) (S.back P g.bs g.fs vs rs A) B1 kF w1:=by
 have hle:E.le (E.up E1 S.nr A.next):=⟨fun b p e=>by rw [Env.LF (hk.ar.jM b p e)]; exact e,fun _ _ e=>e,fun b r e=>Ag.z b r e,fun b q e=>by rw [Env.C3 (hk.kL b q e)]; exact e⟩
 have alH:∀ (k b:Nat),g.bs[k]? = some b->E1.κ k=E.κ b:=fun k b hb=>by
  rw [Jn k (by rw [<- hG.Xy]; exact (cH.1 hb).1)];simp [Env.sub,hb]
 have fU:(BQ (o3 A g.bs S.rows (S.Ij A.next g.bs rs)) g.fs).next=A.next:=by rw [JK,Sz]
 have MW:∀ x,x < B.next->(∀ (k b:Nat),g.bs[k]? = some b->E.κ b≠some x)->¬ AT (S.mem P g.vs g.rs) (E.sub A g.bs g.fs S.nr) B x->B1.get x=B.get x:=fun x hx cI ha=>Ag.dL x hx (fun k e=>by
  simp only [Env.sub,cE] at e;obtain ⟨b,h1,e⟩:=e;exact cI k b h1 e) ha
 have X7:∀ f,f∈jB g.fs->∃ i:Nat,g.fs[i]? = some (some f)/\((∃ n sz,A.get f=some (.aO n sz))\/∃ v,A.get f=some (.arr v)):=by
  intro f hf;obtain ⟨i,hi⟩:=List.getElem?_of_mem (yI.1 hf);have bj:i < (S.lens P g.vs g.rs).length:=by rw [hG.lens,<- uA,<- hG.fs]; exact (cH.1 hi).1
  obtain ⟨fi,_,h2,h3⟩:=hG.fact (cK bj);rw [hi] at h2; simp at h2;rcases h3 with ⟨n,sz,_,⟨h3,_⟩ | ⟨f',h3,h4⟩⟩ | ⟨T,v,_,⟨h3,_⟩ | ⟨f',m,N,es,acc,h3,h4,_⟩⟩
  ·rw [h3] at h2; simp at h2
  ·rw [h3] at h2; simp at h2; subst h2; exact ⟨i,hi,.inl ⟨_,_,h4⟩⟩
  ·rw [h3] at h2; simp at h2
  ·rw [h3] at h2; simp at h2; subst h2; exact ⟨i,hi,.inr ⟨_,h4⟩⟩
 have anJ:∀ f v,f∈jB g.fs->A.get f=some v->(∃ n sz,v = .aO n sz)\/∃ u,v = .arr u:=by
  intro f v hf hv;obtain ⟨_,_,⟨n,sz,h1⟩ | ⟨u,h1⟩⟩:=X7 f hf
  ·rw [hv] at h1; simp at h1; exact .inl ⟨n,sz,h1⟩
  ·rw [hv] at h1; simp at h1; exact .inr ⟨u,h1⟩
 have hrk:Rk E1 (E.up E1 S.nr A.next) S.rows.length S.ids g.bs:=fun j x hj e=>by
  have bj:j < g.bs.length:=by rw [hG.Xy]; exact hj
  rw [fD,Ik S j hj,fv] at e;rw [fD,cK bj,fv];show E.κ _=some x;rw [<- alH j _ (cK bj)]; exact e
 have Vw:∀ (k b:Nat),g.bs[k]? = some b->∃ (p:Tmp×List CD×Nat) (r:List KV) (x:Nat) (bM:List Value),S.rows[k]? = some p/\rs[k]? = some r/\E.κ b=some x/\B1.get x=some (.row bM p.2.2 true none)/\aV P (E.up E1 S.nr A.next) (sf (Ck (A.next+n5 S.dC) S.rows k) g.bs p.2.1 r) bM/\
   (BQ (o3 A g.bs S.rows (S.Ij A.next g.bs rs)) g.fs).get b=some (.row (sf (Ck (A.next+n5 S.dC) S.rows k) g.bs p.2.1 r) p.2.2)/\b ∉ jB g.fs:=by
  intro k b hb;have bj:k < S.rows.length:=by rw [<- hG.Xy]; exact (cH.1 hb).1
  have hp:=cK bj;have hr:=cK (show k < rs.length by rw [Ou]; exact bj);obtain ⟨b',cs,q1,q2,_⟩:=hG.row hp;rw [hb] at q1; simp at q1; subst q1;obtain ⟨x,bM,h1,h2,h3⟩:=hs.row k _ _ (mem_row Ou hp hr);have hnf:b ∉ jB g.fs:=fun hf=>by
   rcases anJ b _ hf q2 with ⟨_,_,e⟩ | ⟨_,e⟩ <;> simp at e
  refine ⟨_,_,x,bM,hp,hr,by rw [<- alH k b hb]; exact h1,h2,?_,?_,hnf⟩
  ·have hws:Ud S.rows.length S.rows[k].2.1=true:=by
    obtain ⟨_,lW,_,_,Ld,hc0,_,_⟩:=hG.row hp;have:=SB hG.anI hp;rw [hc0] at this;exact Iq this Ld
   refine aV.Cl (E1:=E1) (E2:=E.up E1 S.nr A.next) rfl hrk h3 (hrg _ _ _ hp hr) hws fun m _=>⟨fun q e=>?_,fun q e=>?_⟩
   ·rw [Hw,show A.next+n5 S.dC+Ck 0 S.rows k+m=A.next+(n5 S.dC+Ck 0 S.rows k+m) by omega,Env.C2]
    rw [Hw,show S.nr+n5 S.dC+Ck 0 S.rows k+m=S.nr+(n5 S.dC+Ck 0 S.rows k+m) by omega] at e;exact e
   ·rw [Hw,show A.next+n5 S.dC+Ck 0 S.rows k+m=A.next+(n5 S.dC+Ck 0 S.rows k+m) by omega,Env.LD]
    rw [Hw,show S.nr+n5 S.dC+Ck 0 S.rows k+m=S.nr+(n5 S.dC+Ck 0 S.rows k+m) by omega] at e;exact e
  ·rw [Ek,aa hnf]
   exact afx hG.nodup hb hp (show (S.Ij A.next g.bs rs)[k]? = some _ from Qm hp hr)
 have alI:∀ (k b:Nat),g.bs[k]? = some b->∃ cs e,A.get b=some (.row cs e):=by
  intro k b hb;have bj:k < S.rows.length:=by rw [<- hG.Xy]; exact (cH.1 hb).1
  obtain ⟨b',cs,q1,q2,_⟩:=hG.row (cK bj);rw [hb] at q1; simp at q1; subst q1;exact ⟨_,_,q2⟩
 have ve:∀ b,b∈g.bs->∃ k:Nat,g.bs[k]? = some b:=fun b hb=>List.getElem?_of_mem hb;have Qo:∀ c q,(E.sub A g.bs g.fs S.nr).φ c=some q->∃ f n sz,f∈jB g.fs/\E.φ f=some q/\A.get f=some (.aO n sz):=by
  intro c q e;simp only [Env.sub] at e;split at e
  ·obtain ⟨f,h1,e⟩:=cE.1 e
   obtain ⟨f',h2,e⟩:=cE.1 e;subst h2;obtain ⟨e1,e2⟩:=Qn e;obtain ⟨n,sz,e3⟩:=afA e2;exact ⟨f',n,sz,yI.2 (gi h1),e1,e3⟩
  ·simp at e
 have hinv:∀ b o,(S.back P g.bs g.fs vs rs A).get b=some o->(b∈g.bs/\∃ cs e,o = .row cs e/\(BQ (o3 A g.bs S.rows (S.Ij A.next g.bs rs)) g.fs).get b=some (.row cs e))\/(b ∉ g.bs/\b ∉ jB g.fs/\A.get b=some o)\/(b∈jB g.fs/\o = .dead)\/∃ i q,b=A.next+i/\(S.lens P vs rs)[i]? = some q/\o=q:=by
  intro b o hb;rcases Ua hb with hb | ⟨i,q,h1,h2,h3⟩
  ·by_cases hbs:b∈g.bs
   ·obtain ⟨k,mD⟩:=ve b hbs
    obtain ⟨p,r,x,bM,h1,h2,h3,h4,h5,h6,h7⟩:=Vw k b mD;rw [h6] at hb; simp at hb;exact .inl ⟨hbs,_,_,hb.symm,h6⟩
   ·rw [Ek] at hb
    split at hb
    ·rename_i hf; simp at hb; exact .inr (.inr (.inl ⟨hf,hb.symm⟩))
    ·rename_i hf
     rw [JL hbs] at hb;exact .inr (.inl ⟨hbs,hf,hb⟩)
  ·rw [fU] at h1
   exact .inr (.inr (.inr ⟨i,q,h1,h2,h3⟩))
 have apj:∀ b,A.get b=some wg->(S.back P g.bs g.fs vs rs A).get b=some wg:=fun b hb=>by
  have bj:=hk.live b _ hb;rw [aJ.back,C0 (by rw [fU]; exact bj),Ek,aa,JL]
  ·exact hb
  ·intro e
   obtain ⟨k,mD⟩:=ve b e;obtain ⟨_,_,h6⟩:=alI k b mD;rw [hb] at h6;simp at h6
  ·intro e
   rcases anJ b _ e hb with ⟨_,_,e2⟩ | ⟨_,e2⟩ <;> simp at e2
 have hnewobj:∀ i q,(S.lens P vs rs)[i]? = some q->(S.mem P vs rs).get (S.nr+i)=some q:=fun i q hq=>Ue Ou hq;have ai4:∀ (i:Nat) (q:gU),(S.lens P vs rs)[i]? = some q->(∃ n sz,q=gU.aO n sz)\/∃ v,q=gU.arr v:=by
  have one:∀ (ds:List CD) (vs:List KV),∀ q∈oO P ds vs,(∃ n sz,q = .aO n sz)\/∃ v,q = .arr v:=by
   intro ds
   induction ds with
   | nil=>intro vs q hq; simp [oO] at hq
   | cons d ds ih=>
    intro vs q hq;cases vs with
    | nil=>cases d <;> simp [oO] at hq
    | cons v vs=>
     cases d <;> simp only [oO,de] at hq
     ·exact ih vs q hq
     ·exact ih vs q hq
     ·rcases hq with rfl | hq
      ·exact .inl ⟨_,_,rfl⟩
      ·exact ih vs q hq
     ·rcases hq with rfl | hq
      ·exact .inr ⟨_,rfl⟩
      ·exact ih vs q hq
     ·exact ih vs q hq
  have two:∀ (ps:List (Tmp×VD)) (vs:List KV),∀ q∈CZ P ps vs,(∃ n sz,q = .aO n sz)\/∃ v,q = .arr v:=by
   intro ps
   induction ps with
   | nil=>intro vs q hq; simp [CZ] at hq
   | cons p ps ih=>
    intro vs q hq;cases vs with
    | nil=>simp [CZ] at hq
    | cons v vs=>
     simp only [CZ,jJ] at hq;exact hq.elim (one _ _ q) (ih vs q)
  have three:∀ (ps:List (Tmp×List CD×Nat)) (rs:List (List KV)),∀ q∈Ej P ps rs,(∃ n sz,q = .aO n sz)\/∃ v,q = .arr v:=by
   intro ps
   induction ps with
   | nil=>intro vs q hq; simp [Ej] at hq
   | cons p ps ih=>
    intro vs q hq;cases vs with
    | nil=>simp [Ej] at hq
    | cons v vs=>
     simp only [Ej,jJ] at hq;exact hq.elim (one _ _ q) (ih vs q)
  intro i q hq;have:=gi hq;simp only [aJ.lens,jJ] at this;exact this.elim (two _ _ q) (three _ _ q)
 have rD:∀ b v,(S.back P g.bs g.fs vs rs A).get b=some (.arr v)->(b < A.next/\b ∉ jB g.fs/\A.get b=some (.arr v)/\(E.up E1 S.nr A.next).α b=E.α b)\/∃ i,b=A.next+i/\(S.mem P vs rs).get (S.nr+i)=some (.arr v)/\(E.up E1 S.nr A.next).α b=E1.α (S.nr+i):=by
  intro b v hb;rcases hinv b _ hb with ⟨_,_,_,e,_⟩ | ⟨_,Fh,h1⟩ | ⟨_,e⟩ | ⟨i,q,rfl,h2,e⟩
  ·simp at e
  ·exact .inl ⟨hk.live b _ h1,Fh,h1,Env.LF (hk.live b _ h1)⟩
  ·simp at e
  ·subst e; exact .inr ⟨i,rfl,Ue Ou h2,Env.LD⟩
 have anK:∀ {b v x L N},b ∉ jB g.fs->A.get b=some (.arr v)->E.α b=some (x,L,N)->¬ AR (S.mem P g.vs g.rs) (E.sub A g.bs g.fs S.nr) x:=by
  intro b v x L N Fh hb hx q;obtain ⟨f,u,L',N',h1,h2,h3⟩:=hG.AR q;have:=hk.ar.inj b f v u x L N L' N' hb h2 hx h3;subst this;exact Fh h1
 have apk:∀ {b v x L N},b ∉ jB g.fs->A.get b=some (.arr v)->E.α b=some (x,L,N)->¬ AT (S.mem P g.vs g.rs) (E.sub A g.bs g.fs S.nr) B x:=by
  intro b v x L N Fh hb hx q;rcases q with q | ⟨aO,q,hm⟩
  ·exact anK Fh hb hx q
  ·obtain ⟨f,u,y,L',N',cs,e,own,m,h1,h2,h3,h4⟩:=hG.AF q
   by_cases CI:x=y
   ·subst CI
    have:=hk.ar.inj b f v u x L N L' N' hb h2 hx h3;subst this;exact Fh h1
   ·exact ((hk.ar.vo f u y L' N' cs e own aO m h2 h3 h4).2.2 x hm CI).2.1 ⟨b,v,L,N,hb,hx⟩
 have LG:∀ {b v x L N},b ∉ jB g.fs->A.get b=some (.arr v)->E.α b=some (x,L,N)->B1.get x=B.get x:=by
  intro b v x L N Fh hb hx;exact MW x (hk.ar.eS b x L N hx) (fun k c _ e=>(hk.ar.z x ⟨b,v,L,N,hb,hx⟩).2 c e) (apk Fh hb hx)
 have alJ:∀ {i v x L N},(S.mem P vs rs).get (S.nr+i)=some (.arr v)->E1.α (S.nr+i)=some (x,L,N)->(∃ f u L' N',f∈jB g.fs/\A.get f=some (.arr u)/\E.α f=some (x,L',N'))\/B.next<=x:=by
  intro i v x L N h1 h2;rcases Ag.kr x ⟨_,v,L,N,h1,h2⟩ with q | q
  ·obtain ⟨f,u,L',N',q1,q2,q3⟩:=hG.AR q
   exact .inl ⟨f,u,L',N',q1,q2,q3⟩
  ·exact .inr q
 have alK:∀ x,AR (S.back P g.bs g.fs vs rs A) (E.up E1 S.nr A.next) x->AR A E x\/AR (S.mem P vs rs) E1 x:=by
  rintro x ⟨b,v,L,N,h1,h2⟩;rcases rD b v h1 with ⟨q1,q2,q3,q4⟩ | ⟨i,rfl,q2,q3⟩
  ·rw [q4] at h2; exact .inl ⟨b,v,L,N,q3,h2⟩
  ·rw [q3] at h2; exact .inr ⟨_,v,L,N,q2,h2⟩
 have alL:∀ q,AF (S.back P g.bs g.fs vs rs A) (E.up E1 S.nr A.next) B1 q->AF A E B q\/AF (S.mem P vs rs) E1 B1 q:=by
  rintro q ⟨b,v,x,L,N,cs,e,own,k,h1,h2,h3⟩;rcases rD b v h1 with ⟨q1,q2,q3,q4⟩ | ⟨i,rfl,q2,q3⟩
  ·rw [q4] at h2
   rw [LG q2 q3 h2] at h3;exact .inl ⟨b,v,x,L,N,cs,e,own,k,q3,h2,h3⟩
  ·rw [q3] at h2; exact .inr ⟨_,v,x,L,N,cs,e,own,k,q2,h2,h3⟩
 have adW:∀ x,AR (S.back P g.bs g.fs vs rs A) (E.up E1 S.nr A.next) x->AR A E x\/B.next<=x:=fun x q=>by
  rcases alK x q with q | q
  ·exact .inl q
  ·exact (Ag.kr x q).imp hG.ar id
 have ai5:∀ q,AF (S.back P g.bs g.fs vs rs A) (E.up E1 S.nr A.next) B1 q->AF A E B q\/B.next<=q:=fun x q=>by
  rcases alL x q with q | q
  ·exact .inl q
  ·exact (Ag.kM x q).imp hG.af id
 have alM:∀ x,x < B.next->E.z x=none->¬ AR (S.mem P g.vs g.rs) (E.sub A g.bs g.fs S.nr) x->E1.z x=none:=fun x hx h1 h2=>by
  cases hz:E1.z x with
  | none=>rfl
  | some r=>
   rcases Ag.tT x r hz with e | e | e
   ·have e:E.z x=some r:=e
    rw [h1] at e; simp at e
   ·exact (h2 e).elim
   ·omega
 have anL:∀ {b v x L N cs e own q k},b ∉ jB g.fs->A.get b=some (.arr v)->E.α b=some (x,L,N)->B.get x=some (.row cs e own (some (q,k)))->¬ AF (S.mem P g.vs g.rs) (E.sub A g.bs g.fs S.nr) B q:=by
  intro b v x L N cs e own q k Fh hb hx fk r;obtain ⟨f,u,y,L',N',bM,e',rb,m,h1,h2,h3,h4⟩:=hG.AF r;have:=hk.ar.wW b f v u x y L N L' N' cs e own q k bM e' rb m hb h2 hx h3 fk h4;subst this;exact Fh h1
 have rX:MB P (E.up E1 S.nr A.next) (S.back P g.bs g.fs vs rs A) B1:=by
  refine ⟨?_,?_,?_,?_,?_,?_,?_,?_,?_,?_⟩
  ·intro b v hb
   rcases rD b v hb with ⟨q1,q2,q3,q4⟩ | ⟨i,rfl,q2,q3⟩
   ·obtain ⟨T,N,es,acc,h1,h2,h3,h4⟩:=hk.ar.arr b v q3
    refine ⟨T,N,es,acc,h1,h2,h3,?_⟩;rcases h4 with ⟨h4,h5⟩ | ⟨x,cs,bL,bh,h4,h5,h6,h7⟩
    ·exact .inl ⟨h4,by rw [q4]; exact h5⟩
    ·exact .inr ⟨x,cs,bL,bh,by rw [q4]; exact h4,by rw [LG q2 q3 h4]; exact h5,h6.mono hle,h7⟩
   ·obtain ⟨T,N,es,acc,h1,h2,h3,h4⟩:=hs.ar.arr _ v q2
    refine ⟨T,N,es,acc,h1,h2,h3,?_⟩;rcases h4 with ⟨h4,h5⟩ | ⟨x,cs,bL,bh,h4,h5,h6,h7⟩
    ·exact .inl ⟨h4,by rw [q3]; exact h5⟩
    ·exact .inr ⟨x,cs,bL,bh,by rw [q3]; exact h4,h5,aV.zEs (E:=E1) (E0:=E.up E1 S.nr A.next) (.of rfl) h6 h2.typed,h7⟩
  ·intro b v hb
   rcases hinv b _ hb with ⟨_,_,_,e,_⟩ | ⟨_,_,h1⟩ | ⟨_,e⟩ | ⟨i,q,_,h2,e⟩
   ·simp at e
   ·obtain ⟨T,N,es,acc,h2,h3,h4,h5⟩:=hk.ar.iC b v h1
    have tS:(E.up E1 S.nr A.next).α b=E.α b:=Env.LF (hk.live b _ h1);refine ⟨T,N,es,acc,h2,h3,h4,?_⟩;rcases h5 with ⟨h5,h6⟩ | ⟨x,r,bh,h5,h6,h7,h8,h9⟩
    ·exact .inl ⟨h5,by rw [tS]; exact h6⟩
    ·exact .inr ⟨x,r,bh,by rw [tS]; exact h5,Ag.z x r h6,h7,h8.mono hle,h9⟩
   ·simp at e
   ·rcases ai4 i q h2 with ⟨_,_,e2⟩ | ⟨_,e2⟩ <;> rw [<- e] at e2 <;> simp at e2
  ·rintro x ⟨b,v,L,N,h1,h2⟩
   rcases rD b v h1 with ⟨q1,q2,q3,q4⟩ | ⟨i,rfl,q2,q3⟩
   ·rw [q4] at h2
    obtain ⟨h3,h4⟩:=hk.ar.z x ⟨b,v,L,N,q3,h2⟩;exact ⟨alM x (hk.ar.eS b x L N h2) h3 (anK q2 q3 h2),h4⟩
   ·rw [q3] at h2
    refine ⟨(hs.ar.z x ⟨_,v,L,N,q2,h2⟩).1,fun c e=>?_⟩;rcases Ag.kr x ⟨_,v,L,N,q2,h2⟩ with q | q
    ·exact (hk.ar.z x (hG.ar q)).2 c e
    ·have:=hk.eS c x e; omega
  ·intro b c v u x L N L' N' hb hc e1 e2
   have H0:∀ {b v c u L N L' N'},b ∉ jB g.fs->A.get b=some (.arr v)->E.α b=some (x,L,N)->(S.mem P vs rs).get (S.nr+c)=some (.arr u)->E1.α (S.nr+c)=some (x,L',N')->False:=by
    intro b v c u L N L' N' h1 h2 h3 h4 h5;rcases alJ h4 h5 with ⟨f,u',L2,N2,k1,k2,k3⟩ | k
    ·have:=hk.ar.inj b f v u' x L N L2 N2 h2 k2 h3 k3
     subst this;exact h1 k1
    ·have:=hk.ar.eS b x L N h3; omega
   rcases rD b v hb with ⟨q1,q2,q3,q4⟩ | ⟨i,rfl,q2,q3⟩ <;> rcases rD c u hc with ⟨r1,r2,r3,r4⟩ | ⟨j,rfl,r2,r3⟩
   ·rw [q4] at e1; rw [r4] at e2
    exact hk.ar.inj b c v u x L N L' N' q3 r3 e1 e2
   ·rw [q4] at e1; rw [r3] at e2
    exact (H0 q2 q3 e1 r2 e2).elim
   ·rw [q3] at e1; rw [r4] at e2
    exact (H0 r2 r3 e2 q2 e1).elim
   ·rw [q3] at e1; rw [r3] at e2
    have:=hs.ar.inj _ _ v u x L N L' N' q2 r2 e1 e2;omega
  ·intro b c v u x y L N L' N' cs e own q k bM e' rb k' hb hc e1 e2 w1 w2
   have H0:∀ {b v c u x y L N L' N' cs e own k bM e' rb k'},b ∉ jB g.fs->A.get b=some (.arr v)->E.α b=some (x,L,N)->(S.mem P vs rs).get (S.nr+c)=some (.arr u)->E1.α (S.nr+c)=some (y,L',N')->B1.get x=some (.row cs e own (some (q,k)))->B1.get y=some (.row bM e' rb (some (q,k')))->False:=by
    intro b v c u x y L N L' N' cs e own k bM e' rb k' h1 h2 h3 h4 h5 w1 w2;rw [LG h1 h2 h3] at w1;rcases Ag.kM q ⟨_,u,y,L',N',bM,e',rb,k',h4,h5,w2⟩ with r | r
    ·exact anL h1 h2 h3 w1 r
    ·have:=(hk.ar.vo b v x L N cs e own q k h2 h3 w1).1; omega
   rcases rD b v hb with ⟨q1,q2,q3,q4⟩ | ⟨i,rfl,q2,q3⟩ <;> rcases rD c u hc with ⟨r1,r2,r3,r4⟩ | ⟨j,rfl,r2,r3⟩
   ·rw [q4] at e1; rw [r4] at e2
    rw [LG q2 q3 e1] at w1; rw [LG r2 r3 e2] at w2;exact hk.ar.wW b c v u x y L N L' N' cs e own q k bM e' rb k' q3 r3 e1 e2 w1 w2
   ·rw [q4] at e1; rw [r3] at e2
    exact (H0 q2 q3 e1 r2 e2 w1 w2).elim
   ·rw [q3] at e1; rw [r4] at e2
    exact (H0 r2 r3 e2 q2 e1 w2 w1).elim
   ·rw [q3] at e1; rw [r3] at e2
    have:=hs.ar.wW _ _ v u x y L N L' N' cs e own q k bM e' rb k' q2 r2 e1 e2 w1 w2;omega
  ·intro b x hb
   have hb:E.κ b=some x:=hb;rw [Env.LF (hk.jM b x hb)];exact hk.ar.ZA b x hb
  ·intro b p hb
   rw [aJ.back,fJ,fU];by_cases h1:b < A.next
   ·omega
   ·obtain ⟨i,rfl⟩:=Nat.exists_eq_add_of_le (Nat.le_of_not_lt h1)
    rw [Env.LD] at hb;have:=hs.ar.jM _ _ hb;rw [aJ.mem,fJ,pe Ou] at this;omega
  ·intro b x L N hb
   by_cases h1:b < A.next
   ·rw [Env.LF h1] at hb
    have:=hk.ar.eS b x L N hb; have:=Ag.eE.next; omega
   ·obtain ⟨i,rfl⟩:=Nat.exists_eq_add_of_le (Nat.le_of_not_lt h1)
    rw [Env.LD] at hb;exact hs.ar.eS _ _ _ _ hb
  ·intro b v x L N cs e own q k hb hx fk
   rcases rD b v hb with ⟨q1,q2,q3,q4⟩ | ⟨i,rfl,q2,q3⟩
   ·rw [q4] at hx
    have ahw:=fk;rw [LG q2 q3 hx] at ahw;obtain ⟨h1,h2,h3⟩:=hk.ar.vo b v x L N cs e own q k q3 hx ahw;have hm:B1.members q=B.members q:=Ag.oK q h1 (fun c e=>by
     obtain ⟨f',_,_,_,k2,_⟩:=Qo c q e;exact h2 f' k2) (anL q2 q3 hx ahw)
    refine ⟨by have:=Ag.eE.next; omega,fun f e=>?_,fun y hy cI=>?_⟩
    ·by_cases hf:f < A.next
     ·rw [Env.C3 hf] at e; exact h2 f e
     ·obtain ⟨j,rfl⟩:=Nat.exists_eq_add_of_le (Nat.le_of_not_lt hf)
      rw [Env.C2] at e;rcases Ag.rZ _ _ e with ⟨c,e⟩ | e
      ·obtain ⟨f',_,_,_,k2,_⟩:=Qo c q e
       exact h2 f' k2
      ·omega
    ·rw [hm] at hy
     obtain ⟨h4,h5,h6⟩:=h3 y hy cI;have bj:=hk.mem q y hy;refine ⟨alM y bj h4 fun r=>h5 (hG.ar r),fun r=>?_,h6⟩;rcases adW y r with r | r
     ·exact h5 r
     ·omega
   ·rw [q3] at hx
    obtain ⟨h1,h2,h3⟩:=hs.ar.vo _ v x L N cs e own q k q2 hx fk;have vg:=Ag.kM q ⟨_,v,x,L,N,cs,e,own,k,q2,hx,fk⟩;refine ⟨h1,fun f e=>?_,fun y hy cI=>?_⟩
    ·by_cases hf:f < A.next
     ·rw [Env.C3 hf] at e
      rcases vg with r | r
      ·obtain ⟨f0,u,x0,L0,N0,lW,e0,alN,m,k1,k2,k3,k4⟩:=hG.AF r
       exact (hk.ar.vo f0 u x0 L0 N0 lW e0 alN q m k2 k3 k4).2.1 f e
      ·have:=hk.il f q e; omega
     ·obtain ⟨j,rfl⟩:=Nat.exists_eq_add_of_le (Nat.le_of_not_lt hf)
      rw [Env.C2] at e;exact h2 _ e
    ·obtain ⟨h4,h5,h6⟩:=h3 y hy cI
     have CU:y∈B.members q->(∀ c,c ∉ jB g.fs->∀ v' L' N',A.get c=some (.arr v')->E.α c≠some (y,L',N'))/\∀ c,E.κ c≠some y:=by
      intro hm;rcases vg with r | r
      ·obtain ⟨f0,u,x0,L0,N0,lW,e0,alN,m,k1,k2,k3,k4⟩:=hG.AF r
       by_cases hy0:y=x0
       ·subst hy0
        refine ⟨fun c hc v' L' N' p1 p2=>?_,(hk.ar.z y ⟨f0,u,L0,N0,k2,k3⟩).2⟩;have:=hk.ar.inj c f0 v' u y L' N' L0 N0 p1 k2 p2 k3;subst this;exact hc k1
       ·obtain ⟨_,p5,p6⟩:=(hk.ar.vo f0 u x0 L0 N0 lW e0 alN q m k2 k3 k4).2.2 y hm hy0
        exact ⟨fun c _ v' L' N' p1 p2=>p5 ⟨c,v',L',N',p1,p2⟩,p6⟩
      ·rw [hk.fresh q r] at hm; simp at hm
     refine ⟨h4,?_,fun c e=>?_⟩
     ·rintro ⟨c,v',L',N',r1,r2⟩
      rcases rD c v' r1 with ⟨p1,p2,p3,p4⟩ | ⟨j,rfl,p2,p3⟩
      ·rw [p4] at r2
       rcases Ag.vp q y hy with hm | hm
       ·exact (CU hm).1 c p2 v' L' N' p3 r2
       ·have:=hk.ar.eS c y L' N' r2; omega
      ·rw [p3] at r2
       exact h5 ⟨_,v',L',N',p2,r2⟩
     ·have e:E.κ c=some y:=e
      rcases Ag.vp q y hy with hm | hm
      ·exact (CU hm).2 c e
      ·have:=hk.eS c y e; omega
  ·intro b v hb
   rw [aJ.back,fJ,fU];rcases rD b v hb with ⟨q1,q2,q3,q4⟩ | ⟨i,rfl,q2,q3⟩
   ·obtain ⟨k1,k2⟩:=hk.ar.nk b v q3
    exact ⟨by omega,k2⟩
   ·refine ⟨?_,?_⟩
    ·have:=hs.live _ _ q2
     rw [aJ.mem,fJ,pe Ou] at this;omega
    ·show E.κ (A.next+i)=none
     cases hq:E.κ (A.next+i) with
     | none=>rfl
     | some x=>have:=hk.jM _ x hq; omega
 refine ⟨?_,⟨⟨?_,?_,hs.z,?_,hk.inj,?_,?_,?_,?_,?_,hs.lD,?_,hs.fresh,hs.mem,?_⟩,Ag.eE,hle,?_,?_,fun _ _ e=>.inl e,?_,?_,?_,?_,?_,Ag.vp,?_,Ag.rows,apj⟩⟩
 ·have hro:=acA (P:=P) (E1:=E1) (E2:=E.up E1 S.nr A.next) (i:=S.nr) (j:=A.next) rfl hrk hv (ai3 hG.alD (hG.vs ▸ hG.dC)) fun m _=>⟨fun q e=>by rw [Env.C2]; exact e,fun q e=>by rw [Env.LD]; exact e⟩
  refine iW.alG ht (ua.append hro (ua.append (afD fun p hp hip x e=>?_) (afE hro)));obtain ⟨b,_,h2⟩:=(JO hG.T6 p hp).1 hip;have bj:p.2.1 < S.rows.length:=by rw [<- hG.Xy]; exact (cH.1 h2).1
  rw [fD,Ik S _ bj] at e;rw [fD,h2];have e:E1.κ p.2.1=some x:=e;rw [alH _ _ h2] at e;exact e
 ·intro b cs bm hb
  rcases hinv b _ hb with ⟨hbs,_,_,e,h1⟩ | ⟨hbs,_,h1⟩ | ⟨_,e⟩ | ⟨i,q,_,hq,e⟩
  ·obtain ⟨k,mD⟩:=ve b hbs
   obtain ⟨p,r,x,bM,q1,q2,q3,q4,q5,q6,q7⟩:=Vw k b mD;rw [h1] at q6;simp only [gU.row.injEq] at e;obtain ⟨rfl,rfl⟩:=e;simp only [bN,gU.row.injEq] at q6;obtain ⟨rfl,rfl⟩:=q6;exact ⟨x,bM,q3,q4,q5⟩
  ·obtain ⟨x,c,q1,q2,q3⟩:=hk.row b cs bm h1
   refine ⟨x,c,q1,?_,q3.mono hle⟩;rw [MW x (hk.eS b x q1) (fun k b' Uf e=>?_) fun q=>hk.anA q1 (hG.at q)]
   ·exact q2
   ·have:=hk.inj _ _ _ q1 e
    subst this;exact hbs (gi Uf)
  ·simp at e
  ·rcases ai4 i q hq with ⟨_,_,e2⟩ | ⟨_,e2⟩ <;> rw [<- e] at e2 <;> simp at e2
 ·intro b top sz hb
  rcases hinv b _ hb with ⟨_,_,_,e,_⟩ | ⟨hbs,Fh,h1⟩ | ⟨_,e⟩ | ⟨i,q,rfl,h2,e⟩
  ·simp at e
  ·rcases hk.aO b top sz h1 with ⟨h2,h3⟩ | ⟨q,h2,h3,h4⟩
   ·exact .inl ⟨h2,by rw [Env.C3 (hk.live b _ h1)]; exact h3⟩
   ·have hq:=hk.il b q h2
    refine .inr ⟨q,by rw [Env.C3 (hk.live b _ h1)]; exact h2,h3,fun x hx cs e own f k fk=>?_⟩;have hmq:B1.members q=B.members q:=Ag.oK q hq (fun c e=>by
     obtain ⟨f',_,_,h5,h6,h7⟩:=Qo c q e;have:=hk.gD b f' q _ _ _ _ h1 h7 h2 h6;subst this;exact Fh h5) fun k=>by
      obtain ⟨c,v,y,L,N,cs,e,own,m,h5,h6,h7⟩:=hG.af k;exact (hk.ar.vo c v y L N cs e own q m h5 h6 h7).2.1 b h2
    rw [hmq] at hx;obtain ⟨lW,q1,q2⟩:=Ag.rows x (hk.mem q x hx) _ _ _ _ fk;obtain ⟨q3,q4⟩:=h4 x hx lW e own f k q1;exact ⟨q3,by rw [<- q2]; exact q4⟩
  ·simp at e
  ·subst e
   have:=hs.aO _ _ _ (Ue Ou h2);rw [Env.C2];exact this
 ·intro b x hb
  have hx:=hk.eS b x hb;show E1.z x=none;cases hz:E1.z x with
  | none=>rfl
  | some r=>
   rcases Ag.tT x r hz with e | e | e
   ·have e:E.z x=some r:=e
    rw [hk.apart b x hb] at e; simp at e
   ·exact absurd hb ((hk.ar.z x (hG.ar e)).2 b)
   ·omega
 ·intro b c q tb sb tc sc hb hc e1 e2
  have key:∀ {b tb sb},(S.back P g.bs g.fs vs rs A).get b=some (.aO tb sb)->(b < A.next/\b ∉ jB g.fs/\A.get b=some (.aO tb sb))\/∃ i,b=A.next+i/\(S.mem P vs rs).get (S.nr+i)=some (.aO tb sb):=by
   intro b tb sb hb;rcases hinv b _ hb with ⟨_,_,_,e,_⟩ | ⟨_,Fh,h1⟩ | ⟨_,e⟩ | ⟨i,q,rfl,h2,e⟩
   ·simp at e
   ·exact .inl ⟨hk.live b _ h1,Fh,h1⟩
   ·simp at e
   ·subst e
    exact .inr ⟨i,rfl,Ue Ou h2⟩
  have H0:∀ {b c tb sb i},b < A.next->b ∉ jB g.fs->A.get b=some (.aO tb sb)->c=A.next+i->E.φ b=some q->E1.φ (S.nr+i)=some q->False:=by
   intro b c tb sb i _ h2 h3 _ h5 h6;rcases Ag.rZ _ _ h6 with ⟨c',e⟩ | e
   ·obtain ⟨f',_,_,k1,k2,k3⟩:=Qo c' q e
    have:=hk.gD b f' q _ _ _ _ h3 k3 h5 k2;subst this;exact h2 k1
   ·have:=hk.il b q h5; omega
  rcases key hb with ⟨h1,h2,h3⟩ | ⟨i,rfl,h2⟩ <;> rcases key hc with ⟨k1,k2,k3⟩ | ⟨j,rfl,k2⟩
  ·rw [Env.C3 h1] at e1; rw [Env.C3 k1] at e2
   exact hk.gD b c q _ _ _ _ h3 k3 e1 e2
  ·rw [Env.C3 h1] at e1; rw [Env.C2] at e2
   exact (H0 h1 h2 h3 rfl e1 e2).elim
  ·rw [Env.C2] at e1; rw [Env.C3 k1] at e2
   exact (H0 k1 k2 k3 rfl e2 e1).elim
  ·rw [Env.C2] at e1 e2
   have:=hs.gD _ _ q _ _ _ _ h2 k2 e1 e2;omega
 ·intro b x hb; have h1:=hk.jM b x hb; rw [aJ.back,fJ,fU]; omega
 ·intro b q hb
  rw [aJ.back,fJ,fU];by_cases h1:b < A.next
  ·omega
  ·obtain ⟨i,rfl⟩:=Nat.exists_eq_add_of_le (Nat.le_of_not_lt h1)
   rw [Env.C2] at hb;have:=hs.kL _ _ hb;rw [aJ.mem,fJ,pe Ou] at this;omega
 ·intro b o hb
  rw [aJ.back,fJ,fU];rcases hinv b _ hb with ⟨hbs,_⟩ | ⟨_,_,h1⟩ | ⟨h1,_⟩ | ⟨i,q,rfl,h2,_⟩
  ·obtain ⟨k,mD⟩:=ve b hbs
   obtain ⟨p,r,x,bM,_,_,h3,_⟩:=Vw k b mD;have:=hk.jM b x h3; omega
  ·have:=hk.live b _ h1; omega
  ·obtain ⟨_,_,⟨_,_,h3⟩ | ⟨_,h3⟩⟩:=X7 b h1
   ·have:=hk.live b _ h3; omega
   ·have:=hk.live b _ h3; omega
  ·have:=(cH.1 h2).1; omega
 ·intro b x hb; have:=hk.eS b x hb; have:=Ag.eE.next; omega
 ·intro b q hb
  by_cases h1:b < A.next
  ·rw [Env.C3 h1] at hb
   have:=hk.il b q hb; have:=Ag.eE.next; omega
  ·obtain ⟨i,rfl⟩:=Nat.exists_eq_add_of_le (Nat.le_of_not_lt h1)
   rw [Env.C2] at hb;exact hs.il _ _ hb
 ·exact rX
 ·rw [aJ.back,fJ,fU]; omega
 ·intro x hx cI hna
  exact MW x hx (fun k b hb e=>by
   obtain ⟨_,_,h6⟩:=alI k b hb;rw [cI b e] at h6;simp at h6) fun q=>hna (hG.at q)
 ·intro b r e
  exact (Ag.tT b r e).imp id (fun e=>e.imp hG.ar id)
 ·intro b q hb
  by_cases h1:b < A.next
  ·rw [Env.C3 h1] at hb; exact .inl ⟨b,hb⟩
  ·obtain ⟨i,rfl⟩:=Nat.exists_eq_add_of_le (Nat.le_of_not_lt h1)
   rw [Env.C2] at hb;rcases Ag.rZ _ _ hb with ⟨c,e⟩ | e
   ·obtain ⟨f',_,_,_,k2,_⟩:=Qo c q e
    exact .inl ⟨f',k2⟩
   ·exact .inr e
 ·intro q hq cI hna
  refine Ag.oK q hq (fun c e=>?_) fun k=>hna (hG.af k);obtain ⟨f',_,_,_,k2,_⟩:=Qo c q e;exact cI f' k2
 ·exact adW
 ·exact ai5
 ·rintro y (q | ⟨q,h1,h2⟩)
  ·exact (adW y q).imp .inl id
  ·rcases Ag.vp q y h2 with h2 | h2
   ·rcases ai5 q h1 with h1 | h1
    ·exact .inl (.inr ⟨q,h1,h2⟩)
    ·rw [hk.fresh q h1] at h2; simp at h2
   ·exact .inr h2
theorem restore {S:aJ} {t:bd} {A:ae} {B B1:St} {g:GR} {ρ kF:Ren} {base N:Nat} {w w1:World} {a1:Act} {vs:List KV} {rs:List (List KV)} {E1:Env} (hG:dq P S t A g) (hk:dr P E A B)
  (ht:iW P E1 kF (S.tm S.nr S.ids vs) N a1) (hs:dr P E1 (S.mem P vs rs) B1) (Ag:Co base (E.sub A g.bs g.fs S.nr) (S.mem P g.vs g.rs) B ρ w E1 (S.mem P vs rs) B1 kF w1) (Jn:∀ k,k < S.rows.length->E1.κ k=(E.sub A g.bs g.fs S.nr).κ k)
  (hv:eL S.dC vs=true) (Ou:rs.length=S.rows.length) (hrg:∀ (k:Nat) p r,S.rows[k]? = some p->rs[k]? = some r->df p.2.1 r=true) :
  ∃ E',iW P E' kF (S.tm A.next g.bs vs) N a1/\Ev P base E A B ρ w E' (S.back P g.bs g.fs vs rs A) B1 kF w1:=⟨_,acB hG hk ht hs Ag Jn hv Ou hrg⟩
end Go.K
end
