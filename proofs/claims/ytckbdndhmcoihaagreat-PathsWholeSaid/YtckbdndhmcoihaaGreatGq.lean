/- Part of the proof of PathsWhole: the machine, shown to be the model's, and plain models. No conditions. -/
import Derived.ScopeJumps
import Derived.Test.YtckbdndhmcoihaaGreatFq
import Derived.LoopN
set_option linter.unusedSimpArgs false
set_option linter.unusedVariables false
section
namespace Go.K
open Go Go.aA
variable {P:Program} {E:Env}
inductive Sub (root:Code):Nat->Code->Prop where
 | root:Sub root 1 root
 | alv {p:Nat} {a b:Code} : Sub root p (.seq a b)->Sub root (2 * p) a
 | afC {p:Nat} {a b:Code} : Sub root p (.seq a b)->Sub root (2 * p+1) b
 | aiX {p:Nat} {c:Operand} {a b:Code} : Sub root p (.cond c a b)->Sub root (2 * p) a
 | aiY {p:Nat} {c:Operand} {a b:Code} : Sub root p (.cond c a b)->Sub root (2 * p+1) b
 | block {p id:Nat} {a:Code} : Sub root p (.block id a)->Sub root (2 * p) a
 | loop {p:Nat} {a:Code} : Sub root p (.loop a)->Sub root (2 * p) a
 | scope {p:Nat} {a:Code} : Sub root p (.scope a)->Sub root (2 * p) a
def Va (P:Program) (N:Nat) {R:Type} (c:Code) (f:KE R->bI->ai->Option R):Prop:=
 ∀ (k:KE R) (r:R) (t:bI) (A:ai) (E:Env) (B:St) (ρ:Ren) (base:Nat) (a:Act) (w:World) (Q:Exit->Act->World->Prop),f k t A=some r->jD P E ρ t N a->KJ P E A B ρ base w->
  (∀ e t' E' A' B' ak a' w',k e t' A' = some r->jD P E' ak t' N a'->a'.defers=a.defers->Ev P base E A B ρ w E' A' B' ak w'->Q e.out a' w')->c.wp P Q a w
def Ke (P:Program) (N:Nat) (body:Code) (F:bI->ai->p0):Prop:=∀ (R:Type) (k:KE R) (r:R) (t:bI) (A:ai) (E:Env) (B:St) (ρ:Ren) (base:Nat) (a:Act) (w:World) (Q:Exit->Act->World->Prop),Mu F k t A=some r->jD P E ρ t N a->KJ P E A B ρ base w->
  (∀ e t' E' A' B' ak a' w',k e t' A' = some r->jD P E' ak t' N a'->a'.defers=a.defers->Ev P base E A B ρ w E' A' B' ak w'->Q e.out a' w')->Code.rounds P body Q hX a w
theorem OV {c:Code} {Q:Exit->Act->World->Prop} (k:Nat):∀ {n:Nat} {a:Act} {w:World},Code.rounds P c Q n a w->Code.rounds P c Q (n+k) a w
 | 0,_,_,h=>h.elim
 | n+1,a,w,h=>by
  rw [show n+1+k=n+k+1 by omega,rounds_succ];rw [rounds_succ] at h;exact Code.wp_mono (fun e a w q=>by cases e <;> first | exact OV k q | exact q) h
def pr (P:Program) (l:Nat) (c:Code) (Q:Exit->Act->World->Prop):Nat->Act->World->Prop
 | 0,_,_=>False
 | m+1,a,w=>c.wp P (Exit.jump l (pr P l c Q m) Q) a w
def Vb (P:Program) (N:Nat) (l:Nat) (rest:Code) (F:bI->ai->p0):Prop:=∀ (R:Type) (k:KE R) (r:R) (t:bI) (A:ai) (E:Env) (B:St) (ρ:Ren) (base:Nat) (a:Act) (w:World) (Q:Exit->Act->World->Prop),p0.run (QB k) (F t A)=some r->jD P E ρ t N a->KJ P E A B ρ base w->
  (∀ e t' E' A' B' ak a' w',k e t' A' = some r->jD P E' ak t' N a'->a'.defers=a.defers->Ev P base E A B ρ w E' A' B' ak w'->Q e.out a' w')->∃ m,pr P l rest Q m a w
theorem XV {p:Nat->Prop} : ∀ n,p n->∃ m,p m/\∀ k,p k->m<=k
 | 0,h=>⟨0,h,fun _ _=>mf _⟩
 | n+1,h=>by
  by_cases hk:∃ k,k<=n/\p k
  ·obtain ⟨k,oj,KD⟩:=hk
   have key:∀ b k,k<=b->p k->∃ m,p m/\∀ k,p k->m<=k:=by
    intro b
    induction b with
    | zero=>intro k h1 h2; exact ⟨k,h2,fun _ _=>by omega⟩
    | succ b ih=>
     intro k h1 h2;by_cases hx:∃ k',k'<=b/\p k'
     ·obtain ⟨k',x1,x2⟩:=hx; exact ih k' x1 x2
     ·exact ⟨k,h2,fun q hq=>by
       by_cases hqb:q<=b
       ·exact absurd ⟨q,hqb,hq⟩ hx
       ·omega⟩
   exact key n k oj KD
  ·exact ⟨n+1,h,fun k hp=>by
    by_cases hkn:k<=n
    ·exact absurd ⟨k,hkn,hp⟩ hk
    ·omega⟩
open Classical in
noncomputable def OW (p:Nat->Prop):Nat:=if h:∃ n,p n then (XV h.choose h.choose_spec).choose else 0
theorem OX {p:Nat->Prop} {n:Nat} (h:p n):p (OW p)/\OW p<=n:=by
 have hx:∃ n,p n:=⟨n,h⟩
 unfold OW;rw [dif_pos hx];have:=(XV hx.choose hx.choose_spec).choose_spec;exact ⟨this.1,this.2 n h⟩
theorem ZK {c rest:Code} {l:Nat} {Q:Exit->Act->World->Prop} {a:Act} {w:World} (hf:findLabel c l=some rest) (h:c.wp P (Exit.jump l (fun a w=>∃ m,pr P l rest Q m a w) Q) a w):(Code.scope c).wp P Q a w:=by
 refine wp_scope_jumps l (fun a w=>∃ m,pr P l rest Q m a w) (fun a w=>OW fun m=>pr P l rest Q m a w) hf h fun a w ⟨n,hn⟩=>?_;have hm:=(OX (p:=fun m=>pr P l rest Q m a w) hn).1;generalize (OW fun m=>pr P l rest Q m a w)=m at hm ⊢;cases m with
 | zero=>exact hm.elim
 | succ m=>
  refine Code.wp_mono (fun e a' w' q=>?_) hm;cases e with
  | goto l'=>
   obtain ⟨rfl,q⟩:=q;exact ⟨rfl,⟨m,q⟩,Nat.lt_succ_of_le (OX (p:=fun m=>pr P _ rest Q m a' w') q).2⟩
  | normal=>exact q
  | exit id=>exact q
  | ret=>exact q
  | panic ch=>exact q
  | outgrown=>exact q
def afD (P:Program) (cfg:gf) (f:FuncId) (root:Code):Prop:=(∀ p F body,cfg.lp f p=some F->Sub root p (.loop body)->∀ N,codeOk N body=true->Ke P N body F)/\
 ∀ p F c,cfg.lp f p=some F->Sub root p (.scope c)->∀ N,codeOk N c=true->∀ l,Dc c=some l->∃ rest,findLabel c l=some rest/\Vb P N l rest F
section
variable {R:Type} {cfg:gf} {cT:rm R} {L:Nat} {f:FuncId}
theorem OY {N:Nat} {c:Code} {g:KE R->bI->ai->Option R} (hg:Va P N c g):∀ (n:Nat) (k:KE R) (r:R) (t:bI) (A:ai) (E:Env) (B:St) (ρ:Ren) (base:Nat) (a:Act) (w:World) (Q:Exit->Act->World->Prop),QA g k n t A=some r->jD P E ρ t N a->KJ P E A B ρ base w->
  (∀ e t' E' A' B' ak a' w',k e t' A' = some r->jD P E' ak t' N a'->a'.defers=a.defers->Ev P base E A B ρ w E' A' B' ak w'->Q e.out a' w')->Code.rounds P c Q n a w
 | 0,k,r,t,A,E,B,ρ,base,a,w,Q,h,ht,hj,hq=>by exact absurd h (by simp [QA])
 | n+1,k,r,t,A,E,B,ρ,base,a,w,Q,h,ht,hj,hq=>by
  rw [rounds_succ];have h:g (Mt k (QA g k n)) t A=some r:=h;refine hg _ r t A E B ρ base a w _ h ht hj fun e t' E' A' B' ak a' w' h1 h2 h3 h4=>?_;cases e with
  | normal=>
   have h1:QA g k n t' A' = some r:=h1;exact OY hg n k r t' A' E' B' ak base a' w' Q h1 h2 h4.kj fun e t'' IZ ZH I0 mF BM xZ q1 q2 q3 q4=>hq e t'' IZ ZH I0 mF BM xZ q1 q2 (q3.trans h3) (h4.trans q4)
  | exit id=>exact hq (.exit id) t' E' A' B' ak a' w' h1 h2 h3 h4
  | goto l=>exact hq (.goto l) t' E' A' B' ak a' w' h1 h2 h3 h4
  | ret=>exact hq .ret t' E' A' B' ak a' w' h1 h2 h3 h4
theorem OZ {N:Nat} {c:Code} {g:KE R->bI->ai->Option R} {F:bI->ai->p0} (hg:Va P N c g) (hF:Ke P N c F):∀ (n:Nat) (k:KE R) (r:R) (t:bI) (A:ai) (E:Env) (B:St) (ρ:Ren) (base:Nat) (a:Act) (w:World) (Q:Exit->Act->World->Prop),QC g F k n t A=some r->jD P E ρ t N a->KJ P E A B ρ base w->
  (∀ e t' E' A' B' ak a' w',k e t' A' = some r->jD P E' ak t' N a'->a'.defers=a.defers->Ev P base E A B ρ w E' A' B' ak w'->Q e.out a' w')->Code.rounds P c Q (hX+n) a w
 | 0,k,r,t,A,E,B,ρ,base,a,w,Q,h,ht,hj,hq=>hF R k r t A E B ρ base a w Q h ht hj hq
 | n+1,k,r,t,A,E,B,ρ,base,a,w,Q,h,ht,hj,hq=>by
  have h:Bool.rec (motive:=fun _=>Option R) (Mu F k t A) (g (Mt k (QC g F k n)) t A) (Zh (F t A))=some r:=h;cases ho:Zh (F t A) with
  | false=>
   rw [ho] at h;exact OV (n+1) (hF R k r t A E B ρ base a w Q h ht hj hq)
  | true=>
   rw [ho] at h;have h:g (Mt k (QC g F k n)) t A=some r:=h;rw [show hX+(n+1)=hX+n+1 by omega,rounds_succ];refine hg _ r t A E B ρ base a w _ h ht hj fun e t' E' A' B' ak a' w' h1 h2 h3 h4=>?_;cases e with
   | normal=>
    have h1:QC g F k n t' A' = some r:=h1;exact OZ hg hF n k r t' A' E' B' ak base a' w' Q h1 h2 h4.kj fun e t'' IZ ZH I0 mF BM xZ q1 q2 q3 q4=>hq e t'' IZ ZH I0 mF BM xZ q1 q2 (q3.trans h3) (h4.trans q4)
   | exit id=>exact hq (.exit id) t' E' A' B' ak a' w' h1 h2 h3 h4
   | goto l=>exact hq (.goto l) t' E' A' B' ak a' w' h1 h2 h3 h4
   | ret=>exact hq .ret t' E' A' B' ak a' w' h1 h2 h3 h4
theorem gu (e8:oW P cfg.pc) (vf:IX P cT) (hm:P.follows .mixedOrders=true) {root:Code} (gH:afD P cfg f root) {N:Nat} : ∀ (c:Code) (p:Nat),Sub root p c->codeOk N c=true->Va P N c (lQ P cfg cT L f c p)
 | .skip,p,_,_=>by
  intro k r t A E B ρ base a w Q h ht hj hq;exact wp_skip (hq .normal t E A B ρ a w h ht rfl (.refl hj.k hj.s))
 | .ret,p,_,_=>by
  intro k r t A E B ρ base a w Q h ht hj hq;exact wp_ret (hq .ret t E A B ρ a w h ht rfl (.refl hj.k hj.s))
 | .exit id,p,_,_=>by
  intro k r t A E B ρ base a w Q h ht hj hq;exact wp_exit (hq (.exit id) t E A B ρ a w h ht rfl (.refl hj.k hj.s))
 | .label l,p,_,_=>by
  intro k r t A E B ρ base a w Q h ht hj hq;exact wp_label (hq .normal t E A B ρ a w h ht rfl (.refl hj.k hj.s))
 | .goto l,p,_,_=>by
  intro k r t A E B ρ base a w Q h ht hj hq;exact wp_goto (hq (.goto l) t E A B ρ a w h ht rfl (.refl hj.k hj.s))
 | .region id ops false,p,_,hc=>by
  intro k r t A E B ρ base a w Q h ht hj hq;have h:RO P cfg cT ops.toList (fun t A=>k .normal t A) ops.toList t A=some r:=h;refine wp_region ?_;have:=IY (Q:=Q) (base:=base) e8 vf (N:=N) (all:=ops.toList) hc ops.toList 0 t E A B ρ a w (by simp) h ht hj fun t' E' A' B' ak a' w' h1 h2 h3 h4=>hq .normal t' E' A' B' ak a' w' h1 h2 h3 h4;rw [List.range_eq_range'];simpa using this
 | .region id ops true,p,_,hc=>by
  intro k r t A E B ρ base a w Q h ht hj hq;have h:Uu P cfg cT ops.toList true (fun t A=>k .normal t A) t A=some r:=h;unfold Uu at h;cases ho:abc P cfg ops.toList with
  | false=>
   rw [ho] at h;exact absurd h (by simp)
  | true=>
   rw [ho] at h;exact W6 (all:=ops.toList) e8 hm hc ho h ht hj fun t' E' A' B' ak a' w' h1 h2 h3 h4=>hq .normal t' E' A' B' ak a' w' h1 h2 h3 h4
 | .seq x y,p,hs,hc=>by
  simp only [codeOk,aj] at hc;intro k r t A E B ρ base a w Q h ht hj hq;have h:lQ P cfg cT L f x (2 * p) (Mt k fun t A=>lQ P cfg cT L f y (2 * p+1) k t A) t A=some r:=h;refine wp_seq ?_;refine gu e8 vf hm gH x (2 * p) hs.alv hc.1 _ r t A E B ρ base a w _ h ht hj fun e t' E' A' B' ak a' w' h1 h2 h3 h4=>?_;cases e with
  | normal=>
   have h1:lQ P cfg cT L f y (2 * p+1) k t' A' = some r:=h1;exact gu e8 vf hm gH y (2 * p+1) hs.afC hc.2 k r t' A' E' B' ak base a' w' Q h1 h2 h4.kj fun e t'' IZ ZH I0 mF BM xZ q1 q2 q3 q4=>hq e t'' IZ ZH I0 mF BM xZ q1 q2 (q3.trans h3) (h4.trans q4)
  | exit id=>exact hq (.exit id) t' E' A' B' ak a' w' h1 h2 h3 h4
  | goto l=>exact hq (.goto l) t' E' A' B' ak a' w' h1 h2 h3 h4
  | ret=>exact hq .ret t' E' A' B' ak a' w' h1 h2 h3 h4
 | .cond c x y,p,hs,hc=>by
  simp only [codeOk,aj] at hc;intro k r t A E B ρ base a w Q h ht hj hq;have h:Zf t c (fun t=>lQ P cfg cT L f x (2 * p) k t A) (fun t=>lQ P cfg cT L f y (2 * p+1) k t A)=some r:=h;have key:∃ t',(∀ i,t'.get i=t.get i)/\((a.eval c = .bool true/\lQ P cfg cT L f x (2 * p) k t' A=some r)\/(a.eval c = .bool false/\lQ P cfg cT L f y (2 * p+1) k t' A=some r)):=by
   have ma:=ht.ev c;cases c with
   | tmp d=>
    have h:BK.rec (motive:=fun _=>Option R) (fun b=>Bool.rec (motive:=fun _=>Option R) (lQ P cfg cT L f y (2 * p+1) k (t.set (.bool false) d) A) (lQ P cfg cT L f x (2 * p) k (t.set (.bool true) d) A) b) none none (rl ((t.get d).getD .bx))=some r:=h;cases hb:rl ((t.get d).getD .bx) with
    | no=>rw [hb] at h; exact absurd h (by simp)
    | nh=>rw [hb] at h; exact absurd h (by simp)
    | bool b=>
     rw [hb] at h;have hbv:=zq hb;have ma:VC P E ρ ((t.get d).getD .bx) (a.eval (.tmp d)):=ma;rw [hbv] at ma;have:=ma.dq;refine ⟨t.set (.bool b) d,GC hb,?_⟩;cases b
     ·exact .inr ⟨this,h⟩
     ·exact .inl ⟨this,h⟩
   | const v=>
    have h:BK.rec (motive:=fun _=>Option R) (fun b=>Bool.rec (motive:=fun _=>Option R) (lQ P cfg cT L f y (2 * p+1) k t A) (lQ P cfg cT L f x (2 * p) k t A) b) none none (rl (nM t (.const v)))=some r:=h;cases hb:rl (nM t (.const v)) with
    | no=>rw [hb] at h; exact absurd h (by simp)
    | nh=>rw [hb] at h; exact absurd h (by simp)
    | bool b=>
     rw [hb] at h;rw [zq hb] at ma;have:=ma.dq;refine ⟨t,fun _=>rfl,?_⟩;cases b
     ·exact .inr ⟨this,h⟩
     ·exact .inl ⟨this,h⟩
   | global g=>exact absurd h (by simp [Zf,nM,rl])
   | func g=>exact absurd h (by simp [Zf,nM,rl])
  obtain ⟨t',zM,h⟩:=key;have wB:=ht.same zM;rcases h with ⟨hb,h⟩ | ⟨hb,h⟩
  ·exact wp_cond_true hb (gu e8 vf hm gH x (2 * p) hs.aiX hc.1 k r t' A E B ρ base a w Q h wB hj hq)
  ·exact wp_cond_false hb (gu e8 vf hm gH y (2 * p+1) hs.aiY hc.2 k r t' A E B ρ base a w Q h wB hj hq)
 | .block id x,p,hs,hc=>by
  have hc:codeOk N x=true:=hc;intro k r t A E B ρ base a w Q h ht hj hq;have h:lQ P cfg cT L f x (2 * p) (afh id k) t A=some r:=h;refine wp_block ?_;refine gu e8 vf hm gH x (2 * p) hs.block hc _ r t A E B ρ base a w _ h ht hj fun e t' E' A' B' ak a' w' h1 h2 h3 h4=>?_;cases e with
  | normal=>exact hq .normal t' E' A' B' ak a' w' h1 h2 h3 h4
  | exit oY=>
   have h1:Bool.rec (motive:=fun _=>Option R) (k (.exit oY) t' A') (k .normal t' A') (Nat.beq oY id)=some r:=h1;cases hb:Nat.beq oY id with
   | true=>
    rw [hb] at h1;have:=aE hb;simp only [aa.out,Exit.inBlock,ax this];exact hq .normal t' E' A' B' ak a' w' h1 h2 h3 h4
   | false=>
    rw [hb] at h1;have:=Nat.ne_of_beq_eq_false hb;simp only [aa.out,Exit.inBlock,ae this];exact hq (.exit oY) t' E' A' B' ak a' w' h1 h2 h3 h4
  | goto l=>exact hq (.goto l) t' E' A' B' ak a' w' h1 h2 h3 h4
  | ret=>exact hq .ret t' E' A' B' ak a' w' h1 h2 h3 h4
 | .loop x,p,hs,hc=>by
  have hc:codeOk N x=true:=hc;intro k r t A E B ρ base a w Q h ht hj hq;have h:Option.rec (motive:=fun _=>bI->ai->Option R) (QA (lQ P cfg cT L f x (2 * p)) k L) (fun F=>QC (lQ P cfg cT L f x (2 * p)) F k L) (cfg.lp f p) t A=some r:=h;cases hF:cfg.lp f p with
  | some F=>
   rw [hF] at h;exact wp_loop_rounds (hX+L) (OZ (gu e8 vf hm gH x (2 * p) hs.loop hc) (gH.1 p F x hF hs N hc) L k r t A E B ρ base a w Q h ht hj hq)
  | none=>
   rw [hF] at h;exact wp_loop_rounds L (OY (gu e8 vf hm gH x (2 * p) hs.loop hc) L k r t A E B ρ base a w Q h ht hj hq)
 | .scope x,p,hs,hc=>by
  have hc:codeOk N x=true:=hc;intro k r t A E B ρ base a w Q h ht hj hq;have h:Option.rec (motive:=fun _=>bI->ai->Option R) (lQ P cfg cT L f x (2 * p) (Uv k)) (fun F=>lQ P cfg cT L f x (2 * p) (Zg (Dc x) F k)) (cfg.lp f p) t A=some r:=h;cases hF:cfg.lp f p with
  | none=>
   rw [hF] at h;refine wp_scope_straight ?_;refine gu e8 vf hm gH x (2 * p) hs.scope hc _ r t A E B ρ base a w _ h ht hj fun e t' E' A' B' ak a' w' h1 h2 h3 h4=>?_;cases e with
   | normal=>exact hq .normal t' E' A' B' ak a' w' h1 h2 h3 h4
   | exit id=>exact hq (.exit id) t' E' A' B' ak a' w' h1 h2 h3 h4
   | goto l=>exact absurd h1 (by simp [Uv])
   | ret=>exact hq .ret t' E' A' B' ak a' w' h1 h2 h3 h4
  | some F=>
   rw [hF] at h;have h:lQ P cfg cT L f x (2 * p) (Zg (Dc x) F k) t A=some r:=h;cases hl:Dc x with
   | none=>
    refine wp_scope_straight ?_;refine gu e8 vf hm gH x (2 * p) hs.scope hc _ r t A E B ρ base a w _ h ht hj fun e t' E' A' B' ak a' w' h1 h2 h3 h4=>?_;rw [hl] at h1;cases e with
    | normal=>exact hq .normal t' E' A' B' ak a' w' h1 h2 h3 h4
    | exit id=>exact hq (.exit id) t' E' A' B' ak a' w' h1 h2 h3 h4
    | goto l=>exact absurd h1 (by simp [Zg])
    | ret=>exact hq .ret t' E' A' B' ak a' w' h1 h2 h3 h4
   | some l=>
    obtain ⟨rest,CO,amk⟩:=gH.2 p F x hF hs N hc l hl;refine ZK CO ?_;refine gu e8 vf hm gH x (2 * p) hs.scope hc _ r t A E B ρ base a w _ h ht hj fun e t' E' A' B' ak a' w' h1 h2 h3 h4=>?_;rw [hl] at h1;cases e with
    | normal=>exact hq .normal t' E' A' B' ak a' w' h1 h2 h3 h4
    | exit id=>exact hq (.exit id) t' E' A' B' ak a' w' h1 h2 h3 h4
    | goto l'=>
     have hx:Bool.rec (motive:=fun _=>Option R) none (p0.run (QB k) (F t' A')) (Nat.beq l' l)=some r:=h1;cases hb:Nat.beq l' l with
     | false=>rw [hb] at hx; exact absurd hx (by simp)
     | true=>
      rw [hb] at hx;have hll:=aE hb;subst hll;have hx:p0.run (QB k) (F t' A')=some r:=hx;refine ⟨rfl,amk R k r t' A' E' B' ak base a' w' Q hx h2 h4.kj fun e2 t2 E2 A2 B2 nv a2 w2 q1 q2 q3 q4=>?_⟩;exact hq e2 t2 E2 A2 B2 nv a2 w2 q1 q2 (q3.trans h3) (h4.trans q4)
    | ret=>exact hq .ret t' E' A' B' ak a' w' h1 h2 h3 h4
 | .rangeFunc ..,p,_,_ | .refuse _,p,_,_=>by
  intro k r t A E B ρ base a w Q h ht hj hq;exact absurd h (by simp [lQ])
end
theorem B5:∀ (l:List KV) (i k:Nat) (t:bI),(lR l i t).get k=if i<=k/\k < i+l.length then l[k - i]? else t.get k
 | [],i,k,t=>by
  rw [lR,ae];simp
 | v::l,i,k,t=>by
  rw [lR,B5 l (i+1) k,Trie.iY];by_cases h1:k=i
  ·subst h1
   rw [ae (by omega),ax rfl,ax (by simp)];simp
  ·by_cases h2:i+1<=k/\k < i+1+l.length
   ·rw [ax h2,ax (by simp; omega),show k - i=(k - (i+1))+1 by omega]
    simp
   ·rw [ae h2,ae h1,ae (by simp; omega)]
theorem zU {A:ai} {B:St} {base N:Nat} {w:World} {ρ:Ren} {t:bI} {a:Act} (hj:KJ P E A B ρ base w) (ht:jD P E ρ t N a):∀ (rs:List ResultVar) (vs:List KV),E7 P A t rs=some vs->
  ∃ bw,ny P E ρ vs bw/\(rs.mapM (Gg a)).run P w=Result.ok bw w
 | [],vs,h=>by simp [E7] at h; subst h; exact ⟨[],⟨[],.nil,.nil⟩,by simp⟩
 | .tmp x::rs,vs,h=>by
  simp only [E7] at h;obtain ⟨us,hu,rfl⟩:=aU.1 h;obtain ⟨WQ,⟨m,h1,h3⟩,h2⟩:=zU hj ht rs us hu;obtain ⟨u,h4,h5⟩:=ht.ev (.tmp x);refine ⟨_::WQ,⟨u::m,.cons h4 h1,.cons h5 h3⟩,?_⟩;simp [List.mapM_cons,h2,Act.eval,Gg]
 | .cell x ty::rs,vs,h=>by
  simp only [E7] at h;split at h
  ·rename_i v hv
   obtain ⟨us,hu,rfl⟩:=aU.1 h;obtain ⟨WQ,⟨m,h1,h3⟩,h2⟩:=zU hj ht rs us hu;obtain ⟨u,h4,h5⟩:=ht.ev (.tmp x);have hg:az (Qs P ty A [nM t (.tmp x)]) v:=by rw [hv]; exact rfl
   obtain ⟨z,h6,h7⟩:=abp E A B _ _ v hj.k (.cons h4 .nil) hg;have h6:loadAt P ty B u=some z:=h6;obtain ⟨ad,h8,z',h9,qh⟩:=DK (P:=P) hj.s.rel h5 h6;refine ⟨z'::WQ,⟨z::m,.cons h7 h1,.cons h9 h3⟩,?_⟩;have h8:a.tmps.getD x undef = .pointer (some ad):=h8;simp only [List.mapM_cons,Sem.run_bind,Gg,h8,asAddr,Sem.run_pure,fF,qh,h2]
  ·simp at h
theorem I4 {ρ:Ren} {vs:List KV} {bw:List Value} (h:ny P E ρ vs bw):VC P E ρ (BR vs) (if h:bw.toArray.size=1 then bw.toArray[0] else .tuple bw.toArray):=by
 obtain ⟨m,h1,h2⟩:=h
 match vs with
 | []=>
  rw [h1.bz] at h2;rw [h2.bz];exact ⟨_,.QE .nil,VR.mkTuple .nil⟩
 | [v]=>
  obtain ⟨u,rfl,h3⟩:=h1.dC;obtain ⟨y,ys,rfl,h4,h5⟩:=h2.cons_inv;rw [h5.bz];exact ⟨u,h3,h4⟩
 | v::v2::vs=>
  obtain ⟨u,us,rfl,h3,h4⟩:=h1.cons_inv;obtain ⟨u2,us2,rfl,h5,h6⟩:=h4.cons_inv;obtain ⟨y,ys,rfl,h7,h8⟩:=h2.cons_inv;obtain ⟨y2,ys2,rfl,h9,qh⟩:=h8.cons_inv;rw [dif_neg (by simp)];exact ⟨_,.QE (.cons h3 (.cons h5 h6)),VR.mkTuple (.cons h7 (.cons h9 qh))⟩
def ZL (vs:List Value):Value:=if h:vs.toArray.size=1 then vs.toArray[0] else .tuple vs.toArray
theorem GF {R:Type} {cfg:gf} {cT:rm R} (e8:oW P cfg.pc) (vf:IX P cT) (hm:P.follows .mixedOrders=true) (L:Nat) {f:FuncId} {fn:Func} {c:Code} (hf:P.funcs[f]? = some fn) (hb:fn.body=some c) (bL:codeOk fn.ntmps c=true) (gH:afD P cfg f c)
  {args:List KV} {A:ai} {k:List KV->ai->Option R} {r:R} (h:lQ P cfg cT L f c 1 (abd P fn k) (lR args 0 .leaf) A=some r) {E:Env} {B:St} {ρ:Ren} {bM:List Value} {base:Nat} {w:World} (hv:ny P E ρ args bM) (hj:KJ P E A B ρ base w) :
  Calls P f bM.toArray w fun e w'=>∃ vs bw E' A' B' ak,e = .returned (ZL bw)/\ny P E' ak vs bw/\Ev P base E A B ρ w E' A' B' ak w'/\k vs A' = some r:=by
 refine calls_of_wp hf hb ?_;obtain ⟨adQ,zL,L8⟩:=hv;have hlen:bM.length=args.length:=by rw [L8.length,zL.length]
 have ht:jD P E ρ (lR args 0 .leaf) (max fn.ntmps args.length) { tmps:=bM.toArray++Array.replicate (fn.ntmps - bM.toArray.size) undef,defers:=[] }:=by
  have cS:(bM.toArray++Array.replicate (fn.ntmps - bM.toArray.size) undef).size=max fn.ntmps args.length:=by
   simp [hlen];omega
  refine ⟨cS,fun i=>?_,fun i hi=>?_⟩
  ·rw [B5]
   simp only [mf,true_and,bF,Nat.sub_zero,Trie.Bj];by_cases hi:i < args.length
   ·rw [ax hi]
    obtain ⟨u,hu⟩:∃ u,args[i]? = some u:=⟨_,cl hi⟩
    obtain ⟨m,h1,h2⟩:=zL.get hu;obtain ⟨u',h3,h4⟩:=L8.get h1;rw [hu];have:(bM.toArray++Array.replicate (fn.ntmps - bM.toArray.size) undef).getD i undef=u':=by
     rw [dF,Array.getElem?_append_left (by simpa [hlen] using hi)];simp [h3]
    rw [this];exact ⟨m,h2,h4⟩
   ·rw [ae hi]
    exact VC.bx
  ·rw [B5,ae,Trie.Bj]
   simp only [mf,true_and,bF];have:=Nat.le_max_right fn.ntmps args.length;omega
 have RK:codeOk (max fn.ntmps args.length) c=true:=jy (Nat.le_max_left _ _) c bL;refine gu (L:=L) (f:=f) (N:=max fn.ntmps args.length) e8 vf hm gH c 1 .root RK _ r _ A E B ρ base _ w _ h ht hj fun e t' E' A' B' ak a' w' h1 h2 h3 h4=>?_;have fin:∀ vs,E7 P A' t' fn.results.toList=some vs->k vs A' = some r->∀ e:aa,(e = .normal\/e = .ret)->bodyPost P fn (fun e w'=>∃ vs bw E' A' B' ak,e = .returned (ZL bw)/\ny P E' ak vs bw/\Ev P base E A B ρ w E' A' B' ak w'/\k vs A' = some r) e.out a' w':=by
  intro vs hr hk e he;obtain ⟨bw,TU,kx⟩:=zU (P:=P) h4.kj h2 _ _ hr;have C7:(results fn a'.tmps).run P w' = .ok (if h:bw.toArray.size=1 then bw.toArray[0] else .tuple bw.toArray) w':=by
   rw [Iv,Sem.run_bind,Array.mapM_eq_mapM_toList,Sem.run_map,kx];rfl
  have Vc:bodyPost P fn (fun e w'=>∃ vs bw E' A' B' ak,e = .returned (ZL bw)/\ny P E' ak vs bw/\Ev P base E A B ρ w E' A' B' ak w'/\k vs A' = some r) .ret a' w':=by
   exact ⟨h3,_,C7,vs,bw,E',A',B',ak,rfl,TU,h4,hk⟩
  rcases he with rfl | rfl
  ·exact Vc
  ·exact Vc
 cases e with
 | normal=>
  have h1:Option.rec (motive:=fun _=>Option R) none (fun vs=>k vs A') (E7 P A' t' fn.results.toList)=some r:=h1;cases hr:E7 P A' t' fn.results.toList with
  | none=>rw [hr] at h1; exact absurd h1 (by simp)
  | some vs=>rw [hr] at h1; exact fin vs hr h1 .normal (.inl rfl)
 | ret=>
  have h1:Option.rec (motive:=fun _=>Option R) none (fun vs=>k vs A') (E7 P A' t' fn.results.toList)=some r:=h1;cases hr:E7 P A' t' fn.results.toList with
  | none=>rw [hr] at h1; exact absurd h1 (by simp)
  | some vs=>rw [hr] at h1; exact fin vs hr h1 .ret (.inr rfl)
 | exit id=>exact absurd h1 (by simp [abd])
 | goto l=>exact absurd h1 (by simp [abd])
end Go.K
end
section
namespace Go.K
open Go Go.aA
variable {P:Program} {E:Env}
def XW (P:Program) (ac:FuncId->Option (List KV->ai->rj)):Prop:=∀ g F,ac g=some F->∀ {R:Type} (args:List KV) (A:ai) (k:KV->ai->Option R) (r:R),rj.run k (F args A)=some r->pq P g/\
 ∀ (E:Env) (B:St) (ρ:Ren) (base:Nat) (w:World) (bM:List Value),ny P E ρ args bM->KJ P E A B ρ base w->
  Calls P g bM.toArray w fun e w'=>∃ v v' E' A' B' ak,e = .returned v'/\VC P E' ak v v'/\Ev P base E A B ρ w E' A' B' ak w'/\k v A' = some r
theorem XW.none {P:Program} : XW P fun _=>.none:=fun g F h=>by simp at h
def pt (P:Program) (cfg:gf):Prop:=XW P cfg.x.ac/\∀ f fn c,P.funcs[f]? = some fn->fn.body=some c->afD P cfg f c
theorem I5 {R:Type} {cfg:gf} {cT:rm R} {L:Nat} {f:FuncId} {args:List KV} {A:ai} {k:List KV->ai->Option R} {r:R} (hP:P.funcs.toList.all gq=true) (h:QD P cfg cT L f args A k=some r) :
  ∃ fn c, P.funcs[f]? = some fn ∧ fn.body = some c ∧ codeOk fn.ntmps c = true ∧ (fn.name == "runtime.NumGoroutine") = false ∧ lQ P cfg cT L f c 1 (abd P fn k) (lR args 0 .leaf) A = some r := by
 unfold QD at h;split at h
 ·rename_i fn hf
  split at h
  ·rename_i c hc
   have SQ:P.funcs[f]? = some fn:=by simpa using hf
   have bL:=dS.1 hP fn (eW hf);unfold gq at bL;rw [hc] at bL;simp only [aj,iA] at bL;exact ⟨fn,c,SQ,hc,bL.1,bL.2,h⟩
  ·simp at h
 ·simp at h
theorem oO {R:Type} {cfg:gf} (hP:P.funcs.toList.all gq=true) (hm:P.follows .mixedOrders=true) (e8:oW P cfg.pc) (gH:pt P cfg) (L:Nat):∀ n,IX (R:=R) P (AV P cfg L n)
 | 0=>fun f args A k r h=>absurd h (by simp [AV])
 | n+1=>fun f args A k r h=>by
  have h:Bool.rec (motive:=fun _=>Option R) none (Option.rec (motive:=fun _=>Option R) (QD P cfg (AV P cfg L n) L f args A fun vs B=>k (BR vs) B) (fun F=>rj.run k (F args A)) (cfg.x.ac f)) (Nat.blt f yB)=some r:=h;cases hy:Nat.blt f yB with
  | false=>rw [hy] at h; exact absurd h (by simp)
  | true=>
   rw [hy] at h;cases W7:cfg.x.ac f with
   | some F=>
    rw [W7] at h;exact gH.1 f F W7 args A k r h
   | none=>
    rw [W7] at h;have h:QD P cfg (AV P cfg L n) L f args A (fun vs B=>k (BR vs) B)=some r:=h;obtain ⟨fn,c,hf,hc,bL,hnm,h⟩:=I5 hP h;refine ⟨⟨hy,fn,hf,by simp [hc],hnm⟩,fun E B ρ base w bM hv hj=>?_⟩;refine (GF e8 (oO hP hm e8 gH L n) hm L hf hc bL (gH.2 f fn c hf hc) h hv hj).mono ?_;rintro e w' ⟨vs,bw,E',A',B',ak,rfl,h1,h2,h3⟩;exact ⟨BR vs,_,E',A',B',ak,rfl,I4 h1,h2,h3⟩
def SU (E E0:Env):Prop:=∀ b r,E.z b=some r->∃ r0,E0.z b=some r0/\r0.aQ=r.aQ/\r0.cs=r.cs
theorem SU.of {E E0:Env} (h:E0.z=E.z):SU E E0:=fun b r e=>⟨r,by rw [h]; exact e,rfl,rfl⟩
mutual
theorem VK.zK {E0:Env} (hz:SU E E0):∀ {v:KV} {u:Value} {c:CK},VK P E v u->kindOk c v=true->VK P E0 v u
 | .int k n,u,c,h,_=>h
 | .bool b,u,c,h,_=>h
 | .str s,u,c,h,_=>h
 | .ts T m n es acc,u,c,h,hk=>by
  cases c <;> simp [kindOk] at hk;rename_i t;cases m <;> simp at hk;obtain ⟨ht,aP,h1,a,cap,rfl,h2,h3,h4⟩:=h.jC;simp only [VK];refine ⟨ht,aP,aK.zEs hz h1 ht.typed,a,cap,rfl,h2,?_,trivial⟩;refine h3.imp id ?_;rintro ⟨b,off,r,e1,e2,e3⟩;obtain ⟨r0,q1,q2,q3⟩:=hz b r e2;exact ⟨b,off,r0,e1,q1,by rw [q2]; exact e3.1,by rw [q3]; exact e3.2⟩
 | .agg cs,u,c,h,hk=>by cases c <;> simp [kindOk] at hk
 | .nh cs,u,c,h,hk=>by cases c <;> simp [kindOk] at hk
 | .tp T Tc i k es acc,u,c,h,hk=>by cases c <;> simp [kindOk] at hk
 | .al T b o n,u,c,h,hk=>by cases c <;> simp [kindOk] at hk
 | .ap T Tc b i k,u,c,h,hk=>by cases c <;> simp [kindOk] at hk
 | .ptr b off,u,c,h,hk=>by cases c <;> simp [kindOk] at hk
 | .sl b off n cap,u,c,h,hk=>by cases c <;> simp [kindOk] at hk
 | .Au,u,c,h,hk=>by cases c <;> simp [kindOk] at hk
 | .je,u,c,h,hk=>by cases c <;> simp [kindOk] at hk
 | .wF,u,c,h,hk=>by cases c <;> simp [kindOk] at hk
 | .map b,u,c,h,hk=>by cases c <;> simp [kindOk] at hk
 | .fn f a b,u,c,h,hk=>by cases c <;> simp [kindOk] at hk
 | .BP,u,c,h,hk=>by cases c <;> simp [kindOk] at hk
 | .iface t x,u,c,h,hk=>by cases c <;> simp [kindOk] at hk
 | .BQ,u,c,h,hk=>by cases c <;> simp [kindOk] at hk
 | .bx,u,c,h,hk=>by cases c <;> simp [kindOk] at hk
theorem VK.zE {E0:Env} (hz:SU E E0):∀ {v:KV} {u:Value} {l:Lay},VK P E v u->cf l v=true->VK P E0 v u
 | .int k n,u,l,h,_=>h
 | .bool b,u,l,h,_=>h
 | .str s,u,l,h,_=>h
 | .agg cs,u,l,h,hk=>by
  simp only [cf,aj] at hk;obtain ⟨m,rfl,h1⟩:=h.ju;exact .nt (aK.zKs hz h1 hk.2)
 | .ts T m n es acc,u,l,h,hk=>by
  have pb:∃ c,kindOk c (.ts T m n es acc)=true:=by
   simp only [cf,aj] at hk;cases oK:l.ks with
   | nil=>rw [oK] at hk; simp [aq] at hk
   | cons c cs=>rw [oK] at hk; simp only [aq,aj] at hk; exact ⟨c,hk.2.1⟩
  obtain ⟨c,hk⟩:=pb;cases c <;> simp [kindOk] at hk;rename_i t;cases m <;> simp at hk;obtain ⟨ht,aP,h1,a,cap,rfl,h2,h3,h4⟩:=h.jC;simp only [VK];refine ⟨ht,aP,aK.zEs hz h1 ht.typed,a,cap,rfl,h2,?_,trivial⟩;refine h3.imp id ?_;rintro ⟨b,off,r,e1,e2,e3⟩;obtain ⟨r0,q1,q2,q3⟩:=hz b r e2;exact ⟨b,off,r0,e1,q1,by rw [q2]; exact e3.1,by rw [q3]; exact e3.2⟩
 | .nh cs,u,l,h,hk=>by simp [cf] at hk
 | .tp T Tc i k es acc,u,l,h,hk=>by
  obtain ⟨h1,_⟩:=fw hk;cases oK:l.ks with
  | nil=>rw [oK] at h1; simp [KV.cells,aq] at h1
  | cons c cs=>rw [oK] at h1; cases c <;> simp [KV.cells,aq,kindOk] at h1
 | .al T b o n,u,l,h,hk=>by
  obtain ⟨h1,_⟩:=fw hk;cases oK:l.ks with
  | nil=>rw [oK] at h1; simp [KV.cells,aq] at h1
  | cons c cs=>rw [oK] at h1; cases c <;> simp [KV.cells,aq,kindOk] at h1
 | .ap T Tc b i k,u,l,h,hk=>by
  obtain ⟨h1,_⟩:=fw hk;cases oK:l.ks with
  | nil=>rw [oK] at h1; simp [KV.cells,aq] at h1
  | cons c cs=>rw [oK] at h1; cases c <;> simp [KV.cells,aq,kindOk] at h1
 | .ptr b off,u,l,h,hk=>by
  obtain ⟨h1,_⟩:=fw hk;cases oK:l.ks with
  | nil=>rw [oK] at h1; simp [KV.cells,aq] at h1
  | cons c cs=>rw [oK] at h1; cases c <;> simp [KV.cells,aq,kindOk] at h1
 | .sl b off n cap,u,l,h,hk=>by
  obtain ⟨h1,_⟩:=fw hk;cases oK:l.ks with
  | nil=>rw [oK] at h1; simp [KV.cells,aq] at h1
  | cons c cs=>rw [oK] at h1; cases c <;> simp [KV.cells,aq,kindOk] at h1
 | .Au,u,l,h,hk=>h
 | .je,u,l,h,hk=>h
 | .wF,u,l,h,hk=>h
 | .map b,u,l,h,hk=>by
  obtain ⟨h1,_⟩:=fw hk;cases oK:l.ks with
  | nil=>rw [oK] at h1; simp [KV.cells,aq] at h1
  | cons c cs=>rw [oK] at h1; cases c <;> simp [KV.cells,aq,kindOk] at h1
 | .fn f a b,u,l,h,hk=>by
  obtain ⟨h1,_⟩:=fw hk;cases oK:l.ks with
  | nil=>rw [oK] at h1; simp [KV.cells,aq] at h1
  | cons c cs=>rw [oK] at h1; cases c <;> simp [KV.cells,aq,kindOk] at h1
 | .BP,u,l,h,hk=>h
 | .iface t x,u,l,h,hk=>by
  obtain ⟨h1,_⟩:=fw hk;cases oK:l.ks with
  | nil=>rw [oK] at h1; simp [KV.cells,aq] at h1
  | cons c cs=>rw [oK] at h1; cases c <;> simp [KV.cells,aq,kindOk] at h1
 | .BQ,u,l,h,hk=>h
 | .bx,u,l,h,hk=>h
theorem aK.zKs {E0:Env} (hz:SU E E0):∀ {vs:List KV} {us:List Value} {ks:List CK},aK P E vs us->aq ks vs=true->aK P E0 vs us
 | [],us,ks,h,_=>by rw [h.bz]; exact .nil
 | v::vs,us,[],h,hk=>by simp [aq] at hk
 | v::vs,us,c::ks,h,hk=>by
  simp only [aq,aj] at hk;simp only [aK] at h ⊢;obtain ⟨y,ys,e,h1,h2⟩:=h;exact ⟨y,ys,e,VK.zK hz h1 hk.1,aK.zKs hz h2 hk.2⟩
theorem aK.zEs {E0:Env} (hz:SU E E0):∀ {vs:List KV} {us:List Value} {l:Lay},aK P E vs us->dn l vs=true->aK P E0 vs us
 | [],us,l,h,_=>by rw [h.bz]; exact .nil
 | v::vs,us,l,h,hk=>by
  simp only [dn,aj] at hk;simp only [aK] at h ⊢;obtain ⟨y,ys,e,h1,h2⟩:=h;exact ⟨y,ys,e,VK.zE hz h1 hk.1,aK.zEs hz h2 hk.2⟩
end
theorem VK.aiZ {E0:Env} (hz:SU E E0) {c:CK} {v:KV} {u:Value} (h:VK P E v u):VK P E0 (K.kO c v) u:=by
 have hn:=h.kO (c:=c);cases hk:kindOk c (K.kO c v) with
 | true=>exact hn.zK hz hk
 | false=>
  have:K.kO c v = .bx:=by
   revert hk
   unfold K.kO;split
   ·intro hk; simp [kindOk] at hk
   ·rename_i t t' m n es acc
    cases hb:Nat.beq t t' with
    | false=>intro _; rfl
    | true=>intro hk; simp [kindOk] at hk
   ·cases hb:kindOk c v with
    | false=>intro _; rfl
    | true=>intro hk; rw [ah,hb] at hk; simp at hk
  rw [this];exact .qp
theorem aK.abQ {E0:Env} (hz:SU E E0):∀ {ks:List CK} {cs:List KV} {l:List Value},aK P E cs l->cs.length=ks.length->aK P E0 (K.wG ks cs) l
 | [],[],l,h,_=>by rw [h.bz]; exact .nil
 | [],_::_,_,_,e=>by simp at e
 | _::_,[],_,_,e=>by simp at e
 | c::ks,v::cs,l,h,e=>by
  obtain ⟨y,ys,rfl,h1,h2⟩:=h.cons_inv;exact .cons (h1.aiZ hz) (aK.abQ hz h2 (by simpa using e))
theorem VK.akz {E0:Env} (hz:SU E E0) {l:Lay} {v:KV} {u:Value} (h:VK P E v u):VK P E0 (K.dv l v) u:=by
 unfold K.dv;split
 ·rename_i cs
  obtain ⟨m,rfl,h1⟩:=h.ju;cases hb:(l.agg&&Nat.beq cs.length l.ks.length) with
  | false=>exact .qp
  | true=>
   simp only [aj] at hb;exact .nt (h1.abQ hz (aE hb.2))
 ·cases l.agg with
  | true=>exact .qp
  | false=>
   rw [ay];split
   ·exact h.aiZ hz
   ·exact .qp
theorem VK.aml {E0:Env} (hz:SU E E0) {t:TypeId} {v:KV} {u:Value} (h:VK P E v u):VK P E0 (K.OB P t v) u:=by
 unfold K.OB;cases hb:cf (aH P t) (K.dv (aH P t) v) with
 | false=>exact .qp
 | true=>exact VK.gX _ hb (h.akz hz)
theorem aK.GG {E0:Env} (hz:SU E E0):∀ {ts:List TypeId} {vs:List KV} {us:List Value},aK P E vs us->vs.length=ts.length->aK P E0 (normArgs P ts vs) us
 | [],[],us,h,_=>by rw [h.bz]; exact .nil
 | [],_::_,_,_,e=>by simp at e
 | _::_,[],_,_,e=>by simp at e
 | t::ts,v::vs,us,h,e=>by
  obtain ⟨y,ys,rfl,h1,h2⟩:=h.cons_inv;exact .cons (h1.aml hz) (aK.GG hz h2 (by simpa using e))
theorem B6:∀ (ts:List TypeId) (vs:List KV),sR P ts vs=normArgs P ts vs
 | [],vs=>by cases vs <;> rfl
 | t::ts,[]=>rfl
 | t::ts,v::vs=>by simp [sR,normArgs,B6 ts vs]
theorem Fe:∀ {ts:List TypeId} {vs:List KV},vs.length=ts.length->(normArgs P ts vs).length=ts.length
 | [],[],_=>rfl
 | [],_::_,e=>by simp at e
 | _::_,[],e=>by simp at e
 | t::ts,v::vs,e=>by simp [normArgs,Fe (ts:=ts) (vs:=vs) (by simpa using e)]
def Env.bare (E:Env):Env:={ E with κ:=fun _=>none,φ:=fun _=>none,α:=fun _=>none }
theorem du.bare {A:ai} {B:St} (h:du P E A B):du P E.bare .empty B where
 row b cs aQ hb:=by simp [ai.empty,ai.get] at hb
 aF b top sz hb:=by simp [ai.empty,ai.get] at hb
 z:=h.z
 apart b x e:=by simp [Env.bare] at e
 inj b c x e:=by simp [Env.bare] at e
 iB b c g _ _ _ _ _ _ e:=by simp [Env.bare] at e
 fZ b x e:=by simp [Env.bare] at e
 lk b g e:=by simp [Env.bare] at e
 live b o hb:=by simp [ai.empty,ai.get] at hb
 eD b x e:=by simp [Env.bare] at e
 lT:=h.lT
 iU b g e:=by simp [Env.bare] at e
 fresh:=h.fresh
 mem:=h.mem
 ar:=by
  have hn:∀ b v,¬ ai.empty.get b=some (.arr v):=fun b v hb=>by simp [ai.empty,ai.get] at hb
  exact ⟨fun b v hb=>(hn b v hb).elim,fun b v hb=>by simp [ai.empty,ai.get] at hb,fun x ⟨b,v,_,_,hb,_⟩=>(hn b v hb).elim,fun b c v u x L N L' N' hb=>(hn b v hb).elim,fun b c v u x y L N L' N' cs e own g k b5 e' nJ k' hb=>(hn b v hb).elim,fun b x e=>by simp [Env.bare] at e,fun b p e=>by simp [Env.bare] at e,fun b x L N e=>by simp [Env.bare] at e,fun b v x L N cs e own g k hb=>(hn b v hb).elim,fun b v hb=>(hn b v hb).elim⟩
theorem abR {x:Nat} : ¬ AR .empty E.bare x:=fun ⟨b,v,_,_,hb,_⟩=>by simp [ai.empty,ai.get] at hb
theorem abS {B:St} {g:Nat} : ¬ AF .empty E.bare B g:=fun ⟨b,v,_,_,_,_,_,_,_,hb,_⟩=>by simp [ai.empty,ai.get] at hb
theorem ai0 {B:St} {y:Nat} : ¬ AT .empty E.bare B y:=fun q=>q.elim abR fun ⟨_,q,_⟩=>abS q
theorem Ev.bare {base:Nat} {A A1:ai} {B B1:St} {ρ fH:Ren} {w w1:World} {E1:Env} (h:du P E A B) (ma:Ev P base E.bare .empty B ρ w E1 A1 B1 fH w1):Ev P base E A B ρ w { E with z:=E1.z } A B1 fH w1:=by
 have hle:E.le { E with z:=E1.z }:=⟨fun _ _ e=>e,fun _ _ e=>e,ma.le.z,fun _ _ e=>e⟩
 have GH:∀ x,x < B.next->B1.get x=B.get x:=fun x hx=>ma.di x hx (fun b e=>by simp [Env.bare] at e) ai0;have jV:∀ g,g < B.next->B1.members g=B.members g:=fun g hg=>ma.nw g hg (fun b e=>by simp [Env.bare] at e) abS;have gd:=ma.gG.next;have IM:∀ b r,E1.z b=some r->E.z b=some r\/B.next<=b:=fun b r e=>by
  rcases ma.qN b r e with e | e | e
  ·exact .inl e
  ·exact (abR e).elim
  ·exact .inr e
 have po:∀ y,AR A { E with z:=E1.z } y->AR A E y:=fun y q=>q;have alw:∀ g,AF A E B g->g < B.next:=fun g ⟨b,v,x,L,N,cs,e,own,k,h1,h2,h3⟩=>(h.ar.p7 b v x L N cs e own g k h1 h2 h3).1;have IW:∀ g,AF A { E with z:=E1.z } B1 g->AF A E B g:=fun g ⟨b,v,x,L,N,cs,e,own,k,h1,h2,h3⟩=>⟨b,v,x,L,N,cs,e,own,k,h1,h2,by rw [<- GH x (h.ar.eD b x L N h2)]; exact h3⟩
 refine ⟨⟨?_,?_,ma.dI.z,?_,h.inj,h.iB,h.fZ,h.lk,h.live,?_,ma.dI.lT,?_,ma.dI.fresh,ma.dI.mem,h.ar.di hle (fun _=>rfl) (fun _ _ e=>e) (fun _ _ e=>e) (ao _) gd (fun x q=>GH x (h.Df q)) IM (fun _ _ e=>.inl e) (fun b g e=>.inl ⟨b,e⟩) (fun g q=>jV g (alw g q)) h.mem⟩,ma.gG,hle,ao _,fun x hx _ _=>GH x hx,fun _ _ e=>.inl e,fun b r e=>(IM b r e).imp id .inr,fun _ _ e=>.inl ⟨_,e⟩,fun g hg _ _=>jV g hg,fun y q=>.inl (po y q),fun g q=>.inl (IW g q),ma.rI,fun y q=>.inl (q.imp (po y) fun ⟨g,q1,q2⟩=>⟨g,IW g q1,by rw [<- jV g (alw g (IW g q1))]; exact q2⟩),ma.rows⟩
 ·intro b cs aQ hb
  obtain ⟨x,c,h1,h2,h3⟩:=h.row b cs aQ hb;exact ⟨x,c,h1,by rw [GH x (h.eD b x h1)]; exact h2,h3.mono hle⟩
 ·intro b top sz hb
  rcases h.aF b top sz hb with h1 | ⟨g,h1,h2,h3⟩
  ·exact .inl h1
  ·have hg:=h.iU b g h1
   refine .inr ⟨g,h1,h2,fun x hx cs e own f k hr=>?_⟩;rw [jV g hg] at hx;rw [GH x (h.mem g x hx)] at hr;exact h3 x hx cs e own f k hr
 ·intro b x hb
  have hx:=h.eD b x hb;cases hz:E1.z x with
  | none=>rfl
  | some r=>
   rcases IM x r hz with e | e
   ·rw [h.apart b x hb] at e; simp at e
   ·omega
 ·intro b x hb; have:=h.eD b x hb; omega
 ·intro b g hb; have:=h.iU b g hb; omega
theorem ai1 {g:FuncId} {F:List KV->KR KV} (hy:Nat.blt g yB=true) (hP:P.funcs.toList.all gq=true) (hm:P.follows .mixedOrders=true)
  (h:∀ ZM v,ZM.length=(bK P g).length->az (F (normArgs P (bK P g) ZM)) v->∃ cfg L n,oW P cfg.pc/\pt P cfg/\zS P cfg L n g (normArgs P (bK P g) ZM)=some v):cB P g F:=by
 intro args v hF hlen;obtain ⟨cfg,L,n,e8,gH,kx⟩:=h _ v hlen hF;have vf:=oO (R:=KV) hP hm e8 gH L n;obtain ⟨fn,c,hf,hc,bL,hnm,kx⟩:=I5 hP kx;refine ⟨⟨hy,fn,hf,by simp [hc],hnm⟩,fun E A B ρ base w bM hv hj=>?_⟩;obtain ⟨adQ,zL,L8⟩:=hv;have hv0:ny P E.bare ρ (normArgs P (bK P g) args) bM:=⟨adQ,aK.GG (E:=E) (E0:=E.bare) (.of rfl) zL hlen,L8⟩
 refine (GF e8 vf hm L hf hc bL (gH.2 g fn c hf hc) kx hv0 ⟨hj.k.bare,hj.s⟩).mono ?_;rintro e w' ⟨vs,bw,E0,A0,B1,fH,rfl,⟨m,h1,h1'⟩,h2,h3⟩;have h3:Bool.rec (motive:=fun _=>Option KV) none (some (BR (sR P (pg P g) (xL A0 vs).1))) (Nat.beq vs.length (pg P g).length)=some v:=h3;obtain ⟨E1,hf1,h1⟩:=Dg h2.dI h1;have ma:=Ev.bare hj.k (h2.trans (hf1.ev (.refl h2.gG.dI)));cases hb:Nat.beq vs.length (pg P g).length with
 | false=>rw [hb] at h3; exact absurd h3 (by simp)
 | true=>
  rw [hb] at h3;have h3:some (BR (sR P (pg P g) (xL A0 vs).1))=some v:=h3;simp only [aR] at h3;subst h3;refine ⟨_,_,B1,fH,rfl,I4 ⟨m,?_,h1'⟩,ma⟩;rw [B6];exact aK.GG (E:=E1) (E0:={ E with z:=E1.z }) (.of rfl) h1 ((GB A0 vs).trans (aE hb))
end Go.K
end
section
namespace Go.K
open Go Go.aA
noncomputable section
inductive CD where
 | k (c:CK)
 | lit (v:KV)
 | aF (t:TypeId)
 | arr (t:TypeId)
 | ref (w:KV)
def QN (bs:List Nat) (v:KV):KV:=
 match v with
 | .ptr j o=>.ptr (bs.getD j 0) o
 | v=>v
def uG (bs:List Nat):List KV->List KV
 | []=>[]
 | v::vs=>QN bs v::uG bs vs
def inst (bs:List Nat) (v:KV):KV:=
 match v with
 | .ptr j o=>.ptr (bs.getD j 0) o
 | .fn f first cap=>.fn f (uG bs first) (uG bs cap)
 | v=>v
def isP (nr:Nat):KV->Bool
 | .ptr j _=>Nat.blt j nr
 | _=>false
def Vd (nr:Nat):List KV->Bool
 | []=>true
 | v::vs=>isP nr v&&Vd nr vs
def R5 (nr:Nat):KV->Bool
 | .ptr j _=>Nat.blt j nr
 | .fn (.func _) first cap=>Vd nr first&&Vd nr cap
 | _=>false
def eqP:KV->KV->Bool
 | .ptr a o,.ptr b q=>Nat.beq a b&&Nat.beq o q
 | _,_=>false
def Ve:List KV->List KV->Bool
 | [],[]=>true
 | v::vs,u::us=>eqP v u&&Ve vs us
 | _,_=>false
def I6:KV->KV->Bool
 | .ptr a o,.ptr b q=>Nat.beq a b&&Nat.beq o q
 | .fn (.func f) a b,.fn (.func g) c d=>Nat.beq f g&&Ve a c&&Ve b d
 | _,_=>false
def se:KV->KV->Bool
 | .fn (.func f) [] [],.fn (.func g) [] []=>Nat.beq f g
 | .Au,.Au=>true
 | .je,.je=>true
 | .wF,.wF=>true
 | .BP,.BP=>true
 | .BQ,.BQ=>true
 | _,_=>false
def I7 (A:ai) (t:TypeId) (v:KV):KV:=
 match v with
 | .je=>.ts t .any 0 [] mI
 | .al t' b o _=>match A.get b with
  | some (.arr (.ts t2 _ N es acc))=>cond (Nat.beq t t'&&Nat.beq t t2&&Nat.beq o 0) (.ts t .any N es acc) .bx
  | _=>.bx
 | _=>.bx
def dW (P:Program) (A:ai) (d:CD) (v:KV):KV:=
 match d with
 | .k c=>cond (kindOk c (kO c v)) (bX P df (leaf c (kO c v))) .bx
 | .lit w=>cond (se w v) w .bx
 | .aF t=>match v with
  | .je=>bX P df (.ts t .any 0 [] mI)
  | .ts t' (.aF _) n es acc=>cond (Nat.beq t t') (bX P df (.ts t .any n es acc)) .bx
  | _=>.bx
 | .arr t=>bX P df (I7 A t v)
 | .ref w=>w
def dX (P:Program) (A:ai):List CD->List KV->List KV
 | d::ds,v::vs=>dW P A d v::dX P A ds vs
 | _,_=>[]
def hZ (d:CD) (v:KV):Bool:=
 match d with
 | .k c=>kindOk c v
 | .lit w=>se w v
 | .aF t=>kindOk (.slice t) v
 | .arr t=>kindOk (.slice t) v
 | .ref w=>I6 w v
def cH:List CD->List KV->Bool
 | [],[]=>true
 | d::ds,v::vs=>hZ d v&&cH ds vs
 | _,_=>false
structure VD where
 agg:Bool
 ks:List CD
def rK (P:Program) (A:ai) (d:VD) (v:KV):KV:=
 match v with
 | .agg cs=>cond (d.agg&&Nat.beq cs.length d.ks.length) (.agg (dX P A d.ks cs)) .bx
 | v=>cond d.agg .bx (match d.ks with
  | [c]=>dW P A c v
  | _=>.bx)
def sU (d:VD) (v:KV):Bool:=
 match v with
 | .agg cs=>d.agg&&cH d.ks cs
 | v=>!d.agg&&cH d.ks [v]
structure aB where
 dh:List (Tmp×VD)
 rows:List (Tmp×List CD×Nat)
 O0:List (Tmp×Nat×Nat)
def valOf (t:bI) (i:Tmp):KV:=(t.get i).getD .bx
def ln (P:Program) (t:bI) (A:ai):List (Tmp×VD)->List KV
 | []=>[]
 | p::ps=>rK P A p.2 (valOf t p.1)::ln P t A ps
def dY:List (Tmp×VD)->List KV->Bool
 | [],[]=>true
 | p::ps,v::vs=>sU p.2 v&&dY ps vs
 | _,_=>false
def alx:Option KV->Option Nat
 | some (.ptr b _)=>some b
 | _=>none
def ant (t:bI) (i:Nat):Option Nat:=
 cond (Nat.blt i 100000) (alx (t.get i)) (match t.get (i % 100000) with
  | some (.fn _ first cap)=>alx (XK (i / 100000 - 1) (first++cap))
  | _=>none)
def rowOf (t:bI) (A:ai) (p:Tmp×List CD×Nat):Option (Nat×List KV):=
 match ant t p.1 with
 | some b=>match A.get b with
  | some (.row cs e)=>cond (Nat.beq e p.2.2&&Nat.beq cs.length p.2.1.length) (some (b,cs)) none
  | _=>none
 | _=>none
def afE (t:bI) (A:ai) (p:Tmp×List CD×Nat):Nat:=((rowOf t A p).getD (0,[])).1
def B7 (t:bI) (A:ai) (p:Tmp×List CD×Nat):List KV:=((rowOf t A p).getD (0,[])).2
def vg (t:bI) (A:ai):List (Tmp×List CD×Nat)->List Nat
 | []=>[]
 | p::ps=>afE t A p::vg t A ps
def D6 (P:Program) (t:bI) (A:ai):List (Tmp×List CD×Nat)->List (List KV)
 | []=>[]
 | p::ps=>dX P A p.2.1 (B7 t A p)::D6 P t A ps
def uH (P:Program) (t:bI) (A:ai):List (Tmp×List CD×Nat)->Bool
 | []=>true
 | p::ps=>(rowOf t A p).isSome&&(cH p.2.1 (dX P A p.2.1 (B7 t A p))&&uH P t A ps)
def ai2 (v:Option KV) (b:Option Nat) (off:Nat):Bool:=
 match v,b with
 | some (.ptr b o),some b'=>Nat.beq o off&&Nat.beq b b'
 | _,_=>false
def ZN (v w:Option KV):Bool:=
 match v,w with
 | some (.al T b o n),some (.al T' b' o' n')=>Nat.beq T T'&&Nat.beq b b'&&Nat.beq o o'&&Nat.beq n n'
 | _,_=>false
def zV (p:Tmp×Nat×Nat):Bool:=Nat.blt p.2.1 1000000
def Kf (t:bI) (bs:List Nat):List (Tmp×Nat×Nat)->Bool
 | []=>true
 | p::ps=>cond (zV p) (ai2 (t.get p.1) bs[p.2.1]? p.2.2) (ZN (t.get p.1) (t.get (p.2.1 - 1000000)))&&Kf t bs ps
def sX:List Nat->Bool
 | []=>true
 | b::bs=>bs.all (fun c=>!Nat.beq b c)&&sX bs
structure FI where
 ok:Bool
 f:Option Nat
 fm:Bool
def szL (P:Program) (t:TypeId):Nat:=(aH P t).ks.length
def qt (P:Program) (A:ai) (t:TypeId) (v:KV):FI:=
 match v with
 | .je=>⟨true,none,true⟩
 | .ts _ (.aF f) n _ _=>match A.get f with
  | some (.aF top sz)=>⟨cond (Nat.beq sz (szL P t)) (bU top n) false,some f,true⟩
  | _=>⟨false,none,true⟩
 | _=>⟨false,none,true⟩
def D7 (P:Program) (A:ai) (t:TypeId) (v:KV):FI:=
 match v with
 | .je=>⟨Nat.ble 1 (szL P t),none,false⟩
 | .al _ b _ n=>match A.get b with
  | some (.arr (.ts _ _ N _ _))=>⟨bU N n,some b,false⟩
  | _=>⟨false,none,false⟩
 | _=>⟨false,none,false⟩
def vh:Option gJ->Bool
 | some (.aF _ _)=>true
 | _=>false
theorem XX (P:Program) (A:ai) (t:TypeId) (v:KV):(qt P A t v).fm=true:=by
 unfold qt;split
 ·rfl
 ·split <;> rfl
 ·rfl
theorem ag3 (P:Program) (A:ai) (t:TypeId) (v:KV):(D7 P A t v).fm=false:=by
 unfold D7;split
 ·rfl
 ·split <;> rfl
 ·rfl
theorem ag4 {P:Program} {A:ai} {t:TypeId} {v:KV} {x:Nat} (h:(qt P A t v).f=some x):vh (A.get x)=true:=by
 unfold qt at h;split at h
 ·simp at h
 ·split at h
  ·rename_i e; simp at h; subst h; rw [e]; rfl
  ·simp at h
 ·simp at h
def jG (P:Program) (A:ai):List CD->List KV->List FI
 | .aF t::ds,v::vs=>qt P A t v::jG P A ds vs
 | .arr t::ds,v::vs=>D7 P A t v::jG P A ds vs
 | _::ds,_::vs=>jG P A ds vs
 | _,_=>[]
def yl (P:Program) (t:bI) (A:ai):List (Tmp×VD)->List FI
 | []=>[]
 | p::ps=>jG P A p.2.ks (valOf t p.1).cells++yl P t A ps
def B8 (P:Program) (t:bI) (A:ai):List (Tmp×List CD×Nat)->List FI
 | []=>[]
 | p::ps=>jG P A p.2.1 (B7 t A p)++B8 P t A ps
def QO:List FI->Bool
 | []=>true
 | x::xs=>cond (QO xs) x.ok false
def GI:List FI->List (Option Nat)
 | []=>[]
 | x::xs=>x.f::GI xs
def iq:List (Option Nat)->List Nat
 | []=>[]
 | some f::xs=>f::iq xs
 | none::xs=>iq xs
def zW (nr:Nat) (bs:List Nat):List CD->List KV->Bool
 | .ref w::ds,v::vs=>R5 nr w&&(I6 (inst bs w) v&&zW nr bs ds vs)
 | _::ds,_::vs=>zW nr bs ds vs
 | _,_=>true
def D8 (nr:Nat) (bs:List Nat) (t:bI):List (Tmp×VD)->Bool
 | []=>true
 | p::ps=>zW nr bs p.2.ks (valOf t p.1).cells&&D8 nr bs t ps
def QP (nr:Nat) (bs:List Nat) (t:bI) (A:ai):List (Tmp×List CD×Nat)->Bool
 | []=>true
 | p::ps=>zW nr bs p.2.1 (B7 t A p)&&QP nr bs t A ps
structure GR where
 ok:Bool
 bs:List Nat
 fs:List (Option Nat)
 vs:List KV
 rs:List (List KV)
def aB.KH (S:aB) (P:Program) (t:bI) (A:ai):List FI:=yl P t A S.dh++B8 P t A S.rows
def aB.cP (S:aB) (P:Program) (t:bI) (A:ai):GR:=
 ⟨cond (uH P t A S.rows&&sX (vg t A S.rows)&&Kf t (vg t A S.rows) S.O0&&dY S.dh (ln P t A S.dh)&&sX (iq (GI (S.KH P t A)))&&D8 S.rows.length (vg t A S.rows) t S.dh&&QP S.rows.length (vg t A S.rows) t A S.rows) (QO (S.KH P t A)) false,
  vg t A S.rows,GI (S.KH P t A),ln P t A S.dh,D6 P t A S.rows⟩
def GJ (j:Nat) (v:KV):KV:=
 match v with
 | .ts t _ n es acc=>.ts t (.aF j) n es acc
 | v=>v
def Kg (j:Nat) (v:KV):KV:=
 match v with
 | .ts t _ n _ _=>.al t j 0 n
 | v=>v
def oo:List CD->Nat
 | []=>0
 | .aF _::ds=>Nat.succ (oo ds)
 | .arr _::ds=>Nat.succ (oo ds)
 | _::ds=>oo ds
def nP (j:Nat) (bs:List Nat):List CD->List KV->List KV
 | .aF _::ds,v::vs=>GJ j v::nP (Nat.succ j) bs ds vs
 | .arr _::ds,v::vs=>Kg j v::nP (Nat.succ j) bs ds vs
 | .ref w::ds,_::vs=>inst bs w::nP j bs ds vs
 | _::ds,v::vs=>v::nP j bs ds vs
 | _,_=>[]
def R6 (j:Nat) (bs:List Nat) (d:VD) (v:KV):KV:=
 match v with
 | .agg cs=>.agg (nP j bs d.ks cs)
 | v=>match d.ks with
  | [.aF _]=>GJ j v
  | [.arr _]=>Kg j v
  | [.ref w]=>inst bs w
  | _=>v
def Hj (j:Nat) (bs:List Nat):List (Tmp×VD)->List KV->List (Nat×KV)
 | p::ps,v::vs=>(p.1,R6 j bs p.2 v)::Hj (j+oo p.2.ks) bs ps vs
 | _,_=>[]
def lq:List (Tmp×VD)->Nat
 | []=>0
 | p::ps=>oo p.2.ks+lq ps
def R7 (j:Nat) (bs:List Nat):List (Tmp×List CD×Nat)->List (List KV)->List (List KV)
 | p::ps,r::rs=>nP j bs p.2.1 r::R7 (j+oo p.2.1) bs ps rs
 | _,_=>[]
def lW (P:Program):List CD->List KV->List gJ
 | .aF t::ds,v::vs=>.aF (lenOf v) (szL P t)::lW P ds vs
 | .arr _::ds,v::vs=>.arr v::lW P ds vs
 | _::ds,_::vs=>lW P ds vs
 | _,_=>[]
def wT (P:Program):List (Tmp×VD)->List KV->List gJ
 | p::ps,v::vs=>lW P p.2.ks v.cells++wT P ps vs
 | _,_=>[]
def ym (P:Program):List (Tmp×List CD×Nat)->List (List KV)->List gJ
 | p::ps,r::rs=>lW P p.2.1 r++ym P ps rs
 | _,_=>[]
def aB.lens (S:aB) (P:Program) (vs:List KV) (rs:List (List KV)):List gJ:=wT P S.dh vs++ym P S.rows rs
def sZ (bs:List Nat):List (Tmp×Nat×Nat)->List (Nat×KV)
 | []=>[]
 | p::ps=>cond (zV p) ((p.1,.ptr (bs.getD p.2.1 0) p.2.2)::sZ bs ps) (sZ bs ps)
def MP (l:List (Nat×KV)) (i:Nat):KV:=((gK l).get i).getD .bx
def GK (l:List (Nat×KV)):List (Tmp×Nat×Nat)->List (Nat×KV)
 | []=>[]
 | p::ps=>cond (zV p) (GK l ps) ((p.1,MP l (p.2.1 - 1000000))::GK l ps)
def aB.prs (S:aB) (fb:Nat) (bs:List Nat) (vs:List KV):List (Nat×KV):=Hj fb bs S.dh vs++(sZ bs S.O0++GK (Hj fb bs S.dh vs) S.O0)
def aB.tm (S:aB) (fb:Nat) (bs:List Nat) (vs:List KV):bI:=gK (S.prs fb bs vs)
def aB.B9 (S:aB) (fb:Nat) (bs:List Nat) (rs:List (List KV)):List (List KV):=R7 (fb+lq S.dh) bs S.rows rs
def pw (A:ai):List gJ->ai
 | []=>A
 | p::ps=>pw (A.new p) ps
def vi (A:ai):List (Option Nat)->ai
 | []=>A
 | some f::fs=>vi (A.put f .dead) fs
 | none::fs=>vi A fs
def ml (A:ai):List Nat->List (Tmp×List CD×Nat)->List (List KV)->ai
 | b::bs,p::ps,r::rs=>ml (A.put b (.row r p.2.2)) bs ps rs
 | _,_,_=>A
def aB.back (S:aB) (P:Program) (bs:List Nat) (fs:List (Option Nat)) (vs:List KV) (rs:List (List KV)) (A:ai):ai:=
 pw (vi (ml A bs S.rows (S.B9 A.next bs rs)) fs) (S.lens P vs rs)
def oq (A:ai):List (Tmp×List CD×Nat)->List (List KV)->ai
 | p::ps,r::rs=>oq (A.new (.row r p.2.2)) ps rs
 | _,_=>A
def aB.nr (S:aB):Nat:=S.rows.length
def upto:Nat->List Nat->List Nat
 | 0,l=>l
 | n+1,l=>upto n (n::l)
def aB.ids (S:aB):List Nat:=upto S.rows.length []
def aB.mem (S:aB) (P:Program) (vs:List KV) (rs:List (List KV)):ai:=pw (oq .empty S.rows (S.B9 S.nr S.ids rs)) (S.lens P vs rs)
def px:List Nat->List Nat->Bool
 | [],[]=>true
 | a::aob,b::bs=>Nat.beq a b&&px aob bs
 | _,_=>false
def wU (P:Program) (cfg:gf) (L n:Nat) (f:FuncId) (p:Nat) (body:Code) (S:aB) (vs:List KV) (rs:List (List KV)):Option (aa×List KV×List (List KV)):=
 lQ P cfg (AV P cfg L n) L f body (2 * p) (fun e t A=>
  Bool.rec (motive:=fun _=>Option (aa×List KV×List (List KV))) none (some (e,(S.cP P t A).vs,(S.cP P t A).rs)) (cond (px (S.cP P t A).bs S.ids) (S.cP P t A).ok false)) (S.tm S.nr S.ids vs) (S.mem P vs rs)
def ko:aa->Bool
 | .normal=>true
 | _=>false
def py (rd:List KV->List (List KV)->Option (aa×List KV×List (List KV))):Nat->List KV->List (List KV)->Option (aa×List KV×List (List KV))
 | 0,_,_=>none
 | n+1,vs,rs=>match rd vs rs with
  | some (e,bw,gI)=>cond (ko e) (py rd n bw gI) (some (e,bw,gI))
  | none=>none
inductive qu where
 | no
 | out (e:aa) (vs:List KV) (rs:List (List KV))
 | br (c:Bool) (x y:qu)
def qu.ev:qu->Option (aa×List KV×List (List KV))
 | .no=>none
 | .out e vs rs=>some (e,vs,rs)
 | .br c x y=>cond c x.ev y.ev
def qu.tell (P:Program) (S:aB) (bs:List Nat) (fs:List (Option Nat)) (A:ai):qu->p0
 | .no=>.no
 | .out e vs rs=>.out e (S.tm A.next bs vs) (S.back P bs fs vs rs A)
 | .br c x y=>.br c (x.tell P S bs fs A) (y.tell P S bs fs A)
abbrev ZO:=List KV->List (List KV)->qu
def isExact (v:KV):Bool:=
 match v with
 | .ts _ .exact _ _ _=>true
 | _=>false
def O1:List CD->List KV->Bool
 | .aF _::ds,v::vs=>isExact v||O1 ds vs
 | .arr _::ds,v::vs=>isExact v||O1 ds vs
 | _::ds,_::vs=>O1 ds vs
 | _,_=>false
def afF (t:bI):List (Tmp×VD)->Bool
 | []=>false
 | p::ps=>O1 p.2.ks (valOf t p.1).cells||afF t ps
def afG (t:bI) (A:ai):List (Tmp×List CD×Nat)->Bool
 | []=>false
 | p::ps=>O1 p.2.1 (B7 t A p)||afG t A ps
def aB.ai3 (S:aB) (t:bI) (A:ai):Bool:=afF t S.dh||afG t A S.rows
def O2 (P:Program) (S:aB) (F:ZO):bI->ai->p0:=fun t A=>
 cond (S.ai3 t A) .once <| .br (S.cP P t A).ok ((F (S.cP P t A).vs (S.cP P t A).rs).tell P S (S.cP P t A).bs (S.cP P t A).fs A) .no
end
end Go.K
end
section
namespace Go.K
open Go Go.aA
variable {P:Program} {E:Env}
theorem XY {w v:KV} (h:se w v=true):v=w:=by
 unfold se at h;split at h <;> simp at h
 ·rename_i f g; rw [h]
 all_goals rfl
theorem adR {w v:KV} (h:se w v=true) {E0:Env} {u:Value} (k:VK P E v u):VK P E0 v u:=by
 have:=XY h;subst this;unfold se at h;split at h <;> try (simp at h)
 ·obtain ⟨l,m,rfl,h1,h2⟩:=k.Gm
  rw [h1.bz,h2.bz];exact .abh .nil .nil
 all_goals exact k
theorem VK.mix {T:TypeId} {m m' : Mk} {n:Nat} {es mu:List KV} {acc fg:Nat->KV} {u:Value} (h:VK P E (.ts T m n es acc) u) (k:VK P E (.ts T m' n mu fg) u):VK P E (.ts T m n mu fg) u:=by
 obtain ⟨_,aP,_,a,cap,rfl,h2,_,h4⟩:=h.jC;obtain ⟨ht,anu,k1,a',TY,e,_,k3,_⟩:=k.jC;simp only [Value.slice.injEq] at e;obtain ⟨rfl,_,rfl⟩:=e;simp only [VK];exact ⟨ht,anu,k1,a,cap,rfl,h2,k3,h4⟩
theorem VK.swap {E0:Env} (hz:E0.z=E.z) {T:TypeId} {m m' : Mk} {n:Nat} {es:List KV} {acc:Nat->KV} {u:Value} (h:VK P E (.ts T m n es acc) u) (hm:∀ sz a cap,u = .slice a n cap->J9 E sz a n cap m->J9 E0 sz a n cap m'):VK P E0 (.ts T m' n es acc) u:=by
 obtain ⟨ht,aP,h1,a,cap,rfl,h2,h3,h4⟩:=h.jC;simp only [VK];refine ⟨ht,aP,aK.zEs (.of hz) h1 ht.typed,a,cap,rfl,h2,?_,hm _ _ _ rfl h4⟩;refine h3.imp id ?_;rintro ⟨b,off,r,e1,e2,e3⟩;exact ⟨b,off,r,e1,by rw [hz]; exact e2,e3⟩
theorem MQ (t:TypeId) (m:Mk) (n:Nat) (es:List KV) (acc:Nat->KV):∃ mu fg,bX P df (.ts t m n es acc) = .ts t .any n mu fg:=⟨_,_,rfl⟩
theorem adS {c:CK} {v:KV} (h:kindOk c v=true):leaf c v=v:=by
 cases c <;> cases v <;> simp [kindOk] at h
 ·subst h; rfl
 ·rfl
 ·rfl
 ·rename_i t t' m n es acc
  cases m <;> simp at h;subst h; rfl
theorem VK.nCD {A:ai} {d:CD} {v:KV} {u:Value} (h:VK P E v u) (hd:∀ w,d≠.ref w) (ha:∀ t,d≠.arr t):VK P E (dW P A d v) u:=by
 cases d with
 | ref w=>exact absurd rfl (hd w)
 | arr t=>exact absurd rfl (ha t)
 | k c=>
  show VK P E (cond (kindOk c (K.kO c v)) (K.bX P df (leaf c (K.kO c v))) .bx) u;cases hb:kindOk c (K.kO c v) with
  | false=>exact .qp
  | true=>
   rw [ah,adS hb];exact VK.bX _ h.kO
 | lit w=>
  show VK P E (cond (se w v) w .bx) u;cases hb:se w v with
  | true=>rw [XY hb] at h; exact h
  | false=>exact .qp
 | aF t=>
  unfold dW;cases v with
  | je=>have:=h.mv; subst this; exact VK.bX _ .adE
  | ts t' m n es acc=>
   cases m with
   | aF f=>
    show VK P E (cond (Nat.beq t t') _ .bx) u;cases hb:Nat.beq t t' with
    | false=>exact .qp
    | true=>
     have:=aE hb;subst this;exact VK.bX df h.aiG
   | _=>exact .qp
  | _=>exact .qp
def Lk (E E0:Env) (f:Option Nat) (j:Nat):Prop:=∀ x g,f=some x->E.φ x=some g->E0.φ j=some g
theorem VK.afH {E0:Env} (hz:E0.z=E.z) {A:ai} {t:TypeId} {v:KV} {u:Value} {j:Nat} (h:VK P E v u) (hg:hZ (.aF t) (dW P A (.aF t) v)=true) (hl:Lk E E0 (qt P A t v).f j) (bL:(qt P A t v).ok=true):VK P E0 (GJ j (dW P A (.aF t) v)) u:=by
 cases v with
 | je=>
  have:=h.mv; subst this;have h1:VK P E (K.bX P df (.ts t .any 0 [] mI)) (.slice none 0 0):=VK.bX _ .adE;obtain ⟨mu,fg,e⟩:=MQ (P:=P) t .any 0 [] mI;show VK P E0 (GJ j (K.bX P df (.ts t .any 0 [] mI))) _;rw [e] at h1 ⊢;exact h1.swap hz fun sz a cap he _=>by
   simp only [Value.slice.injEq] at he;obtain ⟨rfl,_,rfl⟩:=he;exact ⟨rfl,.inl ⟨rfl,rfl⟩⟩
 | ts t' m n es acc=>
  cases m with
  | aF f=>
   have e1:dW P A (.aF t) (.ts t' (.aF f) n es acc)=cond (Nat.beq t t') (K.bX P df (.ts t .any n es acc)) .bx:=rfl;rw [e1] at hg ⊢;cases hb:Nat.beq t t' with
   | false=>rw [hb] at hg; simp [hZ,kindOk] at hg
   | true=>
    have:=aE hb;subst this;have h1:=VK.bX (P:=P) df h.aiG;obtain ⟨mu,fg,e⟩:=MQ (P:=P) t .any n es acc;rw [ah,e];rw [e] at h1;have hf:(qt P A t (.ts t (.aF f) n es acc)).f=some f:=by
     revert bL
     unfold qt;simp only;split
     ·intro _; rfl
     ·intro bL; simp at bL
    exact (h.mix h1).swap hz fun sz a cap he hm=>by
     refine ⟨hm.1,hm.2.imp id ?_⟩;rintro ⟨b,r,g,q1,q2,q3,q4,q5⟩;exact ⟨b,r,g,q1,by rw [hz]; exact q2,q3,hl f g hf q4,q5⟩
  | any=>simp [qt] at bL
  | exact=>simp [qt] at bL
 | _=>simp [qt] at bL
def La (E E0:Env) (f:Option Nat) (j:Nat):Prop:=∀ x p,f=some x->E.α x=some p->E0.α j=some p
theorem adT:K.bX P df .bx = .bx:=rfl
theorem QQ {A:ai} {t:TypeId} {v:KV} (hg:hZ (.arr t) (dW P A (.arr t) v)=true):v = .je\/∃ b n m N es acc,v = .al t b 0 n/\A.get b=some (.arr (.ts t m N es acc))/\dW P A (.arr t) v=K.bX P df (.ts t .any N es acc):=by
 have hu:∀ w,w=KV.bx->hZ (.arr t) (K.bX P df w)=false:=fun w e=>by rw [e]; rfl
 have hg:hZ (.arr t) (K.bX P df (I7 A t v))=true:=hg;have e0:dW P A (.arr t) v=K.bX P df (I7 A t v):=rfl;rw [e0];cases v with
 | je=>exact .inl rfl
 | al t' b o n=>
  have e1:I7 A t (.al t' b o n)=(match A.get b with
   | some (.arr (.ts t2 _ N es acc))=>cond (Nat.beq t t'&&Nat.beq t t2&&Nat.beq o 0) (.ts t .any N es acc) .bx
   | _=>.bx):=rfl
  rw [e1] at hg ⊢;split at hg
  ·rename_i t2 m N es acc hb
   cases hc:(Nat.beq t t'&&Nat.beq t t2&&Nat.beq o 0) with
   | false=>rw [hc,ay,hu _ rfl] at hg; simp at hg
   | true=>
    simp only [aj] at hc;have:=aE hc.1.1;subst this;have:=aE hc.1.2;subst this;have:=aE hc.2;subst this;refine .inr ⟨b,n,m,N,es,acc,rfl,hb,?_⟩;rw [ah]
  ·rw [hu _ rfl] at hg; simp at hg
 | _=>exact absurd (hg.symm.trans (hu _ rfl)) (by simp)
theorem VK.ai4 {E0:Env} {A:ai} {t:TypeId} {v:KV} {u:Value} {j:Nat} (h:VK P E v u) (hg:hZ (.arr t) (dW P A (.arr t) v)=true) (hl:La E E0 (D7 P A t v).f j) (bL:(D7 P A t v).ok=true):VK P E0 (Kg j (dW P A (.arr t) v)) u:=by
 rcases QQ hg with rfl | ⟨b,n,m,N,es,acc,rfl,hb,he⟩
 ·have:=h.mv; subst this
  exact .IE (.inl ⟨rfl,rfl,rfl⟩)
 ·obtain ⟨mu,fg,e⟩:=MQ (P:=P) t .any N es acc
  rw [he,e];have hao:D7 P A t (.al t b 0 n)=⟨bU N n,some b,false⟩:=by simp only [D7,hb]
  rw [hao] at bL hl;have hN:N=n:=aE bL;subst hN;show VK P E0 (.al t j 0 N) u;rcases h.rH with ⟨q1,_,q2⟩ | ⟨x,L,M,c,q1,q2⟩
  ·exact .IE (.inl ⟨q1,rfl,q2⟩)
  ·exact .IE (.inr ⟨x,L,M,c,hl b _ rfl q1,q2⟩)
theorem VK.gCD {E0:Env} (hz:E0.z=E.z) {d:CD} {v:KV} {u:Value} (h:VK P E v u) (hg:hZ d v=true) (hd:∀ w,d≠.ref w):VK P E0 v u:=by
 cases d with
 | ref w=>exact absurd rfl (hd w)
 | arr t=>exact h.zK (c:=.slice t) (.of hz) hg
 | k c=>exact h.zK (.of hz) hg
 | lit w=>exact adR hg h
 | aF t=>exact h.zK (c:=.slice t) (.of hz) hg
theorem iK {A:ai} : ∀ {ds:List CD} {vs:List KV},vs.length=ds.length->(jG P A ds vs).length=oo ds
 | [],[],_=>rfl
 | [],_::_,e=>by simp at e
 | _::_,[],e=>by simp at e
 | .k c::ds,v::vs,e=>by simp only [jG,oo]; exact iK (by simpa using e)
 | .lit w::ds,v::vs,e=>by simp only [jG,oo]; exact iK (by simpa using e)
 | .aF t::ds,v::vs,e=>by simp only [jG,oo,lF]; rw [iK (by simpa using e)]
 | .arr t::ds,v::vs,e=>by simp only [jG,oo,lF]; rw [iK (by simpa using e)]
 | .ref w::ds,v::vs,e=>by simp only [jG,oo]; exact iK (by simpa using e)
theorem akA {a b:KV} (h:eqP a b=true):a=b:=by
 unfold eqP at h;split at h
 ·simp only [aj] at h
  rw [aE h.1,aE h.2]
 ·simp at h
theorem Vf:∀ {a b:List KV},Ve a b=true->a=b
 | [],[],_=>rfl
 | [],_::_,h=>by simp [Ve] at h
 | _::_,[],h=>by simp [Ve] at h
 | x::a,y::b,h=>by
  simp only [Ve,aj] at h;rw [akA h.1,Vf h.2]
theorem Kh {a b:KV} (h:I6 a b=true):a=b:=by
 unfold I6 at h;split at h
 ·simp only [aj] at h
  rw [aE h.1,aE h.2]
 ·simp only [aj] at h
  rw [aE h.1.1,Vf h.1.2,Vf h.2]
 ·simp at h
def Rk (E E0:Env) (nr:Nat) (bs A5:List Nat):Prop:=∀ j x,j < nr->E.κ (bs.getD j 0)=some x->E0.κ (A5.getD j 0)=some x
theorem VK.QN {E0:Env} {nr:Nat} {bs A5:List Nat} (hk:Rk E E0 nr bs A5) {w:KV} {u:Value} (hw:isP nr w=true) (h:VK P E (K.QN bs w) u):VK P E0 (K.QN A5 w) u:=by
 cases w <;> simp [isP] at hw;rename_i j o;obtain ⟨x,h1,rfl⟩:=(show VK P E (.ptr (bs.getD j 0) o) u from h).gh;exact .wx (hk j x hw h1)
theorem aK.uG {E0:Env} {nr:Nat} {bs A5:List Nat} (hk:Rk E E0 nr bs A5):∀ {ws:List KV} {us:List Value},Vd nr ws=true->aK P E (K.uG bs ws) us->aK P E0 (K.uG A5 ws) us
 | [],us,_,h=>by rw [h.bz]; exact .nil
 | w::ws,us,hw,h=>by
  simp only [Vd,aj] at hw;obtain ⟨y,ys,rfl,h1,h2⟩:=aK.cons_inv (show aK P E (K.QN bs w::K.uG bs ws) us from h);exact .cons (VK.QN hk hw.1 h1) (aK.uG hk hw.2 h2)
theorem VK.inst {E0:Env} {nr:Nat} {bs A5:List Nat} (hk:Rk E E0 nr bs A5) {w:KV} {u:Value} (hw:R5 nr w=true) (h:VK P E (K.inst bs w) u):VK P E0 (K.inst A5 w) u:=by
 cases w with
 | ptr j o=>
  obtain ⟨x,h1,rfl⟩:=(show VK P E (.ptr (bs.getD j 0) o) u from h).gh;exact .wx (hk j x (by simpa [R5] using hw) h1)
 | fn f first cap=>
  cases f with
  | func f=>
   simp only [R5,aj] at hw;obtain ⟨l,m,rfl,h1,h2⟩:=(show VK P E (.fn (.func f) (K.uG bs first) (K.uG bs cap)) u from h).Gm;exact .abh (aK.uG hk hw.1 h1) (aK.uG hk hw.2 h2)
  | _=>simp [R5] at hw
 | _=>simp [R5] at hw
def mm (E E0:Env) (l:List FI) (j:Nat):Prop:=∀ (i:Nat) fi,l[i]? = some fi->fi.ok=true/\(fi.fm=true->Lk E E0 fi.f (j+i))/\La E E0 fi.f (j+i)
theorem mm.left {E0:Env} {l m:List FI} {j:Nat} (h:mm E E0 (l++m) j):mm E E0 l j:=fun i fi e=>h i fi (by rw [mL (cp.1 e).1]; exact e)
theorem mm.right {E0:Env} {l m:List FI} {j:Nat} (h:mm E E0 (l++m) j):mm E E0 m (j+l.length):=fun i fi e=>by
 have:=h (l.length+i) fi (by rw [n4 (by omega)]; simpa using e);rw [nD]; exact this
theorem mm.head {E0:Env} {x:FI} {l:List FI} {j:Nat} (h:mm E E0 (x::l) j):x.ok=true/\(x.fm=true->Lk E E0 x.f j)/\La E E0 x.f j:=h 0 x rfl
theorem mm.tail {E0:Env} {x:FI} {l:List FI} {j:Nat} (h:mm E E0 (x::l) j):mm E E0 l (j+1):=fun i fi e=>by
 have:=h (i+1) fi (by simpa using e);rw [show j+1+i=j+(i+1) by omega]; exact this
theorem aK.cellsIn {E0:Env} (hz:E0.z=E.z) {A:ai} {nr:Nat} {bs A5:List Nat} (hk:Rk E E0 nr bs A5):∀ {ds:List CD} {vs:List KV} {us:List Value} {j:Nat},aK P E vs us->vs.length=ds.length->cH ds (dX P A ds vs)=true->mm E E0 (jG P A ds vs) j->zW nr bs ds vs=true->aK P E0 (nP j A5 ds (dX P A ds vs)) us
 | [],[],us,j,h,_,_,_,_=>by rw [h.bz]; exact .nil
 | [],_::_,_,_,_,e,_,_,_=>by simp at e
 | _::_,[],_,_,_,e,_,_,_=>by simp at e
 | d::ds,v::vs,us,j,h,e,hg,hf,hr=>by
  simp only [dX,cH,aj] at hg;obtain ⟨y,ys,rfl,h1,h2⟩:=h.cons_inv;have e' : vs.length=ds.length:=by simpa using e
  cases d with
  | k c=>exact .cons ((h1.nCD (by simp) (by simp)).gCD (d:=.k c) hz hg.1 (by simp)) (aK.cellsIn hz hk h2 e' hg.2 hf hr)
  | lit w=>exact .cons ((h1.nCD (by simp) (by simp)).gCD (d:=.lit w) hz hg.1 (by simp)) (aK.cellsIn hz hk h2 e' hg.2 hf hr)
  | aF t=>exact .cons (h1.afH hz hg.1 (hf.head.2.1 (XX ..)) hf.head.1) (aK.cellsIn hz hk h2 e' hg.2 hf.tail hr)
  | arr t=>exact .cons (h1.ai4 hg.1 hf.head.2.2 hf.head.1) (aK.cellsIn hz hk h2 e' hg.2 hf.tail hr)
  | ref w=>
   simp only [zW,aj] at hr;exact .cons (VK.inst hk hr.1 (by rw [Kh hr.2.1]; exact h1)) (aK.cellsIn hz hk h2 e' hg.2 hf hr.2.2)
theorem ZP {ds:List CD} {v:KV} (h:cH ds [v] = true):∃ d,ds = [d]/\hZ d v=true:=by
 cases ds with
 | nil=>simp [cH] at h
 | cons d ds=>
  simp only [cH,aj] at h;cases ds with
  | nil=>exact ⟨d,rfl,h.1⟩
  | cons e ds=>simp [cH] at h
theorem ug {d:VD} {v:KV} (h:sU d v=true):(∃ cs,v = .agg cs/\d.agg=true/\cH d.ks cs=true)\/((∀ cs,v≠.agg cs)/\d.agg=false/\∃ c,d.ks = [c]/\hZ c v=true):=by
 by_cases ha:∃ cs,v = .agg cs
 ·obtain ⟨cs,rfl⟩:=ha
  simp only [sU,aj] at h;exact .inl ⟨cs,rfl,h.1,h.2⟩
 ·have h:(!d.agg&&cH d.ks [v])=true:=by
   cases v <;> first | exact h | exact absurd ⟨_,rfl⟩ ha
  simp only [aj,iA] at h;exact .inr ⟨fun cs e=>ha ⟨cs,e⟩,h.1,ZP h.2⟩
theorem uh {A:ai} {d:VD} {v:KV} (h:sU d (rK P A d v)=true):(∃ cs,v = .agg cs/\cs.length=d.ks.length/\rK P A d v = .agg (dX P A d.ks cs)/\cH d.ks (dX P A d.ks cs)=true)\/
  ((∀ cs,v≠.agg cs)/\∃ c,d.ks = [c]/\rK P A d v=dW P A c v/\hZ c (dW P A c v)=true/\v.cells = [v]/\(∀ cs,dW P A c v≠.agg cs)):=by
 have ai5:sU d .bx=false:=by
  cases hb:sU d .bx with
  | false=>rfl
  | true=>
   rcases ug hb with ⟨cs,e,_⟩ | ⟨_,_,c,_,hc⟩
   ·simp at e
   ·cases c with
    | k c=>cases c <;> simp [hZ,kindOk] at hc
    | lit w=>cases w <;> first | (simp [hZ,se] at hc; done) | (rename_i f a b; cases f <;> cases a <;> cases b <;> simp [hZ,se] at hc)
    | aF t=>simp [hZ,kindOk] at hc
    | arr t=>simp [hZ,kindOk] at hc
    | ref w=>
     have hc:I6 w .bx=true:=hc;have:=Kh hc;subst this;simp [I6] at hc
 by_cases ha:∃ cs,v = .agg cs
 ·obtain ⟨cs,rfl⟩:=ha
  have e:rK P A d (.agg cs)=cond (d.agg&&Nat.beq cs.length d.ks.length) (.agg (dX P A d.ks cs)) .bx:=rfl;cases hb:(d.agg&&Nat.beq cs.length d.ks.length) with
  | false=>rw [e,hb,ay,ai5] at h; simp at h
  | true=>
   rw [e,hb,ah] at h;simp only [aj] at hb;simp only [sU,aj] at h;exact .inl ⟨cs,rfl,aE hb.2,by rw [e]; simp only [hb.1,hb.2,cY,ah],h.2⟩
 ·have e:rK P A d v=cond d.agg .bx (match d.ks with | [c]=>dW P A c v | _=>.bx):=by
   cases v <;> first | rfl | exact absurd ⟨_,rfl⟩ ha
  have uA:v.cells = [v]:=by cases v <;> first | rfl | exact absurd ⟨_,rfl⟩ ha
  cases uZ:d.agg with
  | true=>rw [e,uZ,ah,ai5] at h; simp at h
  | false=>
   rw [uZ,ay] at e;rw [e] at h;split at h
   ·rename_i c hc
    rw [hc] at e;simp only at e;rcases ug h with ⟨cs,e2,h2,_⟩ | ⟨h1,_,c',h2,h3⟩
    ·rw [uZ] at h2; simp at h2
    ·rw [hc] at h2
     simp only [List.cons.injEq,and_true] at h2;subst h2;exact .inr ⟨fun cs ec=>ha ⟨cs,ec⟩,c,hc,e,h3,uA,h1⟩
   ·rw [ai5] at h; simp at h
theorem zr {A:ai} {d:VD} {v:KV} (h:sU d (rK P A d v)=true):v.cells.length=d.ks.length:=by
 rcases uh h with ⟨cs,rfl,h1,_⟩ | ⟨_,c,h1,_,_,h2,_⟩
 ·exact h1
 ·rw [h1,h2]; rfl
theorem VK.aly {E0:Env} (hz:E0.z=E.z) {A:ai} {nr:Nat} {bs A5:List Nat} (hk:Rk E E0 nr bs A5) {d:VD} {v:KV} {u:Value} {j:Nat} (h:VK P E v u) (hg:sU d (rK P A d v)=true) (hf:mm E E0 (jG P A d.ks v.cells) j) (hr:zW nr bs d.ks v.cells=true):VK P E0 (R6 j A5 d (rK P A d v)) u:=by
 rcases uh hg with ⟨cs,rfl,h1,h2,h3⟩ | ⟨h0,c,h1,h2,h3,h4,h5⟩
 ·rw [h2]
  obtain ⟨l,rfl,k⟩:=h.ju;exact .nt (aK.cellsIn hz hk k h1 h3 hf hr)
 ·rw [h2]
  have e:R6 j A5 d (dW P A c v)=(match d.ks with | [.aF _]=>GJ j (dW P A c v) | [.arr _]=>Kg j (dW P A c v) | [.ref w]=>K.inst A5 w | _=>dW P A c v):=by
   generalize dW P A c v=w at h5;cases w <;> first | rfl | exact absurd rfl (h5 _)
  rw [e,h1];rw [h1,h4] at hf hr;cases c with
  | k c=>exact (h.nCD (by simp) (by simp)).gCD (d:=.k c) hz h3 (by simp)
  | lit w=>exact (h.nCD (by simp) (by simp)).gCD (d:=.lit w) hz h3 (by simp)
  | aF t=>exact h.afH hz h3 (hf.head.2.1 (XX ..)) hf.head.1
  | arr t=>exact h.ai4 h3 hf.head.2.2 hf.head.1
  | ref w=>
   simp only [zW,aj] at hr;exact VK.inst hk hr.1 (by rw [Kh hr.2.1]; exact h)
theorem VK.QF {A:ai} {nr:Nat} {bs:List Nat} {d:VD} {t:bI} {i:Tmp} (h:sU d (rK P A d (valOf t i))=true) (hr:zW nr bs d.ks (valOf t i).cells=true):∃ v,t.get i=some v:=by
 cases hg:t.get i with
 | some v=>exact ⟨v,rfl⟩
 | none=>
  exfalso;have e:valOf t i = .bx:=by simp [valOf,hg]
  rw [e] at h hr;rcases uh h with ⟨cs,e2,_⟩ | ⟨_,c,oK,_,h3,_,_⟩
  ·simp at e2
  ·cases c with
   | ref w=>
    rw [oK] at hr;have hr:(R5 nr w&&(I6 (K.inst bs w) .bx&&true))=true:=hr;simp only [aj] at hr;have h1:=hr.2.1;have:=Kh h1;rw [this] at h1;simp [I6] at h1
   | k c=>
    have h4:kindOk c (K.kO c .bx)=false:=by cases c <;> rfl
    have h5:dW P A (.k c) .bx = .bx:=by
     show cond (kindOk c (K.kO c .bx)) (K.bX P df (leaf c (K.kO c .bx))) KV.bx=KV.bx;rw [h4]; rfl
    rw [h5] at h3;cases c <;> simp [hZ,kindOk] at h3
   | lit w=>cases w <;> first | (simp [dW,hZ,se] at h3; done) | (rename_i f a b; cases f <;> cases a <;> cases b <;> simp [dW,hZ,se] at h3)
   | aF t=>simp [dW,hZ,kindOk] at h3
   | arr t=>exact absurd h3 (by simp [dW,I7,adT,hZ,kindOk])
end Go.K
end
section
namespace Go.K
open Go Go.aA
variable {P:Program} {E:Env}
theorem Vg:∀ {bs:List Nat},sX bs=true->∀ (i j b:Nat),bs[i]? = some b->bs[j]? = some b->i=j
 | [],_,i,j,b,hi,_=>by simp at hi
 | a::bs,h,i,j,b,hi,hj=>by
  simp only [sX,aj,dS,iA] at h;cases i with
  | zero=>
   cases j with
   | zero=>rfl
   | succ j=>
    simp at hi hj; subst hi;have:=h.1 a (eW hj);exact absurd (p9 a) (by rw [this]; simp)
  | succ i=>
   cases j with
   | zero=>
    simp at hi hj; subst hj;have:=h.1 a (eW hi);exact absurd (p9 a) (by rw [this]; simp)
   | succ j=>
    simp at hi hj;rw [Vg h.2 i j b hi hj]
theorem sf:∀ {l:List (Option Nat)} {f:Nat},f∈iq l↔some f∈l
 | [],f=>by simp [iq]
 | some g::l,f=>by simp [iq,sf (l:=l)]
 | none::l,f=>by simp [iq,sf (l:=l)]
theorem s0:∀ {l:List (Option Nat)},sX (iq l)=true->∀ (i j f:Nat),l[i]? = some (some f)->l[j]? = some (some f)->i=j
 | [],_,i,j,b,hi,_=>by simp at hi
 | none::l,h,i,j,f,hi,hj=>by
  cases i with
  | zero=>simp at hi
  | succ i=>
   cases j with
   | zero=>simp at hj
   | succ j=>
    simp at hi hj;rw [s0 (l:=l) h i j f hi hj]
 | some g::l,h,i,j,f,hi,hj=>by
  simp only [iq,sX,aj,dS,iA] at h;have key:∀ {k:Nat},l[k]? = some (some g)->False:=by
   intro k hk;have:=h.1 g (sf.2 (eW hk));exact absurd (p9 g) (by rw [this]; simp)
  cases i with
  | zero=>
   cases j with
   | zero=>rfl
   | succ j=>
    simp at hi hj; subst hi;exact (key hj).elim
  | succ i=>
   cases j with
   | zero=>
    simp at hi hj; subst hj;exact (key hi).elim
   | succ j=>
    simp at hi hj;rw [s0 (l:=l) h.2 i j f hi hj]
theorem GL:∀ {l:List FI} {i:Nat} {x:FI},l[i]? = some x->(GI l)[i]? = some x.f
 | [],_,_,h=>by simp at h
 | y::l,0,x,h=>by simp at h; subst h; rfl
 | y::l,i+1,x,h=>by simp at h; simpa [GI] using GL h
theorem oP:∀ {l:List FI},(GI l).length=l.length
 | []=>rfl
 | y::l=>by simp [GI,oP]
theorem MR:∀ {l:List FI},QO l=true->∀ x∈l,x.ok=true
 | [],_,x,h=>by simp at h
 | y::l,h,x,hx=>by
  simp only [QO] at h;cases hl:QO l with
  | false=>rw [hl] at h; simp at h
  | true=>
   rw [hl,ah] at h;rcases bd.1 hx with rfl | hx
   ·exact h
   ·exact MR hl x hx
theorem eU:∀ (l:List gJ) (A:ai),(pw A l).next=A.next+l.length
 | [],_=>rfl
 | p::l,A=>by rw [pw,eU l]; simp; omega
theorem A6:∀ {l:List gJ} {A:ai} {x:Nat},x < A.next->(pw A l).get x=A.get x
 | [],_,_,_=>rfl
 | p::l,A,x,h=>by rw [pw,A6 (by simp; omega),ai.cV,ae (by omega)]
theorem I8:∀ {l:List gJ} {A:ai} {i:Nat} {p:gJ},l[i]? = some p->(pw A l).get (A.next+i)=some p
 | [],_,_,_,h=>by simp at h
 | q::l,A,0,p,h=>by
  simp at h; subst h;rw [pw,p8,A6 (by simp),ai.cV,ax rfl]
 | q::l,A,i+1,p,h=>by
  simp at h;have:=I8 (A:=A.new q) h;rw [ai.cw] at this;rw [pw,show A.next+(i+1)=A.next+1+i by omega];exact this
theorem O3:∀ {l:List gJ} {A:ai} {x:Nat} {o:gJ},(pw A l).get x=some o->(A.get x=some o/\x < A.next+l.length)\/(x < A.next/\A.get x=some o)\/(∃ i p,x=A.next+i/\l[i]? = some p/\o=p)\/A.get x=some o
 | [],_,_,_,h=>.inr (.inr (.inr h))
 | p::l,A,x,o,h=>by
  rw [pw] at h;have key:(A.new p).get x=some o->(∃ i q,x=A.next+i/\(p::l)[i]? = some q/\o=q)\/A.get x=some o:=by
   intro h;rw [ai.cV] at h;split at h
   ·rename_i e; simp at h; exact .inl ⟨0,p,by omega,rfl,h.symm⟩
   ·exact .inr h
  rcases O3 h with ⟨h,_⟩ | ⟨_,h⟩ | ⟨i,q,e,h1,h2⟩ | h
  ·exact .inr (.inr (key h))
  ·exact .inr (.inr (key h))
  ·exact .inr (.inr (.inl ⟨i+1,q,by rw [e]; simp; omega,by simpa using h1,h2⟩))
  ·exact .inr (.inr (key h))
theorem O4 {l:List gJ} {A:ai} {x:Nat} {o:gJ} (h:(pw A l).get x=some o):A.get x=some o\/∃ i p,x=A.next+i/\l[i]? = some p/\o=p:=by
 rcases O3 h with ⟨h,_⟩ | ⟨_,h⟩ | h | h
 ·exact .inl h
 ·exact .inl h
 ·exact .inr h
 ·exact .inl h
theorem Di:∀ (l:List (Option Nat)) (A:ai),(vi A l).next=A.next
 | [],_=>rfl
 | some f::l,A=>by rw [vi,Di l]; rfl
 | none::l,A=>by rw [vi,Di l]
theorem Ca:∀ {l:List (Option Nat)} {A:ai} {x:Nat},(vi A l).get x=if x∈iq l then some .dead else A.get x
 | [],A,x=>by simp [vi,iq]
 | none::l,A,x=>by rw [vi,Ca,iq]
 | some f::l,A,x=>by
  rw [vi,Ca,iq,ai.b6];by_cases h1:x∈iq l
  ·rw [ax h1,ax (rA _ h1)]
  ·rw [ae h1]
   by_cases h2:x=f
   ·rw [ax h2,ax (by simp [h2])]
   ·rw [ae h2,ae (by simp [h1,h2])]
theorem MS:∀ (bs:List Nat) (ps:List (Tmp×List CD×Nat)) (rs:List (List KV)) (A:ai),(ml A bs ps rs).next=A.next
 | [],_,_,_=>rfl
 | _::_,[],_,_=>rfl
 | _::_,_::_,[],_=>rfl
 | b::bs,p::ps,r::rs,A=>by rw [ml,MS bs ps rs]; rfl
theorem I9:∀ {bs:List Nat} {ps:List (Tmp×List CD×Nat)} {rs:List (List KV)} {A:ai} {x:Nat},x ∉ bs->(ml A bs ps rs).get x=A.get x
 | [],_,_,_,_,_=>rfl
 | _::_,[],_,_,_,_=>rfl
 | _::_,_::_,[],_,_,_=>rfl
 | b::bs,p::ps,r::rs,A,x,h=>by
  simp only [bd,not_or] at h;rw [ml,I9 h.2,ai.b6,ae h.1]
theorem abT:∀ {bs:List Nat} {ps:List (Tmp×List CD×Nat)} {rs:List (List KV)} {A:ai} {k b:Nat} {p:Tmp×List CD×Nat} {r:List KV},sX bs=true->bs[k]? = some b->ps[k]? = some p->rs[k]? = some r->(ml A bs ps rs).get b=some (.row r p.2.2)
 | [],_,_,_,_,_,_,_,_,h,_,_=>by simp at h
 | _::_,[],_,_,_,_,_,_,_,_,h,_=>by simp at h
 | _::_,_::_,[],_,_,_,_,_,_,_,_,h=>by simp at h
 | b::bs,p::ps,r::rs,A,k,x,p',r',hn,hb,hp,hr=>by
  have hn':=hn;simp only [sX,aj] at hn;cases k with
  | zero=>
   simp at hb hp hr;subst hb hp hr;rw [ml,I9,ai.b6,ax rfl];intro hm;have:=dS.1 hn.1 b hm;simp at this
  | succ k=>
   simp only [FK] at hb hp hr;rw [ml];exact abT hn.2 hb hp hr
theorem XZ:∀ {ps:List (Tmp×List CD×Nat)} {rs:List (List KV)} {A:ai},rs.length=ps.length->(oq A ps rs).next=A.next+ps.length
 | [],[],_,_=>rfl
 | [],_::_,_,h=>by simp at h
 | _::_,[],_,h=>by simp at h
 | p::ps,r::rs,A,h=>by rw [oq,XZ (by simpa using h)]; simp; omega
theorem abU:∀ {ps:List (Tmp×List CD×Nat)} {rs:List (List KV)} {A:ai} {x:Nat},x < A.next->(oq A ps rs).get x=A.get x
 | [],_,_,_,_=>rfl
 | _::_,[],_,_,_=>rfl
 | p::ps,r::rs,A,x,h=>by rw [oq,abU (by simp; omega),ai.cV,ae (by omega)]
theorem afI:∀ {ps:List (Tmp×List CD×Nat)} {rs:List (List KV)} {A:ai} {k:Nat} {p:Tmp×List CD×Nat} {r:List KV},ps[k]? = some p->rs[k]? = some r->(oq A ps rs).get (A.next+k)=some (.row r p.2.2)
 | [],_,_,_,_,_,h,_=>by simp at h
 | _::_,[],_,_,_,_,_,h=>by simp at h
 | p::ps,r::rs,A,k,p',r',hp,hr=>by
  cases k with
  | zero=>
   simp at hp hr; subst hp hr;rw [oq,p8,abU (by simp),ai.cV,ax rfl]
  | succ k=>
   simp only [FK] at hp hr;have:=afI (A:=A.new (.row r p.2.2)) hp hr;rw [oq];simpa [Nat.add_comm,Nat.add_left_comm] using this
theorem abV:∀ {ps:List (Tmp×List CD×Nat)} {rs:List (List KV)} {A:ai} {x:Nat} {o:gJ},(oq A ps rs).get x=some o->A.get x=some o\/∃ k p r,x=A.next+k/\ps[k]? = some p/\rs[k]? = some r/\o = .row r p.2.2
 | [],_,_,_,_,h=>.inl h
 | _::_,[],_,_,_,h=>.inl h
 | p::ps,r::rs,A,x,o,h=>by
  rw [oq] at h;rcases abV h with h | ⟨k,p',r',rfl,h1,h2,h3⟩
  ·rw [ai.cV] at h
   by_cases e:x=A.next
   ·rw [ax e] at h; simp at h
    exact .inr ⟨0,p,r,by omega,rfl,rfl,h.symm⟩
   ·rw [ae e] at h; exact .inl h
  ·exact .inr ⟨k+1,p',r',by simp; omega,by simpa using h1,by simpa using h2,h3⟩
theorem X0:∀ (n:Nat) (l:List Nat) (k:Nat),(upto n l)[k]? = if k < n then some k else l[k - n]?
 | 0,l,k=>by simp [upto]
 | n+1,l,k=>by
  rw [upto,X0 n];by_cases h:k < n
  ·rw [ax h,ax (by omega)]
  ·rw [ae h]
   by_cases h2:k=n
   ·subst h2
    rw [ax (by omega)];simp
   ·rw [ae (by omega),show k - n=(k - (n+1))+1 by omega]
    simp
theorem Cb (S:aB) (k:Nat) (h:k < S.rows.length):S.ids[k]? = some k:=by rw [aB.ids,X0,ax h]
theorem Dj:∀ {a b:List Nat},px a b=true->a=b
 | [],[],_=>rfl
 | [],_::_,h=>by simp [px] at h
 | _::_,[],h=>by simp [px] at h
 | x::a,y::b,h=>by
  simp only [px,aj] at h;rw [aE h.1,Dj h.2]
theorem Dk {t:bI} {A:ai} {p:Tmp×List CD×Nat} (h:(rowOf t A p).isSome=true):∃ b cs,A.get b=some (.row cs p.2.2)/\cs.length=p.2.1.length/\afE t A p=b/\B7 t A p=cs:=by
 unfold rowOf at h;split at h
 ·rename_i b hb
  split at h
  ·rename_i cs e hr
   cases hc:(Nat.beq e p.2.2&&Nat.beq cs.length p.2.1.length) with
   | false=>rw [hc] at h; simp at h
   | true=>
    have WN:rowOf t A p=some (b,cs):=by simp only [rowOf,hb,hr,hc,ah]
    simp only [aj] at hc;have he:=aE hc.1;subst he;exact ⟨b,cs,hr,aE hc.2,by simp [afE,WN],by simp [B7,WN]⟩
  ·simp at h
 ·simp at h
structure cQ (P:Program) (S:aB) (t:bI) (A:ai) (g:GR):Prop where
 rows:uH P t A S.rows=true
 nodup:sX g.bs=true
 O0:Kf t g.bs S.O0=true
 dh:dY S.dh g.vs=true
 Tj:sX (iq g.fs)=true
 ai6:D8 S.rows.length g.bs t S.dh=true
 alz:QP S.rows.length g.bs t A S.rows=true
 rC:QO (S.KH P t A)=true
 bs:g.bs=vg t A S.rows
 fs:g.fs=GI (S.KH P t A)
 vs:g.vs=ln P t A S.dh
 rs:g.rs=D6 P t A S.rows
theorem zt {S:aB} {t:bI} {A:ai} (h:(S.cP P t A).ok=true):cQ P S t A (S.cP P t A):=by
 unfold aB.cP at h ⊢;simp only at h ⊢;cases hc:(uH P t A S.rows&&sX (vg t A S.rows)&&Kf t (vg t A S.rows) S.O0&&dY S.dh (ln P t A S.dh)&&sX (iq (GI (S.KH P t A)))&&D8 S.rows.length (vg t A S.rows) t S.dh&&QP S.rows.length (vg t A S.rows) t A S.rows) with
 | false=>rw [hc] at h; simp at h
 | true=>
  rw [hc,ah] at h;simp only [aj] at hc;exact ⟨hc.1.1.1.1.1.1,hc.1.1.1.1.1.2,hc.1.1.1.1.2,hc.1.1.1.2,hc.1.1.2,hc.1.2,hc.2,h,rfl,rfl,rfl,rfl⟩
theorem Vh {t:bI} {A:ai} : ∀ {ps:List (Tmp×List CD×Nat)} {k:Nat} {p:Tmp×List CD×Nat},ps[k]? = some p->(vg t A ps)[k]? = some (afE t A p)
 | [],_,_,h=>by simp at h
 | p::ps,0,q,h=>by simp at h; subst h; rfl
 | p::ps,k+1,q,h=>by simp at h; simpa [vg] using Vh h
theorem yT {t:bI} {A:ai} : ∀ {ps:List (Tmp×List CD×Nat)},(vg t A ps).length=ps.length
 | []=>rfl
 | p::ps=>by simp [vg,yT]
theorem LC {t:bI} {A:ai} : ∀ {ps:List (Tmp×List CD×Nat)},(D6 P t A ps).length=ps.length
 | []=>rfl
 | p::ps=>by simp [D6,LC]
theorem R8 {t:bI} {A:ai} : ∀ {ps:List (Tmp×List CD×Nat)},uH P t A ps=true->∀ {k:Nat} {p:Tmp×List CD×Nat},ps[k]? = some p->(rowOf t A p).isSome=true/\cH p.2.1 (dX P A p.2.1 (B7 t A p))=true
 | [],_,k,p,h=>by simp at h
 | q::ps,h,k,p,hp=>by
  simp only [uH,aj] at h;cases k with
  | zero=>simp at hp; subst hp; exact ⟨h.1,h.2.1⟩
  | succ k=>simp at hp; exact R8 h.2.2 hp
theorem O5:∀ {ps:List (Tmp×List CD×Nat)} {rs:List (List KV)},rs.length=ps.length->∀ (j:Nat) (bs:List Nat),(R7 j bs ps rs).length=ps.length
 | [],[],_,_,_=>rfl
 | [],_::_,h,_,_=>by simp at h
 | _::_,[],h,_,_=>by simp at h
 | p::ps,r::rs,h,j,bs=>by simp [R7,O5 (by simpa using h)]
def vL (j:Nat):List (Tmp×List CD×Nat)->Nat->Nat
 | [],_=>j
 | _::_,0=>j
 | p::ps,k+1=>vL (j+oo p.2.1) ps k
theorem Ki {bs:List Nat} : ∀ {ps:List (Tmp×List CD×Nat)} {rs:List (List KV)} {j k:Nat} {p:Tmp×List CD×Nat} {r:List KV},ps[k]? = some p->rs[k]? = some r->(R7 j bs ps rs)[k]? = some (nP (vL j ps k) bs p.2.1 r)
 | [],_,_,_,_,_,h,_=>by simp at h
 | _::_,[],_,_,_,_,_,h=>by simp at h
 | p::ps,r::rs,j,0,p',r',h1,h2=>by simp at h1 h2; subst h1 h2; rfl
 | p::ps,r::rs,j,k+1,p',r',h1,h2=>by
  simp at h1 h2;simp only [R7,FK];exact Ki h1 h2
theorem Vi {E0:Env} {t:bI} {A:ai} : ∀ {ps:List (Tmp×List CD×Nat)} {j:Nat},uH P t A ps=true->mm E E0 (B8 P t A ps) j->∀ {k:Nat} {p:Tmp×List CD×Nat},ps[k]? = some p->mm E E0 (jG P A p.2.1 (B7 t A p)) (vL j ps k)
 | [],_,_,_,_,_,h=>by simp at h
 | q::ps,j,hr,hf,k,p,hp=>by
  simp only [uH,aj] at hr;obtain ⟨b,cs,_,hl,_,hC⟩:=Dk hr.1;cases k with
  | zero=>simp at hp; subst hp; exact hf.left
  | succ k=>
   simp at hp;have:=hf.right;rw [iK (by rw [hC]; exact hl)] at this;exact Vi hr.2.2 this hp
theorem yU {t:bI} {A:ai} : ∀ {ps:List (Tmp×VD)},dY ps (ln P t A ps)=true->(yl P t A ps).length=lq ps
 | [],_=>rfl
 | p::ps,h=>by
  simp only [ln,dY,aj] at h;simp only [yl,lq,fE];rw [iK (zr h.1),yU h.2]
def Ff (P:Program) (A:ai) (x:FI) (q:gJ):Prop:=
 (∃ n sz,q = .aF n sz/\((x.f=none/\n=0)\/∃ f,x.f=some f/\A.get f=some (.aF n sz)))\/
 ∃ t v,q = .arr v/\((x.f=none/\1<=aJ P t/\v=K.bX P df (.ts t .any 0 [] mI))\/∃ f m N es acc,x.f=some f/\A.get f=some (.arr (.ts t m N es acc))/\v=K.bX P df (.ts t .any N es acc))
theorem ai7 {A:ai} {t:TypeId} {v:KV} (bL:(D7 P A t v).ok=true) (hg:hZ (.arr t) (dW P A (.arr t) v)=true):Ff P A (D7 P A t v) (.arr (dW P A (.arr t) v)):=by
 rcases QQ hg with rfl | ⟨b,n,m,N,es,acc,rfl,hb,he⟩
 ·exact .inr ⟨t,_,rfl,.inl ⟨rfl,cL bL,rfl⟩⟩
 ·refine .inr ⟨t,_,rfl,.inr ⟨b,m,N,es,acc,?_,hb,he⟩⟩
  simp only [D7,hb]
theorem ai8 {A:ai} {t:TypeId} {v:KV} (bL:(qt P A t v).ok=true) (hg:hZ (.aF t) (dW P A (.aF t) v)=true):Ff P A (qt P A t v) (.aF (lenOf (dW P A (.aF t) v)) (szL P t)):=by
 refine .inl ⟨_,_,rfl,?_⟩;cases v with
 | je=>exact .inl ⟨rfl,rfl⟩
 | ts t' m n es acc=>
  cases m with
  | aF f=>
   have e1:dW P A (.aF t) (.ts t' (.aF f) n es acc)=cond (Nat.beq t t') (K.bX P df (.ts t .any n es acc)) .bx:=rfl;rw [e1] at hg ⊢;cases hb:Nat.beq t t' with
   | false=>rw [hb] at hg; simp [hZ,kindOk] at hg
   | true=>
    rw [ah];refine .inr ⟨f,?_,?_⟩
    ·revert bL
     unfold qt;simp only;split
     ·intro _; rfl
     ·intro bL; simp at bL
    ·revert bL
     unfold qt;simp only;split
     ·rename_i top sz he
      intro bL;simp only at bL;cases hs:Nat.beq sz (szL P t) with
      | false=>rw [hs] at bL; simp at bL
      | true=>
       rw [hs,ah] at bL;have h1:=aE hs;have h2:=aE (show Nat.beq top n=true from bL);subst h1 h2;exact he
     ·intro bL; simp at bL
  | any=>simp [qt] at bL
  | exact=>simp [qt] at bL
 | _=>simp [qt] at bL
theorem sh {A:ai} : ∀ {ds:List CD} {vs:List KV} {i:Nat} {x:FI},vs.length=ds.length->cH ds (dX P A ds vs)=true->(jG P A ds vs)[i]? = some x->x.ok=true->∃ q,(lW P ds (dX P A ds vs))[i]? = some q/\Ff P A x q
 | [],[],_,_,_,_,h,_=>by simp [jG] at h
 | [],_::_,_,_,e,_,_,_=>by simp at e
 | _::_,[],_,_,e,_,_,_=>by simp at e
 | .k c::ds,v::vs,i,x,e,hg,h,bL=>by
  simp only [dX,cH,aj] at hg;have h' : (jG P A ds vs)[i]? = some x:=h;exact sh (ds:=ds) (vs:=vs) (by simpa using e) hg.2 h' bL
 | .lit c::ds,v::vs,i,x,e,hg,h,bL=>by
  simp only [dX,cH,aj] at hg;have h' : (jG P A ds vs)[i]? = some x:=h;exact sh (ds:=ds) (vs:=vs) (by simpa using e) hg.2 h' bL
 | .ref c::ds,v::vs,i,x,e,hg,h,bL=>by
  simp only [dX,cH,aj] at hg;have h' : (jG P A ds vs)[i]? = some x:=h;exact sh (ds:=ds) (vs:=vs) (by simpa using e) hg.2 h' bL
 | .aF t::ds,v::vs,i,x,e,hg,h,bL=>by
  simp only [dX,cH,aj] at hg;cases i with
  | zero=>
   simp [jG] at h;subst h;exact ⟨_,rfl,ai8 bL hg.1⟩
  | succ i=>
   simp [jG] at h;obtain ⟨q,h1,h2⟩:=sh (by simpa using e) hg.2 h bL;exact ⟨q,by simpa [lW,dX] using h1,h2⟩
 | .arr t::ds,v::vs,i,x,e,hg,h,bL=>by
  simp only [dX,cH,aj] at hg;cases i with
  | zero=>
   simp [jG] at h;subst h;exact ⟨_,rfl,ai7 bL hg.1⟩
  | succ i=>
   simp [jG] at h;obtain ⟨q,h1,h2⟩:=sh (by simpa using e) hg.2 h bL;exact ⟨q,by simpa [lW,dX] using h1,h2⟩
theorem lG:∀ {ds:List CD} {vs:List KV},vs.length=ds.length->(lW P ds vs).length=oo ds
 | [],[],_=>rfl
 | [],_::_,e=>by simp at e
 | _::_,[],e=>by simp at e
 | .k c::ds,v::vs,e=>by simp only [lW,oo]; exact lG (by simpa using e)
 | .lit w::ds,v::vs,e=>by simp only [lW,oo]; exact lG (by simpa using e)
 | .ref w::ds,v::vs,e=>by simp only [lW,oo]; exact lG (by simpa using e)
 | .aF t::ds,v::vs,e=>by simp only [lW,oo,lF]; rw [lG (by simpa using e)]
 | .arr t::ds,v::vs,e=>by simp only [lW,oo,lF]; rw [lG (by simpa using e)]
theorem wV:∀ {ds:List CD} {vs:List KV},cH ds vs=true->vs.length=ds.length
 | [],[],_=>rfl
 | [],_::_,h=>by simp [cH] at h
 | _::_,[],h=>by simp [cH] at h
 | d::ds,v::vs,h=>by
  simp only [cH,aj] at h;simp [wV h.2]
theorem Ja {d:VD} {v:KV} (h:sU d v=true):v.cells.length=d.ks.length:=by
 rcases ug h with ⟨cs,rfl,_,h1⟩ | ⟨h0,_,c,h1,_⟩
 ·exact wV h1
 ·have:v.cells = [v]:=by cases v <;> first | rfl | exact absurd rfl (h0 _)
  rw [this,h1]; rfl
theorem yV:∀ {ps:List (Tmp×VD)} {vs:List KV},dY ps vs=true->(wT P ps vs).length=lq ps
 | [],[],_=>rfl
 | [],_::_,h=>by simp [dY] at h
 | _::_,[],h=>by simp [dY] at h
 | p::ps,v::vs,h=>by
  simp only [dY,aj] at h;simp only [wT,lq,fE];rw [lG (Ja h.1),yV h.2]
theorem R9 {t:bI} {A:ai} : ∀ {ps:List (Tmp×VD)} {i:Nat} {x:FI},dY ps (ln P t A ps)=true->(yl P t A ps)[i]? = some x->x.ok=true->∃ p,(wT P ps (ln P t A ps))[i]? = some p/\Ff P A x p
 | [],_,_,_,h,_=>by simp [yl] at h
 | p::ps,i,x,hg,h,bL=>by
  simp only [ln,dY,aj] at hg;simp only [yl] at h;have hl:=zr hg.1;by_cases hi:i < (jG P A p.2.ks (valOf t p.1).cells).length
  ·rw [mL hi] at h
   have DQ:cH p.2.ks (dX P A p.2.ks (valOf t p.1).cells)=true/\(rK P A p.2 (valOf t p.1)).cells=dX P A p.2.ks (valOf t p.1).cells:=by
    rcases uh hg.1 with ⟨cs,e,_,h2,h3⟩ | ⟨_,c,h1,h2,h3,h4,h5⟩
    ·rw [e] at h2 ⊢; exact ⟨h3,by rw [h2]; rfl⟩
    ·rw [h4,h1]
     refine ⟨by simp [dX,cH,h3],?_⟩;rw [h2];show (dW P A c (valOf t p.1)).cells = [dW P A c (valOf t p.1)];generalize dW P A c (valOf t p.1)=w at h5 ⊢;cases w <;> first | rfl | exact absurd rfl (h5 _)
   obtain ⟨q,h2,h3⟩:=sh hl DQ.1 h bL;refine ⟨q,?_,h3⟩;simp only [ln,wT];rw [DQ.2,mL (cp.1 h2).1];exact h2
  ·rw [n4 (by omega)] at h
   obtain ⟨q,h1,h2⟩:=R9 hg.2 h bL;refine ⟨q,?_,h2⟩;simp only [ln,wT];have e1:(lW P p.2.ks (rK P A p.2 (valOf t p.1)).cells).length=(jG P A p.2.ks (valOf t p.1).cells).length:=by rw [lG (Ja hg.1),iK hl]
   rw [n4 (by omega),e1];exact h1
theorem Sa {t:bI} {A:ai} : ∀ {ps:List (Tmp×List CD×Nat)} {i:Nat} {x:FI},uH P t A ps=true->(B8 P t A ps)[i]? = some x->x.ok=true->∃ p,(ym P ps (D6 P t A ps))[i]? = some p/\Ff P A x p
 | [],_,_,_,h,_=>by simp [B8] at h
 | p::ps,i,x,hg,h,bL=>by
  simp only [uH,aj] at hg;simp only [B8] at h;obtain ⟨b,cs,_,hl,_,hC⟩:=Dk hg.1;rw [<- hC] at hl;by_cases hi:i < (jG P A p.2.1 (B7 t A p)).length
  ·rw [mL hi] at h
   obtain ⟨q,h2,h3⟩:=sh hl hg.2.1 h bL;refine ⟨q,?_,h3⟩;simp only [D6,ym];rw [mL (cp.1 h2).1];exact h2
  ·rw [n4 (by omega)] at h
   obtain ⟨q,h1,h2⟩:=Sa hg.2.2 h bL;refine ⟨q,?_,h2⟩;simp only [D6,ym];have e1:(lW P p.2.1 (dX P A p.2.1 (B7 t A p))).length=(jG P A p.2.1 (B7 t A p)).length:=by rw [lG (wV hg.2.1),iK hl]
   rw [n4 (by omega),e1];exact h1
theorem D9:∀ {ps:List (Tmp×List CD×Nat)} {rs:List (List KV)},rs.length=ps.length->(∀ (k:Nat) p r,ps[k]? = some p->rs[k]? = some r->cH p.2.1 r=true)->∀ {l:Nat},l=(ps.map fun p=>oo p.2.1).sum->(ym P ps rs).length=l
 | [],[],_,_,l,hl=>by subst hl; rfl
 | [],_::_,h,_,_,_=>by simp at h
 | _::_,[],h,_,_,_=>by simp at h
 | p::ps,r::rs,h,hk,l,hl=>by
  simp only [ym,fE];rw [lG (wV (hk 0 p r rfl rfl)),D9 (by simpa using h) (fun k p r h1 h2=>hk (k+1) p r (by simpa using h1) (by simpa using h2)) rfl,hl];simp
theorem LD {t:bI} {A:ai} : ∀ {ps:List (Tmp×List CD×Nat)},uH P t A ps=true->(B8 P t A ps).length=(ps.map fun p=>oo p.2.1).sum
 | [],_=>rfl
 | p::ps,h=>by
  simp only [uH,aj] at h;obtain ⟨b,cs,_,hl,_,hC⟩:=Dk h.1;simp only [B8,fE,List.map_cons,List.sum_cons];rw [iK (by rw [hC]; exact hl),LD h.2.2]
end Go.K
end
section
namespace Go.K
open Go Go.aA
variable {P:Program} {E:Env}
noncomputable def Env.sub (E:Env) (A:ai) (bs:List Nat) (fs:List (Option Nat)) (nr:Nat):Env:=
 { κ:=fun i=>(bs[i]?).bind E.κ,z:=E.z,φ:=fun i=>if nr<=i then (fs[i - nr]?).bind (fun f=>f.bind fun x=>cond (vh (A.get x)) (E.φ x) none) else none,α:=fun i=>if nr<=i then (fs[i - nr]?).bind (fun f=>f.bind E.α) else none }
theorem Kj {E:Env} {A:ai} {x q:Nat} (e:cond (vh (A.get x)) (E.φ x) none=some q):E.φ x=some q/\vh (A.get x)=true:=by
 cases h:vh (A.get x) with
 | true=>rw [h] at e; exact ⟨e,rfl⟩
 | false=>rw [h] at e; simp at e
theorem abW {A:ai} {x:Nat} (h:vh (A.get x)=true):∃ n sz,A.get x=some (.aF n sz):=by
 unfold vh at h;split at h
 ·rename_i n sz e; exact ⟨n,sz,e⟩
 ·simp at h
theorem Env.Vj {A:ai} {bs:List Nat} {fs:List (Option Nat)} {nr i:Nat} : (E.sub A bs fs nr).φ (nr+i)=(fs[i]?).bind (fun f=>f.bind fun x=>cond (vh (A.get x)) (E.φ x) none):=by
 simp only [Env.sub];rw [ax (by omega),show nr+i - nr=i by omega]
theorem Env.Cc {A:ai} {bs:List Nat} {fs:List (Option Nat)} {nr i:Nat} : (E.sub A bs fs nr).α (nr+i)=(fs[i]?).bind (fun f=>f.bind E.α):=by
 simp only [Env.sub];rw [ax (by omega),show nr+i - nr=i by omega]
theorem GM:∀ {l:List (Nat×KV)} {i:Nat} {v:KV},(gK l).get i=some v->(i,v)∈l
 | [],i,v,h=>by simp [gK] at h
 | p::ps,i,v,h=>by
  rw [gK,Trie.iY] at h;split at h
  ·rename_i e
   simp at h; subst h e;simp
  ·exact rA _ (GM h)
theorem jD.gK {ρ:Ren} {l:List (Nat×KV)} {N:Nat} {a:Act} (hs:a.tmps.size=N) (h:∀ q∈l,q.1 < N/\VC P E ρ q.2 (a.tmps.getD q.1 undef)):jD P E ρ (K.gK l) N a:=by
 refine ⟨hs,fun i=>?_,fun i hi=>?_⟩
 ·cases hg:(K.gK l).get i with
  | none=>exact .bx
  | some v=>exact (h _ (GM hg)).2
 ·cases hg:(K.gK l).get i with
  | none=>rfl
  | some v=>have:=(h _ (GM hg)).1; exact absurd hi (Nat.not_le_of_lt this)
theorem yn {A:ai} {x:Nat} : ∀ {ds:List CD} {vs:List KV} {fi:FI},fi∈jG P A ds vs->fi.fm=true->fi.f=some x->vh (A.get x)=true
 | [],_,_,h,_,_=>by simp [jG] at h
 | d::ds,[],_,h,_,_=>by cases d <;> simp [jG] at h
 | d::ds,v::vs,fi,h,hm,hx=>by
  cases d <;> simp only [jG,bd] at h
  ·exact yn h hm hx
  ·exact yn h hm hx
  ·rcases h with rfl | h
   ·exact ag4 hx
   ·exact yn h hm hx
  ·rcases h with rfl | h
   ·rw [ag3] at hm; simp at hm
   ·exact yn h hm hx
  ·exact yn h hm hx
theorem aB.akB (S:aB) {t:bI} {A:ai} {x:Nat} {fi:FI} (h:fi∈S.KH P t A) (hm:fi.fm=true) (hx:fi.f=some x):vh (A.get x)=true:=by
 have one:∀ {ps:List (Tmp×VD)},fi∈yl P t A ps->vh (A.get x)=true:=by
  intro ps
  induction ps with
  | nil=>intro h; simp [yl] at h
  | cons p ps ih=>
   intro h;simp only [yl,eP] at h;exact h.elim (fun h=>yn h hm hx) ih
 have two:∀ {ps:List (Tmp×List CD×Nat)},fi∈B8 P t A ps->vh (A.get x)=true:=by
  intro ps
  induction ps with
  | nil=>intro h; simp [B8] at h
  | cons p ps ih=>
   intro h;simp only [B8,eP] at h;exact h.elim (fun h=>yn h hm hx) ih
 simp only [aB.KH,eP] at h;exact h.elim one two
theorem cQ.hyp {S:aB} {t:bI} {A:ai} {g:GR} (h:cQ P S t A g):mm E (E.sub A g.bs g.fs S.nr) (S.KH P t A) S.nr:=fun i fi hi=>by
 refine ⟨MR h.rC fi (eW hi),fun hm x q hx hq=>?_,fun x q hx hq=>?_⟩
 ·rw [Env.Vj,h.fs,GL hi,cA,hx,cA,S.akB (eW hi) hm hx]
  exact hq
 ·rw [Env.Cc,h.fs,GL hi,cA,hx,cA]
  exact hq
theorem abX {E0:Env} {t:bI} {A:ai} {ρ:Ren} {N nr:Nat} {bs A5:List Nat} {a:Act} (hz:E0.z=E.z) (hk:Rk E E0 nr bs A5) (ht:jD P E ρ t N a):∀ {ps:List (Tmp×VD)} {j:Nat},dY ps (ln P t A ps)=true->mm E E0 (yl P t A ps) j->D8 nr bs t ps=true->∀ q∈Hj j A5 ps (ln P t A ps),q.1 < N/\VC P E0 ρ q.2 (a.tmps.getD q.1 undef)
 | [],_,_,_,_,q,hq=>by simp [Hj] at hq
 | p::ps,j,hg,hf,hr,q,hq=>by
  simp only [D8,aj] at hr;simp only [ln,dY,aj] at hg;simp only [ln,Hj,bd] at hq;rcases hq with rfl | hq
  ·refine ⟨?_,?_⟩
   ·obtain ⟨v,hv⟩:=VK.QF hg.1 hr.1
    by_cases hN:N<=p.1
    ·rw [ht.none _ hN] at hv; simp at hv
    ·exact Nat.lt_of_not_le hN
   ·obtain ⟨u,h1,h2⟩:=ht.val p.1
    exact ⟨u,h1.aly hz hk hg.1 hf.left hr.1,h2⟩
  ·have h2:=hf.right
   rw [iK (zr hg.1)] at h2;exact abX hz hk ht hg.2 h2 hr.2 q hq
theorem Ea {bs:List Nat} : ∀ {ps:List (Tmp×Nat×Nat)} {q:Nat×KV},q∈sZ bs ps->∃ p∈ps,zV p=true/\q=(p.1,.ptr (bs.getD p.2.1 0) p.2.2)
 | [],_,h=>by simp [sZ] at h
 | p::ps,q,h=>by
  unfold sZ at h;cases hp:zV p with
  | true=>
   rw [hp,ah] at h;rcases bd.1 h with rfl | h
   ·exact ⟨p,by simp,hp,rfl⟩
   ·obtain ⟨p',h1,h2⟩:=Ea h
    exact ⟨p',rA _ h1,h2⟩
  | false=>
   rw [hp,ay] at h;obtain ⟨p',h1,h2⟩:=Ea h;exact ⟨p',rA _ h1,h2⟩
theorem MT {l:List (Nat×KV)} : ∀ {ps:List (Tmp×Nat×Nat)} {q:Nat×KV},q∈GK l ps->∃ p∈ps,zV p=false/\q=(p.1,MP l (p.2.1 - 1000000))
 | [],_,h=>by simp [GK] at h
 | p::ps,q,h=>by
  unfold GK at h;cases hp:zV p with
  | false=>
   rw [hp,ay] at h;rcases bd.1 h with rfl | h
   ·exact ⟨p,by simp,hp,rfl⟩
   ·obtain ⟨p',h1,h2⟩:=MT h
    exact ⟨p',rA _ h1,h2⟩
  | true=>
   rw [hp,ah] at h;obtain ⟨p',h1,h2⟩:=MT h;exact ⟨p',rA _ h1,h2⟩
theorem adU {v w:Option KV} (h:ZN v w=true):v=w/\v.isSome=true:=by
 unfold ZN at h;split at h
 ·simp only [aj] at h
  obtain ⟨⟨⟨h1,h2⟩,h3⟩,h4⟩:=h;rw [aE h1,aE h2,aE h3,aE h4];exact ⟨rfl,rfl⟩
 ·simp at h
theorem Dl {t:bI} {bs:List Nat} : ∀ {ps:List (Tmp×Nat×Nat)},Kf t bs ps=true->∀ q∈ps,(zV q=true->∃ b,t.get q.1=some (.ptr b q.2.2)/\bs[q.2.1]? = some b)/\(zV q=false->t.get q.1=t.get (q.2.1 - 1000000)/\(t.get q.1).isSome=true)
 | [],_,q,hq=>by simp at hq
 | p::ps,h,q,hq=>by
  simp only [Kf,aj] at h;rcases bd.1 hq with rfl | hq
  ·refine ⟨fun hp=>?_,fun hp=>?_⟩
   ·have h1:=h.1
    rw [hp,ah] at h1;unfold ai2 at h1;split at h1
    ·rename_i b o b' e1 e2
     simp only [aj] at h1;have:=aE h1.1;have:=aE h1.2
     subst_vars
     exact ⟨_,e1,e2⟩
    ·simp at h1
   ·have h1:=h.1
    rw [hp,ay] at h1;exact adU h1
  ·exact Dl h.2 q hq
theorem cQ.rk {S:aB} {t:bI} {A:ai} {g:GR} (h:cQ P S t A g):Rk E (E.sub A g.bs g.fs S.nr) S.rows.length g.bs S.ids:=fun j x hj e=>by
 have aI:j < g.bs.length:=by rw [h.bs,yT]; exact hj
 rw [eO,cl aI] at e;rw [eO,Cb S j hj];simp only [Env.sub,iD,cl aI,cA];exact e
theorem O6:∀ {l:List (Nat×KV)} {i:Nat} {v:KV},(gK l).get i=some v->(i,v)∈l
 | [],_,_,h=>by simp [gK] at h
 | x::l,i,v,h=>by
  rw [gK,Trie.iY] at h;split at h
  ·rename_i e
   simp only [aR] at h;subst h; subst e;exact List.mem_cons_self ..
  ·exact rA _ (O6 h)
theorem X1 {E E0:Env} {A:ai} {t:bI} (hz:E0.z=E.z) {nr:Nat} {bs A5:List Nat} (hk:Rk E E0 nr bs A5):∀ {ps:List (Tmp×VD)} {j:Nat},dY ps (ln P t A ps)=true->mm E E0 (yl P t A ps) j->D8 nr bs t ps=true->∀ q∈Hj j A5 ps (ln P t A ps),∀ u,VK P E (valOf t q.1) u->VK P E0 q.2 u
 | [],_,_,_,_,q,hq,_,_=>by simp [Hj] at hq
 | p::ps,j,hg,hf,hr,q,hq,u,hu=>by
  simp only [ln,dY,aj] at hg;simp only [D8,aj] at hr;simp only [ln,Hj,bd] at hq;rcases hq with rfl | hq
  ·exact hu.aly hz hk hg.1 hf.left hr.1
  ·have h2:=hf.right
   rw [iK (zr hg.1)] at h2;exact X1 hz hk hg.2 h2 hr.2 q hq u hu
theorem cQ.tkr {S:aB} {t:bI} {A:ai} {g:GR} {ρ:Ren} {N:Nat} {a:Act} (h:cQ P S t A g) (ht:jD P E ρ t N a):jD P (E.sub A g.bs g.fs S.nr) ρ (S.tm S.nr S.ids g.vs) N a:=by
 refine jD.gK ht.size fun q hq=>?_;have hh:mm E (E.sub A g.bs g.fs S.nr) (S.KH P t A) S.nr:=h.hyp;rcases eP.1 hq with hq | hq
 ·rw [h.vs] at hq
  exact abX (E:=E) (E0:=E.sub A g.bs g.fs S.nr) (A:=A) rfl h.rk ht (h.vs ▸ h.dh) hh.left h.ai6 q hq
 rcases eP.1 hq with hq | hq
 ·obtain ⟨p,hp,hip,rfl⟩:=Ea hq
  obtain ⟨b,h1,h2⟩:=(Dl h.O0 p hp).1 hip;refine ⟨?_,?_⟩
  ·by_cases hN:N<=p.1
   ·rw [ht.none _ hN] at h1; simp at h1
   ·exact Nat.lt_of_not_le hN
  ·have hk:p.2.1 < S.rows.length:=by
    have:=(cp.1 h2).1;rw [h.bs,yT] at this; exact this
   have hv:=ht.val p.1;rw [h1] at hv;obtain ⟨u,h3,h4⟩:=hv;refine ⟨u,?_,h4⟩;obtain ⟨x,h5,rfl⟩:=(show VK P E (.ptr b p.2.2) u from h3).gh;have:S.ids.getD p.2.1 0=p.2.1:=by rw [eO,Cb S _ hk]; rfl
   rw [this];exact .wx (by simp [Env.sub,h2,h5])
 ·obtain ⟨p,hp,hip,rfl⟩:=MT hq
  obtain ⟨h1,h2⟩:=(Dl h.O0 p hp).2 hip;refine ⟨?_,?_⟩
  ·by_cases hN:N<=p.1
   ·rw [ht.none _ hN] at h2; simp at h2
   ·exact Nat.lt_of_not_le hN
  ·obtain ⟨u,h3,h4⟩:=ht.val p.1
   rw [h1] at h3;have h3:VK P E (valOf t (p.2.1 - 1000000)) u:=h3;show ∃ u,VK P _ (MP _ (p.2.1 - 1000000)) u/\_;unfold MP;cases hl:(gK (Hj S.nr S.ids S.dh g.vs)).get (p.2.1 - 1000000) with
   | none=>exact VC.bx
   | some v=>
    refine ⟨u,?_,h4⟩;have hm:=O6 hl;rw [h.vs] at hm;exact X1 (E:=E) (E0:=E.sub A g.bs g.fs S.nr) (A:=A) rfl h.rk (h.vs ▸ h.dh) hh.left h.ai6 _ hm u h3
theorem cQ.row {S:aB} {t:bI} {A:ai} {g:GR} (h:cQ P S t A g) {k:Nat} {p:Tmp×List CD×Nat} (hp:S.rows[k]? = some p):∃ b cs,g.bs[k]? = some b/\A.get b=some (.row cs p.2.2)/\cs.length=p.2.1.length/\B7 t A p=cs/\g.rs[k]? = some (dX P A p.2.1 cs)/\cH p.2.1 (dX P A p.2.1 cs)=true:=by
 obtain ⟨h1,h2⟩:=R8 h.rows hp;obtain ⟨b,cs,h4,h5,h6,h7⟩:=Dk h1;refine ⟨b,cs,by rw [h.bs,Vh hp,h6],h4,h5,h7,?_,by rw [<- h7]; exact h2⟩;have:∀ {ps:List (Tmp×List CD×Nat)} {k:Nat},ps[k]? = some p->(D6 P t A ps)[k]? = some (dX P A p.2.1 (B7 t A p)):=by
  intro ps
  induction ps with
  | nil=>intro k h; simp at h
  | cons q ps ih=>
   intro k h;cases k with
   | zero=>simp at h; subst h; rfl
   | succ k=>simp at h; simpa [D6] using ih h
 rw [h.rs,this hp,h7]
theorem cQ.nz {S:aB} {t:bI} {A:ai} {g:GR} (h:cQ P S t A g):g.rs.length=S.rows.length:=by rw [h.rs,LC]
theorem cQ.Vk {S:aB} {t:bI} {A:ai} {g:GR} (h:cQ P S t A g):g.bs.length=S.rows.length:=by rw [h.bs,yT]
theorem cQ.pe {S:aB} {t:bI} {A:ai} {g:GR} (h:cQ P S t A g):∀ (k:Nat) p r,S.rows[k]? = some p->g.rs[k]? = some r->cH p.2.1 r=true:=fun k p r hp hr=>by
 obtain ⟨b,cs,_,_,_,_,h1,h2⟩:=h.row hp;rw [hr] at h1; simp at h1; subst h1; exact h2
theorem cQ.lens {S:aB} {t:bI} {A:ai} {g:GR} (h:cQ P S t A g):(S.lens P g.vs g.rs).length=(S.KH P t A).length:=by
 simp only [aB.lens,aB.KH,fE];rw [yV h.dh,D9 h.nz h.pe rfl,LD h.rows,yU (h.vs ▸ h.dh)]
theorem cQ.fact {S:aB} {t:bI} {A:ai} {g:GR} (h:cQ P S t A g) {i:Nat} {q:gJ} (hq:(S.lens P g.vs g.rs)[i]? = some q):∃ fi,(S.KH P t A)[i]? = some fi/\g.fs[i]? = some fi.f/\Ff P A fi q:=by
 have aI:i < (S.KH P t A).length:=by rw [<- h.lens]; exact (cp.1 hq).1
 have hfi:=cl aI;have bL:=MR h.rC _ (JP aI);refine ⟨_,hfi,by rw [h.fs]; exact GL hfi,?_⟩;have hv:(yl P t A S.dh).length=lq S.dh:=yU (h.vs ▸ h.dh);have UK:(wT P S.dh g.vs).length=lq S.dh:=yV h.dh;simp only [aB.lens] at hq;have abY:=hfi;simp only [aB.KH] at abY;by_cases hi:i < lq S.dh
 ·rw [mL (by omega)] at hq abY
  obtain ⟨p,h1,h2⟩:=R9 (h.vs ▸ h.dh) abY bL;rw [h.vs,h1] at hq;simp at hq; subst hq; exact h2
 ·rw [n4 (by omega)] at hq abY
  obtain ⟨p,h1,h2⟩:=Sa h.rows abY bL;rw [h.rs,UK,<- hv,h1] at hq;simp at hq; subst hq; exact h2
theorem MU {t:bI} {A:ai} {nr:Nat} {bs:List Nat} : ∀ {ps:List (Tmp×List CD×Nat)},QP nr bs t A ps=true->∀ {k:Nat} {p:Tmp×List CD×Nat},ps[k]? = some p->zW nr bs p.2.1 (B7 t A p)=true
 | [],_,k,p,h=>by simp at h
 | q::ps,h,k,p,hp=>by
  simp only [QP,aj] at h;cases k with
  | zero=>simp at hp; subst hp; exact h.1
  | succ k=>simp at hp; exact MU h.2 hp
theorem mw {S:aB} {rs:List (List KV)} (h:rs.length=S.rows.length):(oq .empty S.rows (S.B9 S.nr S.ids rs)).next=S.nr:=by
 show (oq .empty S.rows (R7 (S.nr+lq S.dh) S.ids S.rows rs)).next=S.nr;rw [XZ (O5 h _ _)];simp [ai.empty,aB.nr]
theorem Cd {S:aB} {vs:List KV} {rs:List (List KV)} (h:rs.length=S.rows.length) {b:Nat} {o:gJ} (hb:(S.mem P vs rs).get b=some o) :
  (∃ p r,S.rows[b]? = some p/\rs[b]? = some r/\o = .row (nP (vL (S.nr+lq S.dh) S.rows b) S.ids p.2.1 r) p.2.2)\/∃ i q,b=S.nr+i/\(S.lens P vs rs)[i]? = some q/\o=q:=by
 rcases O4 hb with hb | ⟨i,q,h1,h2,h3⟩
 ·rcases abV hb with e | ⟨k,p,r,rfl,h1,h2,h3⟩
  ·simp [ai.empty,ai.get] at e
  ·have hk:(ai.empty.next+k)=k:=by simp [ai.empty]
   rw [hk];have aI:k < rs.length:=by rw [h]; exact (cp.1 h1).1
   have e1:=cl aI;have e2:=Ki (bs:=S.ids) (j:=S.nr+lq S.dh) h1 e1;have h2:(R7 (S.nr+lq S.dh) S.ids S.rows rs)[k]? = some r:=h2;rw [e2] at h2;simp at h2;exact .inl ⟨p,_,h1,e1,by rw [h3,<- h2]⟩
 ·rw [mw h] at h1
  exact .inr ⟨i,q,h1,h2,h3⟩
theorem Jb {t:TypeId} {n:Nat} {es:List KV} {acc:Nat->KV} {aP:List Value} (ht:fV P t n es acc) (h:aK P E es aP):∃ mu fg,K.bX P df (.ts t .any n es acc) = .ts t .any n mu fg/\fV P t n mu fg/\aK P E mu aP:=by
 refine ⟨(List.range n).map fun i=>gX P (K.bX P 5) t (acc i),fun i=>gX P (K.bX P 5) t (acc i),rfl,?_⟩;have wN:∀ i,i < n->∃ e e',es[i]? = some e/\aP[i]? = some e'/\acc i=e/\cf (aH P t) e=true/\VK P E e e':=by
  intro i hi;have hl:i < es.length:=by rw [<- ht.len]; exact hi
  have e1:=cl hl;obtain ⟨e',e2,e3⟩:=h.get e1;exact ⟨_,e',e1,e2,by rw [ht.acc i hi,eO,e1]; rfl,fI ht.typed e1,e3⟩
 have hlen:aP.length=n:=by rw [h.length,ht.len]
 refine ⟨⟨by simp,fun i hi=>?_,?_⟩,?_⟩
 ·rw [eO,mg,List.getElem?_range hi]; rfl
 ·refine lV fun i e he=>?_
  rw [mg] at he;by_cases hi:i < n
  ·rw [List.getElem?_range hi] at he
   simp only [Option.map_some,aR] at he;obtain ⟨x,x',_,_,q3,q4,_⟩:=wN i hi;rw [<- he,q3,gX];obtain ⟨r1,r2,_⟩:=Gu q4;rw [r1];exact UM q4 (BV 5 r2) (by simp)
  ·rw [List.getElem?_eq_none (by simp; omega)] at he; simp at he
 ·refine aK.Zi (by simp [hlen]) fun i e e' he he'=>?_
  rw [mg] at he;by_cases hi:i < n
  ·rw [List.getElem?_range hi] at he
   simp only [Option.map_some,aR] at he;obtain ⟨x,x',_,q2,q3,q4,q5⟩:=wN i hi;rw [he'] at q2;simp only [aR] at q2;subst q2;rw [<- he,q3];exact VK.gX 5 q4 q5
  ·rw [List.getElem?_eq_none (by simp; omega)] at he; simp at he
theorem cQ.afJ {S:aB} {t:bI} {A:ai} {g:GR} (h:cQ P S t A g) {b:Nat} {v:KV} (hb:(S.mem P g.vs g.rs).get b=some (.arr v)) :
  ∃ i T,b=S.nr+i/\((g.fs[i]? = some none/\1<=aJ P T/\v=K.bX P df (.ts T .any 0 [] mI))\/∃ f m N es acc,g.fs[i]? = some (some f)/\A.get f=some (.arr (.ts T m N es acc))/\v=K.bX P df (.ts T .any N es acc)):=by
 rcases Cd h.nz hb with ⟨p,r,_,_,h3⟩ | ⟨i,q,rfl,h2,h3⟩
 ·simp at h3
 ·subst h3
  obtain ⟨fi,h4,h5,h6⟩:=h.fact h2;rcases h6 with ⟨_,_,e,_⟩ | ⟨T,v',e,h6⟩
  ·simp at e
  ·simp only [gJ.arr.injEq] at e
   subst e;rcases h6 with ⟨h6,h7⟩ | ⟨f,m,N,es,acc,h6,h7⟩
   ·exact ⟨i,T,rfl,.inl ⟨by rw [h5,h6],h7⟩⟩
   ·exact ⟨i,T,rfl,.inr ⟨f,m,N,es,acc,by rw [h5,h6],h7⟩⟩
theorem cQ.Ce {S:aB} {t:bI} {A:ai} {g:GR} (h:cQ P S t A g) {b:Nat} {v:KV} (hb:(S.mem P g.vs g.rs).get b=some (.arr v)) {p:Nat×Nat×Nat} (hp:(E.sub A g.bs g.fs S.nr).α b=some p) :
  ∃ i f u,b=S.nr+i/\g.fs[i]? = some (some f)/\A.get f=some (.arr u)/\E.α f=some p:=by
 obtain ⟨i,T,rfl,h1⟩:=h.afJ hb;rw [Env.Cc] at hp;rcases h1 with ⟨h1,_⟩ | ⟨f,m,N,es,acc,h1,h2,_⟩
 ·rw [h1] at hp; simp at hp
 ·rw [h1] at hp; exact ⟨i,f,_,rfl,h1,h2,hp⟩
theorem cQ.AR {S:aB} {t:bI} {A:ai} {g:GR} (h:cQ P S t A g) {x:Nat} (q:K.AR (S.mem P g.vs g.rs) (E.sub A g.bs g.fs S.nr) x):∃ f u L N,f∈iq g.fs/\A.get f=some (.arr u)/\E.α f=some (x,L,N):=by
 obtain ⟨b,v,L,N,h1,h2⟩:=q;obtain ⟨i,f,u,_,h3,h4,h5⟩:=h.Ce h1 h2;exact ⟨f,u,L,N,sf.2 (eW h3),h4,h5⟩
theorem cQ.ar {S:aB} {t:bI} {A:ai} {g:GR} (h:cQ P S t A g) {x:Nat} (q:K.AR (S.mem P g.vs g.rs) (E.sub A g.bs g.fs S.nr) x):K.AR A E x:=by
 obtain ⟨f,u,L,N,_,h2,h3⟩:=h.AR q;exact ⟨f,u,L,N,h2,h3⟩
theorem cQ.AF {S:aB} {t:bI} {A:ai} {B:St} {g:GR} (h:cQ P S t A g) {q:Nat} (k:K.AF (S.mem P g.vs g.rs) (E.sub A g.bs g.fs S.nr) B q):∃ f u x L N cs e own m,f∈iq g.fs/\A.get f=some (.arr u)/\E.α f=some (x,L,N)/\B.get x=some (.row cs e own (some (q,m))):=by
 obtain ⟨b,v,x,L,N,cs,e,own,m,h1,h2,h3⟩:=k;obtain ⟨i,f,u,_,h4,h5,h6⟩:=h.Ce h1 h2;exact ⟨f,u,x,L,N,cs,e,own,m,sf.2 (eW h4),h5,h6,h3⟩
theorem cQ.af {S:aB} {t:bI} {A:ai} {B:St} {g:GR} (h:cQ P S t A g) {q:Nat} (k:K.AF (S.mem P g.vs g.rs) (E.sub A g.bs g.fs S.nr) B q):K.AF A E B q:=by
 obtain ⟨f,u,x,L,N,cs,e,own,m,_,h1,h2,h3⟩:=h.AF k;exact ⟨f,u,x,L,N,cs,e,own,m,h1,h2,h3⟩
theorem cQ.at {S:aB} {t:bI} {A:ai} {B:St} {g:GR} (h:cQ P S t A g) {y:Nat} (k:K.AT (S.mem P g.vs g.rs) (E.sub A g.bs g.fs S.nr) B y):K.AT A E B y:=k.imp h.ar fun ⟨q,h1,h2⟩=>⟨q,h.af h1,h2⟩
theorem cQ.dI {S:aB} {t:bI} {A:ai} {B:St} {g:GR} (h:cQ P S t A g) (hk:du P E A B):du P (E.sub A g.bs g.fs S.nr) (S.mem P g.vs g.rs) B where
 row b cs aQ hb:=by
  rcases Cd h.nz hb with ⟨p,r,h1,h2,h3⟩ | ⟨i,q,_,h2,h3⟩
  ·simp only [gJ.row.injEq] at h3
   obtain ⟨rfl,rfl⟩:=h3;obtain ⟨b',cs,h4,h5,h6,h7,h8,h9⟩:=h.row h1;rw [h2] at h8; simp at h8; subst h8;obtain ⟨x,b5,qh,UN,h12⟩:=hk.row _ _ _ h5;refine ⟨x,b5,by simp [Env.sub,h4,qh],UN,?_⟩;have hh:mm E (E.sub A g.bs g.fs S.nr) (S.KH P t A) S.nr:=h.hyp;have hr:=hh.right;rw [yU (h.vs ▸ h.dh)] at hr;have:=Vi h.rows hr h1;rw [h7] at this;have hrr:=MU h.alz h1;rw [h7] at hrr;exact aK.cellsIn (E:=E) (E0:=E.sub A g.bs g.fs S.nr) rfl h.rk h12 h6 h9 this hrr
  ·subst h3
   obtain ⟨fi,_,_,h6⟩:=h.fact h2;rcases h6 with ⟨_,_,e,_⟩ | ⟨_,_,e,_⟩ <;> simp at e
 aF b top sz hb:=by
  rcases Cd h.nz hb with ⟨p,r,_,_,h3⟩ | ⟨i,q,rfl,h2,h3⟩
  ·simp at h3
  ·subst h3
   obtain ⟨fi,h4,h5,h6⟩:=h.fact h2;rcases h6 with ⟨_,_,e,h6⟩ | ⟨_,_,e,_⟩
   ·simp only [gJ.aF.injEq] at e
    obtain ⟨rfl,rfl⟩:=e;rw [Env.Vj,h5,cA];rcases h6 with ⟨h6,h7⟩ | ⟨f,h6,h7⟩
    ·rw [h6]; exact .inl ⟨h7,rfl⟩
    ·rw [h6,cA,show vh (A.get f)=true by rw [h7]; rfl,ah]; exact hk.aF f _ _ h7
   ·simp at e
 z:=hk.z
 apart b x e:=by
  simp only [Env.sub,aO] at e;obtain ⟨b',_,e⟩:=e;exact hk.apart b' x e
 inj b c x e1 e2:=by
  simp only [Env.sub,aO] at e1 e2;obtain ⟨b',h1,e1⟩:=e1;obtain ⟨c',h2,e2⟩:=e2;have:=hk.inj _ _ _ e1 e2;subst this;exact Vg h.nodup _ _ _ h1 h2
 iB b c q tb sb tc sc hb hc e1 e2:=by
  have key:∀ {b t s},(S.mem P g.vs g.rs).get b=some (.aF t s)->∃ i,b=S.nr+i/\((g.fs[i]? = some none)\/∃ f,g.fs[i]? = some (some f)/\A.get f=some (.aF t s)):=by
   intro b t s hb;rcases Cd h.nz hb with ⟨p,r,_,_,h3⟩ | ⟨i,q1,rfl,h2,h3⟩
   ·simp at h3
   subst h3;obtain ⟨fi,h4,h5,h6⟩:=h.fact h2;rcases h6 with ⟨_,_,e,h6⟩ | ⟨_,_,e,_⟩
   ·simp only [gJ.aF.injEq] at e
    obtain ⟨rfl,rfl⟩:=e;rcases h6 with ⟨h6,_⟩ | ⟨f,h6,h7⟩
    ·exact ⟨i,rfl,.inl (by rw [h5,h6])⟩
    ·exact ⟨i,rfl,.inr ⟨f,by rw [h5,h6],h7⟩⟩
   ·simp at e
  obtain ⟨i,rfl,h1⟩:=key hb;obtain ⟨j,rfl,h2⟩:=key hc;rw [Env.Vj] at e1 e2;rcases h1 with h1 | ⟨f,h1,h3⟩
  ·rw [h1] at e1; simp at e1
  rcases h2 with h2 | ⟨f',h2,h4⟩
  ·rw [h2] at e2; simp at e2
  rw [h1,cA,cA] at e1;rw [h2,cA,cA] at e2;rw [show vh (A.get f)=true by rw [h3]; rfl,ah] at e1;rw [show vh (A.get f')=true by rw [h4]; rfl,ah] at e2;have:=hk.iB f f' q _ _ _ _ h3 h4 e1 e2;subst this;have:=s0 h.Tj i j f h1 h2;omega
 fZ b x e:=by
  simp only [Env.sub,aO] at e;obtain ⟨b',h1,_⟩:=e;have:b < g.bs.length:=(cp.1 h1).1;rw [aB.mem,eU,mw h.nz];rw [h.Vk] at this;simp only [aB.nr]; omega
 lk b q e:=by
  simp only [Env.sub] at e;split at e
  ·rename_i hle
   obtain ⟨f,h1,_⟩:=aO.1 e;have h2:b - S.nr < g.fs.length:=(cp.1 h1).1;rw [h.fs,oP,<- h.lens] at h2;rw [aB.mem,eU,mw h.nz];omega
  ·simp at e
 live b o hb:=by
  rw [aB.mem,eU,mw h.nz];rcases Cd h.nz hb with ⟨p,r,h1,_,_⟩ | ⟨i,q,rfl,h2,h3⟩
  ·have:=(cp.1 h1).1
   simp only [aB.nr]; omega
  ·have:=(cp.1 h2).1
   omega
 eD b x e:=by
  simp only [Env.sub,aO] at e;obtain ⟨b',_,e⟩:=e;exact hk.eD b' x e
 lT:=hk.lT
 iU b q e:=by
  simp only [Env.sub] at e;split at e
  ·obtain ⟨f,_,e⟩:=aO.1 e
   obtain ⟨f',_,e⟩:=aO.1 e;exact hk.iU _ _ (Kj e).1
  ·simp at e
 fresh:=hk.fresh
 mem:=hk.mem
 ar:=by
  have ZQ:∀ b p,(E.sub A g.bs g.fs S.nr).α b=some p->S.nr<=b/\b - S.nr < g.fs.length/\∃ f,E.α f=some p:=by
   intro b p e;simp only [Env.sub] at e;split at e
   ·rename_i hle
    obtain ⟨f,h1,e⟩:=aO.1 e;obtain ⟨f',_,e⟩:=aO.1 e;exact ⟨hle,(cp.1 h1).1,f',e⟩
   ·simp at e
  refine ⟨fun b v hb=>?_,fun b v hb=>?_,fun x q=>?_,fun b c v u x L N L' N' h1 h2 h3 h4=>?_,fun b c v u x y L N L' N' cs e own q k b5 e' nJ k' h1 h2 h3 h4 h5 h6=>?_,fun b x e=>?_,fun b p e=>?_,fun b x L N e=>?_,fun b v x L N cs e own q k h1 h2 h3=>?_,fun b v hb=>?_⟩
  ·obtain ⟨i,T,rfl,h1⟩:=h.afJ hb
   rcases h1 with ⟨h1,h2,h3⟩ | ⟨f,m,N,es,acc,h1,h2,h3⟩
   ·obtain ⟨mu,fg,e1,e2,_⟩:=Jb (P:=P) (E:=E) (t:=T) (n:=0) (es:=[]) (acc:=mI) (aP:=[]) ⟨rfl,fun i hi=>by omega,rfl⟩ .nil
    rw [e1] at h3;refine ⟨T,0,mu,fg,h3,e2,h2,.inl ⟨rfl,?_⟩⟩;rw [Env.Cc,h1]; rfl
   ·obtain ⟨T2,N2,mu,fg,e,ht,cS,rp⟩:=hk.ar.arr f _ h2
    simp only [KV.ts.injEq] at e;obtain ⟨rfl,rfl,rfl,rfl,rfl⟩:=e;rcases rp with ⟨h4,h5⟩ | ⟨x,cs,aZ,aP,h4,h5,h6,h7⟩
    ·subst h4
     have MH:es = []:=lD.1 ht.len.symm;subst MH;obtain ⟨mu,fg,e1,e2,_⟩:=Jb (P:=P) (E:=E) (aP:=[]) ht .nil;rw [e1] at h3;refine ⟨T,0,mu,fg,h3,e2,cS,.inl ⟨rfl,?_⟩⟩;rw [Env.Cc,h1]; exact h5
    ·obtain ⟨mu,fg,e1,e2,e3⟩:=Jb ht h6
     rw [e1] at h3;refine ⟨T,N,mu,fg,h3,e2,cS,.inr ⟨x,cs,aZ,aP,?_,h5,aK.zEs (E:=E) (E0:=E.sub A g.bs g.fs S.nr) (.of rfl) e3 e2.typed,h7⟩⟩;rw [Env.Cc,h1]; exact h4
  ·rcases Cd h.nz hb with ⟨p,r,_,_,h3⟩ | ⟨i,q,rfl,h2,h3⟩
   ·simp at h3
   ·subst h3
    obtain ⟨fi,_,_,h6⟩:=h.fact h2;rcases h6 with ⟨_,_,e,_⟩ | ⟨_,_,e,_⟩ <;> simp at e
  ·obtain ⟨h1,h2⟩:=hk.ar.z x (h.ar q)
   refine ⟨h1,fun c e=>?_⟩;simp only [Env.sub,aO] at e;obtain ⟨b',_,e⟩:=e;exact h2 b' e
  ·obtain ⟨i,f,u1,rfl,k1,k2,k3⟩:=h.Ce h1 h3
   obtain ⟨j,f',u2,rfl,Zn,Zo,k3'⟩:=h.Ce h2 h4;have:=hk.ar.inj f f' u1 u2 x L N L' N' k2 Zo k3 k3';subst this;have:=s0 h.Tj i j f k1 Zn;omega
  ·obtain ⟨i,f,u1,rfl,k1,k2,k3⟩:=h.Ce h1 h3
   obtain ⟨j,f',u2,rfl,Zn,Zo,k3'⟩:=h.Ce h2 h4;have:=hk.ar.rC f f' u1 u2 x y L N L' N' cs e own q k b5 e' nJ k' k2 Zo k3 k3' h5 h6;subst this;have:=s0 h.Tj i j f k1 Zn;omega
  ·cases oM:(E.sub A g.bs g.fs S.nr).α b with
   | none=>rfl
   | some p=>
    obtain ⟨h1,_,_⟩:=ZQ b p oM;simp only [Env.sub,aO] at e;obtain ⟨b',h2,_⟩:=e;have:b < g.bs.length:=(cp.1 h2).1;rw [h.Vk] at this;simp only [aB.nr] at h1; omega
  ·obtain ⟨h1,h2,_⟩:=ZQ b p e
   rw [h.fs,oP,<- h.lens] at h2;rw [aB.mem,eU,mw h.nz];omega
  ·obtain ⟨_,_,f,e⟩:=ZQ b _ e
   exact hk.ar.eD f x L N e
  ·obtain ⟨i,f,u,rfl,k1,k2,k3⟩:=h.Ce h1 h2
   obtain ⟨h4,h5,h6⟩:=hk.ar.p7 f u x L N cs e own q k k2 k3 h3;refine ⟨h4,fun c e=>?_,fun y hy bA=>?_⟩
   ·simp only [Env.sub] at e
    split at e
    ·obtain ⟨f1,_,e⟩:=aO.1 e
     obtain ⟨f',_,e⟩:=aO.1 e;exact h5 f' (Kj e).1
    ·simp at e
   ·obtain ⟨h7,h8,h9⟩:=h6 y hy bA
    refine ⟨h7,fun q=>h8 (h.ar q),fun c e=>?_⟩;simp only [Env.sub,aO] at e;obtain ⟨b',_,e⟩:=e;exact h9 b' e
  ·rcases Cd h.nz hb with ⟨p,r,_,_,h3⟩ | ⟨i,q,rfl,h2,_⟩
   ·simp at h3
   ·refine ⟨?_,?_⟩
    ·rw [aB.mem,eU,mw h.nz]
     have:=(cp.1 h2).1;omega
    ·simp only [Env.sub]
     rw [List.getElem?_eq_none (by rw [h.Vk]; simp only [aB.nr]; omega)];rfl
structure Co (base:Nat) (E:Env) (A:ai) (B:St) (ρ:Ren) (w:World) (E' : Env) (A' : ai) (B' : St) (ak:Ren) (w' : World):Prop where
 gG:cq base ρ B w ak B' w'
 z:∀ b r,E.z b=some r->E'.z b=some r
 di:∀ x,x < B.next->(∀ b,E.κ b≠some x)->¬ AT A E B x->B'.get x=B.get x
 new:∀ b x,E'.κ b=some x->(∃ c,E.κ c=some x)\/B.next<=x
 qN:∀ b r,E'.z b=some r->E.z b=some r\/AR A E b\/B.next<=b
 pj:∀ b g,E'.φ b=some g->(∃ c,E.φ c=some g)\/B.next<=g
 nw:∀ g,g < B.next->(∀ b,E.φ b≠some g)->¬ AF A E B g->B'.members g=B.members g
 jT:∀ x,AR A' E' x->AR A E x\/B.next<=x
 j9:∀ g,AF A' E' B' g->AF A E B g\/B.next<=g
 rI:∀ g y,y∈B'.members g->y∈B.members g\/B.next<=y
 lU:∀ y,AT A' E' B' y->AT A E B y\/B.next<=y
 rows:∀ y,y < B.next->∀ cs e own aZ,B'.get y=some (.row cs e own aZ)->∃ mG,B.get y=some (.row mG e own aZ)/\mG.length=cs.length
theorem Co.trans {base:Nat} {E1 E2 E3:Env} {A1 A2 A3:ai} {B1 B2 B3:St} {fH nv Qp:Ren} {w1 w2 w3:World} (h:Co base E1 A1 B1 fH w1 E2 A2 B2 nv w2) (k:Co base E2 A2 B2 nv w2 E3 A3 B3 Qp w3):Co base E1 A1 B1 fH w1 E3 A3 B3 Qp w3 where
 gG:=h.gG.trans k.gG
 z b r e:=k.z b r (h.z b r e)
 di x hx hn ha:=by
  refine (k.di x (dG hx h.gG.next) (fun b e=>?_) fun q=>?_).trans (h.di x hx hn ha)
  ·rcases h.new b x e with ⟨c,e⟩ | e
   ·exact hn c e
   ·omega
  ·rcases h.lU x q with e | e
   ·exact ha e
   ·omega
 new b x e:=by
  rcases k.new b x e with ⟨c,e⟩ | e
  ·exact h.new c x e
  ·have:=h.gG.next; exact .inr (by omega)
 qN b r e:=by
  rcases k.qN b r e with e | e | e
  ·exact h.qN b r e
  ·exact .inr (h.jT b e)
  ·have:=h.gG.next; exact .inr (.inr (by omega))
 pj b g e:=by
  rcases k.pj b g e with ⟨c,e⟩ | e
  ·exact h.pj c g e
  ·have:=h.gG.next; exact .inr (by omega)
 nw g hg hn ha:=by
  refine (k.nw g (dG hg h.gG.next) (fun b e=>?_) fun q=>?_).trans (h.nw g hg hn ha)
  ·rcases h.pj b g e with ⟨c,e⟩ | e
   ·exact hn c e
   ·omega
  ·rcases h.j9 g q with e | e
   ·exact ha e
   ·omega
 jT x e:=by
  rcases k.jT x e with e | e
  ·exact h.jT x e
  ·have:=h.gG.next; exact .inr (by omega)
 j9 g e:=by
  rcases k.j9 g e with e | e
  ·exact h.j9 g e
  ·have:=h.gG.next; exact .inr (by omega)
 rI g y e:=by
  rcases k.rI g y e with e | e
  ·exact h.rI g y e
  ·have:=h.gG.next; exact .inr (by omega)
 lU y e:=by
  rcases k.lU y e with e | e
  ·exact h.lU y e
  ·have:=h.gG.next; exact .inr (by omega)
 rows y hy cs e own aZ q:=by
  obtain ⟨c1,h1,h2⟩:=k.rows y (dG hy h.gG.next) cs e own aZ q;obtain ⟨c0,h3,h4⟩:=h.rows y hy c1 e own aZ h1;exact ⟨c0,h3,h4.trans h2⟩
theorem Ev.co {base:Nat} {A A1:ai} {B B1:St} {ρ fH:Ren} {w w1:World} {E1:Env} {S:aB} {t:bI} {g:GR} (h:Ev P base E A B ρ w E1 A1 B1 fH w1) (hG:cQ P S t A1 g):Co base E A B ρ w (E1.sub A1 g.bs g.fs S.nr) (S.mem P g.vs g.rs) B1 fH w1 where
 gG:=h.gG
 z:=h.le.z
 di:=h.di
 new b x e:=by
  simp only [Env.sub,aO] at e;obtain ⟨b',_,e⟩:=e;exact (h.new b' x e).imp (fun e=>⟨_,e⟩) (·.2)
 qN:=h.qN
 pj b g e:=by
  simp only [Env.sub] at e;split at e
  ·obtain ⟨f,_,e⟩:=aO.1 e
   obtain ⟨f',_,e⟩:=aO.1 e;exact h.pj _ _ (Kj e).1
  ·simp at e
 nw:=h.nw
 jT x q:=h.jT x (hG.ar q)
 j9 g q:=h.j9 g (hG.af q)
 rI:=h.rI
 lU y q:=h.lU y (hG.at q)
 rows:=h.rows
def O7 (nr:Nat):List CD->Bool
 | []=>true
 | .ref w::ds=>R5 nr w&&O7 nr ds
 | _::ds=>O7 nr ds
theorem Cf {nr:Nat} {bs:List Nat} : ∀ {ds:List CD} {vs:List KV},zW nr bs ds vs=true->vs.length=ds.length->O7 nr ds=true
 | [],_,_,_=>rfl
 | _::_,[],_,e=>by simp at e
 | .k c::ds,v::vs,h,e=>Cf (ds:=ds) (vs:=vs) h (by simpa using e)
 | .lit c::ds,v::vs,h,e=>Cf (ds:=ds) (vs:=vs) h (by simpa using e)
 | .aF c::ds,v::vs,h,e=>Cf (ds:=ds) (vs:=vs) h (by simpa using e)
 | .arr c::ds,v::vs,h,e=>Cf (ds:=ds) (vs:=vs) h (by simpa using e)
 | .ref w::ds,v::vs,h,e=>by
  simp only [zW,aj] at h;simp only [O7,aj];exact ⟨h.1,Cf h.2.2 (by simpa using e)⟩
def MV (E1 E2:Env) (i j n:Nat):Prop:=∀ m,m < n->(∀ g,E1.φ (i+m)=some g->E2.φ (j+m)=some g)/\∀ p,E1.α (i+m)=some p->E2.α (j+m)=some p
theorem MV.tail {E1 E2:Env} {i j n:Nat} (h:MV E1 E2 i j (n+1)):MV E1 E2 (i+1) (j+1) n:=fun m hm=>by
 have:=h (m+1) (by omega);rw [show i+(m+1)=i+1+m by omega,show j+(m+1)=j+1+m by omega] at this;exact this
theorem MV.left {E1 E2:Env} {i j n n' : Nat} (h:MV E1 E2 i j n') (hn:n<=n'):MV E1 E2 i j n:=fun m hm=>h m (by omega)
theorem MV.right {E1 E2:Env} {i j n n' : Nat} (h:MV E1 E2 i j (n+n')):MV E1 E2 (i+n) (j+n) n':=fun m hm=>by
 have:=h (n+m) (by omega);rw [<- nD,<- nD] at this;exact this
theorem aK.vM {E1 E2:Env} (hz:E2.z=E1.z) {nr:Nat} {MW bs2:List Nat} (hk:Rk E1 E2 nr MW bs2):∀ {ds:List CD} {vs:List KV} {us:List Value} {i j:Nat},aK P E1 (nP i MW ds vs) us->cH ds vs=true->O7 nr ds=true->MV E1 E2 i j (oo ds)->aK P E2 (nP j bs2 ds vs) us
 | [],[],us,_,_,h,_,_,_=>by rw [h.bz]; exact .nil
 | [],_::_,_,_,_,_,hg,_,_=>by simp [cH] at hg
 | _::_,[],_,_,_,_,hg,_,_=>by simp [cH] at hg
 | d::ds,v::vs,us,i,j,h,hg,hw,hf=>by
  simp only [cH,aj] at hg;cases d with
  | k c=>
   obtain ⟨y,ys,rfl,h1,h2⟩:=aK.cons_inv (show aK P E1 (v::nP i MW ds vs) us from h);exact .cons (h1.gCD (d:=.k c) hz hg.1 (by simp)) (aK.vM hz hk h2 hg.2 hw hf)
  | lit w=>
   obtain ⟨y,ys,rfl,h1,h2⟩:=aK.cons_inv (show aK P E1 (v::nP i MW ds vs) us from h);exact .cons (h1.gCD (d:=.lit w) hz hg.1 (by simp)) (aK.vM hz hk h2 hg.2 hw hf)
  | ref w=>
   simp only [O7,aj] at hw;obtain ⟨y,ys,rfl,h1,h2⟩:=aK.cons_inv (show aK P E1 (inst MW w::nP i MW ds vs) us from h);exact .cons (VK.inst hk hw.1 h1) (aK.vM hz hk h2 hg.2 hw.2 hf)
  | aF t=>
   obtain ⟨y,ys,rfl,h1,h2⟩:=aK.cons_inv (show aK P E1 (GJ i v::nP (i+1) MW ds vs) us from h);refine .cons ?_ (aK.vM (i:=i+1) (j:=j+1) hz hk h2 hg.2 hw (MV.tail hf));have hv:∃ n es acc,v = .ts t .any n es acc:=by
    have Oy:kindOk (.slice t) v=true:=hg.1;cases v <;> simp [kindOk] at Oy;rename_i t' m n es acc;cases m <;> simp at Oy;subst Oy; exact ⟨_,_,_,rfl⟩
   obtain ⟨n,es,acc,rfl⟩:=hv;exact VK.swap hz (show VK P E1 (.ts t (.aF i) n es acc) y from h1) fun sz a cap _ hm=>by
    refine ⟨hm.1,hm.2.imp id ?_⟩;rintro ⟨b,r,g,q1,q2,q3,q4,q5⟩;exact ⟨b,r,g,q1,by rw [hz]; exact q2,q3,(hf 0 (by simp [oo])).1 g q4,q5⟩
  | arr t=>
   obtain ⟨y,ys,rfl,h1,h2⟩:=aK.cons_inv (show aK P E1 (Kg i v::nP (i+1) MW ds vs) us from h);refine .cons ?_ (aK.vM (i:=i+1) (j:=j+1) hz hk h2 hg.2 hw (MV.tail hf));have hv:∃ n es acc,v = .ts t .any n es acc:=by
    have Oy:kindOk (.slice t) v=true:=hg.1;cases v <;> simp [kindOk] at Oy;rename_i t' m n es acc;cases m <;> simp at Oy;subst Oy; exact ⟨_,_,_,rfl⟩
   obtain ⟨n,es,acc,rfl⟩:=hv;show VK P E2 (.al t j 0 n) y;rcases (show VK P E1 (.al t i 0 n) y from h1).rH with ⟨q1,q2,q3⟩ | ⟨x,L,N,c,q1,q2⟩
   ·exact .IE (.inl ⟨q1,q2,q3⟩)
   ·exact .IE (.inr ⟨x,L,N,c,(hf 0 (by simp [oo])).2 _ q1,q2⟩)
theorem ag5 (j:Nat) (bs:List Nat) (d:VD) (cs:List KV):R6 j bs d (.agg cs) = .agg (nP j bs d.ks cs):=rfl
theorem X2 {j:Nat} {bs:List Nat} {d:VD} {v:KV} (h:∀ cs,v≠.agg cs) {c:CD} (hc:d.ks = [c]) : [R6 j bs d v] = nP j bs d.ks [v]:=by
 have e:R6 j bs d v=(match d.ks with | [.aF _]=>GJ j v | [.arr _]=>Kg j v | [.ref w]=>inst bs w | _=>v):=by
  cases v <;> first | rfl | exact absurd rfl (h _)
 rw [e,hc];cases c <;> rfl
theorem VK.amm {E1 E2:Env} (hz:E2.z=E1.z) {nr:Nat} {MW bs2:List Nat} (hk:Rk E1 E2 nr MW bs2) {d:VD} {v:KV} {u:Value} {i j:Nat} (h:VK P E1 (R6 i MW d v) u) (hg:sU d v=true) (hw:O7 nr d.ks=true) (hf:MV E1 E2 i j (oo d.ks)):VK P E2 (R6 j bs2 d v) u:=by
 rcases ug hg with ⟨cs,rfl,_,h2⟩ | ⟨h0,_,c,h1,h2⟩
 ·rw [ag5] at h ⊢
  obtain ⟨l,rfl,k⟩:=h.ju;exact .nt (aK.vM hz hk k h2 hw hf)
 ·have k:aK P E1 (nP i MW d.ks [v]) [u]:=by rw [<- X2 h0 h1]; exact .cons h .nil
  have k2:=aK.vM hz hk k (by rw [h1]; simp [cH,h2]) hw hf;rw [<- X2 h0 h1] at k2;obtain ⟨y,e,k3⟩:=k2.dC;simp at e; subst e; exact k3
def ot (P:Program) (E1 E2:Env):List (Nat×KV)->List (Nat×KV)->Prop
 | [],[]=>True
 | x::xs,y::ys=>x.1=y.1/\(∀ u,VK P E1 x.2 u->VK P E2 y.2 u)/\ot P E1 E2 xs ys
 | _,_=>False
theorem ot.append {E1 E2:Env} : ∀ {a b c d:List (Nat×KV)},ot P E1 E2 a b->ot P E1 E2 c d->ot P E1 E2 (a++c) (b++d)
 | [],[],_,_,_,h=>h
 | [],_::_,_,_,h,_=>h.elim
 | _::_,[],_,_,h,_=>h.elim
 | _::_,_::_,_,_,h,k=>⟨h.1,h.2.1,ot.append h.2.2 k⟩
theorem ot.get {E1 E2:Env} : ∀ {a b:List (Nat×KV)},ot P E1 E2 a b->∀ i,((gK a).get i=none/\(gK b).get i=none)\/∃ x y,(gK a).get i=some x/\(gK b).get i=some y/\∀ u,VK P E1 x u->VK P E2 y u
 | [],[],_,i=>.inl (by simp [gK])
 | [],_::_,h,_=>h.elim
 | _::_,[],h,_=>h.elim
 | x::a,y::b,h,i=>by
  rw [gK,gK,Trie.iY,Trie.iY];by_cases e:i=x.1
  ·rw [ax e,ax (by rw [e,h.1])]
   exact .inr ⟨_,_,rfl,rfl,h.2.1⟩
  ·rw [ae e,ae (by rw [<- h.1]; exact e)]
   exact ot.get h.2.2 i
theorem jD.ai9 {E1 E2:Env} {ρ:Ren} {l m:List (Nat×KV)} {N:Nat} {a:Act} (h:jD P E1 ρ (K.gK l) N a) (hp:ot P E1 E2 l m):jD P E2 ρ (K.gK m) N a:=by
 refine ⟨h.size,fun i=>?_,fun i hi=>?_⟩
 ·rcases hp.get i with ⟨_,h2⟩ | ⟨x,y,h1,h2,h3⟩
  ·rw [h2]; exact .bx
  ·have:=h.val i
   rw [h1] at this;rw [h2];obtain ⟨u,k1,k2⟩:=this;exact ⟨u,h3 u k1,k2⟩
 ·rcases hp.get i with ⟨_,h2⟩ | ⟨x,y,h1,h2,h3⟩
  ·exact h2
  ·have:=h.none i hi
   rw [h1] at this; simp at this
def wsV (nr:Nat):List (Tmp×VD)->Bool
 | []=>true
 | p::ps=>O7 nr p.2.ks&&wsV nr ps
theorem afK {A:ai} {t:bI} {nr:Nat} {bs:List Nat} : ∀ {ps:List (Tmp×VD)},D8 nr bs t ps=true->dY ps (ln P t A ps)=true->wsV nr ps=true
 | [],_,_=>rfl
 | p::ps,h,hg=>by
  simp only [D8,aj] at h;simp only [ln,dY,aj] at hg;simp only [wsV,aj];exact ⟨Cf h.1 (zr hg.1),afK h.2 hg.2⟩
theorem X3 {E1 E2:Env} (hz:E2.z=E1.z) {nr:Nat} {MW bs2:List Nat} (hk:Rk E1 E2 nr MW bs2):∀ {ps:List (Tmp×VD)} {vs:List KV} {i j:Nat},dY ps vs=true->wsV nr ps=true->MV E1 E2 i j (lq ps)->ot P E1 E2 (Hj i MW ps vs) (Hj j bs2 ps vs)
 | [],[],_,_,_,_,_=>trivial
 | [],_::_,_,_,hg,_,_=>by simp [dY] at hg
 | _::_,[],_,_,hg,_,_=>by simp [dY] at hg
 | p::ps,v::vs,i,j,hg,hw,hf=>by
  simp only [wsV,aj] at hw;simp only [dY,aj] at hg;have hf:MV E1 E2 i j (oo p.2.ks+lq ps):=hf;exact ⟨rfl,fun u h=>h.amm hz hk hg.1 hw.1 (hf.left (Nat.le_add_right _ _)),X3 hz hk hg.2 hw.2 hf.right⟩
theorem abZ {E1 E2:Env} {ids bs:List Nat} : ∀ {ps:List (Tmp×Nat×Nat)},(∀ p∈ps,zV p=true->∀ x,E1.κ (ids.getD p.2.1 0)=some x->E2.κ (bs.getD p.2.1 0)=some x)->ot P E1 E2 (sZ ids ps) (sZ bs ps)
 | [],_=>trivial
 | p::ps,h=>by
  have ih:=abZ (E1:=E1) (E2:=E2) (ids:=ids) (bs:=bs) (ps:=ps) fun q hq=>h q (by simp [hq]);unfold sZ;cases hp:zV p with
  | true=>
   exact ⟨rfl,fun u k=>by
    obtain ⟨x,h1,rfl⟩:=(show VK P E1 (.ptr (ids.getD p.2.1 0) p.2.2) u from k).gh;exact .wx (h p (by simp) hp x h1),ih⟩
  | false=>exact ih
theorem ab0 {E1 E2:Env} {a b:List (Nat×KV)} (hab:ot P E1 E2 a b):∀ {ps:List (Tmp×Nat×Nat)},ot P E1 E2 (GK a ps) (GK b ps)
 | []=>trivial
 | p::ps=>by
  have ih:=ab0 hab (ps:=ps);unfold GK;cases hp:zV p with
  | true=>exact ih
  | false=>
   refine ⟨rfl,fun u k=>?_,ih⟩;have k:VK P E1 (MP a (p.2.1 - 1000000)) u:=k;show VK P E2 (MP b (p.2.1 - 1000000)) u;unfold MP at k ⊢;rcases hab.get (p.2.1 - 1000000) with ⟨h1,h2⟩ | ⟨x,y,h1,h2,h3⟩
   ·rw [h1] at k
    rw [h2];simp [VK]
   ·rw [h1] at k
    rw [h2];exact h3 u k
end Go.K
end
section
namespace Go.K
open Go Go.aA
variable {P:Program} {E:Env}
theorem Bq:∀ (ps:List (Tmp×List CD×Nat)) (j k:Nat),vL j ps k=j+vL 0 ps k
 | [],j,k=>by simp [vL]
 | _::_,j,0=>by simp [vL]
 | p::ps,j,k+1=>by
  simp only [vL];rw [Bq ps (j+oo p.2.1) k,Bq ps (0+oo p.2.1) k];omega
theorem mem_row {S:aB} {vs:List KV} {rs:List (List KV)} (h:rs.length=S.rows.length) {k:Nat} {p:Tmp×List CD×Nat} {r:List KV} (hp:S.rows[k]? = some p) (hr:rs[k]? = some r):(S.mem P vs rs).get k=some (.row (nP (vL (S.nr+lq S.dh) S.rows k) S.ids p.2.1 r) p.2.2):=by
 have hk:k < S.nr:=(cp.1 hp).1;rw [aB.mem,A6 (by rw [mw h]; exact hk)];have:=afI (A:=.empty) hp (show (S.B9 S.nr S.ids rs)[k]? = some _ from Ki hp hr);simpa [ai.empty] using this
theorem O8 {S:aB} {vs:List KV} {rs:List (List KV)} (h:rs.length=S.rows.length) {i:Nat} {q:gJ} (hq:(S.lens P vs rs)[i]? = some q):(S.mem P vs rs).get (S.nr+i)=some q:=by
 have:=I8 (A:=oq .empty S.rows (S.B9 S.nr S.ids rs)) hq;rw [mw h] at this;exact this
def Env.up (E E1:Env) (nr nx:Nat):Env:={ κ:=E.κ,z:=E1.z,φ:=fun b=>if nx<=b then E1.φ (nr+(b - nx)) else E.φ b,α:=fun b=>if nx<=b then E1.α (nr+(b - nx)) else E.α b }
theorem Env.wW {E1:Env} {nr nx j:Nat} : (E.up E1 nr nx).φ (nx+j)=E1.φ (nr+j):=by
 simp only [Env.up];rw [ax (by omega),show nx+j - nx=j by omega]
theorem Env.wX {E1:Env} {nr nx b:Nat} (h:b < nx):(E.up E1 nr nx).φ b=E.φ b:=by
 simp only [Env.up];rw [ae (by omega)]
theorem Env.Fg {E1:Env} {nr nx j:Nat} : (E.up E1 nr nx).α (nx+j)=E1.α (nr+j):=by
 simp only [Env.up];rw [ax (by omega),show nx+j - nx=j by omega]
theorem Env.Fh {E1:Env} {nr nx b:Nat} (h:b < nx):(E.up E1 nr nx).α b=E.α b:=by
 simp only [Env.up];rw [ae (by omega)]
theorem du.anv {A:ai} {B:St} (h:du P E A B) {b x:Nat} (hx:E.κ b=some x) : ¬ AT A E B x:=by
 rintro (q | ⟨g,⟨c,v,y,L,N,cs,e,own,k,h1,h2,h3⟩,hm⟩)
 ·exact (h.ar.z x q).2 b hx
 ·by_cases wu:x=y
  ·subst wu
   exact (h.ar.z x ⟨c,v,L,N,h1,h2⟩).2 b hx
  ·exact ((h.ar.p7 c v y L N cs e own g k h1 h2 h3).2.2 x hm wu).2.2 b hx
theorem X4 {S:aB} {t:bI} {A:ai} {B B1:St} {g:GR} {ρ fH:Ren} {base N:Nat} {w w1:World} {a1:Act} {vs:List KV} {rs:List (List KV)} {E1:Env} (hG:cQ P S t A g) (hk:du P E A B)
  (ht:jD P E1 fH (S.tm S.nr S.ids vs) N a1) (hs:du P E1 (S.mem P vs rs) B1) (lj:Co base (E.sub A g.bs g.fs S.nr) (S.mem P g.vs g.rs) B ρ w E1 (S.mem P vs rs) B1 fH w1) (Mz:∀ k,k < S.rows.length->E1.κ k=(E.sub A g.bs g.fs S.nr).κ k)
  (hv:dY S.dh vs=true) (Ia:rs.length=S.rows.length) (hrg:∀ (k:Nat) p r,S.rows[k]? = some p->rs[k]? = some r->cH p.2.1 r=true) :
  jD P (E.up E1 S.nr A.next) fH (S.tm A.next g.bs vs) N a1/\Ev P base E A B ρ w (E.up E1 S.nr A.next) (S.back P g.bs g.fs vs rs A) B1 fH w1:=by
 have hle:E.le (E.up E1 S.nr A.next):=⟨fun b p e=>by rw [Env.Fh (hk.ar.fZ b p e)]; exact e,fun _ _ e=>e,fun b r e=>lj.z b r e,fun b q e=>by rw [Env.wX (hk.lk b q e)]; exact e⟩
 have aja:∀ (k b:Nat),g.bs[k]? = some b->E1.κ k=E.κ b:=fun k b hb=>by
  rw [Mz k (by rw [<- hG.Vk]; exact (cp.1 hb).1)];simp [Env.sub,hb]
 have gd:(vi (ml A g.bs S.rows (S.B9 A.next g.bs rs)) g.fs).next=A.next:=by rw [Di,MS]
 have GH:∀ x,x < B.next->(∀ (k b:Nat),g.bs[k]? = some b->E.κ b≠some x)->¬ AT (S.mem P g.vs g.rs) (E.sub A g.bs g.fs S.nr) B x->B1.get x=B.get x:=fun x hx bA ha=>lj.di x hx (fun k e=>by
  simp only [Env.sub,aO] at e;obtain ⟨b,h1,e⟩:=e;exact bA k b h1 e) ha
 have SV:∀ f,f∈iq g.fs->∃ i:Nat,g.fs[i]? = some (some f)/\((∃ n sz,A.get f=some (.aF n sz))\/∃ v,A.get f=some (.arr v)):=by
  intro f hf;obtain ⟨i,hi⟩:=List.getElem?_of_mem (sf.1 hf);have aI:i < (S.lens P g.vs g.rs).length:=by rw [hG.lens,<- oP,<- hG.fs]; exact (cp.1 hi).1
  obtain ⟨fi,_,h2,h3⟩:=hG.fact (cl aI);rw [hi] at h2; simp at h2;rcases h3 with ⟨n,sz,_,⟨h3,_⟩ | ⟨f',h3,h4⟩⟩ | ⟨T,v,_,⟨h3,_⟩ | ⟨f',m,N,es,acc,h3,h4,_⟩⟩
  ·rw [h3] at h2; simp at h2
  ·rw [h3] at h2; simp at h2; subst h2; exact ⟨i,hi,.inl ⟨_,_,h4⟩⟩
  ·rw [h3] at h2; simp at h2
  ·rw [h3] at h2; simp at h2; subst h2; exact ⟨i,hi,.inr ⟨_,h4⟩⟩
 have anw:∀ f v,f∈iq g.fs->A.get f=some v->(∃ n sz,v = .aF n sz)\/∃ u,v = .arr u:=by
  intro f v hf hv;obtain ⟨_,_,⟨n,sz,h1⟩ | ⟨u,h1⟩⟩:=SV f hf
  ·rw [hv] at h1; simp at h1; exact .inl ⟨n,sz,h1⟩
  ·rw [hv] at h1; simp at h1; exact .inr ⟨u,h1⟩
 have hrk:Rk E1 (E.up E1 S.nr A.next) S.rows.length S.ids g.bs:=fun j x hj e=>by
  have aI:j < g.bs.length:=by rw [hG.Vk]; exact hj
  rw [eO,Cb S j hj,iD] at e;rw [eO,cl aI,iD];show E.κ _=some x;rw [<- aja j _ (cl aI)]; exact e
 have Qn:∀ (k b:Nat),g.bs[k]? = some b->∃ (p:Tmp×List CD×Nat) (r:List KV) (x:Nat) (b5:List Value),S.rows[k]? = some p/\rs[k]? = some r/\E.κ b=some x/\B1.get x=some (.row b5 p.2.2 true none)/\aK P (E.up E1 S.nr A.next) (nP (vL (A.next+lq S.dh) S.rows k) g.bs p.2.1 r) b5/\
   (vi (ml A g.bs S.rows (S.B9 A.next g.bs rs)) g.fs).get b=some (.row (nP (vL (A.next+lq S.dh) S.rows k) g.bs p.2.1 r) p.2.2)/\b ∉ iq g.fs:=by
  intro k b hb;have aI:k < S.rows.length:=by rw [<- hG.Vk]; exact (cp.1 hb).1
  have hp:=cl aI;have hr:=cl (show k < rs.length by rw [Ia]; exact aI);obtain ⟨b',cs,q1,q2,_⟩:=hG.row hp;rw [hb] at q1; simp at q1; subst q1;obtain ⟨x,b5,h1,h2,h3⟩:=hs.row k _ _ (mem_row Ia hp hr);have hnf:b ∉ iq g.fs:=fun hf=>by
   rcases anw b _ hf q2 with ⟨_,_,e⟩ | ⟨_,e⟩ <;> simp at e
  refine ⟨_,_,x,b5,hp,hr,by rw [<- aja k b hb]; exact h1,h2,?_,?_,hnf⟩
  ·have hws:O7 S.rows.length S.rows[k].2.1=true:=by
    obtain ⟨_,mG,_,_,DM,hc0,_,_⟩:=hG.row hp;have:=MU hG.alz hp;rw [hc0] at this;exact Cf this DM
   refine aK.vM (E1:=E1) (E2:=E.up E1 S.nr A.next) rfl hrk h3 (hrg _ _ _ hp hr) hws fun m _=>⟨fun q e=>?_,fun q e=>?_⟩
   ·rw [Bq,show A.next+lq S.dh+vL 0 S.rows k+m=A.next+(lq S.dh+vL 0 S.rows k+m) by omega,Env.wW]
    rw [Bq,show S.nr+lq S.dh+vL 0 S.rows k+m=S.nr+(lq S.dh+vL 0 S.rows k+m) by omega] at e;exact e
   ·rw [Bq,show A.next+lq S.dh+vL 0 S.rows k+m=A.next+(lq S.dh+vL 0 S.rows k+m) by omega,Env.Fg]
    rw [Bq,show S.nr+lq S.dh+vL 0 S.rows k+m=S.nr+(lq S.dh+vL 0 S.rows k+m) by omega] at e;exact e
  ·rw [Ca,ae hnf]
   exact abT hG.nodup hb hp (show (S.B9 A.next g.bs rs)[k]? = some _ from Ki hp hr)
 have mr:∀ b,b∈g.bs->∃ k:Nat,g.bs[k]? = some b:=fun b hb=>List.getElem?_of_mem hb;have Kk:∀ c q,(E.sub A g.bs g.fs S.nr).φ c=some q->∃ f n sz,f∈iq g.fs/\E.φ f=some q/\A.get f=some (.aF n sz):=by
  intro c q e;simp only [Env.sub] at e;split at e
  ·obtain ⟨f,h1,e⟩:=aO.1 e
   obtain ⟨f',h2,e⟩:=aO.1 e;subst h2;obtain ⟨e1,e2⟩:=Kj e;obtain ⟨n,sz,e3⟩:=abW e2;exact ⟨f',n,sz,sf.2 (eW h1),e1,e3⟩
  ·simp at e
 have hinv:∀ b o,(S.back P g.bs g.fs vs rs A).get b=some o->(b∈g.bs/\∃ cs e,o = .row cs e/\(vi (ml A g.bs S.rows (S.B9 A.next g.bs rs)) g.fs).get b=some (.row cs e))\/(b ∉ g.bs/\b ∉ iq g.fs/\A.get b=some o)\/(b∈iq g.fs/\o = .dead)\/∃ i q,b=A.next+i/\(S.lens P vs rs)[i]? = some q/\o=q:=by
  intro b o hb;rcases O4 hb with hb | ⟨i,q,h1,h2,h3⟩
  ·by_cases Vl:b∈g.bs
   ·obtain ⟨k,pb⟩:=mr b Vl
    obtain ⟨p,r,x,b5,h1,h2,h3,h4,h5,h6,h7⟩:=Qn k b pb;rw [h6] at hb; simp at hb;exact .inl ⟨Vl,_,_,hb.symm,h6⟩
   ·rw [Ca] at hb
    split at hb
    ·rename_i hf; simp at hb; exact .inr (.inr (.inl ⟨hf,hb.symm⟩))
    ·rename_i hf
     rw [I9 Vl] at hb;exact .inr (.inl ⟨Vl,hf,hb⟩)
  ·rw [gd] at h1
   exact .inr (.inr (.inr ⟨i,q,h1,h2,h3⟩))
 have hnewobj:∀ i q,(S.lens P vs rs)[i]? = some q->(S.mem P vs rs).get (S.nr+i)=some q:=fun i q hq=>O8 Ia hq;have afL:∀ (i:Nat) (q:gJ),(S.lens P vs rs)[i]? = some q->(∃ n sz,q=gJ.aF n sz)\/∃ v,q=gJ.arr v:=by
  have one:∀ (ds:List CD) (vs:List KV),∀ q∈lW P ds vs,(∃ n sz,q = .aF n sz)\/∃ v,q = .arr v:=by
   intro ds
   induction ds with
   | nil=>intro vs q hq; simp [lW] at hq
   | cons d ds ih=>
    intro vs q hq;cases vs with
    | nil=>cases d <;> simp [lW] at hq
    | cons v vs=>
     cases d <;> simp only [lW,bd] at hq
     ·exact ih vs q hq
     ·exact ih vs q hq
     ·rcases hq with rfl | hq
      ·exact .inl ⟨_,_,rfl⟩
      ·exact ih vs q hq
     ·rcases hq with rfl | hq
      ·exact .inr ⟨_,rfl⟩
      ·exact ih vs q hq
     ·exact ih vs q hq
  have two:∀ (ps:List (Tmp×VD)) (vs:List KV),∀ q∈wT P ps vs,(∃ n sz,q = .aF n sz)\/∃ v,q = .arr v:=by
   intro ps
   induction ps with
   | nil=>intro vs q hq; simp [wT] at hq
   | cons p ps ih=>
    intro vs q hq;cases vs with
    | nil=>simp [wT] at hq
    | cons v vs=>
     simp only [wT,eP] at hq;exact hq.elim (one _ _ q) (ih vs q)
  have three:∀ (ps:List (Tmp×List CD×Nat)) (rs:List (List KV)),∀ q∈ym P ps rs,(∃ n sz,q = .aF n sz)\/∃ v,q = .arr v:=by
   intro ps
   induction ps with
   | nil=>intro vs q hq; simp [ym] at hq
   | cons p ps ih=>
    intro vs q hq;cases vs with
    | nil=>simp [ym] at hq
    | cons v vs=>
     simp only [ym,eP] at hq;exact hq.elim (one _ _ q) (ih vs q)
  intro i q hq;have:=eW hq;simp only [aB.lens,eP] at this;exact this.elim (two _ _ q) (three _ _ q)
 have iP:∀ b v,(S.back P g.bs g.fs vs rs A).get b=some (.arr v)->(b < A.next/\b ∉ iq g.fs/\A.get b=some (.arr v)/\(E.up E1 S.nr A.next).α b=E.α b)\/∃ i,b=A.next+i/\(S.mem P vs rs).get (S.nr+i)=some (.arr v)/\(E.up E1 S.nr A.next).α b=E1.α (S.nr+i):=by
  intro b v hb;rcases hinv b _ hb with ⟨_,_,_,e,_⟩ | ⟨_,HK,h1⟩ | ⟨_,e⟩ | ⟨i,q,rfl,h2,e⟩
  ·simp at e
  ·exact .inl ⟨hk.live b _ h1,HK,h1,Env.Fh (hk.live b _ h1)⟩
  ·simp at e
  ·subst e; exact .inr ⟨i,rfl,O8 Ia h2,Env.Fg⟩
 have alA:∀ {b v x L N},b ∉ iq g.fs->A.get b=some (.arr v)->E.α b=some (x,L,N)->¬ AR (S.mem P g.vs g.rs) (E.sub A g.bs g.fs S.nr) x:=by
  intro b v x L N HK hb hx q;obtain ⟨f,u,L',N',h1,h2,h3⟩:=hG.AR q;have:=hk.ar.inj b f v u x L N L' N' hb h2 hx h3;subst this;exact HK h1
 have anx:∀ {b v x L N},b ∉ iq g.fs->A.get b=some (.arr v)->E.α b=some (x,L,N)->¬ AT (S.mem P g.vs g.rs) (E.sub A g.bs g.fs S.nr) B x:=by
  intro b v x L N HK hb hx q;rcases q with q | ⟨aF,q,hm⟩
  ·exact alA HK hb hx q
  ·obtain ⟨f,u,y,L',N',cs,e,own,m,h1,h2,h3,h4⟩:=hG.AF q
   by_cases wu:x=y
   ·subst wu
    have:=hk.ar.inj b f v u x L N L' N' hb h2 hx h3;subst this;exact HK h1
   ·exact ((hk.ar.p7 f u y L' N' cs e own aF m h2 h3 h4).2.2 x hm wu).2.1 ⟨b,v,L,N,hb,hx⟩
 have Fi:∀ {b v x L N},b ∉ iq g.fs->A.get b=some (.arr v)->E.α b=some (x,L,N)->B1.get x=B.get x:=by
  intro b v x L N HK hb hx;exact GH x (hk.ar.eD b x L N hx) (fun k c _ e=>(hk.ar.z x ⟨b,v,L,N,hb,hx⟩).2 c e) (anx HK hb hx)
 have ajb:∀ {i v x L N},(S.mem P vs rs).get (S.nr+i)=some (.arr v)->E1.α (S.nr+i)=some (x,L,N)->(∃ f u L' N',f∈iq g.fs/\A.get f=some (.arr u)/\E.α f=some (x,L',N'))\/B.next<=x:=by
  intro i v x L N h1 h2;rcases lj.jT x ⟨_,v,L,N,h1,h2⟩ with q | q
  ·obtain ⟨f,u,L',N',q1,q2,q3⟩:=hG.AR q
   exact .inl ⟨f,u,L',N',q1,q2,q3⟩
  ·exact .inr q
 have ajc:∀ x,AR (S.back P g.bs g.fs vs rs A) (E.up E1 S.nr A.next) x->AR A E x\/AR (S.mem P vs rs) E1 x:=by
  rintro x ⟨b,v,L,N,h1,h2⟩;rcases iP b v h1 with ⟨q1,q2,q3,q4⟩ | ⟨i,rfl,q2,q3⟩
  ·rw [q4] at h2; exact .inl ⟨b,v,L,N,q3,h2⟩
  ·rw [q3] at h2; exact .inr ⟨_,v,L,N,q2,h2⟩
 have ajd:∀ q,AF (S.back P g.bs g.fs vs rs A) (E.up E1 S.nr A.next) B1 q->AF A E B q\/AF (S.mem P vs rs) E1 B1 q:=by
  rintro q ⟨b,v,x,L,N,cs,e,own,k,h1,h2,h3⟩;rcases iP b v h1 with ⟨q1,q2,q3,q4⟩ | ⟨i,rfl,q2,q3⟩
  ·rw [q4] at h2
   rw [Fi q2 q3 h2] at h3;exact .inl ⟨b,v,x,L,N,cs,e,own,k,q3,h2,h3⟩
  ·rw [q3] at h2; exact .inr ⟨_,v,x,L,N,cs,e,own,k,q2,h2,h3⟩
 have ZR:∀ x,AR (S.back P g.bs g.fs vs rs A) (E.up E1 S.nr A.next) x->AR A E x\/B.next<=x:=fun x q=>by
  rcases ajc x q with q | q
  ·exact .inl q
  ·exact (lj.jT x q).imp hG.ar id
 have afM:∀ q,AF (S.back P g.bs g.fs vs rs A) (E.up E1 S.nr A.next) B1 q->AF A E B q\/B.next<=q:=fun x q=>by
  rcases ajd x q with q | q
  ·exact .inl q
  ·exact (lj.j9 x q).imp hG.af id
 have aje:∀ x,x < B.next->E.z x=none->¬ AR (S.mem P g.vs g.rs) (E.sub A g.bs g.fs S.nr) x->E1.z x=none:=fun x hx h1 h2=>by
  cases hz:E1.z x with
  | none=>rfl
  | some r=>
   rcases lj.qN x r hz with e | e | e
   ·have e:E.z x=some r:=e
    rw [h1] at e; simp at e
   ·exact (h2 e).elim
   ·omega
 have alB:∀ {b v x L N cs e own q k},b ∉ iq g.fs->A.get b=some (.arr v)->E.α b=some (x,L,N)->B.get x=some (.row cs e own (some (q,k)))->¬ AF (S.mem P g.vs g.rs) (E.sub A g.bs g.fs S.nr) B q:=by
  intro b v x L N cs e own q k HK hb hx dB r;obtain ⟨f,u,y,L',N',b5,e',nJ,m,h1,h2,h3,h4⟩:=hG.AF r;have:=hk.ar.rC b f v u x y L N L' N' cs e own q k b5 e' nJ m hb h2 hx h3 dB h4;subst this;exact HK h1
 have po:Gq P (E.up E1 S.nr A.next) (S.back P g.bs g.fs vs rs A) B1:=by
  refine ⟨?_,?_,?_,?_,?_,?_,?_,?_,?_,?_⟩
  ·intro b v hb
   rcases iP b v hb with ⟨q1,q2,q3,q4⟩ | ⟨i,rfl,q2,q3⟩
   ·obtain ⟨T,N,es,acc,h1,h2,h3,h4⟩:=hk.ar.arr b v q3
    refine ⟨T,N,es,acc,h1,h2,h3,?_⟩;rcases h4 with ⟨h4,h5⟩ | ⟨x,cs,aZ,aP,h4,h5,h6,h7⟩
    ·exact .inl ⟨h4,by rw [q4]; exact h5⟩
    ·exact .inr ⟨x,cs,aZ,aP,by rw [q4]; exact h4,by rw [Fi q2 q3 h4]; exact h5,h6.mono hle,h7⟩
   ·obtain ⟨T,N,es,acc,h1,h2,h3,h4⟩:=hs.ar.arr _ v q2
    refine ⟨T,N,es,acc,h1,h2,h3,?_⟩;rcases h4 with ⟨h4,h5⟩ | ⟨x,cs,aZ,aP,h4,h5,h6,h7⟩
    ·exact .inl ⟨h4,by rw [q3]; exact h5⟩
    ·exact .inr ⟨x,cs,aZ,aP,by rw [q3]; exact h4,h5,aK.zEs (E:=E1) (E0:=E.up E1 S.nr A.next) (.of rfl) h6 h2.typed,h7⟩
  ·intro b v hb
   rcases hinv b _ hb with ⟨_,_,_,e,_⟩ | ⟨_,_,h1⟩ | ⟨_,e⟩ | ⟨i,q,_,h2,e⟩
   ·simp at e
   ·obtain ⟨T,N,es,acc,h2,h3,h4,h5⟩:=hk.ar.iI b v h1
    have oM:(E.up E1 S.nr A.next).α b=E.α b:=Env.Fh (hk.live b _ h1);refine ⟨T,N,es,acc,h2,h3,h4,?_⟩;rcases h5 with ⟨h5,h6⟩ | ⟨x,r,aP,h5,h6,h7,h8,h9⟩
    ·exact .inl ⟨h5,by rw [oM]; exact h6⟩
    ·exact .inr ⟨x,r,aP,by rw [oM]; exact h5,lj.z x r h6,h7,h8.mono hle,h9⟩
   ·simp at e
   ·rcases afL i q h2 with ⟨_,_,e2⟩ | ⟨_,e2⟩ <;> rw [<- e] at e2 <;> simp at e2
  ·rintro x ⟨b,v,L,N,h1,h2⟩
   rcases iP b v h1 with ⟨q1,q2,q3,q4⟩ | ⟨i,rfl,q2,q3⟩
   ·rw [q4] at h2
    obtain ⟨h3,h4⟩:=hk.ar.z x ⟨b,v,L,N,q3,h2⟩;exact ⟨aje x (hk.ar.eD b x L N h2) h3 (alA q2 q3 h2),h4⟩
   ·rw [q3] at h2
    refine ⟨(hs.ar.z x ⟨_,v,L,N,q2,h2⟩).1,fun c e=>?_⟩;rcases lj.jT x ⟨_,v,L,N,q2,h2⟩ with q | q
    ·exact (hk.ar.z x (hG.ar q)).2 c e
    ·have:=hk.eD c x e; omega
  ·intro b c v u x L N L' N' hb hc e1 e2
   have BX:∀ {b v c u L N L' N'},b ∉ iq g.fs->A.get b=some (.arr v)->E.α b=some (x,L,N)->(S.mem P vs rs).get (S.nr+c)=some (.arr u)->E1.α (S.nr+c)=some (x,L',N')->False:=by
    intro b v c u L N L' N' h1 h2 h3 h4 h5;rcases ajb h4 h5 with ⟨f,u',L2,N2,k1,k2,k3⟩ | k
    ·have:=hk.ar.inj b f v u' x L N L2 N2 h2 k2 h3 k3
     subst this;exact h1 k1
    ·have:=hk.ar.eD b x L N h3; omega
   rcases iP b v hb with ⟨q1,q2,q3,q4⟩ | ⟨i,rfl,q2,q3⟩ <;> rcases iP c u hc with ⟨r1,r2,r3,r4⟩ | ⟨j,rfl,r2,r3⟩
   ·rw [q4] at e1; rw [r4] at e2
    exact hk.ar.inj b c v u x L N L' N' q3 r3 e1 e2
   ·rw [q4] at e1; rw [r3] at e2
    exact (BX q2 q3 e1 r2 e2).elim
   ·rw [q3] at e1; rw [r4] at e2
    exact (BX r2 r3 e2 q2 e1).elim
   ·rw [q3] at e1; rw [r3] at e2
    have:=hs.ar.inj _ _ v u x L N L' N' q2 r2 e1 e2;omega
  ·intro b c v u x y L N L' N' cs e own q k b5 e' nJ k' hb hc e1 e2 w1 w2
   have BX:∀ {b v c u x y L N L' N' cs e own k b5 e' nJ k'},b ∉ iq g.fs->A.get b=some (.arr v)->E.α b=some (x,L,N)->(S.mem P vs rs).get (S.nr+c)=some (.arr u)->E1.α (S.nr+c)=some (y,L',N')->B1.get x=some (.row cs e own (some (q,k)))->B1.get y=some (.row b5 e' nJ (some (q,k')))->False:=by
    intro b v c u x y L N L' N' cs e own k b5 e' nJ k' h1 h2 h3 h4 h5 w1 w2;rw [Fi h1 h2 h3] at w1;rcases lj.j9 q ⟨_,u,y,L',N',b5,e',nJ,k',h4,h5,w2⟩ with r | r
    ·exact alB h1 h2 h3 w1 r
    ·have:=(hk.ar.p7 b v x L N cs e own q k h2 h3 w1).1; omega
   rcases iP b v hb with ⟨q1,q2,q3,q4⟩ | ⟨i,rfl,q2,q3⟩ <;> rcases iP c u hc with ⟨r1,r2,r3,r4⟩ | ⟨j,rfl,r2,r3⟩
   ·rw [q4] at e1; rw [r4] at e2
    rw [Fi q2 q3 e1] at w1; rw [Fi r2 r3 e2] at w2;exact hk.ar.rC b c v u x y L N L' N' cs e own q k b5 e' nJ k' q3 r3 e1 e2 w1 w2
   ·rw [q4] at e1; rw [r3] at e2
    exact (BX q2 q3 e1 r2 e2 w1 w2).elim
   ·rw [q3] at e1; rw [r4] at e2
    exact (BX r2 r3 e2 q2 e1 w2 w1).elim
   ·rw [q3] at e1; rw [r3] at e2
    have:=hs.ar.rC _ _ v u x y L N L' N' cs e own q k b5 e' nJ k' q2 r2 e1 e2 w1 w2;omega
  ·intro b x hb
   have hb:E.κ b=some x:=hb;rw [Env.Fh (hk.fZ b x hb)];exact hk.ar.WT b x hb
  ·intro b p hb
   rw [aB.back,eU,gd];by_cases h1:b < A.next
   ·omega
   ·obtain ⟨i,rfl⟩:=Nat.exists_eq_add_of_le (Nat.le_of_not_lt h1)
    rw [Env.Fg] at hb;have:=hs.ar.fZ _ _ hb;rw [aB.mem,eU,mw Ia] at this;omega
  ·intro b x L N hb
   by_cases h1:b < A.next
   ·rw [Env.Fh h1] at hb
    have:=hk.ar.eD b x L N hb; have:=lj.gG.next; omega
   ·obtain ⟨i,rfl⟩:=Nat.exists_eq_add_of_le (Nat.le_of_not_lt h1)
    rw [Env.Fg] at hb;exact hs.ar.eD _ _ _ _ hb
  ·intro b v x L N cs e own q k hb hx dB
   rcases iP b v hb with ⟨q1,q2,q3,q4⟩ | ⟨i,rfl,q2,q3⟩
   ·rw [q4] at hx
    have adV:=dB;rw [Fi q2 q3 hx] at adV;obtain ⟨h1,h2,h3⟩:=hk.ar.p7 b v x L N cs e own q k q3 hx adV;have hm:B1.members q=B.members q:=lj.nw q h1 (fun c e=>by
     obtain ⟨f',_,_,_,k2,_⟩:=Kk c q e;exact h2 f' k2) (alB q2 q3 hx adV)
    refine ⟨by have:=lj.gG.next; omega,fun f e=>?_,fun y hy bA=>?_⟩
    ·by_cases hf:f < A.next
     ·rw [Env.wX hf] at e; exact h2 f e
     ·obtain ⟨j,rfl⟩:=Nat.exists_eq_add_of_le (Nat.le_of_not_lt hf)
      rw [Env.wW] at e;rcases lj.pj _ _ e with ⟨c,e⟩ | e
      ·obtain ⟨f',_,_,_,k2,_⟩:=Kk c q e
       exact h2 f' k2
      ·omega
    ·rw [hm] at hy
     obtain ⟨h4,h5,h6⟩:=h3 y hy bA;have aI:=hk.mem q y hy;refine ⟨aje y aI h4 fun r=>h5 (hG.ar r),fun r=>?_,h6⟩;rcases ZR y r with r | r
     ·exact h5 r
     ·omega
   ·rw [q3] at hx
    obtain ⟨h1,h2,h3⟩:=hs.ar.p7 _ v x L N cs e own q k q2 hx dB;have rW:=lj.j9 q ⟨_,v,x,L,N,cs,e,own,k,q2,hx,dB⟩;refine ⟨h1,fun f e=>?_,fun y hy bA=>?_⟩
    ·by_cases hf:f < A.next
     ·rw [Env.wX hf] at e
      rcases rW with r | r
      ·obtain ⟨f0,u,x0,L0,N0,mG,e0,ajf,m,k1,k2,k3,k4⟩:=hG.AF r
       exact (hk.ar.p7 f0 u x0 L0 N0 mG e0 ajf q m k2 k3 k4).2.1 f e
      ·have:=hk.iU f q e; omega
     ·obtain ⟨j,rfl⟩:=Nat.exists_eq_add_of_le (Nat.le_of_not_lt hf)
      rw [Env.wW] at e;exact h2 _ e
    ·obtain ⟨h4,h5,h6⟩:=h3 y hy bA
     have wN:y∈B.members q->(∀ c,c ∉ iq g.fs->∀ v' L' N',A.get c=some (.arr v')->E.α c≠some (y,L',N'))/\∀ c,E.κ c≠some y:=by
      intro hm;rcases rW with r | r
      ·obtain ⟨f0,u,x0,L0,N0,mG,e0,ajf,m,k1,k2,k3,k4⟩:=hG.AF r
       by_cases hy0:y=x0
       ·subst hy0
        refine ⟨fun c hc v' L' N' p1 p2=>?_,(hk.ar.z y ⟨f0,u,L0,N0,k2,k3⟩).2⟩;have:=hk.ar.inj c f0 v' u y L' N' L0 N0 p1 k2 p2 k3;subst this;exact hc k1
       ·obtain ⟨_,p5,p6⟩:=(hk.ar.p7 f0 u x0 L0 N0 mG e0 ajf q m k2 k3 k4).2.2 y hm hy0
        exact ⟨fun c _ v' L' N' p1 p2=>p5 ⟨c,v',L',N',p1,p2⟩,p6⟩
      ·rw [hk.fresh q r] at hm; simp at hm
     refine ⟨h4,?_,fun c e=>?_⟩
     ·rintro ⟨c,v',L',N',r1,r2⟩
      rcases iP c v' r1 with ⟨p1,p2,p3,p4⟩ | ⟨j,rfl,p2,p3⟩
      ·rw [p4] at r2
       rcases lj.rI q y hy with hm | hm
       ·exact (wN hm).1 c p2 v' L' N' p3 r2
       ·have:=hk.ar.eD c y L' N' r2; omega
      ·rw [p3] at r2
       exact h5 ⟨_,v',L',N',p2,r2⟩
     ·have e:E.κ c=some y:=e
      rcases lj.rI q y hy with hm | hm
      ·exact (wN hm).2 c e
      ·have:=hk.eD c y e; omega
  ·intro b v hb
   rw [aB.back,eU,gd];rcases iP b v hb with ⟨q1,q2,q3,q4⟩ | ⟨i,rfl,q2,q3⟩
   ·obtain ⟨k1,k2⟩:=hk.ar.nk b v q3
    exact ⟨by omega,k2⟩
   ·refine ⟨?_,?_⟩
    ·have:=hs.live _ _ q2
     rw [aB.mem,eU,mw Ia] at this;omega
    ·show E.κ (A.next+i)=none
     cases hq:E.κ (A.next+i) with
     | none=>rfl
     | some x=>have:=hk.fZ _ x hq; omega
 refine ⟨?_,⟨⟨?_,?_,hs.z,?_,hk.inj,?_,?_,?_,?_,?_,hs.lT,?_,hs.fresh,hs.mem,?_⟩,lj.gG,hle,?_,?_,fun _ _ e=>.inl e,?_,?_,?_,?_,?_,lj.rI,?_,lj.rows⟩⟩
 ·have WN:=X3 (P:=P) (E1:=E1) (E2:=E.up E1 S.nr A.next) (i:=S.nr) (j:=A.next) rfl hrk hv (afK hG.ai6 (hG.vs ▸ hG.dh)) fun m _=>⟨fun q e=>by rw [Env.wW]; exact e,fun q e=>by rw [Env.Fg]; exact e⟩
  refine jD.ai9 ht (ot.append WN (ot.append (abZ fun p hp hip x e=>?_) (ab0 WN)));obtain ⟨b,_,h2⟩:=(Dl hG.O0 p hp).1 hip;have aI:p.2.1 < S.rows.length:=by rw [<- hG.Vk]; exact (cp.1 h2).1
  rw [eO,Cb S _ aI] at e;rw [eO,h2];have e:E1.κ p.2.1=some x:=e;rw [aja _ _ h2] at e;exact e
 ·intro b cs aQ hb
  rcases hinv b _ hb with ⟨Vl,_,_,e,h1⟩ | ⟨Vl,_,h1⟩ | ⟨_,e⟩ | ⟨i,q,_,hq,e⟩
  ·obtain ⟨k,pb⟩:=mr b Vl
   obtain ⟨p,r,x,b5,q1,q2,q3,q4,q5,q6,q7⟩:=Qn k b pb;rw [h1] at q6;simp only [gJ.row.injEq] at e;obtain ⟨rfl,rfl⟩:=e;simp only [aR,gJ.row.injEq] at q6;obtain ⟨rfl,rfl⟩:=q6;exact ⟨x,b5,q3,q4,q5⟩
  ·obtain ⟨x,c,q1,q2,q3⟩:=hk.row b cs aQ h1
   refine ⟨x,c,q1,?_,q3.mono hle⟩;rw [GH x (hk.eD b x q1) (fun k b' KI e=>?_) fun q=>hk.anv q1 (hG.at q)]
   ·exact q2
   ·have:=hk.inj _ _ _ q1 e
    subst this;exact Vl (eW KI)
  ·simp at e
  ·rcases afL i q hq with ⟨_,_,e2⟩ | ⟨_,e2⟩ <;> rw [<- e] at e2 <;> simp at e2
 ·intro b top sz hb
  rcases hinv b _ hb with ⟨_,_,_,e,_⟩ | ⟨Vl,HK,h1⟩ | ⟨_,e⟩ | ⟨i,q,rfl,h2,e⟩
  ·simp at e
  ·rcases hk.aF b top sz h1 with ⟨h2,h3⟩ | ⟨q,h2,h3,h4⟩
   ·exact .inl ⟨h2,by rw [Env.wX (hk.live b _ h1)]; exact h3⟩
   ·have hq:=hk.iU b q h2
    refine .inr ⟨q,by rw [Env.wX (hk.live b _ h1)]; exact h2,h3,fun x hx cs e own f k dB=>?_⟩;have hmq:B1.members q=B.members q:=lj.nw q hq (fun c e=>by
     obtain ⟨f',_,_,h5,h6,h7⟩:=Kk c q e;have:=hk.iB b f' q _ _ _ _ h1 h7 h2 h6;subst this;exact HK h5) fun k=>by
      obtain ⟨c,v,y,L,N,cs,e,own,m,h5,h6,h7⟩:=hG.af k;exact (hk.ar.p7 c v y L N cs e own q m h5 h6 h7).2.1 b h2
    rw [hmq] at hx;obtain ⟨mG,q1,q2⟩:=lj.rows x (hk.mem q x hx) _ _ _ _ dB;obtain ⟨q3,q4⟩:=h4 x hx mG e own f k q1;exact ⟨q3,by rw [<- q2]; exact q4⟩
  ·simp at e
  ·subst e
   have:=hs.aF _ _ _ (O8 Ia h2);rw [Env.wW];exact this
 ·intro b x hb
  have hx:=hk.eD b x hb;show E1.z x=none;cases hz:E1.z x with
  | none=>rfl
  | some r=>
   rcases lj.qN x r hz with e | e | e
   ·have e:E.z x=some r:=e
    rw [hk.apart b x hb] at e; simp at e
   ·exact absurd hb ((hk.ar.z x (hG.ar e)).2 b)
   ·omega
 ·intro b c q tb sb tc sc hb hc e1 e2
  have key:∀ {b tb sb},(S.back P g.bs g.fs vs rs A).get b=some (.aF tb sb)->(b < A.next/\b ∉ iq g.fs/\A.get b=some (.aF tb sb))\/∃ i,b=A.next+i/\(S.mem P vs rs).get (S.nr+i)=some (.aF tb sb):=by
   intro b tb sb hb;rcases hinv b _ hb with ⟨_,_,_,e,_⟩ | ⟨_,HK,h1⟩ | ⟨_,e⟩ | ⟨i,q,rfl,h2,e⟩
   ·simp at e
   ·exact .inl ⟨hk.live b _ h1,HK,h1⟩
   ·simp at e
   ·subst e
    exact .inr ⟨i,rfl,O8 Ia h2⟩
  have BX:∀ {b c tb sb i},b < A.next->b ∉ iq g.fs->A.get b=some (.aF tb sb)->c=A.next+i->E.φ b=some q->E1.φ (S.nr+i)=some q->False:=by
   intro b c tb sb i _ h2 h3 _ h5 h6;rcases lj.pj _ _ h6 with ⟨c',e⟩ | e
   ·obtain ⟨f',_,_,k1,k2,k3⟩:=Kk c' q e
    have:=hk.iB b f' q _ _ _ _ h3 k3 h5 k2;subst this;exact h2 k1
   ·have:=hk.iU b q h5; omega
  rcases key hb with ⟨h1,h2,h3⟩ | ⟨i,rfl,h2⟩ <;> rcases key hc with ⟨k1,k2,k3⟩ | ⟨j,rfl,k2⟩
  ·rw [Env.wX h1] at e1; rw [Env.wX k1] at e2
   exact hk.iB b c q _ _ _ _ h3 k3 e1 e2
  ·rw [Env.wX h1] at e1; rw [Env.wW] at e2
   exact (BX h1 h2 h3 rfl e1 e2).elim
  ·rw [Env.wW] at e1; rw [Env.wX k1] at e2
   exact (BX k1 k2 k3 rfl e2 e1).elim
  ·rw [Env.wW] at e1 e2
   have:=hs.iB _ _ q _ _ _ _ h2 k2 e1 e2;omega
 ·intro b x hb; have h1:=hk.fZ b x hb; rw [aB.back,eU,gd]; omega
 ·intro b q hb
  rw [aB.back,eU,gd];by_cases h1:b < A.next
  ·omega
  ·obtain ⟨i,rfl⟩:=Nat.exists_eq_add_of_le (Nat.le_of_not_lt h1)
   rw [Env.wW] at hb;have:=hs.lk _ _ hb;rw [aB.mem,eU,mw Ia] at this;omega
 ·intro b o hb
  rw [aB.back,eU,gd];rcases hinv b _ hb with ⟨Vl,_⟩ | ⟨_,_,h1⟩ | ⟨h1,_⟩ | ⟨i,q,rfl,h2,_⟩
  ·obtain ⟨k,pb⟩:=mr b Vl
   obtain ⟨p,r,x,b5,_,_,h3,_⟩:=Qn k b pb;have:=hk.fZ b x h3; omega
  ·have:=hk.live b _ h1; omega
  ·obtain ⟨_,_,⟨_,_,h3⟩ | ⟨_,h3⟩⟩:=SV b h1
   ·have:=hk.live b _ h3; omega
   ·have:=hk.live b _ h3; omega
  ·have:=(cp.1 h2).1; omega
 ·intro b x hb; have:=hk.eD b x hb; have:=lj.gG.next; omega
 ·intro b q hb
  by_cases h1:b < A.next
  ·rw [Env.wX h1] at hb
   have:=hk.iU b q hb; have:=lj.gG.next; omega
  ·obtain ⟨i,rfl⟩:=Nat.exists_eq_add_of_le (Nat.le_of_not_lt h1)
   rw [Env.wW] at hb;exact hs.iU _ _ hb
 ·exact po
 ·rw [aB.back,eU,gd]; omega
 ·intro x hx bA zQ
  exact GH x hx (fun k b _ e=>bA b e) fun q=>zQ (hG.at q)
 ·intro b r e
  exact (lj.qN b r e).imp id (fun e=>e.imp hG.ar id)
 ·intro b q hb
  by_cases h1:b < A.next
  ·rw [Env.wX h1] at hb; exact .inl ⟨b,hb⟩
  ·obtain ⟨i,rfl⟩:=Nat.exists_eq_add_of_le (Nat.le_of_not_lt h1)
   rw [Env.wW] at hb;rcases lj.pj _ _ hb with ⟨c,e⟩ | e
   ·obtain ⟨f',_,_,_,k2,_⟩:=Kk c q e
    exact .inl ⟨f',k2⟩
   ·exact .inr e
 ·intro q hq bA zQ
  refine lj.nw q hq (fun c e=>?_) fun k=>zQ (hG.af k);obtain ⟨f',_,_,_,k2,_⟩:=Kk c q e;exact bA f' k2
 ·exact ZR
 ·exact afM
 ·rintro y (q | ⟨q,h1,h2⟩)
  ·exact (ZR y q).imp .inl id
  ·rcases lj.rI q y h2 with h2 | h2
   ·rcases afM q h1 with h1 | h1
    ·exact .inl (.inr ⟨q,h1,h2⟩)
    ·rw [hk.fresh q h1] at h2; simp at h2
   ·exact .inr h2
theorem restore {S:aB} {t:bI} {A:ai} {B B1:St} {g:GR} {ρ fH:Ren} {base N:Nat} {w w1:World} {a1:Act} {vs:List KV} {rs:List (List KV)} {E1:Env} (hG:cQ P S t A g) (hk:du P E A B)
  (ht:jD P E1 fH (S.tm S.nr S.ids vs) N a1) (hs:du P E1 (S.mem P vs rs) B1) (lj:Co base (E.sub A g.bs g.fs S.nr) (S.mem P g.vs g.rs) B ρ w E1 (S.mem P vs rs) B1 fH w1) (Mz:∀ k,k < S.rows.length->E1.κ k=(E.sub A g.bs g.fs S.nr).κ k)
  (hv:dY S.dh vs=true) (Ia:rs.length=S.rows.length) (hrg:∀ (k:Nat) p r,S.rows[k]? = some p->rs[k]? = some r->cH p.2.1 r=true) :
  ∃ E',jD P E' fH (S.tm A.next g.bs vs) N a1/\Ev P base E A B ρ w E' (S.back P g.bs g.fs vs rs A) B1 fH w1:=⟨_,X4 hG hk ht hs lj Mz hv Ia hrg⟩
end Go.K
end
section
namespace Go.K
open Go Go.aA
variable {P:Program} {E:Env}
structure rL (P:Program) (S:aB) (vs:List KV) (rs:List (List KV)):Prop where
 v:dY S.dh vs=true
 nz:rs.length=S.rows.length
 pe:∀ (k:Nat) p r,S.rows[k]? = some p->rs[k]? = some r->cH p.2.1 r=true
 vn:∃ t A,vs=ln P t A S.dh
 rn:∀ (k:Nat) p,S.rows[k]? = some p->∃ A mG,rs[k]? = some (dX P A p.2.1 mG)/\mG.length=p.2.1.length
theorem cQ.Cg {S:aB} {t:bI} {A:ai} {g:GR} (h:cQ P S t A g):rL P S g.vs g.rs:=
 ⟨h.dh,h.nz,h.pe,⟨t,A,h.vs⟩,fun _ _ hp=>by obtain ⟨_,cs,_,_,h1,_,h2,_⟩:=h.row hp; exact ⟨A,cs,h2,h1⟩⟩
section
variable {cfg:gf} {L n:Nat} {f:FuncId} {S:aB} {root body:Code} {p N:Nat}
theorem adW (hP:P.funcs.toList.all gq=true) (hm:P.follows .mixedOrders=true) (e8:oW P cfg.pc) (gH:pt P cfg) {fn:Func} (hf:P.funcs[f]? = some fn) (hb:fn.body=some root) (hs:Sub root p (.loop body)) (hc:codeOk N body=true)
  {vs bw:List KV} {rs gI:List (List KV)} {e:aa} (hr:wU P cfg L n f p body S vs rs=some (e,bw,gI)) {B:St} {ρ:Ren} {base:Nat} {a:Act} {w:World} {Q:Exit->Act->World->Prop} (bL:rL P S vs rs)
  (ht:jD P E ρ (S.tm S.nr S.ids vs) N a) (hj:KJ P E (S.mem P vs rs) B ρ base w)
  (hq:∀ E' B' ak a' w',jD P E' ak (S.tm S.nr S.ids bw) N a'->a'.defers=a.defers->KJ P E' (S.mem P bw gI) B' ak base w'->Co base E (S.mem P vs rs) B ρ w E' (S.mem P bw gI) B' ak w'->(∀ k,k < S.rows.length->E'.κ k=E.κ k)->rL P S bw gI->Q e.out a' w'):body.wp P Q a w:=by
 have vf:=oO (R:=aa×List KV×List (List KV)) hP hm e8 gH L n;refine gu e8 vf hm (gH.2 f fn root hf hb) body (2 * p) hs.loop hc _ _ _ _ E B ρ base a w Q hr ht hj fun e' t' E1 A1 B1 fH a1 w1 h1 h2 h3 h4=>?_;cases hi:px (S.cP P t' A1).bs S.ids with
 | false=>
  simp only [hi,ay] at h1;exact absurd h1 (by simp)
 | true=>
  simp only [hi,ah] at h1;cases ho:(S.cP P t' A1).ok with
  | false=>simp only [ho] at h1; exact absurd h1 (by simp)
  | true=>
   simp only [ho,aR,bG] at h1;obtain ⟨rfl,rfl,rfl⟩:=h1;have hG:=zt ho;have ab1:=Dj hi;refine hq _ B1 fH a1 w1 (hG.tkr h2) h3 ⟨hG.dI h4.dI,h4.gG.dI⟩ (h4.co hG) (fun k hk=>?_) hG.Cg;have hp:=cl hk;have vZ:=cl (show k < rs.length by rw [bL.nz]; exact hk);obtain ⟨x,_,hx,_⟩:=hj.k.row k _ _ (mem_row bL.nz hp vZ);have e1:(E1.sub A1 (S.cP P t' A1).bs (S.cP P t' A1).fs S.nr).κ k=E1.κ k:=by
    simp only [Env.sub];rw [ab1,Cb S k hk,cA]
   rw [e1,hx];exact h4.le.κ k x hx
theorem X5 (hP:P.funcs.toList.all gq=true) (hm:P.follows .mixedOrders=true) (e8:oW P cfg.pc) (gH:pt P cfg) {fn:Func} (hf:P.funcs[f]? = some fn) (hb:fn.body=some root) (hs:Sub root p (.loop body)) (hc:codeOk N body=true)
  {e:aa} {bw:List KV} {gI:List (List KV)} : ∀ (m:Nat) {vs:List KV} {rs:List (List KV)},py (wU P cfg L n f p body S) m vs rs=some (e,bw,gI)->∀ {E:Env} {B:St} {ρ:Ren} {base:Nat} {a:Act} {w:World} {Q:Exit->Act->World->Prop},rL P S vs rs->
  jD P E ρ (S.tm S.nr S.ids vs) N a->KJ P E (S.mem P vs rs) B ρ base w->
  (∀ E' B' ak a' w',jD P E' ak (S.tm S.nr S.ids bw) N a'->a'.defers=a.defers->KJ P E' (S.mem P bw gI) B' ak base w'->Co base E (S.mem P vs rs) B ρ w E' (S.mem P bw gI) B' ak w'->(∀ k,k < S.rows.length->E'.κ k=E.κ k)->rL P S bw gI->Q e.out a' w')->Code.rounds P body Q m a w
 | 0,vs,rs,h,E,B,ρ,base,a,w,Q,bL,ht,hj,hq=>by simp [py] at h
 | m+1,vs,rs,h,E,B,ρ,base,a,w,Q,bL,ht,hj,hq=>by
  unfold py at h;split at h
  ·rename_i e1 ZS rs1 hr
   rw [rounds_succ];refine adW hP hm e8 gH hf hb hs hc hr bL ht hj fun E' B' ak a' w' h1 h2 h3 h4 h5 h6=>?_;have fin:ko e1=false->some (e1,ZS,rs1)=some (e,bw,gI)->Q e1.out a' w':=by
    intro _ h;simp only [aR,bG] at h;obtain ⟨rfl,rfl,rfl⟩:=h;exact hq E' B' ak a' w' h1 h2 h3 h4 h5 h6
   cases e1 with
   | normal=>
    have h:py (wU P cfg L n f p body S) m ZS rs1=some (e,bw,gI):=h;exact X5 hP hm e8 gH hf hb hs hc m h h6 h1 h3 fun IZ I0 mF BM xZ q1 q2 q3 q4 q5 q6=>hq IZ I0 mF BM xZ q1 (q2.trans h2) q3 (h4.trans q4) (fun k hk=>(q5 k hk).trans (h5 k hk)) q6
   | exit id=>exact fin rfl h
   | goto l=>exact fin rfl h
   | ret=>exact fin rfl h
  ·simp at h
theorem Kl {R:Type} {bs:List Nat} {fs:List (Option Nat)} {A:ai} {k:KE R} {r:R} : ∀ (x:qu),(x.tell P S bs fs A).run k=some r->∃ e bw gI,x.ev=some (e,bw,gI)/\k e (S.tm A.next bs bw) (S.back P bs fs bw gI A)=some r
 | .no,h=>absurd h (by simp [qu.tell,p0.run])
 | .out e vs rs,h=>⟨e,vs,rs,rfl,h⟩
 | .br c x y,h=>by
  have h:Bool.rec (motive:=fun _=>Option R) ((y.tell P S bs fs A).run k) ((x.tell P S bs fs A).run k) c=some r:=h;cases c with
  | true=>exact Kl x h
  | false=>exact Kl y h
theorem adX (hP:P.funcs.toList.all gq=true) (hm:P.follows .mixedOrders=true) (e8:oW P cfg.pc) (gH:pt P cfg) {fn:Func} (hf:P.funcs[f]? = some fn) (hb:fn.body=some root) (hs:Sub root p (.loop body)) (hc:codeOk N body=true) {F:ZO}
  (hF:∀ vs rs e bw gI,rL P S vs rs->(F vs rs).ev=some (e,bw,gI)->py (wU P cfg L n f p body S) hX vs rs=some (e,bw,gI)):Ke P N body (O2 P S F):=by
 intro R k r t A E B ρ base a w Q h ht hj hq;cases hpe:S.ai3 t A with
 | true=>
  unfold Mu O2 at h;rw [hpe] at h;exact absurd h (by simp [p0.run])
 | false=>
 have h:Mu (O2 P S F) k t A=some r:=h;unfold Mu O2 at h;rw [hpe,ay] at h;have h:Bool.rec (motive:=fun _=>Option R) none (((F (S.cP P t A).vs (S.cP P t A).rs).tell P S (S.cP P t A).bs (S.cP P t A).fs A).run k) (S.cP P t A).ok=some r:=h;cases ho:(S.cP P t A).ok with
 | false=>rw [ho] at h; exact absurd h (by simp)
 | true=>
  rw [ho] at h;have hG:=zt ho;obtain ⟨e,bw,gI,h9,qh⟩:=Kl _ h;have AI:=hF _ _ e bw gI hG.Cg h9;refine X5 hP hm e8 gH hf hb hs hc hX AI hG.Cg (hG.tkr ht) ⟨hG.dI hj.k,hj.s⟩ fun E' B' ak a' w' q1 q2 q3 q4 q5 q6=>?_;obtain ⟨E2,r1,r2⟩:=restore hG hj.k q1 q3.k q4 q5 q6.v q6.nz q6.pe;exact hq e _ E2 _ B' ak a' w' qh r1 q2 r2
end
end Go.K
end
