/-
  The machine K's code, calls and pure functions are the model's.
-/
import Derived.Test.YtjmpheohljeapaaKDraw
namespace Go.K
open Go Go.Abs
variable {P : Program} {E : Env}

/-- a piece of code, by its place in the function -/
inductive Sub (root : Code) : Nat → Code → Prop where
  | root : Sub root 1 root
  | seqL {p : Nat} {a b : Code} : Sub root p (.seq a b) → Sub root (2 * p) a
  | seqR {p : Nat} {a b : Code} : Sub root p (.seq a b) → Sub root (2 * p + 1) b
  | condL {p : Nat} {c : Operand} {a b : Code} : Sub root p (.cond c a b) → Sub root (2 * p) a
  | condR {p : Nat} {c : Operand} {a b : Code} : Sub root p (.cond c a b) → Sub root (2 * p + 1) b
  | block {p id : Nat} {a : Code} : Sub root p (.block id a) → Sub root (2 * p) a
  | loop {p : Nat} {a : Code} : Sub root p (.loop a) → Sub root (2 * p) a
  | scope {p : Nat} {a : Code} : Sub root p (.scope a) → Sub root (2 * p) a
def CodeOkK (P : Program) (N : Nat) {R : Type} (c : Code) (f : KE R → KTm → KSt → Option R) : Prop :=
  ∀ (k : KE R) (r : R) (t : KTm) (A : KSt) (E : Env) (B : St) (ρ : Ren) (base : Nat) (a : Act) (w : World) (Q : Exit → Act → World → Prop), f k t A = some r → TKR P E ρ t N a → KJ P E A B ρ base w →
    (∀ e t' E' A' B' ρ' a' w', k e t' A' = some r → TKR P E' ρ' t' N a' → a'.defers = a.defers → Ev P base E A B ρ w E' A' B' ρ' w' → Q e.out a' w') → c.wp P Q a w
/-- a loop that is told whole -/
def LoopTold (P : Program) (N : Nat) (body : Code) (F : KTm → KSt → Tell) : Prop := ∀ (R : Type), CodeOkK P N (R := R) (.loop body) (fun k t A => toldK F k t A)
def LpOk (P : Program) (cfg : Cfg) (f : FuncId) (root : Code) : Prop := ∀ p F body, cfg.lp f p = some F → Sub root p (.loop body) → ∀ N, codeOk N body = true → LoopTold P N body F

section
variable {R : Type} {cfg : Cfg} {icall : ICall R} {L : Nat} {f : FuncId}
theorem loop_soundK {N : Nat} {c : Code} {g : KE R → KTm → KSt → Option R} (hg : CodeOkK P N c g) : ∀ (n : Nat) (k : KE R) (r : R) (t : KTm) (A : KSt) (E : Env) (B : St) (ρ : Ren) (base : Nat) (a : Act) (w : World) (Q : Exit → Act → World → Prop), loopK g k n t A = some r → TKR P E ρ t N a → KJ P E A B ρ base w →
    (∀ e t' E' A' B' ρ' a' w', k e t' A' = some r → TKR P E' ρ' t' N a' → a'.defers = a.defers → Ev P base E A B ρ w E' A' B' ρ' w' → Q e.out a' w') → Code.rounds P c Q n a w
  | 0, k, r, t, A, E, B, ρ, base, a, w, Q, h, ht, hj, hq => by exact absurd h (by simp [loopK])
  | n + 1, k, r, t, A, E, B, ρ, base, a, w, Q, h, ht, hj, hq => by
    rw [rounds_succ]
    have h : g (thenK k (loopK g k n)) t A = some r := h
    refine hg _ r t A E B ρ base a w _ h ht hj fun e t' E' A' B' ρ' a' w' h1 h2 h3 h4 => ?_
    cases e with
    | normal =>
      have h1 : loopK g k n t' A' = some r := h1
      exact loop_soundK hg n k r t' A' E' B' ρ' base a' w' Q h1 h2 h4.kj fun e t'' E'' A'' B'' ρ'' a'' w'' q1 q2 q3 q4 => hq e t'' E'' A'' B'' ρ'' a'' w'' q1 q2 (q3.trans h3) (h4.trans q4)
    | exit id => exact hq (.exit id) t' E' A' B' ρ' a' w' h1 h2 h3 h4
    | goto l => exact hq (.goto l) t' E' A' B' ρ' a' w' h1 h2 h3 h4
    | ret => exact hq .ret t' E' A' B' ρ' a' w' h1 h2 h3 h4
theorem code_soundK (hpc : PcOk P cfg.pc) (hic : ICallOk P icall) (hm : P.follows .mixedOrders = true) {root : Code} (hlp : LpOk P cfg f root) {N : Nat} : ∀ (c : Code) (p : Nat), Sub root p c → codeOk N c = true → CodeOkK P N c (codeK P cfg icall L f c p)
  | .skip, p, _, _ => by
    intro k r t A E B ρ base a w Q h ht hj hq
    exact wp_skip (hq .normal t E A B ρ a w h ht rfl (.refl hj.k hj.s))
  | .ret, p, _, _ => by
    intro k r t A E B ρ base a w Q h ht hj hq
    exact wp_ret (hq .ret t E A B ρ a w h ht rfl (.refl hj.k hj.s))
  | .exit id, p, _, _ => by
    intro k r t A E B ρ base a w Q h ht hj hq
    exact wp_exit (hq (.exit id) t E A B ρ a w h ht rfl (.refl hj.k hj.s))
  | .label l, p, _, _ => by
    intro k r t A E B ρ base a w Q h ht hj hq
    exact wp_label (hq .normal t E A B ρ a w h ht rfl (.refl hj.k hj.s))
  | .goto l, p, _, _ => by
    intro k r t A E B ρ base a w Q h ht hj hq
    exact wp_goto (hq (.goto l) t E A B ρ a w h ht rfl (.refl hj.k hj.s))
  | .region id ops false, p, _, hc => by
    intro k r t A E B ρ base a w Q h ht hj hq
    have h : opsK P cfg icall ops.toList (fun t A => k .normal t A) ops.toList t A = some r := h
    refine wp_region ?_
    have := ops_soundK (Q := Q) (base := base) hpc hic (N := N) (all := ops.toList) hc ops.toList 0 t E A B ρ a w (by simp) h ht hj fun t' E' A' B' ρ' a' w' h1 h2 h3 h4 => hq .normal t' E' A' B' ρ' a' w' h1 h2 h3 h4
    rw [List.range_eq_range']
    simpa using this
  | .region id ops true, p, _, hc => by
    intro k r t A E B ρ base a w Q h ht hj hq
    have h : regionK P cfg icall ops.toList true (fun t A => k .normal t A) t A = some r := h
    unfold regionK at h
    cases ho : ordK P cfg ops.toList with
    | false => rw [ho] at h; exact absurd h (by simp)
    | true =>
      rw [ho] at h
      have h : opsK P cfg icall ops.toList (fun t A => k .normal t A) ops.toList t A = some r := h
      exact drawn_soundK (all := ops.toList) hpc hm hc ho h ht hj fun t' E' A' B' ρ' a' w' h1 h2 h3 h4 => hq .normal t' E' A' B' ρ' a' w' h1 h2 h3 h4
  | .seq x y, p, hs, hc => by
    simp only [codeOk, Bool.and_eq_true] at hc
    intro k r t A E B ρ base a w Q h ht hj hq
    have h : codeK P cfg icall L f x (2 * p) (thenK k fun t A => codeK P cfg icall L f y (2 * p + 1) k t A) t A = some r := h
    refine wp_seq ?_
    refine code_soundK hpc hic hm hlp x (2 * p) hs.seqL hc.1 _ r t A E B ρ base a w _ h ht hj fun e t' E' A' B' ρ' a' w' h1 h2 h3 h4 => ?_
    cases e with
    | normal =>
      have h1 : codeK P cfg icall L f y (2 * p + 1) k t' A' = some r := h1
      exact code_soundK hpc hic hm hlp y (2 * p + 1) hs.seqR hc.2 k r t' A' E' B' ρ' base a' w' Q h1 h2 h4.kj fun e t'' E'' A'' B'' ρ'' a'' w'' q1 q2 q3 q4 => hq e t'' E'' A'' B'' ρ'' a'' w'' q1 q2 (q3.trans h3) (h4.trans q4)
    | exit id => exact hq (.exit id) t' E' A' B' ρ' a' w' h1 h2 h3 h4
    | goto l => exact hq (.goto l) t' E' A' B' ρ' a' w' h1 h2 h3 h4
    | ret => exact hq .ret t' E' A' B' ρ' a' w' h1 h2 h3 h4
  | .cond c x y, p, hs, hc => by
    simp only [codeOk, Bool.and_eq_true] at hc
    intro k r t A E B ρ base a w Q h ht hj hq
    have h : condK t c (fun t => codeK P cfg icall L f x (2 * p) k t A) (fun t => codeK P cfg icall L f y (2 * p + 1) k t A) = some r := h
    have key : ∃ t', (∀ i, t'.get i = t.get i) ∧ ((a.eval c = .bool true ∧ codeK P cfg icall L f x (2 * p) k t' A = some r) ∨ (a.eval c = .bool false ∧ codeK P cfg icall L f y (2 * p + 1) k t' A = some r)) := by
      have hev := ht.ev c
      cases c with
      | tmp d =>
        have h : BK.rec (motive := fun _ => Option R) (fun b => Bool.rec (motive := fun _ => Option R) (codeK P cfg icall L f y (2 * p + 1) k (t.set (.bool false) d) A) (codeK P cfg icall L f x (2 * p) k (t.set (.bool true) d) A) b) none none (boolK ((t.get d).getD .unk)) = some r := h
        cases hb : boolK ((t.get d).getD .unk) with
        | no => rw [hb] at h; exact absurd h (by simp)
        | tup => rw [hb] at h; exact absurd h (by simp)
        | bool b =>
          rw [hb] at h
          have hbv := boolK_bool hb
          have hev : VC P E ρ ((t.get d).getD .unk) (a.eval (.tmp d)) := hev
          rw [hbv] at hev
          have := hev.bool_inv
          refine ⟨t.set (.bool b) d, refine_same hb, ?_⟩
          cases b
          · exact .inr ⟨this, h⟩
          · exact .inl ⟨this, h⟩
      | const v =>
        have h : BK.rec (motive := fun _ => Option R) (fun b => Bool.rec (motive := fun _ => Option R) (codeK P cfg icall L f y (2 * p + 1) k t A) (codeK P cfg icall L f x (2 * p) k t A) b) none none (boolK (evK t (.const v))) = some r := h
        cases hb : boolK (evK t (.const v)) with
        | no => rw [hb] at h; exact absurd h (by simp)
        | tup => rw [hb] at h; exact absurd h (by simp)
        | bool b =>
          rw [hb] at h
          rw [boolK_bool hb] at hev
          have := hev.bool_inv
          refine ⟨t, fun _ => rfl, ?_⟩
          cases b
          · exact .inr ⟨this, h⟩
          · exact .inl ⟨this, h⟩
      | global g => exact absurd h (by simp [condK, evK, boolK])
      | func g => exact absurd h (by simp [condK, evK, boolK])
    obtain ⟨t', hsame, h⟩ := key
    have ht' := ht.same hsame
    rcases h with ⟨hb, h⟩ | ⟨hb, h⟩
    · exact wp_cond_true hb (code_soundK hpc hic hm hlp x (2 * p) hs.condL hc.1 k r t' A E B ρ base a w Q h ht' hj hq)
    · exact wp_cond_false hb (code_soundK hpc hic hm hlp y (2 * p + 1) hs.condR hc.2 k r t' A E B ρ base a w Q h ht' hj hq)
  | .block id x, p, hs, hc => by
    have hc : codeOk N x = true := hc
    intro k r t A E B ρ base a w Q h ht hj hq
    have h : codeK P cfg icall L f x (2 * p) (blockK id k) t A = some r := h
    refine wp_block ?_
    refine code_soundK hpc hic hm hlp x (2 * p) hs.block hc _ r t A E B ρ base a w _ h ht hj fun e t' E' A' B' ρ' a' w' h1 h2 h3 h4 => ?_
    cases e with
    | normal => exact hq .normal t' E' A' B' ρ' a' w' h1 h2 h3 h4
    | exit id' =>
      have h1 : Bool.rec (motive := fun _ => Option R) (k (.exit id') t' A') (k .normal t' A') (Nat.beq id' id) = some r := h1
      cases hb : Nat.beq id' id with
      | true =>
        rw [hb] at h1
        have := Nat.eq_of_beq_eq_true hb
        simp only [AExit.out, Exit.inBlock, if_pos this]
        exact hq .normal t' E' A' B' ρ' a' w' h1 h2 h3 h4
      | false =>
        rw [hb] at h1
        have := Nat.ne_of_beq_eq_false hb
        simp only [AExit.out, Exit.inBlock, if_neg this]
        exact hq (.exit id') t' E' A' B' ρ' a' w' h1 h2 h3 h4
    | goto l => exact hq (.goto l) t' E' A' B' ρ' a' w' h1 h2 h3 h4
    | ret => exact hq .ret t' E' A' B' ρ' a' w' h1 h2 h3 h4
  | .loop x, p, hs, hc => by
    have hc : codeOk N x = true := hc
    intro k r t A E B ρ base a w Q h ht hj hq
    have h : Option.rec (motive := fun _ => KTm → KSt → Option R) (loopK (codeK P cfg icall L f x (2 * p)) k L) (fun F => toldK F k) (cfg.lp f p) t A = some r := h
    cases hF : cfg.lp f p with
    | some F =>
      rw [hF] at h
      exact hlp p F x hF hs N hc R k r t A E B ρ base a w Q h ht hj hq
    | none =>
      rw [hF] at h
      exact wp_loop_rounds L (loop_soundK (code_soundK hpc hic hm hlp x (2 * p) hs.loop hc) L k r t A E B ρ base a w Q h ht hj hq)
  | .scope x, p, hs, hc => by
    have hc : codeOk N x = true := hc
    intro k r t A E B ρ base a w Q h ht hj hq
    have h : codeK P cfg icall L f x (2 * p) (noGotoK k) t A = some r := h
    refine wp_scope_n 0 ?_
    refine code_soundK hpc hic hm hlp x (2 * p) hs.scope hc _ r t A E B ρ base a w _ h ht hj fun e t' E' A' B' ρ' a' w' h1 h2 h3 h4 => ?_
    cases e with
    | normal => exact hq .normal t' E' A' B' ρ' a' w' h1 h2 h3 h4
    | exit id => exact hq (.exit id) t' E' A' B' ρ' a' w' h1 h2 h3 h4
    | goto l => exact absurd h1 (by simp [noGotoK])
    | ret => exact hq .ret t' E' A' B' ρ' a' w' h1 h2 h3 h4
  | .rangeFunc .., p, _, _ | .refuse _, p, _, _ => by
    intro k r t A E B ρ base a w Q h ht hj hq
    exact absurd h (by simp [codeK])
end

/-! ## Bodies -/
theorem argsK_get : ∀ (l : List KV) (i k : Nat) (t : KTm), (argsK l i t).get k = if i ≤ k ∧ k < i + l.length then l[k - i]? else t.get k
  | [], i, k, t => by
    rw [argsK, if_neg]
    simp
  | v :: l, i, k, t => by
    rw [argsK, argsK_get l (i + 1) k, Trie.get_set]
    by_cases h1 : k = i
    · subst h1
      rw [if_neg (by omega), if_pos rfl, if_pos (by simp)]
      simp
    · by_cases h2 : i + 1 ≤ k ∧ k < i + 1 + l.length
      · rw [if_pos h2, if_pos (by simp; omega), show k - i = (k - (i + 1)) + 1 by omega]
        simp
      · rw [if_neg h2, if_neg h1, if_neg (by simp; omega)]
theorem results_soundK {A : KSt} {B : St} {base N : Nat} {w : World} {ρ : Ren} {t : KTm} {a : Act} (hj : KJ P E A B ρ base w) (ht : TKR P E ρ t N a) : ∀ (rs : List ResultVar) (vs : List KV), resK P A t rs = some vs →
    ∃ vs', VCL P E ρ vs vs' ∧ (rs.mapM (resOne a)).run P w = Result.ok vs' w
  | [], vs, h => by simp [resK] at h; subst h; exact ⟨[], ⟨[], .nil, .nil⟩, by simp⟩
  | .tmp x :: rs, vs, h => by
    simp only [resK] at h
    obtain ⟨us, hu, rfl⟩ := Option.map_eq_some_iff.1 h
    obtain ⟨us', ⟨m, h1, h3⟩, h2⟩ := results_soundK hj ht rs us hu
    obtain ⟨u, h4, h5⟩ := ht.ev (.tmp x)
    refine ⟨_ :: us', ⟨u :: m, .cons h4 h1, .cons h5 h3⟩, ?_⟩
    simp [List.mapM_cons, h2, Act.eval, resOne]
  | .cell x ty :: rs, vs, h => by
    simp only [resK] at h
    split at h
    · rename_i v hv
      obtain ⟨us, hu, rfl⟩ := Option.map_eq_some_iff.1 h
      obtain ⟨us', ⟨m, h1, h3⟩, h2⟩ := results_soundK hj ht rs us hu
      obtain ⟨u, h4, h5⟩ := ht.ev (.tmp x)
      have hg : Gives (kLoad P ty A [evK t (.tmp x)]) v := by rw [hv]; exact rfl
      obtain ⟨z, h6, h7⟩ := simLoad E A B _ _ v hj.k (.cons h4 .nil) hg
      have h6 : loadAt P ty B u = some z := h6
      obtain ⟨ad, h8, z', h9, h10⟩ := loadAt_sound (P := P) hj.s.rel h5 h6
      refine ⟨z' :: us', ⟨z :: m, .cons h7 h1, .cons h9 h3⟩, ?_⟩
      have h8 : a.tmps.getD x undef = .pointer (some ad) := h8
      simp only [List.mapM_cons, Sem.run_bind, resOne, h8, asAddr, Sem.run_pure, Result.andThen_ok, h10, h2]
    · simp at h
theorem pack_sound {ρ : Ren} {vs : List KV} {vs' : List Value} (h : VCL P E ρ vs vs') : VC P E ρ (packK vs) (if h : vs'.toArray.size = 1 then vs'.toArray[0] else .tuple vs'.toArray) := by
  obtain ⟨m, h1, h2⟩ := h
  match vs with
  | [] =>
    rw [h1.nil_inv] at h2
    rw [h2.nil_inv]
    exact ⟨_, .mkTup .nil, VR.mkTuple .nil⟩
  | [v] =>
    obtain ⟨u, rfl, h3⟩ := h1.one_inv
    obtain ⟨y, ys, rfl, h4, h5⟩ := h2.cons_inv
    rw [h5.nil_inv]
    exact ⟨u, h3, h4⟩
  | v :: v2 :: vs =>
    obtain ⟨u, us, rfl, h3, h4⟩ := h1.cons_inv
    obtain ⟨u2, us2, rfl, h5, h6⟩ := h4.cons_inv
    obtain ⟨y, ys, rfl, h7, h8⟩ := h2.cons_inv
    obtain ⟨y2, ys2, rfl, h9, h10⟩ := h8.cons_inv
    rw [dif_neg (by simp)]
    exact ⟨_, .mkTup (.cons h3 (.cons h5 h6)), VR.mkTuple (.cons h7 (.cons h9 h10))⟩
def packV (vs : List Value) : Value := if h : vs.toArray.size = 1 then vs.toArray[0] else .tuple vs.toArray
theorem body_soundK {R : Type} {cfg : Cfg} {icall : ICall R} (hpc : PcOk P cfg.pc) (hic : ICallOk P icall) (hm : P.follows .mixedOrders = true) (L : Nat) {f : FuncId} {fn : Func} {c : Code} (hf : P.funcs[f]? = some fn) (hb : fn.body = some c) (hok : codeOk fn.ntmps c = true) (hlp : LpOk P cfg f c)
    {args : List KV} {A : KSt} {k : List KV → KSt → Option R} {r : R} (h : codeK P cfg icall L f c 1 (endK P fn k) (argsK args 0 .leaf) A = some r) {E : Env} {B : St} {ρ : Ren} {args' : List Value} {base : Nat} {w : World} (hv : VCL P E ρ args args') (hj : KJ P E A B ρ base w) :
    Calls P f args'.toArray w fun e w' => ∃ vs vs' E' A' B' ρ', e = .returned (packV vs') ∧ VCL P E' ρ' vs vs' ∧ Ev P base E A B ρ w E' A' B' ρ' w' ∧ k vs A' = some r := by
  refine calls_of_wp hf hb ?_
  obtain ⟨margs, hv1, hv2⟩ := hv
  have hlen : args'.length = args.length := by rw [hv2.length, hv1.length]
  have ht : TKR P E ρ (argsK args 0 .leaf) (max fn.ntmps args.length) { tmps := args'.toArray ++ Array.replicate (fn.ntmps - args'.toArray.size) undef, defers := [] } := by
    have hsz : (args'.toArray ++ Array.replicate (fn.ntmps - args'.toArray.size) undef).size = max fn.ntmps args.length := by
      simp [hlen]
      omega
    refine ⟨hsz, fun i => ?_, fun i hi => ?_⟩
    · rw [argsK_get]
      simp only [Nat.zero_le, true_and, Nat.zero_add, Nat.sub_zero, Trie.get_leaf]
      by_cases hi : i < args.length
      · rw [if_pos hi]
        obtain ⟨u, hu⟩ : ∃ u, args[i]? = some u := ⟨_, List.getElem?_eq_getElem hi⟩
        obtain ⟨m, h1, h2⟩ := hv1.get hu
        obtain ⟨u', h3, h4⟩ := hv2.get h1
        rw [hu]
        have : (args'.toArray ++ Array.replicate (fn.ntmps - args'.toArray.size) undef).getD i undef = u' := by
          rw [Array.getD_eq_getD_getElem?, Array.getElem?_append_left (by simpa [hlen] using hi)]
          simp [h3]
        rw [this]
        exact ⟨m, h2, h4⟩
      · rw [if_neg hi]
        exact VC.unk
    · rw [argsK_get, if_neg, Trie.get_leaf]
      simp only [Nat.zero_le, true_and, Nat.zero_add]
      have := Nat.le_max_right fn.ntmps args.length
      omega
  have hok' : codeOk (max fn.ntmps args.length) c = true := codeOk_mono (Nat.le_max_left _ _) c hok
  refine code_soundK (L := L) (f := f) (N := max fn.ntmps args.length) hpc hic hm hlp c 1 .root hok' _ r _ A E B ρ base _ w _ h ht hj fun e t' E' A' B' ρ' a' w' h1 h2 h3 h4 => ?_
  have fin : ∀ vs, resK P A' t' fn.results.toList = some vs → k vs A' = some r → ∀ e : AExit, (e = .normal ∨ e = .ret) → bodyPost P fn (fun e w' => ∃ vs vs' E' A' B' ρ', e = .returned (packV vs') ∧ VCL P E' ρ' vs vs' ∧ Ev P base E A B ρ w E' A' B' ρ' w' ∧ k vs A' = some r) e.out a' w' := by
    intro vs hr hk e he
    obtain ⟨vs', hvs, hrun⟩ := results_soundK (P := P) h4.kj h2 _ _ hr
    have hres : (results fn a'.tmps).run P w' = .ok (if h : vs'.toArray.size = 1 then vs'.toArray[0] else .tuple vs'.toArray) w' := by
      rw [results_eq, Sem.run_bind, Array.mapM_eq_mapM_toList, Sem.run_map, hrun]
      rfl
    have hpost : bodyPost P fn (fun e w' => ∃ vs vs' E' A' B' ρ', e = .returned (packV vs') ∧ VCL P E' ρ' vs vs' ∧ Ev P base E A B ρ w E' A' B' ρ' w' ∧ k vs A' = some r) .ret a' w' := by
      exact ⟨h3, _, hres, vs, vs', E', A', B', ρ', rfl, hvs, h4, hk⟩
    rcases he with rfl | rfl
    · exact hpost
    · exact hpost
  cases e with
  | normal =>
    have h1 : Option.rec (motive := fun _ => Option R) none (fun vs => k vs A') (resK P A' t' fn.results.toList) = some r := h1
    cases hr : resK P A' t' fn.results.toList with
    | none => rw [hr] at h1; exact absurd h1 (by simp)
    | some vs => rw [hr] at h1; exact fin vs hr h1 .normal (.inl rfl)
  | ret =>
    have h1 : Option.rec (motive := fun _ => Option R) none (fun vs => k vs A') (resK P A' t' fn.results.toList) = some r := h1
    cases hr : resK P A' t' fn.results.toList with
    | none => rw [hr] at h1; exact absurd h1 (by simp)
    | some vs => rw [hr] at h1; exact fin vs hr h1 .ret (.inr rfl)
  | exit id => exact absurd h1 (by simp [endK])
  | goto l => exact absurd h1 (by simp [endK])
end Go.K
