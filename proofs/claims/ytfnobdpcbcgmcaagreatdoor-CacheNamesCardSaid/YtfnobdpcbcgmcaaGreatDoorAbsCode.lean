/-
  The abstract machine's code does what the model's does.
-/
import Derived.Test.YtfnobdpcbcgmcaaGreatDoorAbsDraw6
import Derived.LoopN
import Derived.Scope
namespace Go.Abs
noncomputable section
open Go

def EvR (ρ : Ren) (ev ev' : Operand → Value) : Prop := ∀ x, VR ρ (ev x) (ev' x)
theorem EvR.on {ρ : Ren} {ev ev' : Operand → Value} (h : EvR ρ ev ev') (xs : List Operand) : EvOn ρ ev ev' xs := fun x _ => h x

theorem TR.ev {ρ : Ren} {t : Tm} {N : Nat} {a : Act} (h : TR ρ t N a) : EvR ρ (evA t) a.eval := by
  intro x
  cases x with
  | tmp i => exact h.val i
  | const v =>
    simp only [evA, Act.eval]
    cases hf : flat v with
    | true => exact VR.of_flat hf
    | false => simp [VR]
  | global g => simp [evA, VR]
  | func f => exact VR.mkFunc (l := []) (m := []) _ .nil .nil
theorem TR.mono {ρ ρ' : Ren} {t : Tm} {N : Nat} {a : Act} (h : TR ρ t N a) (hle : ρ.le ρ') : TR ρ' t N a := ⟨h.size, fun i => (h.val i).mono hle, h.none⟩
theorem TR.put {ρ : Ren} {t : Tm} {N : Nat} {a : Act} {dst : Option Tmp} {v v' : Value} (h : TR ρ t N a) (hd : ∀ d, dst = some d → d < N) (hv : VR ρ v v') : TR ρ (putT t dst v) N (a.put dst v') := by
  cases dst with
  | none => exact h
  | some d =>
    have hd := hd d rfl
    refine ⟨by simp [Act.put, h.size], fun i => ?_, fun i hi => ?_⟩
    · simp only [putT, Trie.get_set, Act.put]
      by_cases e : i = d
      · subst e
        have : i < a.tmps.size := by rw [h.size]; exact hd
        simp [Array.getD_eq_getD_getElem?, this, hv]
      · have := h.val i
        simp only [if_neg e]
        simpa [Array.getD_eq_getD_getElem?, Array.getElem?_setIfInBounds_ne (Ne.symm e)] using this
    · simp only [putT, Trie.get_set]
      have hne : i ≠ d := fun e => absurd hi (by rw [e]; exact Nat.not_le_of_lt hd)
      rw [if_neg hne]
      exact h.none i hi
theorem put_defers (a : Act) (dst : Option Tmp) (v : Value) : (a.put dst v).defers = a.defers := by cases dst <;> rfl

theorem wanted_sound {ρ : Ren} {t : Tm} {N : Nat} {a : Act} {all : List Oper} {o : Oper} {wd : Bool} (h : TR ρ t N a) (hw : wantedA all t o.guard = some wd) :
    Region.wanted o (yielded ⟨all⟩ a.tmps) = wd := by
  unfold wantedA at hw
  unfold Region.wanted
  split at hw
  · rename_i hg; simp at hw; rw [hg]; exact hw.symm
  · rename_i j want hg
    rw [hg]
    simp only
    unfold yielded
    have e : (⟨all⟩ : Array Oper)[j]? = all[j]? := by simp
    rw [e]
    cases hd : (all[j]?).bind (·.dst) with
    | none => rw [hd] at hw; simp [isWanted] at hw; subst hw; simp
    | some d =>
      rw [hd] at hw
      simp only [Option.bind_some] at hw ⊢
      have hv := h.val d
      cases ht : t.get d with
      | none =>
        rw [ht] at hw hv
        simp [isWanted] at hw; subst hw
        simp only [Option.getD_none] at hv
        have hu : a.tmps.getD d undef = undef := hv.flat_eq (by simp [undef, flat, flatA, flatL])
        cases hc : a.tmps[d]? with
        | none => simp
        | some u =>
          have : a.tmps.getD d undef = u := by simp [Array.getD_eq_getD_getElem?, hc]
          rw [hu] at this
          subst this
          simp [undef]
      | some v =>
        rw [ht] at hw hv
        simp only [Option.getD_some] at hv
        have hlt : d < N := by
          rcases Nat.lt_or_ge d N with h1 | h1
          · exact h1
          · have := h.none d h1; rw [ht] at this; simp at this
        have hc : a.tmps[d]? = some (a.tmps.getD d undef) := by
          have : d < a.tmps.size := by rw [h.size]; exact hlt
          simp [Array.getD_eq_getD_getElem?, this]
        rw [hc]
        generalize a.tmps.getD d undef = u at hv
        cases v with
        | bool b =>
          simp [isWanted] at hw
          have := hv.bool_inv
          subst this
          subst hw
          cases b <;> cases want <;> rfl
        | tuple cs =>
          simp [isWanted] at hw
          obtain ⟨cs', rfl, _⟩ := hv.tuple_inv
          subst hw
          rfl
        | _ => simp [isWanted] at hw

/-- one operation -/
theorem ins_sound {P : Program} {call : CallF} (hcall : CallOk P call) {o : Oper} {t : Tm} {A B : St} {v : Value} {N base : Nat} {ρ : Ren} {a : Act} {w : World} {next : Act → World → Prop} {Q : Exit → Act → World → Prop}
    (h : insV call t A (compile P o.op) = some (v, B)) (ht : TR ρ t N a) (hs : Sim ρ A base w)
    (hk : ∀ ρ' v' w', VR ρ' v v' → Goes base ρ A w ρ' B w' → next (a.put o.dst v') w') : o.wp P a w next Q := by
  have hok := compile_ok P o
  have hev := ht.ev
  generalize compile P o.op = ins at h hok
  unfold Oper.wp
  cases ins with
  | pure f xs =>
    obtain ⟨u, hu, he⟩ := Option.map_eq_some_iff.1 h
    simp at he
    obtain ⟨rfl, rfl⟩ := he
    obtain ⟨v', h1, h2⟩ := hok ρ _ _ _ (hev.on _) hu
    rw [h2 w]
    exact hk ρ v' w h1 (.refl hs)
  | read f xs =>
    obtain ⟨u, hu, he⟩ := Option.map_eq_some_iff.1 h
    simp at he
    obtain ⟨rfl, rfl⟩ := he
    obtain ⟨v', h1, h2⟩ := hok ρ A base w _ _ _ hs.rel (hev.on _) hu
    rw [h2]
    exact hk ρ v' w h1 (.refl hs)
  | make f xs =>
    obtain ⟨⟨obj, mk⟩, hu, he⟩ := Option.map_eq_some_iff.1 h
    simp at he
    obtain ⟨rfl, rfl⟩ := he
    obtain ⟨c, mk', h1, h2, h3⟩ := hok ρ _ _ _ _ (hev.on _) hu
    rw [h2 w]
    exact hk _ _ _ (h3 _ _ _ (Ren.set_same _ _ _)) (h1.goes hs)
  | act f xs =>
    obtain ⟨ρ', v', nx, w', h1, h2, h3, h4⟩ := hok ρ A B base w _ _ _ hs (hev.on _) h
    rw [h1]
    cases nx with
    | value u =>
      have : u = v' := h2
      subst this
      exact hk ρ' u w' h3 h4
    | skip =>
      have : v' = undef := h2
      subst this
      exact hk ρ' undef w' h3 h4
    | _ => exact h2.elim
  | call f args =>
    obtain ⟨⟨g, vs⟩, hcal, hu⟩ := Option.bind_eq_some_iff.1 h
    obtain ⟨hfn, hc⟩ := hcall _ _ _ _ _ hu
    obtain ⟨vs', h1, h2⟩ := hok ρ _ _ _ _ (hev.on _) hcal hfn
    rw [h2 w]
    refine (hc ρ vs' base w h1 hs).mono ?_
    rintro e w' ⟨ρ', v', rfl, h3, h4⟩
    exact hk ρ' v' w' h3 h4
  | bad => simp [insV] at h

theorem ops_sound {P : Program} {call : CallF} (hcall : CallOk P call) {N base : Nat} {Q : Exit → Act → World → Prop} {all : List Oper} (hd : all.all (dstOk N) = true) :
    ∀ (os : List Oper) (k : Nat) (t t' : Tm) (A B : St) (ρ : Ren) (a : Act) (w : World), all.drop k = os → opsV P call all os t A = some (t', B) → TR ρ t N a → Sim ρ A base w →
      (∀ ρ' a' w', TR ρ' t' N a' → a'.defers = a.defers → Goes base ρ A w ρ' B w' → Q .normal a' w') → wpOps P ⟨all⟩ Q (List.range' k os.length) a w
  | [], k, t, t', A, B, ρ, a, w, _, h, ht, hs, hq => by
    simp only [opsV_nil, Option.some.injEq, Prod.mk.injEq] at h
    obtain ⟨rfl, rfl⟩ := h
    exact hq ρ a w ht rfl (.refl hs)
  | o :: os, k, t, t', A, B, ρ, a, w, hk, h, ht, hs, hq => by
    have ho : (⟨all⟩ : Array Oper)[k]? = some o := by
      have : (all.drop k)[0]? = some o := by rw [hk]; rfl
      rw [List.getElem?_drop] at this
      simpa using this
    have hk' : all.drop (k + 1) = os := by
      rw [← List.drop_drop, hk]
      rfl
    have hdst : ∀ d, o.dst = some d → d < N := by
      intro d e
      have hm : o ∈ all := List.mem_of_getElem? (by simpa using ho)
      have := List.all_eq_true.1 hd o hm
      unfold dstOk at this
      rw [e] at this
      simp only at this
      rw [Nat.blt_eq] at this
      exact this
    rw [List.length_cons, List.range'_succ]
    simp only [wpOps, ho]
    simp only [opsV_cons] at h
    obtain ⟨wd, hwd, h⟩ := Option.bind_eq_some_iff.1 h
    rw [wanted_sound ht hwd]
    cases wd with
    | true =>
      rw [cond_true] at h
      obtain ⟨⟨v, C⟩, h1, h2⟩ := Option.bind_eq_some_iff.1 h
      refine .inl (ins_sound hcall h1 ht hs fun ρ' v' w' hv hg => ?_)
      refine ops_sound hcall hd os (k + 1) _ _ C B ρ' _ w' hk' h2 ((ht.mono (hg.le hs)).put hdst hv) hg.sim fun ρ'' a'' w'' ht' hdf hg' => ?_
      exact hq ρ'' a'' w'' ht' (by rw [hdf, put_defers]) (hg.trans hg')
    | false =>
      rw [cond_false] at h
      refine ops_sound hcall hd os (k + 1) _ _ A B ρ _ w hk' h (ht.put hdst VR.undef) hs fun ρ'' a'' w'' ht' hdf hg' => ?_
      exact hq ρ'' a'' w'' ht' (by rw [hdf, put_defers]) hg'

def AExit.out : AExit → Exit
  | .normal => .normal
  | .exit id => .exit id
  | .goto l => .goto l
  | .ret => .ret

theorem cond_sound {ρ : Ren} {t : Tm} {N : Nat} {a : Act} {c : Operand} {x : Bool} (ht : TR ρ t N a) (h : evA t c = .bool x) : a.eval c = .bool x := by
  have := ht.ev c
  rw [h] at this
  exact this.bool_inv

/-- what a piece of code does -/
def CodeOk (P : Program) (N : Nat) (c : Code) (f : Tm → St → Option (AExit × Tm × St)) : Prop :=
  ∀ (t t' : Tm) (A B : St) (e : AExit) (ρ : Ren) (base : Nat) (a : Act) (w : World) (Q : Exit → Act → World → Prop), f t A = some (e, t', B) → TR ρ t N a → Sim ρ A base w →
    (∀ ρ' a' w', TR ρ' t' N a' → a'.defers = a.defers → Goes base ρ A w ρ' B w' → Q e.out a' w') → c.wp P Q a w

theorem loop_sound {P : Program} {N : Nat} {c : Code} {f : Tm → St → Option (AExit × Tm × St)} (hf : CodeOk P N c f) :
    ∀ (n : Nat) (t t' : Tm) (A B : St) (e : AExit) (ρ : Ren) (base : Nat) (a : Act) (w : World) (Q : Exit → Act → World → Prop), loopV f n t A = some (e, t', B) → TR ρ t N a → Sim ρ A base w →
    (∀ ρ' a' w', TR ρ' t' N a' → a'.defers = a.defers → Goes base ρ A w ρ' B w' → Q e.out a' w') → Code.rounds P c Q n a w
  | 0, t, t', A, B, e, ρ, base, a, w, Q, h, ht, hs, hq => by simp [loopV_zero] at h
  | n + 1, t, t', A, B, e, ρ, base, a, w, Q, h, ht, hs, hq => by
    rw [rounds_succ]
    simp only [loopV_succ, loopStep] at h
    split at h
    · rename_i t1 C h1
      refine hf t t1 A C .normal ρ base a w _ h1 ht hs fun ρ' a' w' ht' hdf hg => ?_
      refine loop_sound hf n t1 t' C B e ρ' base a' w' Q h ht' hg.sim fun ρ'' a'' w'' ht'' hdf' hg' => ?_
      exact hq ρ'' a'' w'' ht'' (hdf'.trans hdf) (hg.trans hg')
    · rename_i hne
      refine hf t t' A B e ρ base a w _ h ht hs fun ρ' a' w' ht' hdf hg => ?_
      have hq' := hq ρ' a' w' ht' hdf hg
      cases e with
      | normal => exact absurd h (hne t' B)
      | exit id => exact hq'
      | goto l => exact hq'
      | ret => exact hq'

/-! ### Scopes -/
def jumpsN (P : Program) (c : Code) (Q : Exit → Act → World → Prop) : Nat → Exit → Act → World → Prop
  | 0, .goto _, _, _ => False
  | n + 1, .goto l, a, w => match findLabel c l with
    | some rest => rest.wp P (jumpsN P c Q n) a w
    | none => Q (.goto l) a w
  | _, e, a, w => Q e a w
theorem jumpsN_other {P : Program} {c : Code} {Q : Exit → Act → World → Prop} {n : Nat} {e : Exit} {a : Act} {w : World} (he : ∀ l, e ≠ .goto l) : jumpsN P c Q n e a w ↔ Q e a w := by
  cases e with
  | goto l => exact absurd rfl (he l)
  | _ => cases n <;> exact Iff.rfl
theorem wp_scope_n {P : Program} {c : Code} {Q : Exit → Act → World → Prop} {a : Act} {w : World} (n : Nat) (h : c.wp P (jumpsN P c Q n) a w) : (Code.scope c).wp P Q a w := by
  intro b k cs
  have key : ∀ n e a w, jumpsN P c Q n e a w → ∀ m, Arrives P m b (.inScope c :: k) cs e a w → ∃ e' a' w', Q e' a' w' ∧ Arrives P m b k cs e' a' w' := by
    intro n
    induction n with
    | zero =>
      intro e a w hq m harr
      cases e with
      | normal => exact ⟨.normal, a, w, hq, Steps.trans harr (.one step_inScope)⟩
      | exit id => exact ⟨.exit id, a, w, hq, fun k' hk => harr k' (by simp [exitTo, hk])⟩
      | goto l => exact hq.elim
      | ret => exact ⟨_, a, w, hq, harr⟩
      | panic ch => exact ⟨_, a, w, hq, harr⟩
      | outgrown => exact ⟨_, a, w, hq, harr⟩
    | succ n ih =>
      intro e a w hq m harr
      cases e with
      | normal => exact ⟨.normal, a, w, hq, Steps.trans harr (.one step_inScope)⟩
      | exit id => exact ⟨.exit id, a, w, hq, fun k' hk => harr k' (by simp [exitTo, hk])⟩
      | goto l =>
        simp only [jumpsN] at hq
        cases hf : findLabel c l with
        | none =>
          rw [hf] at hq
          exact ⟨.goto l, a, w, hq, fun k' hk => harr k' (by simp [gotoIn, hf, hk])⟩
        | some rest =>
          rw [hf] at hq
          have hg : gotoIn l (.inScope c :: k) = some (.code rest :: .inScope c :: k) := by simp [gotoIn, hf]
          obtain ⟨e₂, a₂, w₂, hq₂, harr₂⟩ := hq b (.inScope c :: k) cs
          obtain ⟨e₃, a₃, w₃, hq₃, harr₃⟩ := ih e₂ a₂ w₂ hq₂ _ harr₂
          exact ⟨e₃, a₃, w₃, hq₃, .of_steps (harr _ hg) harr₃⟩
      | ret => exact ⟨_, a, w, hq, harr⟩
      | panic ch => exact ⟨_, a, w, hq, harr⟩
      | outgrown => exact ⟨_, a, w, hq, harr⟩
  obtain ⟨e, a₁, w₁, hq, harr⟩ := h b (.inScope c :: k) cs
  obtain ⟨e', a', w', hq', harr'⟩ := key n e a₁ w₁ hq _ harr
  exact ⟨e', a', w', hq', .of_steps (.one step_scope) harr'⟩

/-- the code behind a label -/
def FromOk (P : Program) (N : Nat) (c : Code) (l : Nat) : Option (Tm → St → Ran) → Prop
  | some f => ∃ rest, findLabel c l = some rest ∧ CodeOk P N rest f
  | none => findLabel c l = none

theorem scope_sound {P : Program} {N : Nat} {c : Code} {jump : Nat → Option (Tm → St → Ran)} (hj : ∀ l, FromOk P N c l (jump l)) {base : Nat} {Q : Exit → Act → World → Prop} :
    ∀ (n : Nat) (r : Ran) (t' : Tm) (A B : St) (e : AExit) (ρ : Ren) (a0 : Act) (w0 : World), scopeV jump n r = some (e, t', B) → Sim ρ A base w0 →
      (∀ ρ' a' w', TR ρ' t' N a' → a'.defers = a0.defers → Goes base ρ A w0 ρ' B w' → Q e.out a' w') →
      ∀ t1 C e1, r = some (e1, t1, C) → ∀ ρ1 a1 w1, TR ρ1 t1 N a1 → a1.defers = a0.defers → Goes base ρ A w0 ρ1 C w1 → jumpsN P c Q n e1.out a1 w1
  | 0, r, t', A, B, e, ρ, a0, w0, h, hs, hq => by simp [scopeV] at h
  | n + 1, r, t', A, B, e, ρ, a0, w0, h, hs, hq => by
    intro t1 C e1 hr ρ1 a1 w1 ht hdf hg
    subst hr
    cases e1 with
    | goto l =>
      simp only [scopeV] at h
      have hjl := hj l
      simp only [AExit.out, jumpsN]
      split at h
      · rename_i f hf
        rw [hf] at hjl
        obtain ⟨rest, h1, h2⟩ := hjl
        rw [h1]
        simp only
        have hcases : ∃ e2 t2 D, f t1 C = some (e2, t2, D) := by
          cases hfr : f t1 C with
          | none => rw [hfr] at h; cases n <;> simp [scopeV] at h
          | some p => exact ⟨p.1, p.2.1, p.2.2, rfl⟩
        obtain ⟨e2, t2, D, hfr⟩ := hcases
        refine h2 t1 t2 C D e2 ρ1 base a1 w1 _ hfr ht hg.sim fun ρ2 a2 w2 ht2 hdf2 hg2 => ?_
        exact scope_sound hj n (f t1 C) t' A B e ρ a0 w0 h hs hq t2 D e2 hfr ρ2 a2 w2 ht2 (hdf2.trans hdf) (hg.trans hg2)
      · rename_i hf
        rw [hf] at hjl
        have hjl : findLabel c l = none := hjl
        rw [hjl]
        simp only [Option.some.injEq, Prod.mk.injEq] at h
        obtain ⟨rfl, rfl, rfl⟩ := h
        exact hq ρ1 a1 w1 ht hdf hg
    | normal =>
      simp only [scopeV, Option.some.injEq, Prod.mk.injEq] at h
      obtain ⟨rfl, rfl, rfl⟩ := h
      exact hq ρ1 a1 w1 ht hdf hg
    | exit id =>
      simp only [scopeV, Option.some.injEq, Prod.mk.injEq] at h
      obtain ⟨rfl, rfl, rfl⟩ := h
      exact hq ρ1 a1 w1 ht hdf hg
    | ret =>
      simp only [scopeV, Option.some.injEq, Prod.mk.injEq] at h
      obtain ⟨rfl, rfl, rfl⟩ := h
      exact hq ρ1 a1 w1 ht hdf hg

theorem seq_sound {P : Program} {N : Nat} {x y : Code} {f g : Tm → St → Ran} (hx : CodeOk P N x f) (hy : CodeOk P N y g) : CodeOk P N (.seq x y) fun t A => andThenV (f t A) g := by
  intro t t' A B e ρ base a w Q h ht hs hq
  refine wp_seq ?_
  have h : andThenV (f t A) g = some (e, t', B) := h
  unfold andThenV at h
  split at h
  · rename_i t1 C h1
    refine hx t t1 A C .normal ρ base a w _ h1 ht hs fun ρ' a' w' ht' hdf hg => ?_
    refine hy t1 t' C B e ρ' base a' w' Q h ht' hg.sim fun ρ'' a'' w'' ht'' hdf' hg' => ?_
    exact hq ρ'' a'' w'' ht'' (hdf'.trans hdf) (hg.trans hg')
  · rename_i hne
    refine hx t t' A B e ρ base a w _ h ht hs fun ρ' a' w' ht' hdf hg => ?_
    have hq' := hq ρ' a' w' ht' hdf hg
    cases e with
    | normal => exact absurd h (hne t' B)
    | exit id => exact hq'
    | goto l => exact hq'
    | ret => exact hq'

mutual
theorem code_sound {P : Program} {call : CallF} (hcall : CallOk P call) (hm : P.follows .mixedOrders = true) (L N : Nat) : ∀ (c : Code), codeOk N c = true → CodeOk P N c (codeV P call L c)
  | .skip, _ => by
    intro t t' A B e ρ base a w Q h ht hs hq
    simp only [codeV_skip, Option.some.injEq, Prod.mk.injEq] at h
    obtain ⟨rfl, rfl, rfl⟩ := h
    exact wp_skip (hq ρ a w ht rfl (.refl hs))
  | .ret, _ => by
    intro t t' A B e ρ base a w Q h ht hs hq
    simp only [codeV_ret, Option.some.injEq, Prod.mk.injEq] at h
    obtain ⟨rfl, rfl, rfl⟩ := h
    exact wp_ret (hq ρ a w ht rfl (.refl hs))
  | .exit id, _ => by
    intro t t' A B e ρ base a w Q h ht hs hq
    simp only [codeV_exit, Option.some.injEq, Prod.mk.injEq] at h
    obtain ⟨rfl, rfl, rfl⟩ := h
    exact wp_exit (hq ρ a w ht rfl (.refl hs))
  | .region id ops false, hc => by
    intro t t' A B e ρ base a w Q h ht hs hq
    simp only [codeV_ops] at h
    obtain ⟨⟨t1, C⟩, h1, he⟩ := Option.map_eq_some_iff.1 h
    simp at he
    obtain ⟨rfl, rfl, rfl⟩ := he
    refine wp_region ?_
    have := ops_sound (Q := Q) hcall (N := N) (all := ops.toList) hc ops.toList 0 t t1 A C ρ a w (by simp) h1 ht hs hq
    rw [List.range_eq_range']
    simpa using this
  | .region id ops true, hc => by
    intro t t' A B e ρ base a w Q h ht hs hq
    simp only [codeV_drawn] at h
    obtain ⟨⟨t1, C⟩, h1, he⟩ := Option.map_eq_some_iff.1 h
    simp at he
    obtain ⟨rfl, rfl, rfl⟩ := he
    cases hqv : quietV P ops.toList with
    | true => rw [hqv, cond_true] at h1; exact quiet_sound (all := ops.toList) hcall hm hc hqv h1 ht hs hq
    | false =>
      rw [hqv, cond_false] at h1
      cases hov : orderedV P ops.toList with
      | true => rw [hov, cond_true] at h1; exact ordered_sound (all := ops.toList) hcall hm hc hov h1 ht hs hq
      | false => rw [hov, cond_false] at h1; exact drawn_sound (all := ops.toList) hcall hm hc h1 ht hs hq
  | .seq x y, hc => by
    simp only [codeOk, Bool.and_eq_true] at hc
    have := seq_sound (code_sound hcall hm L N x hc.1) (code_sound hcall hm L N y hc.2)
    intro t t' A B e ρ base a w Q h ht hs hq
    simp only [codeV_seq] at h
    exact this t t' A B e ρ base a w Q h ht hs hq
  | .cond c x y, hc => by
    simp only [codeOk, Bool.and_eq_true] at hc
    intro t t' A B e ρ base a w Q h ht hs hq
    simp only [codeV_cond] at h
    split at h
    · rename_i b hb
      have hb := cond_sound ht hb
      cases b with
      | true => exact wp_cond_true hb (code_sound hcall hm L N x hc.1 t t' A B e ρ base a w Q h ht hs hq)
      | false => exact wp_cond_false hb (code_sound hcall hm L N y hc.2 t t' A B e ρ base a w Q h ht hs hq)
    · simp at h
  | .block id x, hc => by
    have hc : codeOk N x = true := hc
    intro t t' A B e ρ base a w Q h ht hs hq
    simp only [codeV_block] at h
    refine wp_block ?_
    split at h
    · rename_i id' t1 C h1
      refine code_sound hcall hm L N x hc t t1 A C (.exit id') ρ base a w _ h1 ht hs fun ρ' a' w' ht' hdf hg => ?_
      cases hb : Nat.beq id' id with
      | true =>
        rw [hb, cond_true] at h
        simp only [Option.some.injEq, Prod.mk.injEq] at h
        obtain ⟨rfl, rfl, rfl⟩ := h
        have := Nat.eq_of_beq_eq_true hb
        simp only [AExit.out, Exit.inBlock, if_pos this]
        exact hq ρ' a' w' ht' hdf hg
      | false =>
        rw [hb, cond_false] at h
        simp only [Option.some.injEq, Prod.mk.injEq] at h
        obtain ⟨rfl, rfl, rfl⟩ := h
        have := Nat.ne_of_beq_eq_false hb
        simp only [AExit.out, Exit.inBlock, if_neg this]
        exact hq ρ' a' w' ht' hdf hg
    · rename_i hne
      refine code_sound hcall hm L N x hc t t' A B e ρ base a w _ h ht hs fun ρ' a' w' ht' hdf hg => ?_
      have hq' := hq ρ' a' w' ht' hdf hg
      cases e with
      | normal => exact hq'
      | exit id' => exact absurd h (hne id' t' B)
      | goto l => exact hq'
      | ret => exact hq'
  | .loop x, hc => by
    have hc : codeOk N x = true := hc
    intro t t' A B e ρ base a w Q h ht hs hq
    simp only [codeV_loop] at h
    exact wp_loop_rounds L (loop_sound (code_sound hcall hm L N x hc) L t t' A B e ρ base a w Q h ht hs hq)
  | .label l, _ => by
    intro t t' A B e ρ base a w Q h ht hs hq
    simp only [codeV_label, Option.some.injEq, Prod.mk.injEq] at h
    obtain ⟨rfl, rfl, rfl⟩ := h
    exact wp_label (hq ρ a w ht rfl (.refl hs))
  | .goto l, _ => by
    intro t t' A B e ρ base a w Q h ht hs hq
    simp only [codeV_goto, Option.some.injEq, Prod.mk.injEq] at h
    obtain ⟨rfl, rfl, rfl⟩ := h
    exact wp_goto (hq ρ a w ht rfl (.refl hs))
  | .scope x, hc => by
    have hc : codeOk N x = true := hc
    intro t t' A B e ρ base a w Q h ht hs hq
    simp only [codeV_scope] at h
    refine wp_scope_n L ?_
    have hcases : ∃ e2 t2 D, codeV P call L x t A = some (e2, t2, D) := by
      cases hfr : codeV P call L x t A with
      | none => rw [hfr] at h; cases L <;> simp [scopeV] at h
      | some p => exact ⟨p.1, p.2.1, p.2.2, rfl⟩
    obtain ⟨e2, t2, D, hfr⟩ := hcases
    refine code_sound hcall hm L N x hc t t2 A D e2 ρ base a w _ hfr ht hs fun ρ2 a2 w2 ht2 hdf2 hg2 => ?_
    exact scope_sound (fun l => from_sound hcall hm L N x hc l) L _ t' A B e ρ a w h hs hq t2 D e2 hfr ρ2 a2 w2 ht2 hdf2 hg2
  | .rangeFunc .., _ | .refuse _, _ => by
    intro t t' A B e ρ base a w Q h ht hs hq
    simp [codeV_rangeFunc, codeV_refuse] at h
theorem from_sound {P : Program} {call : CallF} (hcall : CallOk P call) (hm : P.follows .mixedOrders = true) (L N : Nat) : ∀ (c : Code), codeOk N c = true → ∀ l, FromOk P N c l (fromV P call L c l)
  | .seq x y, hc, l => by
    simp only [codeOk, Bool.and_eq_true] at hc
    have hx := from_sound hcall hm L N x hc.1 l
    have hy := from_sound hcall hm L N y hc.2 l
    simp only [fromV_seq]
    cases hf : fromV P call L x l with
    | some f =>
      rw [hf] at hx
      obtain ⟨rest, h1, h2⟩ := hx
      exact ⟨.seq rest y, by simp [findLabel, h1], seq_sound h2 (code_sound hcall hm L N y hc.2)⟩
    | none =>
      rw [hf] at hx
      have hx : findLabel x l = none := hx
      simp only
      cases hg : fromV P call L y l with
      | some f =>
        rw [hg] at hy
        obtain ⟨rest, h1, h2⟩ := hy
        exact ⟨rest, by simp [findLabel, hx, h1], h2⟩
      | none =>
        rw [hg] at hy
        have hy : findLabel y l = none := hy
        show findLabel (.seq x y) l = none
        simp [findLabel, hx, hy]
  | .label l', _, l => by
    simp only [fromV_label]
    cases hb : (l' == l) with
    | true =>
      rw [cond_true]
      refine ⟨.skip, by simp [findLabel, hb], ?_⟩
      intro t t' A B e ρ base a w Q h ht hs hq
      simp only [Option.some.injEq, Prod.mk.injEq] at h
      obtain ⟨rfl, rfl, rfl⟩ := h
      exact wp_skip (hq ρ a w ht rfl (.refl hs))
    | false =>
      rw [cond_false]
      show findLabel (.label l') l = none
      simp [findLabel, hb]
  | .skip, _, _ | .ret, _, _ | .exit _, _, _ | .goto _, _, _ | .region _ _ _, _, _ | .cond _ _ _, _, _ | .block _ _, _, _ | .loop _, _, _ | .scope _, _, _ | .rangeFunc _ _ _ _, _, _ | .refuse _, _, _ => by
    first | rfl | (rw [fromV_cond]; rfl) | simp [FromOk, findLabel]
end

theorem argTmps_get : ∀ (l : List Value) (i k : Nat) (t : Tm), (argTmps l i t).get k = if i ≤ k ∧ k < i + l.length then l[k - i]? else t.get k
  | [], i, k, t => by
    rw [argTmps, if_neg]
    simp
  | v :: l, i, k, t => by
    rw [argTmps, argTmps_get l (i + 1) k, Trie.get_set]
    by_cases h1 : k = i
    · subst h1
      rw [if_neg (by omega), if_pos rfl, if_pos (by simp)]
      simp
    · by_cases h2 : i + 1 ≤ k ∧ k < i + 1 + l.length
      · rw [if_pos h2, if_pos (by simp; omega), show k - i = (k - (i + 1)) + 1 by omega]
        simp
      · rw [if_neg h2, if_neg h1, if_neg (by simp; omega)]

def resOne (a : Act) : ResultVar → Sem Value
  | .tmp t => pure (a.tmps.getD t undef)
  | .cell ad ty => do loadVar ty (← asAddr (a.tmps.getD ad undef))
theorem results_eq (fn : Func) (a : Act) : results fn a.tmps = (do let vs ← fn.results.mapM (resOne a); pure (if h : vs.size = 1 then vs[0] else .tuple vs)) := by
  unfold results
  congr 1
theorem results_sound {P : Program} {ρ : Ren} {A : St} {base N : Nat} {w : World} {t : Tm} {a : Act} (hs : Sim ρ A base w) (ht : TR ρ t N a) : ∀ (rs : List ResultVar) (vs : List Value), resultsA P A t rs = some vs →
    ∃ vs', VRL ρ vs vs' ∧ (rs.mapM (resOne a)).run P w = Result.ok vs' w
  | [], vs, h => by simp [resultsA] at h; subst h; exact ⟨[], .nil, by simp⟩
  | .tmp x :: rs, vs, h => by
    simp only [resultsA] at h
    obtain ⟨us, hu, rfl⟩ := Option.map_eq_some_iff.1 h
    obtain ⟨us', h1, h2⟩ := results_sound hs ht rs us hu
    refine ⟨_ :: us', .cons (ht.ev (.tmp x)) h1, ?_⟩
    simp [List.mapM_cons, h2, Act.eval, resOne]
  | .cell x ty :: rs, vs, h => by
    simp only [resultsA] at h
    obtain ⟨v, hv, h⟩ := Option.bind_eq_some_iff.1 h
    obtain ⟨us, hu, rfl⟩ := Option.map_eq_some_iff.1 h
    obtain ⟨us', h1, h2⟩ := results_sound hs ht rs us hu
    obtain ⟨ad, h3, v', h4, h5⟩ := loadAt_sound (P := P) hs.rel (ht.ev (.tmp x)) hv
    refine ⟨v' :: us', .cons h4 h1, ?_⟩
    have h3 : a.tmps.getD x undef = .pointer (some ad) := h3
    simp only [List.mapM_cons, Sem.run_bind, resOne, h3, asAddr, Sem.run_pure, Result.andThen_ok, h5, h2]

theorem Goes.leave {base : Nat} {ρ ρ' : Ren} {A B : St} {w w' : World} {v v' : Value} (hs : Sim ρ A base w) (h : Goes base ρ A.enter w ρ' B w') (hv : VR ρ' v v') :
    ∃ ρ'', VR ρ'' v v' ∧ Goes base ρ A w ρ'' (A.leave B v) w' := by
  have himg : ∀ k, Img ρ A.enter k ↔ Img ρ A k := fun k => Iff.rfl
  rw [St.leave_eq]
  cases hc : (flat v && Nat.ble A.next B.low) with
  | true =>
    rw [cond_true]
    obtain ⟨hf, hl⟩ := Bool.and_eq_true_iff.1 hc
    have hl : A.next ≤ B.low := Nat.le_of_ble_eq_true hl
    have hget : ∀ b o, A.get b = some o → o ≠ .dead → b < A.next := fun b o hg hd => by
      obtain ⟨l, e, _⟩ := hs.rel.obj hg hd
      exact hs.dom _ _ e
    have hsame : ∀ b, b < A.next → B.get b = A.get b := fun b hb => h.same b hb (by omega)
    have hext : ∀ b, b < A.next → ρ' b = ρ b := h.ext
    refine ⟨ρ, by rw [hv.flat_eq hf]; exact VR.of_flat hf, ?_⟩
    refine ⟨⟨.of_obj ?_ hs.rel.apart hs.rel.listed, hs.dom, Nat.le_trans hs.size h.kept.size⟩, fun _ _ => rfl, ⟨h.kept.os, h.kept.tape, h.kept.output, h.kept.size, fun k hk hn => h.kept.block k hk hn⟩, Nat.le_refl _, Nat.le_refl _, fun _ _ _ => rfl, fun _ _ hk => hk⟩
    intro b o hg hd
    have hb := hget b o hg hd
    obtain ⟨l, e, ok⟩ := h.sim.rel.obj (b := b) (o := o) (by rw [hsame b hb]; exact hg) hd
    refine ⟨l, by rw [← hext b hb]; exact e, ?_⟩
    -- what is told under ρ' is told under ρ: the cells were related under ρ already, and hold what they held as abstract values
    obtain ⟨l0, e0, ok0⟩ := hs.rel.obj hg hd
    have hll : l = l0 := by rw [hext b hb, e0] at e; simpa using e.symm
    subst hll
    exact ObjOk.back (h.le ⟨hs.rel, hs.dom, hs.size⟩) ok0 ok
  | false =>
    rw [cond_false]
    refine ⟨ρ', hv, ⟨h.sim.rel, h.sim.dom, h.sim.size⟩, h.ext, ⟨h.kept.os, h.kept.tape, h.kept.output, h.kept.size, h.kept.block⟩, h.next, Nat.min_le_left _ _, fun b hb hl => ?_, h.img⟩
    exact h.same b hb (Nat.lt_of_lt_of_le hl (Nat.min_le_right _ _))

theorem codeOk_mono {n m : Nat} (h : n ≤ m) : ∀ (c : Code), codeOk n c = true → codeOk m c = true
  | .region id ops d, hc => by
    simp only [codeOk, List.all_eq_true] at hc ⊢
    intro o ho
    have := hc o ho
    unfold dstOk at this ⊢
    split at this
    · rename_i d e
      rw [Nat.blt_eq] at this ⊢
      omega
    · rfl
  | .seq a b, hc => by simp only [codeOk, Bool.and_eq_true] at hc ⊢; exact ⟨codeOk_mono h a hc.1, codeOk_mono h b hc.2⟩
  | .cond _ a b, hc => by simp only [codeOk, Bool.and_eq_true] at hc ⊢; exact ⟨codeOk_mono h a hc.1, codeOk_mono h b hc.2⟩
  | .block _ a, hc => codeOk_mono h a hc
  | .loop a, hc => codeOk_mono h a hc
  | .rangeFunc _ _ a b, hc => by simp only [codeOk, Bool.and_eq_true] at hc ⊢; exact ⟨codeOk_mono h a hc.1, codeOk_mono h b hc.2⟩
  | .scope a, hc => codeOk_mono h a hc
  | .skip, _ | .exit _, _ | .label _, _ | .goto _, _ | .ret, _ | .refuse _, _ => rfl
theorem body_sound {P : Program} {call : CallF} (hcall : CallOk P call) (hm : P.follows .mixedOrders = true) (L : Nat) {f : FuncId} {fn : Func} {c : Code} {args : List Value} {A B : St} {v : Value} (hf : P.funcs[f]? = some fn) (hb : fn.body = some c) (hok : codeOk fn.ntmps c = true)
    (h : bodyV P call L fn args A c = some (v, B)) {ρ : Ren} {args' : List Value} {base : Nat} {w : World} (hv : VRL ρ args args') (hs : Sim ρ A base w) :
    Calls P f args'.toArray w fun e w' => ∃ ρ' v', e = .returned v' ∧ VR ρ' v v' ∧ Goes base ρ A w ρ' B w' := by
  refine calls_of_wp hf hb ?_
  have hlen : args'.length = args.length := hv.length
  have hs' : Sim ρ A.enter base w := ⟨hs.rel, hs.dom, hs.size⟩
  -- the frame at the beginning
  have ht : TR ρ (argTmps args 0 .leaf) (max fn.ntmps args.length) { tmps := args'.toArray ++ Array.replicate (fn.ntmps - args'.toArray.size) undef, defers := [] } := by
    have hsz : (args'.toArray ++ Array.replicate (fn.ntmps - args'.toArray.size) undef).size = max fn.ntmps args.length := by
      simp [hlen]
      omega
    refine ⟨hsz, fun i => ?_, fun i hi => ?_⟩
    · rw [argTmps_get]
      simp only [Nat.zero_le, true_and, Nat.zero_add, Nat.sub_zero, Trie.get_leaf]
      by_cases hi : i < args.length
      · rw [if_pos hi]
        obtain ⟨u, hu⟩ : ∃ u, args[i]? = some u := ⟨_, List.getElem?_eq_getElem hi⟩
        obtain ⟨u', h1, h2⟩ := hv.get hu
        rw [hu]
        have : (args'.toArray ++ Array.replicate (fn.ntmps - args'.toArray.size) undef).getD i undef = u' := by
          rw [Array.getD_eq_getD_getElem?, Array.getElem?_append_left (by simpa [hlen] using hi)]
          simp [h1]
        rw [this]
        exact h2
      · rw [if_neg hi]
        have : (args'.toArray ++ Array.replicate (fn.ntmps - args'.toArray.size) undef).getD i undef = undef := by
          rw [Array.getD_eq_getD_getElem?, Array.getElem?_append_right (by simpa [hlen] using hi)]
          rw [Array.getElem?_replicate]
          split <;> rfl
        rw [this]
        exact VR.undef
    · rw [argTmps_get, if_neg, Trie.get_leaf]
      simp only [Nat.zero_le, true_and, Nat.zero_add]
      have := Nat.le_max_right fn.ntmps args.length
      omega
  have hok' : codeOk (max fn.ntmps args.length) c = true := codeOk_mono (Nat.le_max_left _ _) c hok
  rw [bodyV_eq] at h
  split at h
  · simp at h
  · simp at h
  · rename_i e t B' hne hne2 hc
    obtain ⟨vs, hr, he⟩ := Option.map_eq_some_iff.1 h
    simp at he
    obtain ⟨rfl, rfl⟩ := he
    refine code_sound hcall hm L _ c hok' _ _ _ _ _ ρ base _ w _ hc ht hs' fun ρ' a' w' ht' hdf hg => ?_
    obtain ⟨vs', h1, h2⟩ := results_sound (P := P) hg.sim ht' _ _ hr
    have hpack : VR ρ' (packResults vs) (if h : vs'.toArray.size = 1 then vs'.toArray[0] else .tuple vs'.toArray) := by
      cases vs with
      | nil => rw [h1.nil_inv]; exact VR.mkTuple .nil
      | cons x xs =>
        obtain ⟨y, ys, rfl, h3, h4⟩ := h1.cons_inv
        cases xs with
        | nil => rw [h4.nil_inv]; exact h3
        | cons x2 xs2 =>
          obtain ⟨y2, ys2, rfl, h5, h6⟩ := h4.cons_inv
          rw [dif_neg (by simp)]
          exact VR.mkTuple (.cons h3 (.cons h5 h6))
    obtain ⟨ρ'', h3, h4⟩ := hg.leave hs hpack
    have hres : (results fn a'.tmps).run P w' = .ok (if h : vs'.toArray.size = 1 then vs'.toArray[0] else .tuple vs'.toArray) w' := by
      rw [results_eq, Sem.run_bind, Array.mapM_eq_mapM_toList, Sem.run_map, h2]
      rfl
    have hpost : bodyPost P fn (fun e w' => ∃ ρ' v', e = .returned v' ∧ VR ρ' (packResults vs) v' ∧ Goes base ρ A w ρ' (A.leave B' (packResults vs)) w') .ret a' w' :=
      ⟨hdf, _, hres, ρ'', _, rfl, h3, h4⟩
    cases e with
    | normal => exact hpost
    | ret => exact hpost
    | exit id => exact (hne id rfl).elim
    | goto l => exact (hne2 l rfl).elim
  · simp at h

/-- what is told of a function is true -/
def ToldOk (P : Program) (S : Told) : Prop := ∀ f g, S f = some g → ∀ args A v B, g args A = some (v, B) →
  (∃ fn, P.funcs[f]? = some fn ∧ fn.body.isSome = true ∧ (fn.name == "runtime.NumGoroutine") = false) ∧
    ∀ ρ args' base w, VRL ρ args args' → Sim ρ A base w → Calls P f args'.toArray w fun e w' => ∃ ρ' v', e = .returned v' ∧ VR ρ' v v' ∧ Goes base ρ A w ρ' B w'
theorem noneTold_ok (P : Program) : ToldOk P noneTold := fun f g h => by simp [noneTold] at h
theorem call_sound {P : Program} {S : Told} (hS : ToldOk P S) (hP : P.funcs.toList.all funcOk = true) (hm : P.follows .mixedOrders = true) (L : Nat) : ∀ n, CallOk P (callV P S L n)
  | 0 => fun f args A v B h => by simp [callV_zero] at h
  | n + 1 => fun f args A v B h => by
    simp only [callV_succ] at h
    split at h
    · rename_i g hg
      exact hS f g hg args A v B h
    · obtain ⟨fn, hf, h⟩ := Option.bind_eq_some_iff.1 h
      obtain ⟨c, hb, h⟩ := Option.bind_eq_some_iff.1 h
      have hf' : P.funcs[f]? = some fn := by simpa using hf
      have hok := List.all_eq_true.1 hP fn (List.mem_of_getElem? hf)
      unfold funcOk at hok
      rw [hb] at hok
      simp only [Bool.and_eq_true, Bool.not_eq_true'] at hok
      exact ⟨⟨fn, hf', by simp [hb], hok.2⟩, fun ρ args' base w hv hs => body_sound (call_sound hS hP hm L n) hm L hf' hb hok.1 h hv hs⟩

/-- the beginning: nothing of the world is told -/
theorem Sim.empty (w : World) : Sim (fun _ => none) St.empty w.heap.size w :=
  ⟨⟨fun b cs esz own kin h => by simp [St.get, St.empty] at h, fun b es h => by simp [St.get, St.empty] at h, fun b s pos h => by simp [St.get, St.empty] at h,
    fun b1 b2 o1 o2 l1 l2 _ h => by simp [St.get, St.empty] at h, fun b o fam f h => by simp [St.get, St.empty] at h⟩, fun b l h => by simp at h, Nat.le_refl _⟩

/-- A LAW WITHOUT ARGUMENTS: if the abstract machine says true, the call returns true, and nothing that was there has turned. -/
theorem closed_law {P : Program} {S : Told} (hS : ToldOk P S) (hP : P.funcs.toList.all funcOk = true) (hm : P.follows .mixedOrders = true) {L n : Nat} {f : FuncId} (h : saysTrue (callV P S L n f [] St.empty) = true) (w : World) :
    Calls P f #[] w fun e w' => e = .returned (.bool true) ∧ RowKit.Below w.heap.size w w' := by
  unfold saysTrue at h
  split at h
  · rename_i b B hc
    subst h
    refine ((call_sound hS hP hm L n _ _ _ _ _ hc).2 _ [] w.heap.size w .nil (.empty w)).mono ?_
    rintro e w' ⟨ρ', v', rfl, hv, hg⟩
    refine ⟨by rw [hv.bool_inv], hg.kept.os, hg.kept.tape, hg.kept.output, hg.kept.size, fun k hk => hg.kept.block k hk ?_⟩
    rintro ⟨b, o, l, ho, _⟩
    simp [St.get, St.empty] at ho
  · simp at h
end
end Go.Abs
