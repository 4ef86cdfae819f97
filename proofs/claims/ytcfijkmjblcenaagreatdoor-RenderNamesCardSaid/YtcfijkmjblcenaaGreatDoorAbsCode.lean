/-
  The abstract machine's code does what the model's does.
-/
import Derived.Test.YtcfijkmjblcenaaGreatDoorAbsDraw6
import Derived.LoopNIn
import Derived.RangeFuncRecord
import Derived.Scope
namespace Go.Abs
noncomputable section
open Go

def EvR (ρ : Ren) (ev ev' : Operand → Value) : Prop := ∀ x, VR ρ (ev x) (ev' x)
theorem EvR.on {ρ : Ren} {ev ev' : Operand → Value} (h : EvR ρ ev ev') (xs : List Operand) : EvOn ρ ev ev' xs := fun x _ => h x

theorem TR.ev {ρ : Ren} {t : Tm} {N : Nat} {a : Act} (h : TR ρ t N a) : EvR ρ (evA t) a.eval := by
  intro x
  cases x with
  | tmp i => exact h.val i
  | const v =>
    simp only [evA, Act.eval]
    cases hf : flat v with
    | true => exact VR.of_flat hf
    | false => simp [VR]
  | global g => exact h.glob.ev g
  | func f => exact VR.mkFunc (l := []) (m := []) (.func f) rfl .nil .nil
theorem TR.mono {ρ ρ' : Ren} {t : Tm} {N : Nat} {a : Act} (h : TR ρ t N a) (hle : ρ.le ρ') : TR ρ' t N a := ⟨h.size, fun i => (h.val i).mono hle, h.none, h.glob.mono hle⟩
theorem TR.put {ρ : Ren} {t : Tm} {N : Nat} {a : Act} {dst : Option Tmp} {v v' : Value} (h : TR ρ t N a) (hd : ∀ d, dst = some d → d < N) (hv : VR ρ v v') : TR ρ (putT t dst v) N (a.put dst v') := by
  cases dst with
  | none => exact h
  | some d =>
    have hd := hd d rfl
    refine ⟨by simp [Act.put, h.size], fun i => ?_, fun i hi => ?_, h.glob⟩
    · simp only [putT, Trie.get_set, Act.put]
      by_cases e : i = d
      · subst e
        have : i < a.tmps.size := by rw [h.size]; exact hd
        simp [Array.getD_eq_getD_getElem?, this, hv]
      · have := h.val i
        simp only [if_neg e]
        simpa [Array.getD_eq_getD_getElem?, Array.getElem?_setIfInBounds_ne (Ne.symm e)] using this
    · simp only [putT, Trie.get_set]
      have hne : i ≠ d := fun e => absurd hi (by rw [e]; exact Nat.not_le_of_lt hd)
      rw [if_neg hne]
      exact h.none i hi
theorem put_defers (a : Act) (dst : Option Tmp) (v : Value) : (a.put dst v).defers = a.defers := by cases dst <;> rfl

theorem wanted_sound {ρ : Ren} {t : Tm} {N : Nat} {a : Act} {all : List Oper} {o : Oper} {wd : Bool} (h : TR ρ t N a) (hw : wantedA all t o.guard = some wd) :
    Region.wanted o (yielded ⟨all⟩ a.tmps) = wd := by
  unfold wantedA at hw
  unfold Region.wanted
  split at hw
  · rename_i hg; simp at hw; rw [hg]; exact hw.symm
  · rename_i j want hg
    rw [hg]
    simp only
    unfold yielded
    have e : (⟨all⟩ : Array Oper)[j]? = all[j]? := by simp
    rw [e]
    cases hd : (all[j]?).bind (·.dst) with
    | none => rw [hd] at hw; simp [isWanted] at hw; subst hw; simp
    | some d =>
      rw [hd] at hw
      simp only [Option.bind_some] at hw ⊢
      have hv := h.val d
      cases ht : t.get d with
      | none =>
        rw [ht] at hw hv
        simp [isWanted] at hw; subst hw
        simp only [Option.getD_none] at hv
        have hu : a.tmps.getD d undef = undef := hv.flat_eq (by simp [undef, flat, flatA, flatL])
        cases hc : a.tmps[d]? with
        | none => simp
        | some u =>
          have : a.tmps.getD d undef = u := by simp [Array.getD_eq_getD_getElem?, hc]
          rw [hu] at this
          subst this
          simp [undef]
      | some v =>
        rw [ht] at hw hv
        simp only [Option.getD_some] at hv
        have hlt : d < N := by
          rcases Nat.lt_or_ge d N with h1 | h1
          · exact h1
          · have := h.none d h1; rw [ht] at this; simp at this
        have hc : a.tmps[d]? = some (a.tmps.getD d undef) := by
          have : d < a.tmps.size := by rw [h.size]; exact hlt
          simp [Array.getD_eq_getD_getElem?, this]
        rw [hc]
        generalize a.tmps.getD d undef = u at hv
        cases v with
        | bool b =>
          simp [isWanted] at hw
          have := hv.bool_inv
          subst this
          subst hw
          cases b <;> cases want <;> rfl
        | tuple cs =>
          simp [isWanted] at hw
          obtain ⟨cs', rfl, _⟩ := hv.tuple_inv
          subst hw
          rfl
        | _ => simp [isWanted] at hw

/-- one operation -/
theorem ins_sound {P : Program} {call : CallF} {rd : Option Nat} (hcall : CallOk P call) {o : Oper} {t : Tm} {A B : St} {v : Value} {N base : Nat} {ρ : Ren} {a : Act} {w : World} {next : Act → World → Prop} {Q : Exit → Act → World → Prop}
    (h : insV call t A (compile P o.op) = some (v, B)) (ht : TR ρ t N a) (hs : Sim ρ A base w)
    (hk : ∀ ρ' v' w', VR ρ' v v' → Goes base ρ A w ρ' B w' → next (a.put o.dst v') w') : o.wpIn (Fr rd) 0 P a w next Q := by
  have hok := compile_ok P o
  have hev := ht.ev
  refine wpIn_of (fun c e => by rw [e] at h; simp [compile, insV] at h) ?_
  generalize compile P o.op = ins at h hok
  cases ins with
  | pure f xs =>
    obtain ⟨u, hu, he⟩ := Option.map_eq_some_iff.1 h
    simp at he
    obtain ⟨rfl, rfl⟩ := he
    obtain ⟨v', h1, h2⟩ := hok ρ _ _ _ (hev.on _) hu
    rw [h2 w]
    exact hk ρ v' w h1 (.refl hs)
  | read f xs =>
    obtain ⟨u, hu, he⟩ := Option.map_eq_some_iff.1 h
    simp at he
    obtain ⟨rfl, rfl⟩ := he
    obtain ⟨v', h1, h2⟩ := hok ρ A base w _ _ _ hs.rel (hev.on _) hu
    rw [h2]
    exact hk ρ v' w h1 (.refl hs)
  | make f xs =>
    obtain ⟨⟨obj, mk⟩, hu, he⟩ := Option.map_eq_some_iff.1 h
    simp at he
    obtain ⟨rfl, rfl⟩ := he
    obtain ⟨c, mk', h1, h2, h3⟩ := hok ρ _ _ _ _ (hev.on _) hu
    rw [h2 w]
    exact hk _ _ _ (h3 _ _ _ (Ren.set_same _ _ _)) (h1.goes hs)
  | act f xs =>
    obtain ⟨ρ', v', nx, w', h1, h2, h3, h4⟩ := hok ρ A B base w _ _ _ hs (hev.on _) h
    rw [h1]
    cases nx with
    | value u =>
      have : u = v' := h2
      subst this
      exact hk ρ' u w' h3 h4
    | skip =>
      have : v' = undef := h2
      subst this
      exact hk ρ' undef w' h3 h4
    | _ => exact h2.elim
  | call f args =>
    obtain ⟨⟨g, vs⟩, hcal, hu⟩ := Option.bind_eq_some_iff.1 h
    exact call_up hok hcall (hev.on _) hcal hu hs hk
  | bad => simp [insV] at h

theorem ops_sound {P : Program} {call : CallF} {rd : Option Nat} (hcall : CallOk P call) {N base : Nat} {Q : Exit → Act → World → Prop} {all : List Oper} (hd : all.all (dstOk N) = true) :
    ∀ (os : List Oper) (k : Nat) (t t' : Tm) (A B : St) (ρ : Ren) (a : Act) (w : World), all.drop k = os → opsV P call all os t A = some (t', B) → TR ρ t N a → Sim ρ A base w →
      (∀ ρ' a' w', TR ρ' t' N a' → a'.defers = a.defers → Goes base ρ A w ρ' B w' → Q .normal a' w') → wpOpsIn (Fr rd) 0 P ⟨all⟩ Q (List.range' k os.length) a w
  | [], k, t, t', A, B, ρ, a, w, _, h, ht, hs, hq => by
    simp only [opsV_nil, Option.some.injEq, Prod.mk.injEq] at h
    obtain ⟨rfl, rfl⟩ := h
    exact hq ρ a w ht rfl (.refl hs)
  | o :: os, k, t, t', A, B, ρ, a, w, hk, h, ht, hs, hq => by
    have ho : (⟨all⟩ : Array Oper)[k]? = some o := by
      have : (all.drop k)[0]? = some o := by rw [hk]; rfl
      rw [List.getElem?_drop] at this
      simpa using this
    have hk' : all.drop (k + 1) = os := by
      rw [← List.drop_drop, hk]
      rfl
    have hdst : ∀ d, o.dst = some d → d < N := by
      intro d e
      have hm : o ∈ all := List.mem_of_getElem? (by simpa using ho)
      have := List.all_eq_true.1 hd o hm
      unfold dstOk at this
      rw [e] at this
      simp only at this
      rw [Nat.blt_eq] at this
      exact this
    rw [List.length_cons, List.range'_succ]
    simp only [wpOpsIn, ho]
    simp only [opsV_cons] at h
    obtain ⟨wd, hwd, h⟩ := Option.bind_eq_some_iff.1 h
    rw [wanted_sound ht hwd]
    cases wd with
    | true =>
      rw [cond_true] at h
      obtain ⟨⟨v, C⟩, h1, h2⟩ := Option.bind_eq_some_iff.1 h
      refine ins_sound hcall h1 ht hs fun ρ' v' w' hv hg => ?_
      refine ops_sound hcall hd os (k + 1) _ _ C B ρ' _ w' hk' h2 ((ht.mono (hg.le hs)).put hdst hv) hg.sim fun ρ'' a'' w'' ht' hdf hg' => ?_
      exact hq ρ'' a'' w'' ht' (by rw [hdf, put_defers]) (hg.trans hg')
    | false =>
      rw [cond_false] at h
      refine ⟨fun _ _ => trivial, ops_sound hcall hd os (k + 1) _ _ A B ρ _ w hk' h (ht.put hdst VR.undef) hs fun ρ'' a'' w'' ht' hdf hg' => ?_⟩
      exact hq ρ'' a'' w'' ht' (by rw [hdf, put_defers]) hg'

def AExit.out : AExit → Exit
  | .normal => .normal
  | .exit id => .exit id
  | .goto l => .goto l
  | .ret => .ret

theorem cond_sound {ρ : Ren} {t : Tm} {N : Nat} {a : Act} {c : Operand} {x : Bool} (ht : TR ρ t N a) (h : evA t c = .bool x) : a.eval c = .bool x := by
  have := ht.ev c
  rw [h] at this
  exact this.bool_inv

/-! ### Marks of loops over functions among the deferred calls -/
def mark (D : Nat) : Deferred := { target := .collected D, args := #[] }
def Defs (n0 : Nat) (a a' : Act) (ρ : Ren) (A : St) (w : World) : Prop :=
  ∃ Ds : List Nat, a'.defers = Ds.map mark ++ a.defers ∧ (∀ D ∈ Ds, n0 ≤ D ∧ w.heap[D]? = some (.deferred (some [])) ∧ ¬ Img ρ A D) ∧ Ds.Nodup
theorem Defs.same {n0 : Nat} {a a' : Act} {ρ : Ren} {A : St} {w : World} (h : a'.defers = a.defers) : Defs n0 a a' ρ A w := ⟨[], by simpa using h, by simp, by simp⟩
theorem Defs.refl (n0 : Nat) (a : Act) (ρ : Ren) (A : St) (w : World) : Defs n0 a a ρ A w := .same rfl
theorem Defs.keep {n0 base : Nat} {a a' : Act} {ρ ρ' : Ren} {A B : St} {w w' : World} (h : Defs n0 a a' ρ A w) (hg : Goes base ρ A w ρ' B w') : Defs n0 a a' ρ' B w' := by
  obtain ⟨Ds, h1, h2, h3⟩ := h
  refine ⟨Ds, h1, fun D hD => ?_, h3⟩
  obtain ⟨h4, h5, h6⟩ := h2 D hD
  have hlt : D < w.heap.size := (Array.getElem?_eq_some_iff.1 h5).1
  exact ⟨h4, by rw [hg.kept.block D hlt h6]; exact h5, fun h => h6 (hg.img D hlt h)⟩
theorem Defs.trans {n0 base : Nat} {a a1 a2 : Act} {ρ1 ρ2 : Ren} {A1 A2 : St} {w1 w2 : World} (h : Defs n0 a a1 ρ1 A1 w1) (hg : Goes base ρ1 A1 w1 ρ2 A2 w2) (hn : n0 ≤ w1.heap.size) (k : Defs w1.heap.size a1 a2 ρ2 A2 w2) : Defs n0 a a2 ρ2 A2 w2 := by
  have hlt : ∀ D ∈ h.choose, D < w1.heap.size := fun D hD => (Array.getElem?_eq_some_iff.1 (h.choose_spec.2.1 D hD).2.1).1
  obtain ⟨h1, h2, h3⟩ := h.choose_spec
  generalize h.choose = Ds at hlt h1 h2 h3
  obtain ⟨Es, k1, k2, k3⟩ := k
  refine ⟨Es ++ Ds, by rw [k1, h1]; simp, fun D hD => ?_, ?_⟩
  · rcases List.mem_append.1 hD with hD | hD
    · obtain ⟨k4, k5, k6⟩ := k2 D hD
      exact ⟨Nat.le_trans hn k4, k5, k6⟩
    · obtain ⟨h4, h5, h6⟩ := h2 D hD
      exact ⟨h4, by rw [hg.kept.block D (hlt D hD) h6]; exact h5, fun h => h6 (hg.img D (hlt D hD) h)⟩
  · rw [List.nodup_append]
    refine ⟨k3, h3, fun D hD E hE e => ?_⟩
    have h7 := (k2 D hD).1
    have h8 := hlt E hE
    omega

/-- what a piece of code does -/
def CodeOk (P : Program) (N : Nat) (c : Code) (f : Tm → St → Option (AExit × Tm × St)) : Prop :=
  ∀ (rd : Option Nat) (t t' : Tm) (A B : St) (e : AExit) (ρ : Ren) (base : Nat) (a : Act) (w : World) (Q : Exit → Act → World → Prop), (rd = none ∨ noRange c = true) → f t A = some (e, t', B) → TR ρ t N a → Sim ρ A base w →
    (∀ ρ' a' w', TR ρ' t' N a' → Defs w.heap.size a a' ρ' B w' → Goes base ρ A w ρ' B w' → Q e.out a' w') → c.wpIn (Fr rd) 0 P Q a w

theorem loop_sound {P : Program} {N : Nat} {c : Code} {f : Tm → St → Option (AExit × Tm × St)} (hf : CodeOk P N c f) :
    ∀ (n : Nat) (rd : Option Nat) (t t' : Tm) (A B : St) (e : AExit) (ρ : Ren) (base : Nat) (a : Act) (w : World) (Q : Exit → Act → World → Prop), (rd = none ∨ noRange c = true) → loopV f n t A = some (e, t', B) → TR ρ t N a → Sim ρ A base w →
    (∀ ρ' a' w', TR ρ' t' N a' → Defs w.heap.size a a' ρ' B w' → Goes base ρ A w ρ' B w' → Q e.out a' w') → Code.roundsIn (Fr rd) 0 P c Q n a w
  | 0, rd, t, t', A, B, e, ρ, base, a, w, Q, hr, h, ht, hs, hq => by simp [loopV_zero] at h
  | n + 1, rd, t, t', A, B, e, ρ, base, a, w, Q, hr, h, ht, hs, hq => by
    rw [roundsIn_succ]
    simp only [loopV_succ, loopStep] at h
    split at h
    · rename_i t1 C h1
      refine hf rd t t1 A C .normal ρ base a w _ hr h1 ht hs fun ρ' a' w' ht' hdf hg => ?_
      refine loop_sound hf n rd t1 t' C B e ρ' base a' w' Q hr h ht' hg.sim fun ρ'' a'' w'' ht'' hdf' hg' => ?_
      exact hq ρ'' a'' w'' ht'' (hdf.trans hg' hg.kept.size hdf') (hg.trans hg')
    · rename_i hne
      refine hf rd t t' A B e ρ base a w _ hr h ht hs fun ρ' a' w' ht' hdf hg => ?_
      have hq' := hq ρ' a' w' ht' hdf hg
      cases e with
      | normal => exact absurd h (hne t' B)
      | exit id => exact hq'
      | goto l => exact hq'
      | ret => exact hq'

/-! ### Scopes -/
section
variable {P : Program} {b : Frame} {a : Act} {k : List Item} {cs : List Frame} {w : World}
theorem stepR_scope {c : Code} : step P (lone (b.atR a (.code (.scope c) :: k)) cs w) = .next (lone (b.atR a (.code c :: .inScope c :: k)) cs w) :=
  step_lone_go (by simp [stepG, stepG.exec, Frame.atR])
theorem stepR_inScope {c : Code} : step P (lone (b.atR a (.inScope c :: k)) cs w) = .next (lone (b.atR a k) cs w) :=
  step_lone_go (by simp [stepG, stepG.exec, Frame.atR])
end
def jumpsN (rd : Option Nat) (P : Program) (c : Code) (Q : Exit → Act → World → Prop) : Nat → Exit → Act → World → Prop
  | 0, .goto _, _, _ => False
  | n + 1, .goto l, a, w => match findLabel c l with
    | some rest => rest.wpIn (Fr rd) 0 P (jumpsN rd P c Q n) a w
    | none => Q (.goto l) a w
  | _, e, a, w => Q e a w
theorem wp_scope_n {rd : Option Nat} {P : Program} {c : Code} {Q : Exit → Act → World → Prop} {a : Act} {w : World} (n : Nat) (h : c.wpIn (Fr rd) 0 P (jumpsN rd P c Q n) a w) : (Code.scope c).wpIn (Fr rd) 0 P Q a w := by
  intro b k cs hro hb hr
  have key : ∀ n e a w, jumpsN rd P c Q n e a w → ∀ m, ArrivesIn (Machine.fenced P (Fr rd)) P m b (.inScope c :: k) cs e a w → ∃ e' a' w', Q e' a' w' ∧ ArrivesIn (Machine.fenced P (Fr rd)) P m b k cs e' a' w' := by
    have hx : ∀ id, exitTo id (.inScope c :: k) = exitTo id k := fun id => by simp [exitTo]
    intro n
    induction n with
    | zero =>
      intro e a w hq m harr
      cases e with
      | normal => exact ⟨.normal, a, w, hq, StepsIn.trans harr (.one (fenced_calm hb hr rfl) stepR_inScope)⟩
      | exit id => exact ⟨.exit id, a, w, hq, fun k' hk => harr.1 k' (by rw [hx]; exact hk), fun hr' hk => harr.2 hr' (by rw [hx]; exact hk)⟩
      | goto l => exact hq.elim
      | ret => exact ⟨_, a, w, hq, harr⟩
      | panic ch => exact ⟨_, a, w, hq, harr⟩
      | outgrown => exact ⟨_, a, w, hq, harr⟩
    | succ n ih =>
      intro e a w hq m harr
      cases e with
      | normal => exact ⟨.normal, a, w, hq, StepsIn.trans harr (.one (fenced_calm hb hr rfl) stepR_inScope)⟩
      | exit id => exact ⟨.exit id, a, w, hq, fun k' hk => harr.1 k' (by rw [hx]; exact hk), fun hr' hk => harr.2 hr' (by rw [hx]; exact hk)⟩
      | goto l =>
        simp only [jumpsN] at hq
        cases hf : findLabel c l with
        | none =>
          rw [hf] at hq
          have hg : gotoIn l (.inScope c :: k) = gotoIn l k := by simp [gotoIn, hf]
          exact ⟨.goto l, a, w, hq, fun k' hk => harr.1 k' (by rw [hg]; exact hk), fun hr' hk => harr.2 hr' (by rw [hg]; exact hk)⟩
        | some rest =>
          rw [hf] at hq
          have hg : gotoIn l (.inScope c :: k) = some (.code rest :: .inScope c :: k) := by simp [gotoIn, hf]
          obtain ⟨e₂, a₂, w₂, hq₂, harr₂⟩ := hq b (.inScope c :: k) cs hro hb hr
          obtain ⟨e₃, a₃, w₃, hq₃, harr₃⟩ := ih e₂ a₂ w₂ hq₂ _ harr₂
          exact ⟨e₃, a₃, w₃, hq₃, .of_steps (harr.1 _ hg) harr₃⟩
      | ret => exact ⟨_, a, w, hq, harr⟩
      | panic ch => exact ⟨_, a, w, hq, harr⟩
      | outgrown => exact ⟨_, a, w, hq, harr⟩
  obtain ⟨e, a₁, w₁, hq, harr⟩ := h b (.inScope c :: k) cs hro hb hr
  obtain ⟨e', a', w', hq', harr'⟩ := key n e a₁ w₁ hq _ harr
  exact ⟨e', a', w', hq', .of_steps (.one (fenced_calm hb hr rfl) stepR_scope) harr'⟩

/-- the code behind a label -/
def FromOk (P : Program) (N : Nat) (c : Code) (l : Nat) : Option (Tm → St → Ran) → Prop
  | some f => ∃ rest, findLabel c l = some rest ∧ (noRange c = true → noRange rest = true) ∧ CodeOk P N rest f
  | none => findLabel c l = none

theorem scope_sound {P : Program} {N : Nat} {c : Code} {jump : Nat → Option (Tm → St → Ran)} (hj : ∀ l, FromOk P N c l (jump l)) {base : Nat} {rd : Option Nat} (hrd : rd = none ∨ noRange c = true) {Q : Exit → Act → World → Prop} :
    ∀ (n : Nat) (r : Ran) (t' : Tm) (A B : St) (e : AExit) (ρ : Ren) (a0 : Act) (w0 : World), scopeV jump n r = some (e, t', B) → Sim ρ A base w0 →
      (∀ ρ' a' w', TR ρ' t' N a' → Defs w0.heap.size a0 a' ρ' B w' → Goes base ρ A w0 ρ' B w' → Q e.out a' w') →
      ∀ t1 C e1, r = some (e1, t1, C) → ∀ ρ1 a1 w1, TR ρ1 t1 N a1 → Defs w0.heap.size a0 a1 ρ1 C w1 → Goes base ρ A w0 ρ1 C w1 → jumpsN rd P c Q n e1.out a1 w1
  | 0, r, t', A, B, e, ρ, a0, w0, h, hs, hq => by simp [scopeV] at h
  | n + 1, r, t', A, B, e, ρ, a0, w0, h, hs, hq => by
    intro t1 C e1 hr ρ1 a1 w1 ht hdf hg
    subst hr
    cases e1 with
    | goto l =>
      simp only [scopeV] at h
      have hjl := hj l
      simp only [AExit.out, jumpsN]
      split at h
      · rename_i f hf
        rw [hf] at hjl
        obtain ⟨rest, h1, h1r, h2⟩ := hjl
        rw [h1]
        simp only
        have hcases : ∃ e2 t2 D, f t1 C = some (e2, t2, D) := by
          cases hfr : f t1 C with
          | none => rw [hfr] at h; cases n <;> simp [scopeV] at h
          | some p => exact ⟨p.1, p.2.1, p.2.2, rfl⟩
        obtain ⟨e2, t2, D, hfr⟩ := hcases
        refine h2 rd t1 t2 C D e2 ρ1 base a1 w1 _ (hrd.imp id h1r) hfr ht hg.sim fun ρ2 a2 w2 ht2 hdf2 hg2 => ?_
        exact scope_sound hj hrd n (f t1 C) t' A B e ρ a0 w0 h hs hq t2 D e2 hfr ρ2 a2 w2 ht2 (hdf.trans hg2 hg.kept.size hdf2) (hg.trans hg2)
      · rename_i hf
        rw [hf] at hjl
        have hjl : findLabel c l = none := hjl
        rw [hjl]
        simp only [Option.some.injEq, Prod.mk.injEq] at h
        obtain ⟨rfl, rfl, rfl⟩ := h
        exact hq ρ1 a1 w1 ht hdf hg
    | normal =>
      simp only [scopeV, Option.some.injEq, Prod.mk.injEq] at h
      obtain ⟨rfl, rfl, rfl⟩ := h
      exact hq ρ1 a1 w1 ht hdf hg
    | exit id =>
      simp only [scopeV, Option.some.injEq, Prod.mk.injEq] at h
      obtain ⟨rfl, rfl, rfl⟩ := h
      exact hq ρ1 a1 w1 ht hdf hg
    | ret =>
      simp only [scopeV, Option.some.injEq, Prod.mk.injEq] at h
      obtain ⟨rfl, rfl, rfl⟩ := h
      exact hq ρ1 a1 w1 ht hdf hg

theorem seq_sound {P : Program} {N : Nat} {x y : Code} {f g : Tm → St → Ran} (hx : CodeOk P N x f) (hy : CodeOk P N y g) : CodeOk P N (.seq x y) fun t A => andThenV (f t A) g := by
  intro rd t t' A B e ρ base a w Q hr h ht hs hq
  have hrx : rd = none ∨ noRange x = true := hr.imp id fun h => (Bool.and_eq_true_iff.1 (by simpa only [noRange] using h)).1
  have hry : rd = none ∨ noRange y = true := hr.imp id fun h => (Bool.and_eq_true_iff.1 (by simpa only [noRange] using h)).2
  refine wpIn_seq ?_
  have h : andThenV (f t A) g = some (e, t', B) := h
  unfold andThenV at h
  split at h
  · rename_i t1 C h1
    refine hx rd t t1 A C .normal ρ base a w _ hrx h1 ht hs fun ρ' a' w' ht' hdf hg => ?_
    refine hy rd t1 t' C B e ρ' base a' w' Q hry h ht' hg.sim fun ρ'' a'' w'' ht'' hdf' hg' => ?_
    exact hq ρ'' a'' w'' ht'' (hdf.trans hg' hg.kept.size hdf') (hg.trans hg')
  · rename_i hne
    refine hx rd t t' A B e ρ base a w _ hrx h ht hs fun ρ' a' w' ht' hdf hg => ?_
    have hq' := hq ρ' a' w' ht' hdf hg
    cases e with
    | normal => exact absurd h (hne t' B)
    | exit id => exact hq'
    | goto l => exact hq'
    | ret => exact hq'

/-! ### Loops over functions -/
theorem World.heap_alloc_old (w : World) (o : Obj) {k : Nat} (h : k < w.heap.size) : (w.alloc o).heap[k]? = w.heap[k]? := RowKit.Below.heap_alloc _ _ _ h
/-- a block that nothing is told of -/
theorem alloc_goes {ρ : Ren} {A : St} {base : Nat} {w : World} (hs : Sim ρ A base w) (o : Obj) : Goes base ρ A w ρ A (w.alloc o) :=
  ⟨⟨.of_obj (fun b o' hg hd => by obtain ⟨l, h1, h2⟩ := hs.rel.obj hg hd; exact ⟨l, h1, h2.keep (Ren.le_refl _) (World.heap_alloc_old _ _ (h2.lt hd)) (by simp)⟩) hs.rel.apart hs.rel.listed, hs.dom, Nat.le_trans hs.size (by simp), hs.glob⟩,
    fun _ _ => rfl, ⟨rfl, rfl, rfl, by simp, fun k hk _ => World.heap_alloc_old _ _ hk⟩, Nat.le_refl _, Nat.le_refl _, fun _ _ _ => rfl, fun _ _ h => h⟩
theorem Sim.img_lt {ρ : Ren} {A : St} {base : Nat} {w : World} (hs : Sim ρ A base w) {k : Nat} (h : Img ρ A k) : k < w.heap.size := by
  obtain ⟨b, o, l, hg, hm, hr, rfl⟩ := h
  have hd : o ≠ .dead := by intro e; subst e; simp [AObj.mine] at hm
  obtain ⟨l2, e, ok⟩ := hs.rel.obj hg hd
  rw [hr] at e; simp at e; subst e
  exact ok.lt hd
/-- a block of ours turns of which nothing is told -/
theorem free_goes {ρ ρ' : Ren} {A B : St} {base D : Nat} {w0 w : World} (hg : Goes base ρ A w0 ρ' B w) (hD : w0.heap.size ≤ D) (hb : base ≤ D) (hn : ¬ Img ρ' B D) (o : Obj) : Goes base ρ A w0 ρ' B (w.putObj D o) := by
  have hfar : ∀ b o' l, B.get b = some o' → o' ≠ .dead → ρ' b = some l → ObjOk ρ' base w l o' → l.cb ≠ D := by
    intro b o' l hgb hd hr ok e
    cases hm : o'.mine with
    | true => exact hn ⟨b, o', l, hgb, hm, hr, e⟩
    | false =>
      cases o' with
      | row cs esz own kin =>
        have ok2 : RowOk ρ' base w l cs esz own kin := ok
        have := ok2.foreign hm
        omega
      | map _ => simp [AObj.mine] at hm
      | iter _ _ => simp [AObj.mine] at hm
      | dead => exact hd rfl
      | loop _ _ _ _ _ _ => simp [AObj.mine] at hm
  refine ⟨⟨.of_obj (fun b o' hgb hd => ?_) hg.sim.rel.apart hg.sim.rel.listed, hg.sim.dom, by simpa using hg.sim.size, hg.sim.glob⟩, hg.ext, ⟨hg.kept.os, hg.kept.tape, hg.kept.output, by simpa using hg.kept.size, fun k hk hnk => ?_⟩, hg.next, hg.low, hg.same, hg.img⟩
  · obtain ⟨l, h1, h2⟩ := hg.sim.rel.obj hgb hd
    exact ⟨l, h1, h2.keep (Ren.le_refl _) (World.putObj_heap_other (hfar b o' l hgb hd h1 h2)) (by simp)⟩
  · rw [World.putObj_heap_other (by omega)]
    exact hg.kept.block k hk hnk
/-- a loop's record turns -/
theorem putLoop_goes {ρ : Ren} {A : St} {base : Nat} {w : World} {r st : Nat} {e : AExit} {t : Tm} {ps : List Nat} {a b : Code} {l : Loc} (hs : Sim ρ A base w) (hg : A.get r = some (.loop st e t ps a b)) (hρ : ρ r = some l)
    (o2 : AObj) (obj : Obj) (hk2 : o2.kin? = none) (hok : o2 ≠ .dead → ObjOk ρ base (w.putObj l.cb obj) l o2) : Goes base ρ A w ρ (A.put r o2) (w.putObj l.cb obj) := by
  obtain ⟨l', hl', ok⟩ := hs.rel.loop _ _ _ _ _ _ _ hg
  rw [hρ] at hl'; simp at hl'; subst hl'
  have hmine : AObj.mine (.loop st e t ps a b) = true := rfl
  have hold : ∀ k, k ≠ l.cb → (w.putObj l.cb obj).heap[k]? = w.heap[k]? := fun k hk => World.putObj_heap_other hk
  have hB : ∀ x, (A.put r o2).get x = if x = r then some o2 else A.get x := fun x => St.get_put _ _ _ _
  have hfar : ∀ x o l2, x ≠ r → A.get x = some o → o ≠ .dead → ρ x = some l2 → ObjOk ρ base w l2 o → l2.cb ≠ l.cb := by
    intro x o l2 hx hgx hd hr2 ok2 e
    cases hmo : o.mine with
    | true =>
      obtain ⟨_, _, _, _, e1, _⟩ := hs.rel.apart x r o _ l2 l hx hgx hg hmo hmine hr2 hρ e
      simp [AObj.kin?] at e1
    | false =>
      cases o with
      | row cs esz own kin =>
        have ok2 : RowOk ρ base w l2 cs esz own kin := ok2
        have h1 : own = false := hmo
        have := ok2.foreign h1
        have := ok.mine
        omega
      | map _ => simp [AObj.mine] at hmo
      | iter _ _ => simp [AObj.mine] at hmo
      | dead => exact hd rfl
      | loop _ _ _ _ _ _ => simp [AObj.mine] at hmo
  refine ⟨⟨.of_obj ?_ ?_ ?_, fun b l2 h => hs.dom b l2 h, by simpa using hs.size, hs.glob⟩, fun _ _ => rfl, ⟨rfl, rfl, rfl, by simp, fun k hk hn => hold k (fun e => hn ⟨r, _, l, hg, hmine, hρ, e.symm⟩)⟩, Nat.le_refl _, Nat.min_le_left _ _, fun x hx hxl => ?_, ?_⟩
  · intro x o hgx hd
    rw [hB] at hgx
    split at hgx
    · rename_i e; subst e; simp at hgx; subst hgx
      exact ⟨l, hρ, hok hd⟩
    · rename_i e
      obtain ⟨l2, hr2, ok2⟩ := hs.rel.obj hgx hd
      exact ⟨l2, hr2, ok2.keep (Ren.le_refl _) (hold _ (hfar x o l2 e hgx hd hr2 ok2)) (by simp)⟩
  · have hto : ∀ x o, (A.put r o2).get x = some o → o.mine = true → ∃ o', A.get x = some o' ∧ o'.mine = true ∧ o'.kin? = o.kin? := by
      intro x o hx hm
      rw [hB] at hx
      split at hx
      · rename_i e; subst e; simp at hx; subst hx; exact ⟨_, hg, rfl, hk2.symm⟩
      · exact ⟨o, hx, hm, rfl⟩
    intro b1 b2 o1 o2 l1 l2 hne g1 g2 m1 m2 r1 r2 hcb
    obtain ⟨p1, q1, n1, k1⟩ := hto _ _ g1 m1
    obtain ⟨p2, q2, n2, k2⟩ := hto _ _ g2 m2
    rw [← k1, ← k2]
    exact hs.rel.apart b1 b2 p1 p2 l1 l2 hne q1 q2 n1 n2 r1 r2 hcb
  · intro x o fam f hgx hk
    rw [hB] at hgx
    split at hgx
    · rename_i e; subst e; simp at hgx; subst hgx; rw [hk2] at hk; simp at hk
    · exact hs.rel.listed x o fam f hgx hk
  · rw [St.low_put] at hxl
    have : Nat.min A.low r ≤ r := Nat.min_le_right _ _
    rw [hB, if_neg (by omega)]
  · rintro k hk ⟨x, o, l2, hgx, hm, hr2, rfl⟩
    rw [hB] at hgx
    split at hgx
    · rename_i e; subst e
      rw [hρ] at hr2; simp at hr2; subst hr2
      exact ⟨x, _, l, hg, hmine, hρ, rfl⟩
    · exact ⟨x, o, l2, hgx, hm, hr2, rfl⟩
/-- what a loop's record says -/
theorem Sim.loop_at {ρ : Ren} {A : St} {base : Nat} {w : World} {r st : Nat} {e : AExit} {t : Tm} {ps : List Nat} {a b : Code} {l : Loc} (hs : Sim ρ A base w) (hg : A.get r = some (.loop st e t ps a b)) (hρ : ρ r = some l) : LoopOk ρ base w l st e t ps a b := by
  obtain ⟨l', hl', ok⟩ := hs.rel.loop _ _ _ _ _ _ _ hg
  rw [hρ] at hl'; simp at hl'; subst hl'
  exact ok
theorem not_dead_loop {st : Nat} {e : AExit} {t : Tm} {ps : List Nat} {a b : Code} : AObj.kin? (.loop st e t ps a b) = none := rfl

theorem range_sound {P : Program} {call : CallF} (hcall : CallOk P call) {N : Nat} {g : Operand} {ps : Array Tmp} {assign body : Code} (hps : ps.toList.all (fun p => Nat.blt p N) = true) (hca : codeOk N assign = true) (hcb : codeOk N body = true) (hna : noRange assign = true) (hnb : noRange body = true) :
    CodeOk P N (.rangeFunc g ps assign body) (rangeV call g ps.toList assign body) := by
  intro rd t t' A B e ρ base a w Q hr h ht hs hq
  have hrd : rd = none := hr.resolve_right (by simp [noRange])
  subst hrd
  unfold rangeV at h
  split at h
  · rename_i f first cap hg
    cases hb : Nat.blt f yB with
    | false => rw [hb] at h; simp at h
    | true =>
      rw [hb, cond_true] at h
      obtain ⟨⟨v, C⟩, h1, h2⟩ := Option.bind_eq_some_iff.1 h
      have hev := ht.ev g
      rw [hg] at hev
      obtain ⟨f', c', fn', hev, hf1, hf2, hfn⟩ := hev.func_inv
      have hfn : fn' = .func f := hfn
      subst hfn
      refine wpIn_rangeFunc fun fn _ => ?_
      obtain ⟨rec, hrec⟩ : ∃ rec : Loop, rec = { state := .ready, pending := none, fn, tmps := a.tmps, params := ps, assign, body, defers := w.heap.size } := ⟨_, rfl⟩
      let l : Loc := ⟨w.heap.size + 1, 0, 0, 0⟩
      have hs0 : Goes base ρ A w ρ A (w.alloc (.deferred (some []))) := alloc_goes hs _
      have hs1 : Goes base ρ A (w.alloc (.deferred (some []))) (ρ.set A.next l) (A.new (.loop 0 .normal t ps.toList assign body)) ((w.alloc (.deferred (some []))).alloc (.loop rec)) := by
        refine new_sound (o := .loop 0 .normal t ps.toList assign body) hs0.sim (fun x => by simp) (fun f x h => by simpa using h) (fun fam f h => by simp [AObj.kin?] at h) (by simp) (by simp) (fun x hx _ => by simp; omega) (by simp [l]) ?_
        refine ⟨Nat.le_trans hs.size (Nat.le_succ _), fn, a.tmps, w.heap.size, N, ?_, ⟨ht.size, fun i => (ht.val i).mono (hs0.sim.le_set _), ht.none, hps, hca, hcb, hna, hnb⟩⟩
        have := World.alloc_heap_new (w.alloc (.deferred (some []))) (.loop rec)
        rw [World.size_alloc] at this
        rw [hrec] at this
        simpa [l, loopState, AExit.code, hrec] using this
      have hmark : Defs w.heap.size a { a with defers := [mark w.heap.size] ++ a.defers } ρ A (w.alloc (.deferred (some []))) :=
        ⟨[w.heap.size], rfl, fun D hD => by
          rw [List.mem_singleton] at hD; subst hD
          exact ⟨Nat.le_refl _, World.alloc_heap_new w _, fun hi => absurd (hs.img_lt hi) (Nat.lt_irrefl _)⟩, by simp⟩
      have hargs : VRL (ρ.set A.next l) (first.toList ++ [Value.func (.yield A.next) ⟨[]⟩ ⟨[]⟩] ++ cap.toList) (f'.toList ++ [Value.func (.yield (w.heap.size + 1)) #[] #[]] ++ c'.toList) := by
        have hle := hs0.sim.le_set l
        refine VRL.append (VRL.append (hf1.mono hle) (.cons ?_ .nil)) (hf2.mono hle)
        simp only [VR]
        exact ⟨#[], #[], by simp [VRA, VRL], by simp [VRA, VRL], .yield (w.heap.size + 1), ⟨l, Ren.set_same _ _ _, rfl⟩, rfl⟩
      obtain ⟨hfn, hc⟩ := hcall _ _ _ _ _ h1
      obtain ⟨fnf, h4, h5, h6⟩ := hfn hb
      have hbn : fnf.body.isNone = false := by simpa using h5
      have hh : ¬(fnf.name = "runtime.NumGoroutine") := by simpa using h6
      have hcalls := (hc _ _ base _ hargs hs1.sim).1 hb
      refine ⟨w.heap.size + 1, [mark w.heap.size], (w.alloc (.deferred (some []))).alloc (.loop rec), { target := .fn (.func f) c', args := f' ++ #[.func (.yield (w.heap.size + 1)) #[] #[]] }, (w.alloc (.deferred (some []))).alloc (.loop rec), f,
        (f'.toList ++ [Value.func (.yield (w.heap.size + 1)) #[] #[]] ++ c'.toList).toArray, (w.alloc (.deferred (some []))).alloc (.loop rec), ?_, ?_, fun _ _ => trivial, ?_, fun h => by simp [Fence.wide] at h, ?_⟩
      · rw [hrec]; exact run_enterLoop_outer _ _ _ _ _
      · simp only [resolve, Deferred.ofValue, hev, Sem.run_pure]
        simp [Act.eval]
      · simp only [invoke, callFunc, Sem.run_bind, Result.andThen_ok, run_program, h4]
        simp [hh, hbn]
      · refine CallsIn.mono (F := Fr none) (n := 0) (R := fun e w' => ∃ ρ' v', e = .returned v' ∧ VR ρ' v v' ∧ Goes base (ρ.set A.next l) (A.new (.loop 0 .normal t ps.toList assign body)) ((w.alloc (.deferred (some []))).alloc (.loop rec)) ρ' C w') ((callsIn_wide (n := 0)).2 hcalls) ?_
        rintro ee w' ⟨ρ', v', rfl, hv', hg'⟩
        have hl' : ρ' A.next = some l := by rw [hg'.ext A.next (by simp)]; exact Ren.set_same _ _ _
        have hall := (hs0.trans hs1).trans hg'
        have ht' : TR ρ' t N { a with defers := [mark w.heap.size] ++ a.defers } := ⟨ht.size, fun i => (ht.val i).mono (hall.le hs), ht.none, ht.glob.mono (hall.le hs)⟩
        have hmark' := (hmark.keep hs1).keep hg'
        have fin : ∀ {st : Nat} {e0 : AExit} {t0 : Tm} {ps0 : List Nat} {a0 b0 : Code}, C.get A.next = some (.loop st e0 t0 ps0 a0 b0) → st ≠ 1 → ∃ w4, (Instr.endLoop (w.heap.size + 1)).run P w' = .ok e0.code w4 ∧ Goes base ρ' C w' ρ' (C.put A.next .dead) w4 := by
          intro st e0 t0 ps0 a0 b0 hget hst
          obtain ⟨fn2, tmps2, D2, N2, h7, _⟩ := (hg'.sim.loop_at hget hl').lies
          refine ⟨_, run_endLoop (l := w.heap.size + 1) h7 (by cases st with | zero => simp [loopState] | succ n => cases n with | zero => exact absurd rfl hst | succ n => simp [loopState]), ?_⟩
          exact putLoop_goes hg'.sim hget hl' .dead _ rfl (fun h => absurd rfl h)
        unfold endLoopV at h2
        split at h2
        · rename_i hget
          simp only [Option.some.injEq, Prod.mk.injEq] at h2
          obtain ⟨rfl, rfl, rfl⟩ := h2
          obtain ⟨w4, h7, h8⟩ := fin hget (by simp)
          exact ⟨_, w4, h7, hq ρ' _ w4 ht' (hmark'.keep h8) (hall.trans h8)⟩
        · rename_i e0 _ _ _ _ hget
          simp only [Option.some.injEq, Prod.mk.injEq] at h2
          obtain ⟨rfl, rfl, rfl⟩ := h2
          obtain ⟨w4, h7, h8⟩ := fin hget (by simp)
          have hq' := hq ρ' _ w4 ht' (hmark'.keep h8) (hall.trans h8)
          refine ⟨_, w4, h7, ?_⟩
          cases e0 with
          | normal => exact hq'
          | exit id => exact wpIn_exit hq'
          | goto l => exact wpIn_goto hq'
          | ret => exact wpIn_ret hq'
        · simp at h2
  · simp at h

mutual
theorem code_sound {P : Program} {call : CallF} (hcall : CallOk P call) (hm : P.follows .mixedOrders = true) (L N : Nat) : ∀ (c : Code), codeOk N c = true → CodeOk P N c (codeV P call L c)
  | .skip, _ => by
    intro rd t t' A B e ρ base a w Q hr h ht hs hq
    simp only [codeV_skip, Option.some.injEq, Prod.mk.injEq] at h
    obtain ⟨rfl, rfl, rfl⟩ := h
    exact wpIn_skip (hq ρ a w ht (.refl _ _ _ _ _) (.refl hs))
  | .ret, _ => by
    intro rd t t' A B e ρ base a w Q hr h ht hs hq
    simp only [codeV_ret, Option.some.injEq, Prod.mk.injEq] at h
    obtain ⟨rfl, rfl, rfl⟩ := h
    exact wpIn_ret (hq ρ a w ht (.refl _ _ _ _ _) (.refl hs))
  | .exit id, _ => by
    intro rd t t' A B e ρ base a w Q hr h ht hs hq
    simp only [codeV_exit, Option.some.injEq, Prod.mk.injEq] at h
    obtain ⟨rfl, rfl, rfl⟩ := h
    exact wpIn_exit (hq ρ a w ht (.refl _ _ _ _ _) (.refl hs))
  | .region id ops false, hc => by
    intro rd t t' A B e ρ base a w Q hr h ht hs hq
    simp only [codeV_ops] at h
    obtain ⟨⟨t1, C⟩, h1, he⟩ := Option.map_eq_some_iff.1 h
    simp at he
    obtain ⟨rfl, rfl, rfl⟩ := he
    refine wpIn_region ?_
    have := ops_sound (rd := rd) (Q := Q) hcall (N := N) (all := ops.toList) hc ops.toList 0 t t1 A C ρ a w (by simp) h1 ht hs fun ρ' a' w' h1 h2 h3 => hq ρ' a' w' h1 (.same h2) h3
    rw [List.range_eq_range']
    simpa using this
  | .region id ops true, hc => by
    intro rd t t' A B e ρ base a w Q hr h ht hs hq
    simp only [codeV_drawn] at h
    obtain ⟨⟨t1, C⟩, h1, he⟩ := Option.map_eq_some_iff.1 h
    simp at he
    obtain ⟨rfl, rfl, rfl⟩ := he
    cases hqv : quietV P ops.toList with
    | true => rw [hqv, cond_true] at h1; exact quiet_sound (all := ops.toList) hcall hm hc hqv h1 ht hs fun ρ' a' w' h1 h2 h3 => hq ρ' a' w' h1 (.same h2) h3
    | false =>
      rw [hqv, cond_false] at h1
      cases hov : orderedV P ops.toList with
      | true => rw [hov, cond_true] at h1; exact ordered_sound (all := ops.toList) hcall hm hc hov h1 ht hs fun ρ' a' w' h1 h2 h3 => hq ρ' a' w' h1 (.same h2) h3
      | false => rw [hov, cond_false] at h1; exact drawn_sound (all := ops.toList) hcall hm hc h1 ht hs fun ρ' a' w' h1 h2 h3 => hq ρ' a' w' h1 (.same h2) h3
  | .seq x y, hc => by
    simp only [codeOk, Bool.and_eq_true] at hc
    have := seq_sound (code_sound hcall hm L N x hc.1) (code_sound hcall hm L N y hc.2)
    intro rd t t' A B e ρ base a w Q hr h ht hs hq
    simp only [codeV_seq] at h
    exact this rd t t' A B e ρ base a w Q hr h ht hs hq
  | .cond c x y, hc => by
    simp only [codeOk, Bool.and_eq_true] at hc
    intro rd t t' A B e ρ base a w Q hr h ht hs hq
    simp only [codeV_cond] at h
    split at h
    · rename_i b hb
      have hb := cond_sound ht hb
      cases b with
      | true => exact wpIn_cond_true hb (code_sound hcall hm L N x hc.1 rd t t' A B e ρ base a w Q (hr.imp id fun h => (Bool.and_eq_true_iff.1 (by simpa only [noRange] using h)).1) h ht hs hq)
      | false => exact wpIn_cond_false hb (code_sound hcall hm L N y hc.2 rd t t' A B e ρ base a w Q (hr.imp id fun h => (Bool.and_eq_true_iff.1 (by simpa only [noRange] using h)).2) h ht hs hq)
    · simp at h
  | .block id x, hc => by
    have hc : codeOk N x = true := hc
    intro rd t t' A B e ρ base a w Q hr h ht hs hq
    simp only [codeV_block] at h
    refine wpIn_block ?_
    split at h
    · rename_i id' t1 C h1
      refine code_sound hcall hm L N x hc rd t t1 A C (.exit id') ρ base a w _ hr h1 ht hs fun ρ' a' w' ht' hdf hg => ?_
      cases hb : Nat.beq id' id with
      | true =>
        rw [hb, cond_true] at h
        simp only [Option.some.injEq, Prod.mk.injEq] at h
        obtain ⟨rfl, rfl, rfl⟩ := h
        have := Nat.eq_of_beq_eq_true hb
        simp only [AExit.out, Exit.inBlock, if_pos this]
        exact hq ρ' a' w' ht' hdf hg
      | false =>
        rw [hb, cond_false] at h
        simp only [Option.some.injEq, Prod.mk.injEq] at h
        obtain ⟨rfl, rfl, rfl⟩ := h
        have := Nat.ne_of_beq_eq_false hb
        simp only [AExit.out, Exit.inBlock, if_neg this]
        exact hq ρ' a' w' ht' hdf hg
    · rename_i hne
      refine code_sound hcall hm L N x hc rd t t' A B e ρ base a w _ hr h ht hs fun ρ' a' w' ht' hdf hg => ?_
      have hq' := hq ρ' a' w' ht' hdf hg
      cases e with
      | normal => exact hq'
      | exit id' => exact absurd h (hne id' t' B)
      | goto l => exact hq'
      | ret => exact hq'
  | .loop x, hc => by
    have hc : codeOk N x = true := hc
    intro rd t t' A B e ρ base a w Q hr h ht hs hq
    simp only [codeV_loop] at h
    exact wpIn_loop_rounds L (loop_sound (code_sound hcall hm L N x hc) L rd t t' A B e ρ base a w Q hr h ht hs hq)
  | .label l, _ => by
    intro rd t t' A B e ρ base a w Q hr h ht hs hq
    simp only [codeV_label, Option.some.injEq, Prod.mk.injEq] at h
    obtain ⟨rfl, rfl, rfl⟩ := h
    exact wpIn_label (hq ρ a w ht (.refl _ _ _ _ _) (.refl hs))
  | .goto l, _ => by
    intro rd t t' A B e ρ base a w Q hr h ht hs hq
    simp only [codeV_goto, Option.some.injEq, Prod.mk.injEq] at h
    obtain ⟨rfl, rfl, rfl⟩ := h
    exact wpIn_goto (hq ρ a w ht (.refl _ _ _ _ _) (.refl hs))
  | .scope x, hc => by
    have hc : codeOk N x = true := hc
    intro rd t t' A B e ρ base a w Q hr h ht hs hq
    simp only [codeV_scope] at h
    refine wp_scope_n L ?_
    have hcases : ∃ e2 t2 D, codeV P call L x t A = some (e2, t2, D) := by
      cases hfr : codeV P call L x t A with
      | none => rw [hfr] at h; cases L <;> simp [scopeV] at h
      | some p => exact ⟨p.1, p.2.1, p.2.2, rfl⟩
    obtain ⟨e2, t2, D, hfr⟩ := hcases
    refine code_sound hcall hm L N x hc rd t t2 A D e2 ρ base a w _ hr hfr ht hs fun ρ2 a2 w2 ht2 hdf2 hg2 => ?_
    exact scope_sound (fun l => from_sound hcall hm L N x hc l) hr L _ t' A B e ρ a w h hs hq t2 D e2 hfr ρ2 a2 w2 ht2 hdf2 hg2
  | .rangeFunc g ps x y, hc => by
    simp only [codeOk, Bool.and_eq_true] at hc
    intro rd t t' A B e ρ base a w Q hr h ht hs hq
    simp only [codeV_rangeFunc] at h
    cases hn : (noRange x && noRange y) with
    | false => rw [hn, cond_false] at h; simp [noRan] at h
    | true =>
      rw [hn, cond_true] at h
      obtain ⟨hn1, hn2⟩ := Bool.and_eq_true_iff.1 hn
      exact range_sound hcall hc.1 hc.2.1 hc.2.2 hn1 hn2 rd t t' A B e ρ base a w Q hr h ht hs hq
  | .refuse _, _ => by
    intro rd t t' A B e ρ base a w Q hr h ht hs hq
    simp [codeV_refuse] at h
theorem from_sound {P : Program} {call : CallF} (hcall : CallOk P call) (hm : P.follows .mixedOrders = true) (L N : Nat) : ∀ (c : Code), codeOk N c = true → ∀ l, FromOk P N c l (fromV P call L c l)
  | .seq x y, hc, l => by
    simp only [codeOk, Bool.and_eq_true] at hc
    have hx := from_sound hcall hm L N x hc.1 l
    have hy := from_sound hcall hm L N y hc.2 l
    simp only [fromV_seq]
    cases hf : fromV P call L x l with
    | some f =>
      rw [hf] at hx
      obtain ⟨rest, h1, h1r, h2⟩ := hx
      exact ⟨.seq rest y, by simp [findLabel, h1], fun h => by simp only [noRange, Bool.and_eq_true] at h ⊢; exact ⟨h1r h.1, h.2⟩, seq_sound h2 (code_sound hcall hm L N y hc.2)⟩
    | none =>
      rw [hf] at hx
      have hx : findLabel x l = none := hx
      simp only
      cases hg : fromV P call L y l with
      | some f =>
        rw [hg] at hy
        obtain ⟨rest, h1, h1r, h2⟩ := hy
        exact ⟨rest, by simp [findLabel, hx, h1], fun h => h1r (Bool.and_eq_true_iff.1 (by simpa only [noRange] using h)).2, h2⟩
      | none =>
        rw [hg] at hy
        have hy : findLabel y l = none := hy
        show findLabel (.seq x y) l = none
        simp [findLabel, hx, hy]
  | .label l', _, l => by
    simp only [fromV_label]
    cases hb : (l' == l) with
    | true =>
      rw [cond_true]
      refine ⟨.skip, by simp [findLabel, hb], fun _ => rfl, ?_⟩
      intro rd t t' A B e ρ base a w Q hr h ht hs hq
      simp only [Option.some.injEq, Prod.mk.injEq] at h
      obtain ⟨rfl, rfl, rfl⟩ := h
      exact wpIn_skip (hq ρ a w ht (.refl _ _ _ _ _) (.refl hs))
    | false =>
      rw [cond_false]
      show findLabel (.label l') l = none
      simp [findLabel, hb]
  | .skip, _, _ | .ret, _, _ | .exit _, _, _ | .goto _, _, _ | .region _ _ _, _, _ | .cond _ _ _, _, _ | .block _ _, _, _ | .loop _, _, _ | .scope _, _, _ | .rangeFunc _ _ _ _, _, _ | .refuse _, _, _ => by
    first | rfl | (rw [fromV_cond]; rfl) | simp [FromOk, findLabel]
end

theorem argTmps_get : ∀ (l : List Value) (i k : Nat) (t : Tm), (argTmps l i t).get k = if i ≤ k ∧ k < i + l.length then l[k - i]? else t.get k
  | [], i, k, t => by
    rw [argTmps, if_neg]
    simp
  | v :: l, i, k, t => by
    rw [argTmps, argTmps_get l (i + 1) k, Trie.get_set]
    by_cases h1 : k = i
    · subst h1
      rw [if_neg (by omega), if_pos rfl, if_pos (by simp)]
      simp
    · by_cases h2 : i + 1 ≤ k ∧ k < i + 1 + l.length
      · rw [if_pos h2, if_pos (by simp; omega), show k - i = (k - (i + 1)) + 1 by omega]
        simp
      · rw [if_neg h2, if_neg h1, if_neg (by simp; omega)]

def resOne (a : Act) : ResultVar → Sem Value
  | .tmp t => pure (a.tmps.getD t undef)
  | .cell ad ty => do loadVar ty (← asAddr (a.tmps.getD ad undef))
theorem results_eq (fn : Func) (a : Act) : results fn a.tmps = (do let vs ← fn.results.mapM (resOne a); pure (if h : vs.size = 1 then vs[0] else .tuple vs)) := by
  unfold results
  congr 1
theorem results_sound {P : Program} {ρ : Ren} {A : St} {base N : Nat} {w : World} {t : Tm} {a : Act} (hs : Sim ρ A base w) (ht : TR ρ t N a) : ∀ (rs : List ResultVar) (vs : List Value), resultsA P A t rs = some vs →
    ∃ vs', VRL ρ vs vs' ∧ (rs.mapM (resOne a)).run P w = Result.ok vs' w
  | [], vs, h => by simp [resultsA] at h; subst h; exact ⟨[], .nil, by simp⟩
  | .tmp x :: rs, vs, h => by
    simp only [resultsA] at h
    obtain ⟨us, hu, rfl⟩ := Option.map_eq_some_iff.1 h
    obtain ⟨us', h1, h2⟩ := results_sound hs ht rs us hu
    refine ⟨_ :: us', .cons (ht.ev (.tmp x)) h1, ?_⟩
    simp [List.mapM_cons, h2, Act.eval, resOne]
  | .cell x ty :: rs, vs, h => by
    simp only [resultsA] at h
    obtain ⟨v, hv, h⟩ := Option.bind_eq_some_iff.1 h
    obtain ⟨us, hu, rfl⟩ := Option.map_eq_some_iff.1 h
    obtain ⟨us', h1, h2⟩ := results_sound hs ht rs us hu
    obtain ⟨ad, h3, v', h4, h5⟩ := loadAt_sound (P := P) hs.rel (ht.ev (.tmp x)) hv
    refine ⟨v' :: us', .cons h4 h1, ?_⟩
    have h3 : a.tmps.getD x undef = .pointer (some ad) := h3
    simp only [List.mapM_cons, Sem.run_bind, resOne, h3, asAddr, Sem.run_pure, Result.andThen_ok, h5, h2]

theorem Goes.leave {base : Nat} {ρ ρ' : Ren} {A B : St} {w w' : World} {v v' : Value} (hs : Sim ρ A base w) (h : Goes base ρ A.enter w ρ' B w') (hv : VR ρ' v v') :
    ∃ ρ'', VR ρ'' v v' ∧ Goes base ρ A w ρ'' (A.leave B v) w' := by
  have himg : ∀ k, Img ρ A.enter k ↔ Img ρ A k := fun k => Iff.rfl
  rw [St.leave_eq]
  cases hc : (flat v && Nat.ble A.next B.low) with
  | true =>
    rw [cond_true]
    obtain ⟨hf, hl⟩ := Bool.and_eq_true_iff.1 hc
    have hl : A.next ≤ B.low := Nat.le_of_ble_eq_true hl
    have hget : ∀ b o, A.get b = some o → o ≠ .dead → b < A.next := fun b o hg hd => by
      obtain ⟨l, e, _⟩ := hs.rel.obj hg hd
      exact hs.dom _ _ e
    have hsame : ∀ b, b < A.next → B.get b = A.get b := fun b hb => h.same b hb (by omega)
    have hext : ∀ b, b < A.next → ρ' b = ρ b := h.ext
    refine ⟨ρ, by rw [hv.flat_eq hf]; exact VR.of_flat hf, ?_⟩
    refine ⟨⟨.of_obj ?_ hs.rel.apart hs.rel.listed, hs.dom, Nat.le_trans hs.size h.kept.size, hs.glob⟩, fun _ _ => rfl, ⟨h.kept.os, h.kept.tape, h.kept.output, h.kept.size, fun k hk hn => h.kept.block k hk hn⟩, Nat.le_refl _, Nat.le_refl _, fun _ _ _ => rfl, fun _ _ hk => hk⟩
    intro b o hg hd
    have hb := hget b o hg hd
    obtain ⟨l, e, ok⟩ := h.sim.rel.obj (b := b) (o := o) (by rw [hsame b hb]; exact hg) hd
    refine ⟨l, by rw [← hext b hb]; exact e, ?_⟩
    -- what is told under ρ' is told under ρ: the cells were related under ρ already, and hold what they held as abstract values
    obtain ⟨l0, e0, ok0⟩ := hs.rel.obj hg hd
    have hll : l = l0 := by rw [hext b hb, e0] at e; simpa using e.symm
    subst hll
    exact ObjOk.back (h.le ⟨hs.rel, hs.dom, hs.size, hs.glob⟩) ok0 ok
  | false =>
    rw [cond_false]
    refine ⟨ρ', hv, ⟨h.sim.rel, h.sim.dom, h.sim.size, h.sim.glob⟩, h.ext, ⟨h.kept.os, h.kept.tape, h.kept.output, h.kept.size, h.kept.block⟩, h.next, Nat.min_le_left _ _, fun b hb hl => ?_, h.img⟩
    exact h.same b hb (Nat.lt_of_lt_of_le hl (Nat.min_le_right _ _))

theorem codeOk_mono {n m : Nat} (h : n ≤ m) : ∀ (c : Code), codeOk n c = true → codeOk m c = true
  | .region id ops d, hc => by
    simp only [codeOk, List.all_eq_true] at hc ⊢
    intro o ho
    have := hc o ho
    unfold dstOk at this ⊢
    split at this
    · rename_i d e
      rw [Nat.blt_eq] at this ⊢
      omega
    · rfl
  | .seq a b, hc => by simp only [codeOk, Bool.and_eq_true] at hc ⊢; exact ⟨codeOk_mono h a hc.1, codeOk_mono h b hc.2⟩
  | .cond _ a b, hc => by simp only [codeOk, Bool.and_eq_true] at hc ⊢; exact ⟨codeOk_mono h a hc.1, codeOk_mono h b hc.2⟩
  | .block _ a, hc => codeOk_mono h a hc
  | .loop a, hc => codeOk_mono h a hc
  | .rangeFunc _ ps a b, hc => by
    simp only [codeOk, Bool.and_eq_true, List.all_eq_true, Nat.blt_eq] at hc ⊢
    exact ⟨fun p hp => Nat.lt_of_lt_of_le (hc.1 p hp) h, codeOk_mono h a hc.2.1, codeOk_mono h b hc.2.2⟩
  | .scope a, hc => codeOk_mono h a hc
  | .skip, _ | .exit _, _ | .label _, _ | .goto _, _ | .ret, _ | .refuse _, _ => rfl
/-- the marks are shut on the way out -/
theorem leaves_marks {P : Program} {fn : Func} {tmps : Array Value} {R : Ending → World → Prop} {ρ ρ' : Ren} {A B : St} {base : Nat} {w0 : World} :
    ∀ (Ds : List Nat) {w : World}, (∀ D ∈ Ds, w0.heap.size ≤ D ∧ base ≤ D ∧ w.heap[D]? = some (.deferred (some [])) ∧ ¬ Img ρ' B D) → Ds.Nodup → Goes base ρ A w0 ρ' B w →
      (∀ w', Goes base ρ A w0 ρ' B w' → LeavesIn Fence.wide 0 P fn tmps R [] .returning w') → LeavesInM Fence.wide 0 P fn tmps R (Ds.map mark) .returning w
  | [], w, _, _, hg, h => h w hg
  | D :: Ds, w, hD, hn, hg, h => by
    obtain ⟨h1, h2, h3, h4⟩ := hD D (by simp)
    rw [List.nodup_cons] at hn
    refine ⟨by simp, .inl ⟨D, w.putObj D (.deferred none), rfl, run_takeDeferred h3, leaves_marks Ds (fun E hE => ?_) hn.2 (free_goes hg h1 h2 h4 _) h⟩⟩
    obtain ⟨k1, k2, k3, k4⟩ := hD E (by simp [hE])
    exact ⟨k1, k2, by rw [World.putObj_heap_other (fun e => hn.1 (by rw [← e]; exact hE))]; exact k3, k4⟩
theorem body_sound {P : Program} {call : CallF} (hcall : CallOk P call) (hm : P.follows .mixedOrders = true) (L : Nat) {f : FuncId} {fn : Func} {c : Code} {args : List Value} {A B : St} {v : Value} (hf : P.funcs[f]? = some fn) (hb : fn.body = some c) (hok : codeOk fn.ntmps c = true)
    (h : bodyV P call L fn args A c = some (v, B)) {ρ : Ren} {args' : List Value} {base : Nat} {w : World} (hv : VRL ρ args args') (hs : Sim ρ A base w) :
    Calls P f args'.toArray w fun e w' => ∃ ρ' v', e = .returned v' ∧ VR ρ' v v' ∧ Goes base ρ A w ρ' B w' := by
  refine callsIn_wide.1 (callsIn_of_wp_marks (F := Fence.wide) (n := 0) hf hb trivial ?_)
  have hlen : args'.length = args.length := hv.length
  have hs' : Sim ρ A.enter base w := ⟨hs.rel, hs.dom, hs.size, hs.glob⟩
  -- the frame at the beginning
  have ht : TR ρ (argTmps args 0 .leaf) (max fn.ntmps args.length) { tmps := args'.toArray ++ Array.replicate (fn.ntmps - args'.toArray.size) undef, defers := [] } := by
    have hsz : (args'.toArray ++ Array.replicate (fn.ntmps - args'.toArray.size) undef).size = max fn.ntmps args.length := by
      simp [hlen]
      omega
    refine ⟨hsz, fun i => ?_, fun i hi => ?_, hs.glob⟩
    · rw [argTmps_get]
      simp only [Nat.zero_le, true_and, Nat.zero_add, Nat.sub_zero, Trie.get_leaf]
      by_cases hi : i < args.length
      · rw [if_pos hi]
        obtain ⟨u, hu⟩ : ∃ u, args[i]? = some u := ⟨_, List.getElem?_eq_getElem hi⟩
        obtain ⟨u', h1, h2⟩ := hv.get hu
        rw [hu]
        have : (args'.toArray ++ Array.replicate (fn.ntmps - args'.toArray.size) undef).getD i undef = u' := by
          rw [Array.getD_eq_getD_getElem?, Array.getElem?_append_left (by simpa [hlen] using hi)]
          simp [h1]
        rw [this]
        exact h2
      · rw [if_neg hi]
        have : (args'.toArray ++ Array.replicate (fn.ntmps - args'.toArray.size) undef).getD i undef = undef := by
          rw [Array.getD_eq_getD_getElem?, Array.getElem?_append_right (by simpa [hlen] using hi)]
          rw [Array.getElem?_replicate]
          split <;> rfl
        rw [this]
        exact VR.undef
    · rw [argTmps_get, if_neg, Trie.get_leaf]
      simp only [Nat.zero_le, true_and, Nat.zero_add]
      have := Nat.le_max_right fn.ntmps args.length
      omega
  have hok' : codeOk (max fn.ntmps args.length) c = true := codeOk_mono (Nat.le_max_left _ _) c hok
  rw [bodyV_eq] at h
  split at h
  · simp at h
  · simp at h
  · rename_i e t B' hne hne2 hc
    obtain ⟨vs, hr, he⟩ := Option.map_eq_some_iff.1 h
    simp at he
    obtain ⟨rfl, rfl⟩ := he
    refine code_sound hcall hm L _ c hok' none _ _ _ _ _ ρ base _ w _ (.inl rfl) hc ht hs' fun ρ' a' w' ht' hdf hg => ?_
    obtain ⟨Ds, hD1, hD2, hD3⟩ := hdf
    have hD1 : a'.defers = Ds.map mark := by simpa using hD1
    have hleave : LeavesInM Fence.wide 0 P fn a'.tmps (fun e w' => ∃ ρ' v', e = .returned v' ∧ VR ρ' (packResults vs) v' ∧ Goes base ρ A w ρ' (A.leave B' (packResults vs)) w') a'.defers .returning w' := by
      rw [hD1]
      refine leaves_marks Ds (fun D hD => ⟨(hD2 D hD).1, Nat.le_trans hs.size (hD2 D hD).1, (hD2 D hD).2⟩) hD3 hg fun w' hg => ?_
      obtain ⟨vs', h1, h2⟩ := results_sound (P := P) hg.sim ht' _ _ hr
      have hpack : VR ρ' (packResults vs) (if h : vs'.toArray.size = 1 then vs'.toArray[0] else .tuple vs'.toArray) := by
        cases vs with
        | nil => rw [h1.nil_inv]; exact VR.mkTuple .nil
        | cons x xs =>
          obtain ⟨y, ys, rfl, h3, h4⟩ := h1.cons_inv
          cases xs with
          | nil => rw [h4.nil_inv]; exact h3
          | cons x2 xs2 =>
            obtain ⟨y2, ys2, rfl, h5, h6⟩ := h4.cons_inv
            rw [dif_neg (by simp)]
            exact VR.mkTuple (.cons h3 (.cons h5 h6))
      obtain ⟨ρ'', h3, h4⟩ := hg.leave hs hpack
      have hres : (results fn a'.tmps).run P w' = .ok (if h : vs'.toArray.size = 1 then vs'.toArray[0] else .tuple vs'.toArray) w' := by
        rw [results_eq, Sem.run_bind, Array.mapM_eq_mapM_toList, Sem.run_map, h2]
        rfl
      exact ⟨_, hres, ρ'', _, rfl, h3, h4⟩
    cases e with
    | normal => exact hleave
    | ret => exact hleave
    | exit id => exact (hne id rfl).elim
    | goto l => exact (hne2 l rfl).elim
  · simp at h

/-! ### A round -/
theorem setPs_tr {ρ : Ren} {N : Nat} : ∀ (ps : List Nat) (vs vs' : List Value) (t : Tm) (tmps : Array Value), ps.all (fun p => Nat.blt p N) = true → VRL ρ vs vs' → TR ρ t N { tmps := tmps, defers := [] } →
    TR ρ (setPs ps vs t) N { tmps := (ps.zip vs').foldl (fun t (p, v) => t.setIfInBounds p v) tmps, defers := [] }
  | [], vs, vs', t, tmps, _, _, h => by simpa [setPs] using h
  | p :: ps, [], vs', t, tmps, _, hv, h => by rw [hv.nil_inv]; simpa [setPs] using h
  | p :: ps, v :: vs, vs', t, tmps, hp, hv, h => by
    obtain ⟨v', ws', rfl, h1, h2⟩ := hv.cons_inv
    rw [List.all_cons, Bool.and_eq_true, Nat.blt_eq] at hp
    simp only [setPs, List.zip_cons_cons, List.foldl_cons]
    refine setPs_tr ps vs ws' (t.set v p) (tmps.setIfInBounds p v') hp.2 h2 ?_
    have := h.put (dst := some p) (fun d e => by have e : p = d := Option.some.inj e; rw [← e]; exact hp.1) h1
    exact this
theorem round_sound {P : Program} {call : CallF} (hcall : CallOk P call) (hm : P.follows .mixedOrders = true) (L : Nat) {l : Nat} {args : List Value} {A B : St} {v : Value} (h : roundV (fun c t A => codeV P call L c t A) l args A = some (v, B))
    {ρ : Ren} {args' : List Value} {base : Nat} {w : World} (hv : VRL ρ args args') (hs : Sim ρ A base w) {loc : Loc} (hl : ρ l = some loc) :
    Round P loc.cb args'.toArray w fun e w' => ∃ ρ' v', e = .returned v' ∧ VR ρ' v v' ∧ Goes base ρ A w ρ' B w' := by
  unfold roundV at h
  split at h
  · rename_i st e0 t ps assign body hget
    cases hb : Nat.beq ps.length args.length with
    | false => rw [hb] at h; simp at h
    | true =>
      rw [hb, cond_true] at h
      have hlen := Nat.eq_of_beq_eq_true hb
      obtain ⟨fn, tmps, D, N, hheap, htm⟩ := (hs.loop_at hget hl).lies
      obtain ⟨hcp, hca, hcb, hna, hnb⟩ := htm.codes
      split at h
      · rename_i t1 A1 hassign
        obtain ⟨A2, hbeg, h⟩ := Option.bind_eq_some_iff.1 h
        obtain ⟨⟨e, t2, A3⟩, hbody, hend⟩ := Option.bind_eq_some_iff.1 h
        have hy := run_yield (P := P) (args := args'.toArray) hheap (by simp [hlen, hv.length])
        refine ⟨fn, _, assign, body, hy, roundIn_of_wpIn (F := Fence.wide) (n := 0) trivial ?_⟩
        have htr : TR ρ (setPs ps args t) N { tmps := (ps.toArray.zip args'.toArray).foldl (fun t (p, v) => t.setIfInBounds p v) tmps, defers := [] } := by
          have := setPs_tr ps args args' t tmps hcp hv ⟨htm.size, htm.val, htm.none, hs.glob⟩
          rw [← Array.foldl_toList]
          simpa using this
        refine code_sound hcall hm L N assign hca (some loc.cb) _ t1 A A1 .normal ρ base _ w _ (.inr hna) hassign htr hs fun ρ1 a1 w1 ht1 _ hg1 => ?_
        have hl1 : ρ1 l = some loc := hg1.le hs _ _ hl
        unfold beginV at hbeg
        split at hbeg
        · rename_i e1 t0 ps1 as1 bo1 hget1
          simp only [Option.some.injEq] at hbeg
          subst hbeg
          have hok1 := hg1.sim.loop_at hget1 hl1
          obtain ⟨fn1, tmps1, D1, N1, hheap1, htm1⟩ := hok1.lies
          have hlt1 : loc.cb < w1.heap.size := (Array.getElem?_eq_some_iff.1 hheap1).1
          refine ⟨_, run_beginRound hheap1 rfl, ?_⟩
          have hg2 : Goes base ρ1 A1 w1 ρ1 (A1.put l (.loop 1 e1 t0 ps1 as1 bo1)) (w1.putObj loc.cb (.loop { state := .busy, pending := e1.code, fn := fn1, tmps := tmps1, params := ps1.toArray, assign := as1, body := bo1, defers := D1 })) :=
            putLoop_goes hg1.sim hget1 hl1 (.loop 1 e1 t0 ps1 as1 bo1) _ rfl fun _ => ⟨hok1.mine, fn1, tmps1, D1, N1, World.putObj_heap_same hlt1, htm1⟩
          refine code_sound hcall hm L N body hcb (some loc.cb) t1 t2 _ A3 e ρ1 base a1 _ _ (.inr hnb) hbody ht1 hg2.sim fun ρ3 a3 w3 _ _ hg3 => ?_
          have hl3 : ρ3 l = some loc := hg3.le hg2.sim _ _ hl1
          have hall := (hg1.trans hg2).trans hg3
          unfold endRoundV at hend
          split at hend
          · rename_i e4 t4 ps4 as4 bo4 hget4
            have hok4 := hg3.sim.loop_at hget4 hl3
            obtain ⟨fn4, tmps4, D4, N4, hheap4, htm4⟩ := hok4.lies
            have hlt4 : loc.cb < w3.heap.size := (Array.getElem?_eq_some_iff.1 hheap4).1
            have fin : ∀ (e : AExit), ∃ w4, (Instr.endRound loc.cb e.code).run P w3 = .ok (.bool e.code.isNone) w4 ∧ Goes base ρ3 A3 w3 ρ3 (A3.put l (.loop (if e.code.isNone then 0 else 2) e t4 ps4 as4 bo4)) w4 := by
              intro e
              refine ⟨_, run_endRound e.code hheap4, ?_⟩
              refine putLoop_goes hg3.sim hget4 hl3 (.loop (if e.code.isNone then 0 else 2) e t4 ps4 as4 bo4) _ rfl fun _ => ⟨hok4.mine, fn4, tmps4, D4, N4, ?_, htm4⟩
              rw [World.putObj_heap_same hlt4]
              cases e <;> rfl
            obtain ⟨w4, h8, h9⟩ := fin e
            cases e with
            | normal =>
              simp only [Option.some.injEq, Prod.mk.injEq] at hend
              obtain ⟨rfl, rfl⟩ := hend
              exact ⟨_, w4, h8, ρ3, _, rfl, by simp [VR, AExit.code], hall.trans h9⟩
            | exit id =>
              simp only [Option.some.injEq, Prod.mk.injEq] at hend
              obtain ⟨rfl, rfl⟩ := hend
              exact ⟨_, w4, h8, ρ3, _, rfl, by simp [VR, AExit.code], hall.trans h9⟩
            | goto id =>
              simp only [Option.some.injEq, Prod.mk.injEq] at hend
              obtain ⟨rfl, rfl⟩ := hend
              exact ⟨_, w4, h8, ρ3, _, rfl, by simp [VR, AExit.code], hall.trans h9⟩
            | ret =>
              simp only [Option.some.injEq, Prod.mk.injEq] at hend
              obtain ⟨rfl, rfl⟩ := hend
              exact ⟨_, w4, h8, ρ3, _, rfl, by simp [VR, AExit.code], hall.trans h9⟩
          · simp at hend
        · simp at hbeg
      · simp at h
  · simp at h

/-- what is told of a function is true -/
def ToldOk (P : Program) (S : Told) : Prop := ∀ f g, S f = some g → ∀ args A v B, g args A = some (v, B) →
  (∃ fn, P.funcs[f]? = some fn ∧ fn.body.isSome = true ∧ (fn.name == "runtime.NumGoroutine") = false) ∧
    ∀ ρ args' base w, VRL ρ args args' → Sim ρ A base w → Calls P f args'.toArray w fun e w' => ∃ ρ' v', e = .returned v' ∧ VR ρ' v v' ∧ Goes base ρ A w ρ' B w'
theorem noneTold_ok (P : Program) : ToldOk P noneTold := fun f g h => by simp [noneTold] at h
theorem call_sound {P : Program} {S : Told} (hS : ToldOk P S) (hP : P.funcs.toList.all funcOk = true) (hm : P.follows .mixedOrders = true) (L : Nat) : ∀ n, CallOk P (callV P S L n)
  | 0 => fun f args A v B h => by simp [callV_zero] at h
  | n + 1 => fun f args A v B h => by
    simp only [callV_succ] at h
    cases hb : Nat.blt f yB with
    | false =>
      rw [hb, cond_false] at h
      exact ⟨fun h => by simp at h, fun ρ args' base w hv hs => ⟨fun h => by simp at h, fun _ loc hl => round_sound (call_sound hS hP hm L n) hm L h hv hs hl⟩⟩
    | true =>
    rw [hb, cond_true] at h
    split at h
    · rename_i g hg
      obtain ⟨h1, h2⟩ := hS f g hg args A v B h
      exact ⟨fun _ => h1, fun ρ args' base w hv hs => ⟨fun _ => h2 ρ args' base w hv hs, fun h => by simp at h⟩⟩
    · obtain ⟨fn, hf, h⟩ := Option.bind_eq_some_iff.1 h
      obtain ⟨c, hb, h⟩ := Option.bind_eq_some_iff.1 h
      have hf' : P.funcs[f]? = some fn := by simpa using hf
      have hok := List.all_eq_true.1 hP fn (List.mem_of_getElem? hf)
      unfold funcOk at hok
      rw [hb] at hok
      simp only [Bool.and_eq_true, Bool.not_eq_true'] at hok
      exact ⟨fun _ => ⟨fn, hf', by simp [hb], hok.2⟩, fun ρ args' base w hv hs => ⟨fun _ => body_sound (call_sound hS hP hm L n) hm L hf' hb hok.1 h hv hs, fun h => by simp at h⟩⟩

/-- where the package-level variables lie that the machine knows -/
def globRen (gl : List (Nat × List Value × Nat)) (b : Nat) : Option Loc := if b < gB then some (match gl.find? (fun x => Nat.beq x.1 b) with | some x => ⟨b, 0, x.2.1.length, x.2.2⟩ | none => ⟨b, 0, 0, 0⟩) else none
theorem globRen_glob (gl : List (Nat × List Value × Nat)) : Glob (globRen gl) := fun g hg => by
  unfold globRen
  rw [if_pos hg]
  split <;> exact ⟨_, rfl, rfl, rfl⟩
theorem globT_get : ∀ (gl : List (Nat × List Value × Nat)) (b : Nat), (globT gl).get b = match gl.find? (fun x => Nat.beq x.1 b) with | some x => some (.row x.2.1 x.2.2 false none) | none => none
  | [], b => by simp [globT]
  | (g, cs, e) :: gl, b => by
    simp only [globT, Trie.get_set, List.find?_cons]
    cases hb : Nat.beq g b with
    | true => simp [Nat.eq_of_beq_eq_true hb]
    | false => rw [if_neg (fun e => by subst e; simp at hb)]; exact globT_get gl b
/-- what is asked of the world: the variables hold what is told -/
def GlobIn (w : World) (gl : List (Nat × List Value × Nat)) : Prop := ∀ x ∈ gl, x.1 < gB ∧ x.1 < w.heap.size ∧ x.2.1.all (fun v => flat v && scalar v) = true ∧ ∀ i v, x.2.1[i]? = some v → w.cell? ⟨x.1, i, none⟩ = some v
theorem Sim.glob_start {w : World} {gl : List (Nat × List Value × Nat)} (h : GlobIn w gl) : Sim (globRen gl) (St.glob gl) w.heap.size w := by
  have hg : ∀ b o, (St.glob gl).get b = some o → ∃ x ∈ gl, x.1 = b ∧ gl.find? (fun x => Nat.beq x.1 b) = some x ∧ o = .row x.2.1 x.2.2 false none := by
    intro b o e
    have e : (globT gl).get b = some o := e
    rw [globT_get] at e
    split at e
    · rename_i x hx
      simp at e
      have := List.find?_some hx
      exact ⟨x, List.mem_of_find?_eq_some hx, Nat.eq_of_beq_eq_true this, hx, e.symm⟩
    · simp at e
  refine ⟨⟨fun b cs esz own kin e => ?_, fun b es e => ?_, fun b s pos e => ?_, fun b st ex t ps c d e => ?_, fun b1 b2 o1 o2 l1 l2 _ e1 _ m => ?_, fun b o fam f e k => ?_⟩, fun b l e => ?_, Nat.le_refl _, globRen_glob gl⟩
  · obtain ⟨x, hx, rfl, hf, he⟩ := hg _ _ e
    simp at he
    obtain ⟨rfl, rfl, rfl, rfl⟩ := he
    obtain ⟨h1, h2, h3, h4⟩ := h x hx
    refine ⟨⟨x.1, 0, x.2.1.length, x.2.2⟩, by unfold globRen; rw [if_pos h1, hf], ⟨fun i v hi => ?_, fun _ => h2, fun h => by simp at h, fun h => by simp at h, by simp, fun h => by simp at h, rfl, h2, fun h => by simp at h⟩⟩
    have := List.all_eq_true.1 h3 v (List.mem_of_getElem? hi)
    simp only [Bool.and_eq_true] at this
    exact ⟨v, by simpa using h4 i v hi, VR.of_flat this.1, this.2⟩
  · obtain ⟨x, _, _, _, he⟩ := hg _ _ e; simp at he
  · obtain ⟨x, _, _, _, he⟩ := hg _ _ e; simp at he
  · obtain ⟨x, _, _, _, he⟩ := hg _ _ e; simp at he
  · obtain ⟨x, _, _, _, he⟩ := hg _ _ e1; subst he; simp [AObj.mine] at m
  · obtain ⟨x, _, _, _, he⟩ := hg _ _ e; subst he; simp [AObj.kin?] at k
  · unfold globRen at e
    split at e
    · rename_i hb; exact hb
    · simp at e

/-- the beginning: nothing of the world is told -/
theorem Sim.empty (w : World) : Sim (globRen []) St.empty w.heap.size w := Sim.glob_start (gl := []) (fun _ h => by simp at h)

/-- A LAW WITHOUT ARGUMENTS, where package-level variables are known: if the abstract machine says true, the call returns true, and nothing that was there has turned. -/
theorem closed_law_glob {P : Program} {S : Told} (hS : ToldOk P S) (hP : P.funcs.toList.all funcOk = true) (hm : P.follows .mixedOrders = true) {L n : Nat} {f : FuncId} {gl : List (Nat × List Value × Nat)} (h : saysTrue (callV P S L n f [] (St.glob gl)) = true) {w : World} (hw : GlobIn w gl) (hf : Nat.blt f yB = true := by rfl) :
    Calls P f #[] w fun e w' => e = .returned (.bool true) ∧ RowKit.Below w.heap.size w w' := by
  unfold saysTrue at h
  split at h
  · rename_i b B hc
    subst h
    refine (((call_sound hS hP hm L n _ _ _ _ _ hc).2 _ [] w.heap.size w .nil (.glob_start hw)).1 hf).mono ?_
    rintro e w' ⟨ρ', v', rfl, hv, hg⟩
    refine ⟨by rw [hv.bool_inv], hg.kept.os, hg.kept.tape, hg.kept.output, hg.kept.size, fun k hk => hg.kept.block k hk ?_⟩
    rintro ⟨b, o, l, ho, hm, _⟩
    have ho : (globT gl).get b = some o := ho
    rw [globT_get] at ho
    split at ho
    · simp at ho; subst ho; simp [AObj.mine] at hm
    · simp at ho
  · simp at h

/-- A LAW WITHOUT ARGUMENTS: if the abstract machine says true, the call returns true, and nothing that was there has turned. -/
theorem closed_law {P : Program} {S : Told} (hS : ToldOk P S) (hP : P.funcs.toList.all funcOk = true) (hm : P.follows .mixedOrders = true) {L n : Nat} {f : FuncId} (h : saysTrue (callV P S L n f [] St.empty) = true) (w : World) (hf : Nat.blt f yB = true := by rfl) :
    Calls P f #[] w fun e w' => e = .returned (.bool true) ∧ RowKit.Below w.heap.size w w' :=
  closed_law_glob (gl := []) hS hP hm h (fun _ h => by simp at h) hf
end
end Go.Abs
