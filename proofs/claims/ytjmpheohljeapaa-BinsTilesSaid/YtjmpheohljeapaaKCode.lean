/-
  The machine K's code does what the model's does.
-/
import Derived.Test.YtjmpheohljeapaaKTm
namespace Go.K
open Go Go.Abs
variable {P : Program} {E : Env}

/-- one operation, a call too -/
theorem ins_soundK {R : Type} {cfg : Cfg} {icall : ICall R} (hpc : PcOk P cfg.pc) (hic : ICallOk P icall) {o : Oper} {t : KTm} {A : KSt} {k : KV → KSt → Option R} {r : R} {N base : Nat} {B : St} {ρ : Ren} {a : Act} {w : World} {next : Act → World → Prop} {Q : Exit → Act → World → Prop}
    (h : insK icall t A k (kcomp P cfg o.op) = some r) (ht : TKR P E ρ t N a) (hj : KJ P E A B ρ base w)
    (hk : ∀ E' A' B' ρ' v v' w', k v A' = some r → VC P E' ρ' v v' → Ev P base E A B ρ w E' A' B' ρ' w' → next (a.put o.dst v') w') : o.wp P a w next Q := by
  by_cases hc : ∃ f args, kcomp P cfg o.op = .call f args
  · obtain ⟨f, args, hc⟩ := hc
    rw [hc] at h
    have h : Option.rec (motive := fun _ => Option R) none (fun p => icall p.1 p.2 A k) (calleeK (evsK t args) (evK t f)) = some r := h
    cases hcal : calleeK (evsK t args) (evK t f) with
    | none => rw [hcal] at h; exact absurd h (by simp)
    | some p =>
      obtain ⟨g, vs⟩ := p
      rw [hcal] at h
      have h : icall g vs A k = some r := h
      obtain ⟨hg, hrun⟩ := hic g vs A k r h
      obtain ⟨vs', h1, h2⟩ := enter_sound (kcomp_call hc) ht hcal hg
      unfold Oper.wp
      rw [h2 w]
      refine (hrun E B ρ base w vs' h1 hj).mono ?_
      rintro e w' ⟨v, v', E', A', B', ρ', rfl, h3, h4, h5⟩
      exact hk E' A' B' ρ' v v' w' h5 h3 h4
  · obtain ⟨v, A', h1, h2⟩ := dir_of (fun f args e => hc ⟨f, args, e⟩) h
    exact dir_sound hpc h1 (fun x _ => ht.ev x) hj fun E' B' ρ' v' w' h3 h4 => hk E' A' B' ρ' v v' w' h2 h3 h4

theorem step_cases {R : Type} {cfg : Cfg} {icall : ICall R} {all : List Oper} {o : Oper} {k : KTm → KSt → Option R} {t : KTm} {A : KSt} {r : R} {N : Nat} {ρ : Ren} {a : Act} (ht : TKR P E ρ t N a) (h : stepK P cfg icall all o k t A = some r) :
    ∃ t1, (∀ i, t1.get i = t.get i) ∧ ((Region.wanted o (yielded ⟨all⟩ a.tmps) = true ∧ insK icall t1 A (fun v A => k (putK t1 o.dst v) A) (kcomp P cfg o.op) = some r) ∨
      (Region.wanted o (yielded ⟨all⟩ a.tmps) = false ∧ k (putK t1 o.dst undefK) A = some r)) := by
  unfold stepK at h
  cases hg : o.guard with
  | none =>
    rw [hg] at h
    refine ⟨t, fun _ => rfl, .inl ⟨?_, h⟩⟩
    unfold Region.wanted
    rw [hg]
  | some p =>
    obtain ⟨j, want⟩ := p
    rw [hg] at h
    exact guard_sound hg ht h
theorem ops_soundK {R : Type} {cfg : Cfg} {icall : ICall R} (hpc : PcOk P cfg.pc) (hic : ICallOk P icall) {N base : Nat} {Q : Exit → Act → World → Prop} {all : List Oper} (hd : all.all (dstOk N) = true) {k : KTm → KSt → Option R} {r : R} :
    ∀ (os : List Oper) (j : Nat) (t : KTm) (E : Env) (A : KSt) (B : St) (ρ : Ren) (a : Act) (w : World), all.drop j = os → opsK P cfg icall all k os t A = some r → TKR P E ρ t N a → KJ P E A B ρ base w →
      (∀ t' E' A' B' ρ' a' w', k t' A' = some r → TKR P E' ρ' t' N a' → a'.defers = a.defers → Ev P base E A B ρ w E' A' B' ρ' w' → Q .normal a' w') → wpOps P ⟨all⟩ Q (List.range' j os.length) a w
  | [], j, t, E, A, B, ρ, a, w, _, h, ht, hj, hq => hq t E A B ρ a w h ht rfl (.refl hj.k hj.s)
  | o :: os, j, t, E, A, B, ρ, a, w, hk, h, ht, hj, hq => by
    have ho : (⟨all⟩ : Array Oper)[j]? = some o := by
      have : (all.drop j)[0]? = some o := by rw [hk]; rfl
      rw [List.getElem?_drop] at this
      simpa using this
    have hk' : all.drop (j + 1) = os := by rw [← List.drop_drop, hk]; rfl
    have hdst : ∀ d, o.dst = some d → d < N := by
      intro d e
      have hm : o ∈ all := List.mem_of_getElem? (by simpa using ho)
      have := List.all_eq_true.1 hd o hm
      unfold dstOk at this
      rw [e] at this
      simp only at this
      rw [Nat.blt_eq] at this
      exact this
    rw [List.length_cons, List.range'_succ]
    simp only [wpOps, ho]
    have h : stepK P cfg icall all o (opsK P cfg icall all k os) t A = some r := h
    obtain ⟨t1, hsame, h⟩ := step_cases ht h
    have ht1 := ht.same hsame
    rcases h with ⟨hw, h⟩ | ⟨hw, h⟩
    · rw [hw]
      refine .inl (ins_soundK hpc hic h ht1 hj fun E' A' B' ρ' v v' w' h1 h2 h3 => ?_)
      refine ops_soundK hpc hic hd os (j + 1) _ E' A' B' ρ' _ w' hk' h1 ((ht1.mono h3.le (h3.goes.le hj.s)).put hdst h2) h3.kj fun t' E'' A'' B'' ρ'' a'' w'' h4 h5 h6 h7 => ?_
      exact hq t' E'' A'' B'' ρ'' a'' w'' h4 h5 (by rw [h6, put_defers]) (h3.trans h7)
    · rw [hw]
      refine ops_soundK hpc hic hd os (j + 1) _ E A B ρ _ w hk' h (ht1.put hdst .undef) hj fun t' E'' A'' B'' ρ'' a'' w'' h4 h5 h6 h7 => ?_
      exact hq t' E'' A'' B'' ρ'' a'' w'' h4 h5 (by rw [h6, put_defers]) h7

/-! ## A region that draws its order -/
/-- what each operation came to in the order of the text: was it wanted, its value, the store behind it -/
abbrev Out := Bool × KV × KSt
/- the run in the order of the text -/
inductive Run (P : Program) (cfg : Cfg) (all : List Oper) : List Oper → KTm → KSt → List Out → KTm → KSt → Prop where
  | nil {t : KTm} {A : KSt} : Run P cfg all [] t A [] t A
  | cons {o : Oper} {os : List Oper} {t t1 t' : KTm} {A A1 A' : KSt} {wd : Bool} {v : KV} {L : List Out}
      (same : ∀ i, t1.get i = t.get i)
      (want : (o.guard = none ∧ wd = true) ∨ ∃ j want d, o.guard = some (j, want) ∧ (all[j]?).bind (·.dst) = some d ∧ ((∃ b, t.get d = some (.bool b) ∧ wd = (b == want)) ∨ (∃ l, t.get d = some (.tup l) ∧ wd = false)))
      (yes : wd = true → Gives (dirK (kcomp P cfg o.op) t1 A) (v, A1)) (no : wd = false → v = undefK ∧ A1 = A)
      (rest : Run P cfg all os (putK t1 o.dst v) A1 L t' A') : Run P cfg all (o :: os) t A ((wd, v, A1) :: L) t' A'
theorem grd_cases {R : Type} {t : KTm} {d : Option Tmp} {want : Bool} {yes no : KTm → Option R} {r : R} (h : grdK t d want yes no = some r) :
    ∃ d', d = some d' ∧ ((∃ b t', t.get d' = some (.bool b) ∧ (∀ i, t'.get i = t.get i) ∧ ((b == want) = true ∧ yes t' = some r ∨ (b == want) = false ∧ no t' = some r)) ∨ ∃ l, t.get d' = some (.tup l) ∧ no t = some r) := by
  unfold grdK at h
  cases d with
  | none => exact absurd h (by simp)
  | some d =>
    refine ⟨d, rfl, ?_⟩
    have h : BK.rec (motive := fun _ => Option R)
      (fun b => Bool.rec (motive := fun _ => Option R)
        (Bool.rec (motive := fun _ => Option R) (yes (t.set (.bool false) d)) (no (t.set (.bool false) d)) want)
        (Bool.rec (motive := fun _ => Option R) (no (t.set (.bool true) d)) (yes (t.set (.bool true) d)) want) b)
      (no t) none (boolK ((t.get d).getD .unk)) = some r := h
    have hget : ∀ v, (t.get d).getD .unk = v → v ≠ .unk → t.get d = some v := by
      intro v e hne
      cases hg : t.get d with
      | none => rw [hg] at e; exact absurd e.symm hne
      | some u => rw [hg] at e; simp at e; rw [e]
    cases hb : boolK ((t.get d).getD .unk) with
    | no => rw [hb] at h; exact absurd h (by simp)
    | tup =>
      rw [hb] at h
      obtain ⟨l, hl⟩ := boolK_tup hb
      exact .inr ⟨l, hget _ hl (by simp), h⟩
    | bool b =>
      rw [hb] at h
      refine .inl ⟨b, t.set (.bool b) d, hget _ (boolK_bool hb) (by simp), refine_same hb, ?_⟩
      cases b <;> cases want
      · exact .inl ⟨rfl, h⟩
      · exact .inr ⟨rfl, h⟩
      · exact .inr ⟨rfl, h⟩
      · exact .inl ⟨rfl, h⟩
theorem run_of {R : Type} {cfg : Cfg} {icall : ICall R} {all : List Oper} {k : KTm → KSt → Option R} {r : R} : ∀ {os : List Oper} {t : KTm} {A : KSt}, (∀ o ∈ os, ∀ f args, kcomp P cfg o.op ≠ .call f args) → opsK P cfg icall all k os t A = some r →
    ∃ L t' A', Run P cfg all os t A L t' A' ∧ k t' A' = some r
  | [], t, A, _, h => ⟨[], t, A, .nil, h⟩
  | o :: os, t, A, hn, h => by
    have h : stepK P cfg icall all o (opsK P cfg icall all k os) t A = some r := h
    have hn' := fun q hq => hn q (List.mem_cons_of_mem o hq)
    unfold stepK at h
    cases hg : o.guard with
    | none =>
      rw [hg] at h
      obtain ⟨v, A1, h1, h2⟩ := dir_of (hn o (by simp)) h
      obtain ⟨L, t', A', h3, h4⟩ := run_of hn' h2
      exact ⟨_, t', A', .cons (fun _ => rfl) (.inl ⟨hg, rfl⟩) (fun _ => h1) (fun e => by simp at e) h3, h4⟩
    | some p =>
      obtain ⟨j, want⟩ := p
      rw [hg] at h
      obtain ⟨d, hd, h⟩ := grd_cases h
      rcases h with ⟨b, t1, h1, h2, h3⟩ | ⟨l, h1, h2⟩
      · rcases h3 with ⟨h3, h4⟩ | ⟨h3, h4⟩
        · obtain ⟨v, A1, h5, h6⟩ := dir_of (hn o (by simp)) h4
          obtain ⟨L, t', A', h7, h8⟩ := run_of hn' h6
          exact ⟨_, t', A', .cons h2 (.inr ⟨j, want, d, hg, hd, .inl ⟨b, h1, h3.symm⟩⟩) (fun _ => h5) (fun e => by simp at e) h7, h8⟩
        · obtain ⟨L, t', A', h7, h8⟩ := run_of hn' h4
          exact ⟨_, t', A', .cons h2 (.inr ⟨j, want, d, hg, hd, .inl ⟨b, h1, h3.symm⟩⟩) (fun e => by simp at e) (fun _ => ⟨rfl, rfl⟩) h7, h8⟩
      · obtain ⟨L, t', A', h7, h8⟩ := run_of hn' h2
        exact ⟨_, t', A', .cons (fun _ => rfl) (.inr ⟨j, want, d, hg, hd, .inr ⟨l, h1, rfl⟩⟩) (fun e => by simp at e) (fun _ => ⟨rfl, rfl⟩) h7, h8⟩

/-- does it turn the store? -/
noncomputable def turns (P : Program) (cfg : Cfg) (o : Oper) (x : Out) : Bool := x.1 && Nat.ble 3 (kindK (kcomp P cfg o.op))
/-- the temporaries behind the operations of S (L: what each came to, from number i on) -/
noncomputable def tmS (S : Nat → Bool) : List Oper → List Out → Nat → KTm → KTm
  | o :: os, x :: L, i, t => tmS S os L (i + 1) (cond (S i) (putK t o.dst x.2.1) t)
  | _, _, _, t => t
/-- the store behind the operations of S -/
noncomputable def stS (P : Program) (cfg : Cfg) (S : Nat → Bool) : List Oper → List Out → Nat → KSt → KSt
  | o :: os, x :: L, i, A => stS P cfg S os L (i + 1) (cond (S i && turns P cfg o x) x.2.2 A)
  | _, _, _, A => A
theorem putK_get (t : KTm) (dst : Option Tmp) (v : KV) (x : Tmp) : (putK t dst v).get x = if dst = some x then some v else t.get x := by
  cases dst with
  | none => rfl
  | some d =>
    simp only [putK, Trie.get_set, Option.some.injEq]
    by_cases h : x = d
    · rw [if_pos h, if_pos h.symm]
    · rw [if_neg h, if_neg (Ne.symm h)]
theorem tmS_shift (S : Nat → Bool) : ∀ (os : List Oper) (L : List Out) (k : Nat) (t : KTm), tmS S os L (k + 1) t = tmS (fun i => S (i + 1)) os L k t
  | [], L, k, t => by cases L <;> rfl
  | o :: os, [], k, t => rfl
  | o :: os, x :: L, k, t => by simp only [tmS]; exact tmS_shift S os L (k + 1) _
theorem stS_shift {cfg : Cfg} (S : Nat → Bool) : ∀ (os : List Oper) (L : List Out) (k : Nat) (A : KSt), stS P cfg S os L (k + 1) A = stS P cfg (fun i => S (i + 1)) os L k A
  | [], L, k, t => by cases L <;> rfl
  | o :: os, [], k, t => rfl
  | o :: os, x :: L, k, t => by simp only [stS]; exact stS_shift S os L (k + 1) _
/-- the last writer decides -/
theorem tmS_get {S S' : Nat → Bool} {y : Tmp} : ∀ {os : List Oper} {L : List Out} {k : Nat} {t t' : KTm}, t.get y = t'.get y → (∀ i o, os[i]? = some o → o.dst = some y → S (k + i) = S' (k + i)) → (tmS S os L k t).get y = (tmS S' os L k t').get y
  | [], L, k, t, t', h, _ => by cases L <;> exact h
  | o :: os, [], k, t, t', h, _ => h
  | o :: os, x :: L, k, t, t', h, hs => by
    simp only [tmS]
    refine tmS_get ?_ fun i o' ho hd => by have := hs (i + 1) o' (by simpa using ho) hd; rwa [show k + (i + 1) = k + 1 + i by omega] at this
    by_cases hd : o.dst = some y
    · have := hs 0 o rfl hd
      rw [Nat.add_zero] at this
      rw [this]
      cases S' k with
      | true => simp only [cond_true, putK_get, if_pos hd]
      | false => exact h
    · have e : ∀ (b : Bool) (u : KTm), (cond b (putK u o.dst x.2.1) u).get y = u.get y := by
        intro b u
        cases b with
        | true => rw [cond_true, putK_get, if_neg hd]
        | false => rfl
      rw [e, e]; exact h
theorem tmS_put {S : Nat → Bool} {y : Tmp} : ∀ {os : List Oper} {L : List Out} {k i : Nat} {t : KTm} {o : Oper} {x : Out}, os[i]? = some o → L[i]? = some x → o.dst = some y → (∀ j q, os[j]? = some q → q.dst = some y → i < j → S (k + j) = false) →
    (tmS (insertS S (k + i)) os L k t).get y = some x.2.1
  | [], L, k, i, t, o, x, ho, _, _, _ => by simp at ho
  | q :: os, [], k, i, t, o, x, _, hx, _, _ => by simp at hx
  | q :: os, u :: L, k, 0, t, o, x, ho, hx, hd, hs => by
    simp at ho hx
    subst ho hx
    simp only [tmS, Nat.add_zero]
    have hk : insertS S k k = true := by simp [insertS]
    rw [hk, cond_true]
    have := tmS_get (S := insertS S k) (S' := fun _ => false) (y := y) (os := os) (L := L) (k := k + 1) (t := putK t q.dst u.2.1) (t' := putK t q.dst u.2.1) rfl (fun j q' hq hqd => by
      have h1 := hs (j + 1) q' (by simpa using hq) hqd (by omega)
      rw [show k + (j + 1) = k + 1 + j by omega] at h1
      simp only [insertS, h1, Bool.false_or]
      cases hb : Nat.beq (k + 1 + j) k with
      | false => rfl
      | true => have := Nat.eq_of_beq_eq_true hb; omega)
    rw [this]
    have hnone : ∀ (os : List Oper) (L : List Out) (k : Nat) (t : KTm), tmS (fun _ => false) os L k t = t := by
      intro os
      induction os with
      | nil => intro L k t; cases L <;> rfl
      | cons o os ih => intro L k t; cases L with
        | nil => rfl
        | cons x L => simp only [tmS, cond_false]; exact ih L _ t
    rw [hnone, putK_get, if_pos hd]
  | q :: os, u :: L, k, i + 1, t, o, x, ho, hx, hd, hs => by
    simp only [tmS]
    rw [show k + (i + 1) = k + 1 + i by omega]
    exact tmS_put (by simpa using ho) (by simpa using hx) hd fun j q' hq hqd hlt => by
      have := hs (j + 1) q' (by simpa using hq) hqd (by omega)
      rwa [show k + (j + 1) = k + 1 + j by omega] at this
theorem stS_eq {cfg : Cfg} {S S' : Nat → Bool} : ∀ {os : List Oper} {L : List Out} {k : Nat} {A : KSt}, (∀ i o x, os[i]? = some o → L[i]? = some x → turns P cfg o x = true → S (k + i) = S' (k + i)) → stS P cfg S os L k A = stS P cfg S' os L k A
  | [], L, k, A, _ => by cases L <;> rfl
  | o :: os, [], k, A, _ => rfl
  | o :: os, x :: L, k, A, h => by
    simp only [stS]
    have h0 : (S k && turns P cfg o x) = (S' k && turns P cfg o x) := by
      cases ht : turns P cfg o x with
      | false => simp
      | true => have := h 0 o x rfl rfl ht; rw [Nat.add_zero] at this; rw [this]
    rw [h0]
    exact stS_eq fun i o' x' ho hx ht => by have := h (i + 1) o' x' (by simpa using ho) (by simpa using hx) ht; rwa [show k + (i + 1) = k + 1 + i by omega] at this
/-- the k-th operation, in the order of the text -/
def WantIn (all : List Oper) (o : Oper) (t : KTm) (wd : Bool) : Prop := (o.guard = none ∧ wd = true) ∨ ∃ j want d, o.guard = some (j, want) ∧ (all[j]?).bind (·.dst) = some d ∧ ((∃ b, t.get d = some (.bool b) ∧ wd = (b == want)) ∨ (∃ l, t.get d = some (.tup l) ∧ wd = false))
theorem dir_store {cfg : Cfg} {o : Oper} {t : KTm} {A A1 : KSt} {v : KV} (h : Gives (dirK (kcomp P cfg o.op) t A) (v, A1)) (hk : Nat.ble 3 (kindK (kcomp P cfg o.op)) = false) : A1 = A := by
  generalize kcomp P cfg o.op = ins at h hk
  cases ins with
  | pure f xs => obtain ⟨u, _, h2⟩ := Gives.map h; simp at h2; exact h2.2.symm
  | read f xs => obtain ⟨u, _, h2⟩ := Gives.map h; simp at h2; exact h2.2.symm
  | act f xs => exact absurd hk (by simp [kindK])
  | look f xs => obtain ⟨u, _, h2⟩ := Gives.map h; simp at h2; exact h2.2.symm
  | pcall g f xs => obtain ⟨u, _, h2⟩ := Gives.map h; simp at h2; exact h2.2.symm
  | call f xs => exact h.elim
  | bad => exact h.elim
theorem Run.at {cfg : Cfg} {all : List Oper} : ∀ {os : List Oper} {t t' : KTm} {A A' : KSt} {L : List Out}, Run P cfg all os t A L t' A' →
    L.length = os.length ∧ (∀ y, t'.get y = (tmS (fun _ => true) os L 0 t).get y) ∧ A' = stS P cfg (fun _ => true) os L 0 A ∧
    ∀ i o x, os[i]? = some o → L[i]? = some x → ∃ t1, (∀ y, t1.get y = (tmS (fun j => Nat.blt j i) os L 0 t).get y) ∧ WantIn all o t1 x.1 ∧ (x.1 = true → Gives (dirK (kcomp P cfg o.op) t1 (stS P cfg (fun j => Nat.blt j i) os L 0 A)) (x.2.1, x.2.2)) ∧ (x.1 = false → x.2.1 = undefK)
  | _, _, _, _, _, _, .nil => ⟨rfl, fun _ => rfl, rfl, fun i o x ho => by simp at ho⟩
  | o :: os, t, t', A, A', (wd, v, A1) :: L, .cons (t1 := t1) same want yes no rest => by
    obtain ⟨h1, h2, h3, h4⟩ := rest.at
    have hA1 : cond (turns P cfg o (wd, v, A1)) A1 A = A1 := by
      cases ht : turns P cfg o (wd, v, A1) with
      | true => rfl
      | false =>
        rw [cond_false]
        cases wd with
        | false => exact (no rfl).2.symm
        | true => exact (dir_store (yes rfl) (by simpa [turns] using ht)).symm
    have hput : ∀ y, (putK t1 o.dst v).get y = (putK t o.dst v).get y := fun y => by rw [putK_get, putK_get, same]
    refine ⟨by simp [h1], fun y => ?_, ?_, fun i q x hq hx => ?_⟩
    · rw [h2 y]
      simp only [tmS, cond_true]
      rw [tmS_shift]
      exact tmS_get (hput y) fun _ _ _ _ => rfl
    · rw [h3]
      simp only [stS, Bool.true_and]
      rw [stS_shift, hA1]
    · cases i with
      | zero =>
        simp at hq hx
        subst hq hx
        have e0 : ∀ (os : List Oper) (L : List Out) (k : Nat) (t : KTm), tmS (fun j => Nat.blt j 0) os L k t = t := by
          intro os
          induction os with
          | nil => intro L k t; cases L <;> rfl
          | cons o os ih => intro L k t; cases L with
            | nil => rfl
            | cons x L => simp only [tmS]; exact ih L _ t
        have e1 : ∀ (os : List Oper) (L : List Out) (k : Nat) (A : KSt), stS P cfg (fun j => Nat.blt j 0) os L k A = A := by
          intro os
          induction os with
          | nil => intro L k t; cases L <;> rfl
          | cons o os ih => intro L k t; cases L with
            | nil => rfl
            | cons x L => simp only [stS]; exact ih L _ t
        refine ⟨t1, fun y => by rw [e0]; exact same y, ?_, fun e => by rw [e1]; exact yes e, fun e => (no e).1⟩
        rcases want with h | ⟨j, wt, d, e2, e3, e4⟩
        · exact .inl h
        · exact .inr ⟨j, wt, d, e2, e3, by rw [same]; exact e4⟩
      | succ i =>
        obtain ⟨t2, h5, h6, h7, h8⟩ := h4 i q x (by simpa using hq) (by simpa using hx)
        have hsh : (fun j => Nat.blt (j + 1) (i + 1)) = fun j => Nat.blt j i := by
          funext j
          cases hb : Nat.blt j i with
          | true => rw [Nat.blt_eq] at hb ⊢; omega
          | false =>
            cases hc : Nat.blt (j + 1) (i + 1) with
            | false => rfl
            | true => rw [Nat.blt_eq] at hc; rw [show Nat.blt j i = true from by rw [Nat.blt_eq]; omega] at hb; simp at hb
        have h01 : Nat.blt 0 (i + 1) = true := by rw [Nat.blt_eq]; omega
        have hst : stS P cfg (fun j => Nat.blt j (i + 1)) (o :: os) ((wd, v, A1) :: L) 0 A = stS P cfg (fun j => Nat.blt j i) os L 0 A1 := by
          simp only [stS, h01, Bool.true_and]
          rw [stS_shift, hA1, hsh]
        refine ⟨t2, fun y => ?_, h6, fun e => by rw [hst]; exact h7 e, h8⟩
        rw [h5 y]
        simp only [tmS, h01, cond_true]
        rw [tmS_shift, hsh]
        exact tmS_get (hput y) fun _ _ _ _ => rfl
end Go.K
