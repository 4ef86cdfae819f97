/-
  Loops that are told whole: what is handed on, below.
-/
import Derived.Test.YtjmpheohljeapaaKLoop
namespace Go.K
open Go Go.Abs
variable {P : Program} {E : Env}

/-! ## Values -/
theorem litOk_eq {w v : KV} (h : litOk w v = true) : v = w := by
  unfold litOk at h
  split at h <;> simp at h
  · rename_i f g; rw [h]
  all_goals rfl
theorem litOk_rel {w v : KV} (h : litOk w v = true) {E0 : Env} {u : Value} (k : VK P E v u) : VK P E0 v u := by
  have := litOk_eq h
  subst this
  unfold litOk at h
  split at h <;> try (simp at h)
  · obtain ⟨l, m, rfl, h1, h2⟩ := k.fn_inv
    rw [h1.nil_inv, h2.nil_inv]
    exact .mkFn .nil .nil
  all_goals exact k
/-- a slice's mark, and another one's elements -/
theorem VK.mix {T : TypeId} {m m' : Mk} {n : Nat} {es es2 : List KV} {acc acc2 : Nat → KV} {u : Value} (h : VK P E (.ts T m n es acc) u) (k : VK P E (.ts T m' n es2 acc2) u) : VK P E (.ts T m n es2 acc2) u := by
  obtain ⟨_, es', _, a, cap, rfl, h2, _, h4⟩ := h.ts_inv
  obtain ⟨ht, es'', k1, a', cap', e, _, k3, _⟩ := k.ts_inv
  simp only [Value.slice.injEq] at e
  obtain ⟨rfl, _, rfl⟩ := e
  simp only [VK]
  exact ⟨ht, es'', k1, a, cap, rfl, h2, k3, h4⟩
/-- another mark, under other names -/
theorem VK.swap {E0 : Env} (hz : E0.z = E.z) {T : TypeId} {m m' : Mk} {n : Nat} {es : List KV} {acc : Nat → KV} {u : Value} (h : VK P E (.ts T m n es acc) u) (hm : ∀ sz a cap, u = .slice a n cap → MarkOk E sz a n cap m → MarkOk E0 sz a n cap m') : VK P E0 (.ts T m' n es acc) u := by
  obtain ⟨ht, es', h1, a, cap, rfl, h2, h3, h4⟩ := h.ts_inv
  simp only [VK]
  refine ⟨ht, es', VKL.zEs hz h1 ht.typed, a, cap, rfl, h2, ?_, hm _ _ _ rfl h4⟩
  refine h3.imp id ?_
  rintro ⟨b, off, r, e1, e2, e3⟩
  exact ⟨b, off, r, e1, by rw [hz]; exact e2, e3⟩
theorem canonD_ts (t : TypeId) (m : Mk) (n : Nat) (es : List KV) (acc : Nat → KV) : ∃ es2 acc2, canonC P canonD (.ts t m n es acc) = .ts t .any n es2 acc2 := ⟨_, _, rfl⟩
theorem leaf_good {c : CK} {v : KV} (h : kindOk c v = true) : leaf c v = v := by
  cases c <;> cases v <;> simp [kindOk] at h
  · subst h; rfl
  · rfl
  · rfl
  · rename_i t t' m n es acc
    cases m <;> simp at h
    subst h; rfl
theorem VK.nCD {d : CD} {v : KV} {u : Value} (h : VK P E v u) : VK P E (normCD P d v) u := by
  cases d with
  | k c =>
    show VK P E (cond (kindOk c (K.normC c v)) (K.canonC P canonD (leaf c (K.normC c v))) .unk) u
    cases hb : kindOk c (K.normC c v) with
    | false => exact .mkUnk
    | true =>
      rw [cond_true, leaf_good hb]
      exact VK.canonC _ h.normC
  | lit w =>
    show VK P E (cond (litOk w v) w .unk) u
    cases hb : litOk w v with
    | true => rw [litOk_eq hb] at h; exact h
    | false => exact .mkUnk
  | fam t =>
    unfold normCD
    cases v with
    | nilsl => have := h.nilsl_inv; subst this; exact VK.canonC _ .nilTs
    | ts t' m n es acc =>
      cases m with
      | fam f =>
        show VK P E (cond (Nat.beq t t') _ .unk) u
        cases hb : Nat.beq t t' with
        | false => exact .mkUnk
        | true =>
          have := Nat.eq_of_beq_eq_true hb
          subst this
          exact VK.canonC canonD h.weak
      | _ => exact .mkUnk
    | _ => exact .mkUnk
/-- a name of a family stands for another one's -/
def Lk (E E0 : Env) (f : Option Nat) (j : Nat) : Prop := ∀ x g, f = some x → E.φ x = some g → E0.φ j = some g
/-- a cell as it is handed on -/
theorem VK.cellIn {E0 : Env} (hz : E0.z = E.z) {A : KSt} {t : TypeId} {v : KV} {u : Value} {j : Nat} (h : VK P E v u) (hg : goodCD (.fam t) (normCD P (.fam t) v) = true) (hl : Lk E E0 (famOf P A t v).f j) (hok : (famOf P A t v).ok = true) : VK P E0 (setFam j (normCD P (.fam t) v)) u := by
  cases v with
  | nilsl =>
    have := h.nilsl_inv; subst this
    have h1 : VK P E (K.canonC P canonD (.ts t .any 0 [] defAcc0)) (.slice none 0 0) := VK.canonC _ .nilTs
    obtain ⟨es2, acc2, e⟩ := canonD_ts (P := P) t .any 0 [] defAcc0
    show VK P E0 (setFam j (K.canonC P canonD (.ts t .any 0 [] defAcc0))) _
    rw [e] at h1 ⊢
    exact h1.swap hz fun sz a cap he _ => by
      simp only [Value.slice.injEq] at he
      obtain ⟨rfl, _, rfl⟩ := he
      exact ⟨rfl, .inl ⟨rfl, rfl⟩⟩
  | ts t' m n es acc =>
    cases m with
    | fam f =>
      have e1 : normCD P (.fam t) (.ts t' (.fam f) n es acc) = cond (Nat.beq t t') (K.canonC P canonD (.ts t .any n es acc)) .unk := rfl
      rw [e1] at hg ⊢
      cases hb : Nat.beq t t' with
      | false => rw [hb] at hg; simp [goodCD, kindOk] at hg
      | true =>
        have := Nat.eq_of_beq_eq_true hb
        subst this
        have h1 := VK.canonC (P := P) canonD h.weak
        obtain ⟨es2, acc2, e⟩ := canonD_ts (P := P) t .any n es acc
        rw [cond_true, e]
        rw [e] at h1
        have hf : (famOf P A t (.ts t (.fam f) n es acc)).f = some f := by
          revert hok
          unfold famOf
          simp only
          split
          · intro _; rfl
          · intro hok; simp at hok
        exact (h.mix h1).swap hz fun sz a cap he hm => by
          refine ⟨hm.1, hm.2.imp id ?_⟩
          rintro ⟨b, r, g, q1, q2, q3, q4, q5⟩
          exact ⟨b, r, g, q1, by rw [hz]; exact q2, q3, hl f g hf q4, q5⟩
    | any => simp [famOf] at hok
    | exact => simp [famOf] at hok
  | _ => simp [famOf] at hok
theorem VK.gCD {E0 : Env} (hz : E0.z = E.z) {d : CD} {v : KV} {u : Value} (h : VK P E v u) (hg : goodCD d v = true) : VK P E0 v u := by
  cases d with
  | k c => exact h.zK hz hg
  | lit w => exact litOk_rel hg h
  | fam t => exact h.zK (c := .slice t) hz hg
theorem famsC_length {A : KSt} : ∀ {ds : List CD} {vs : List KV}, vs.length = ds.length → (famsC P A ds vs).length = famN ds
  | [], [], _ => rfl
  | [], _ :: _, e => by simp at e
  | _ :: _, [], e => by simp at e
  | .k c :: ds, v :: vs, e => by simp only [famsC, famN]; exact famsC_length (by simpa using e)
  | .lit w :: ds, v :: vs, e => by simp only [famsC, famN]; exact famsC_length (by simpa using e)
  | .fam t :: ds, v :: vs, e => by simp only [famsC, famN, List.length_cons]; rw [famsC_length (by simpa using e)]
/-- what is asked of the names of slices that grow -/
def FamHyp (E E0 : Env) (l : List FI) (j : Nat) : Prop := ∀ (i : Nat) fi, l[i]? = some fi → fi.ok = true ∧ Lk E E0 fi.f (j + i)
theorem FamHyp.left {E0 : Env} {l m : List FI} {j : Nat} (h : FamHyp E E0 (l ++ m) j) : FamHyp E E0 l j := fun i fi e => h i fi (by rw [List.getElem?_append_left (List.getElem?_eq_some_iff.1 e).1]; exact e)
theorem FamHyp.right {E0 : Env} {l m : List FI} {j : Nat} (h : FamHyp E E0 (l ++ m) j) : FamHyp E E0 m (j + l.length) := fun i fi e => by
  have := h (l.length + i) fi (by rw [List.getElem?_append_right (by omega)]; simpa using e)
  rw [Nat.add_assoc]; exact this
theorem FamHyp.head {E0 : Env} {x : FI} {l : List FI} {j : Nat} (h : FamHyp E E0 (x :: l) j) : x.ok = true ∧ Lk E E0 x.f j := h 0 x rfl
theorem FamHyp.tail {E0 : Env} {x : FI} {l : List FI} {j : Nat} (h : FamHyp E E0 (x :: l) j) : FamHyp E E0 l (j + 1) := fun i fi e => by
  have := h (i + 1) fi (by simpa using e)
  rw [show j + 1 + i = j + (i + 1) by omega]; exact this
theorem VKL.cellsIn {E0 : Env} (hz : E0.z = E.z) {A : KSt} : ∀ {ds : List CD} {vs : List KV} {us : List Value} {j : Nat}, VKL P E vs us → vs.length = ds.length → goodCDs ds (normCDs P ds vs) = true → FamHyp E E0 (famsC P A ds vs) j → VKL P E0 (reCDs j ds (normCDs P ds vs)) us
  | [], [], us, j, h, _, _, _ => by rw [h.nil_inv]; exact .nil
  | [], _ :: _, _, _, _, e, _, _ => by simp at e
  | _ :: _, [], _, _, _, e, _, _ => by simp at e
  | d :: ds, v :: vs, us, j, h, e, hg, hf => by
    simp only [normCDs, goodCDs, Bool.and_eq_true] at hg
    obtain ⟨y, ys, rfl, h1, h2⟩ := h.cons_inv
    have e' : vs.length = ds.length := by simpa using e
    cases d with
    | k c => exact .cons (h1.nCD.gCD (d := .k c) hz hg.1) (VKL.cellsIn hz h2 e' hg.2 hf)
    | lit w => exact .cons (h1.nCD.gCD (d := .lit w) hz hg.1) (VKL.cellsIn hz h2 e' hg.2 hf)
    | fam t => exact .cons (h1.cellIn hz hg.1 hf.head.2 hf.head.1) (VKL.cellsIn hz h2 e' hg.2 hf.tail)
theorem goodCDs_one {ds : List CD} {v : KV} (h : goodCDs ds [v] = true) : ∃ d, ds = [d] ∧ goodCD d v = true := by
  cases ds with
  | nil => simp [goodCDs] at h
  | cons d ds =>
    simp only [goodCDs, Bool.and_eq_true] at h
    cases ds with
    | nil => exact ⟨d, rfl, h.1⟩
    | cons e ds => simp [goodCDs] at h
theorem goodVD_cases {d : VD} {v : KV} (h : goodVD d v = true) : (∃ cs, v = .agg cs ∧ d.agg = true ∧ goodCDs d.ks cs = true) ∨ ((∀ cs, v ≠ .agg cs) ∧ d.agg = false ∧ ∃ c, d.ks = [c] ∧ goodCD c v = true) := by
  by_cases ha : ∃ cs, v = .agg cs
  · obtain ⟨cs, rfl⟩ := ha
    simp only [goodVD, Bool.and_eq_true] at h
    exact .inl ⟨cs, rfl, h.1, h.2⟩
  · have h : (!d.agg && goodCDs d.ks [v]) = true := by
      cases v <;> first | exact h | exact absurd ⟨_, rfl⟩ ha
    simp only [Bool.and_eq_true, Bool.not_eq_true'] at h
    exact .inr ⟨fun cs e => ha ⟨cs, e⟩, h.1, goodCDs_one h.2⟩
theorem normVD_cases {d : VD} {v : KV} (h : goodVD d (normVD P d v) = true) : (∃ cs, v = .agg cs ∧ cs.length = d.ks.length ∧ normVD P d v = .agg (normCDs P d.ks cs) ∧ goodCDs d.ks (normCDs P d.ks cs) = true) ∨
    ((∀ cs, v ≠ .agg cs) ∧ ∃ c, d.ks = [c] ∧ normVD P d v = normCD P c v ∧ goodCD c (normCD P c v) = true ∧ v.cells = [v] ∧ (∀ cs, normCD P c v ≠ .agg cs)) := by
  have hunk : goodVD d .unk = false := by
    cases hb : goodVD d .unk with
    | false => rfl
    | true =>
      rcases goodVD_cases hb with ⟨cs, e, _⟩ | ⟨_, _, c, _, hc⟩
      · simp at e
      · cases c with
        | k c => cases c <;> simp [goodCD, kindOk] at hc
        | lit w => cases w <;> first | (simp [goodCD, litOk] at hc; done) | (rename_i f a b; cases f <;> cases a <;> cases b <;> simp [goodCD, litOk] at hc)
        | fam t => simp [goodCD, kindOk] at hc
  by_cases ha : ∃ cs, v = .agg cs
  · obtain ⟨cs, rfl⟩ := ha
    have e : normVD P d (.agg cs) = cond (d.agg && Nat.beq cs.length d.ks.length) (.agg (normCDs P d.ks cs)) .unk := rfl
    cases hb : (d.agg && Nat.beq cs.length d.ks.length) with
    | false => rw [e, hb, cond_false, hunk] at h; simp at h
    | true =>
      rw [e, hb, cond_true] at h
      simp only [Bool.and_eq_true] at hb
      simp only [goodVD, Bool.and_eq_true] at h
      exact .inl ⟨cs, rfl, Nat.eq_of_beq_eq_true hb.2, by rw [e]; simp only [hb.1, hb.2, Bool.and_self, cond_true], h.2⟩
  · have e : normVD P d v = cond d.agg .unk (match d.ks with | [c] => normCD P c v | _ => .unk) := by
      cases v <;> first | rfl | exact absurd ⟨_, rfl⟩ ha
    have hcells : v.cells = [v] := by cases v <;> first | rfl | exact absurd ⟨_, rfl⟩ ha
    cases hag : d.agg with
    | true => rw [e, hag, cond_true, hunk] at h; simp at h
    | false =>
      rw [hag, cond_false] at e
      rw [e] at h
      split at h
      · rename_i c hc
        rw [hc] at e
        simp only at e
        rcases goodVD_cases h with ⟨cs, e2, h2, _⟩ | ⟨h1, _, c', h2, h3⟩
        · rw [hag] at h2; simp at h2
        · rw [hc] at h2
          simp only [List.cons.injEq, and_true] at h2
          subst h2
          exact .inr ⟨fun cs ec => ha ⟨cs, ec⟩, c, hc, e, h3, hcells, h1⟩
      · rw [hunk] at h; simp at h
theorem normVD_len {d : VD} {v : KV} (h : goodVD d (normVD P d v) = true) : v.cells.length = d.ks.length := by
  rcases normVD_cases h with ⟨cs, rfl, h1, _⟩ | ⟨_, c, h1, _, _, h2, _⟩
  · exact h1
  · rw [h1, h2]; rfl
theorem VK.vdIn {E0 : Env} (hz : E0.z = E.z) {A : KSt} {d : VD} {v : KV} {u : Value} {j : Nat} (h : VK P E v u) (hg : goodVD d (normVD P d v) = true) (hf : FamHyp E E0 (famsC P A d.ks v.cells) j) : VK P E0 (reVD j d (normVD P d v)) u := by
  rcases normVD_cases hg with ⟨cs, rfl, h1, h2, h3⟩ | ⟨h0, c, h1, h2, h3, h4, h5⟩
  · rw [h2]
    obtain ⟨l, rfl, k⟩ := h.agg_inv
    exact .mkAgg (VKL.cellsIn hz k h1 h3 hf)
  · rw [h2]
    have e : reVD j d (normCD P c v) = (match d.ks with | [.fam _] => setFam j (normCD P c v) | _ => normCD P c v) := by
      generalize normCD P c v = w at h5
      cases w <;> first | rfl | exact absurd rfl (h5 _)
    rw [e, h1]
    rw [h1, h4] at hf
    cases c with
    | k c => exact h.nCD.gCD (d := .k c) hz h3
    | lit w => exact h.nCD.gCD (d := .lit w) hz h3
    | fam t => exact h.cellIn hz h3 hf.head.2 hf.head.1
theorem VK.known_of {d : VD} {t : KTm} {i : Tmp} (h : goodVD d (normVD P d (valOf t i)) = true) : ∃ v, t.get i = some v := by
  cases hg : t.get i with
  | some v => exact ⟨v, rfl⟩
  | none =>
    exfalso
    have e : valOf t i = .unk := by simp [valOf, hg]
    rw [e] at h
    rcases normVD_cases h with ⟨cs, e2, _⟩ | ⟨_, c, _, _, h3, _, _⟩
    · simp at e2
    · cases c with
      | k c =>
        have h4 : kindOk c (K.normC c .unk) = false := by cases c <;> rfl
        have h5 : normCD P (.k c) .unk = .unk := by
          show cond (kindOk c (K.normC c .unk)) (K.canonC P canonD (leaf c (K.normC c .unk))) KV.unk = KV.unk
          rw [h4]; rfl
        rw [h5] at h3
        cases c <;> simp [goodCD, kindOk] at h3
      | lit w => cases w <;> first | (simp [normCD, goodCD, litOk] at h3; done) | (rename_i f a b; cases f <;> cases a <;> cases b <;> simp [normCD, goodCD, litOk] at h3)
      | fam t => simp [normCD, goodCD, kindOk] at h3
end Go.K
