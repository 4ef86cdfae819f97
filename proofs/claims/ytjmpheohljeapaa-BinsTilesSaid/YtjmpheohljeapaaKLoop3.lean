/-
  Loops that are told whole: the store of a round of its own, and the way back.
-/
import Derived.Test.YtjmpheohljeapaaKLoop2
namespace Go.K
open Go Go.Abs
variable {P : Program} {E : Env}

/-! ## Lists -/
theorem nodupK_ok : ∀ {bs : List Nat}, nodupK bs = true → ∀ (i j b : Nat), bs[i]? = some b → bs[j]? = some b → i = j
  | [], _, i, j, b, hi, _ => by simp at hi
  | a :: bs, h, i, j, b, hi, hj => by
    simp only [nodupK, Bool.and_eq_true, List.all_eq_true, Bool.not_eq_true'] at h
    cases i with
    | zero =>
      cases j with
      | zero => rfl
      | succ j =>
        simp at hi hj; subst hi
        have := h.1 a (List.mem_of_getElem? hj)
        exact absurd (Nat.beq_refl a) (by rw [this]; simp)
    | succ i =>
      cases j with
      | zero =>
        simp at hi hj; subst hj
        have := h.1 a (List.mem_of_getElem? hi)
        exact absurd (Nat.beq_refl a) (by rw [this]; simp)
      | succ j =>
        simp at hi hj
        rw [nodupK_ok h.2 i j b hi hj]
theorem someK_mem : ∀ {l : List (Option Nat)} {f : Nat}, f ∈ someK l ↔ some f ∈ l
  | [], f => by simp [someK]
  | some g :: l, f => by simp [someK, someK_mem (l := l)]
  | none :: l, f => by simp [someK, someK_mem (l := l)]
theorem someK_nodup : ∀ {l : List (Option Nat)}, nodupK (someK l) = true → ∀ (i j f : Nat), l[i]? = some (some f) → l[j]? = some (some f) → i = j
  | [], _, i, j, b, hi, _ => by simp at hi
  | none :: l, h, i, j, f, hi, hj => by
    cases i with
    | zero => simp at hi
    | succ i =>
      cases j with
      | zero => simp at hj
      | succ j =>
        simp at hi hj
        rw [someK_nodup (l := l) h i j f hi hj]
  | some g :: l, h, i, j, f, hi, hj => by
    simp only [someK, nodupK, Bool.and_eq_true, List.all_eq_true, Bool.not_eq_true'] at h
    have key : ∀ {k : Nat}, l[k]? = some (some g) → False := by
      intro k hk
      have := h.1 g (someK_mem.2 (List.mem_of_getElem? hk))
      exact absurd (Nat.beq_refl g) (by rw [this]; simp)
    cases i with
    | zero =>
      cases j with
      | zero => rfl
      | succ j =>
        simp at hi hj; subst hi
        exact (key hj).elim
    | succ i =>
      cases j with
      | zero =>
        simp at hi hj; subst hj
        exact (key hi).elim
      | succ j =>
        simp at hi hj
        rw [someK_nodup (l := l) h.2 i j f hi hj]
theorem idsOf_get : ∀ {l : List FI} {i : Nat} {x : FI}, l[i]? = some x → (idsOf l)[i]? = some x.f
  | [], _, _, h => by simp at h
  | y :: l, 0, x, h => by simp at h; subst h; rfl
  | y :: l, i + 1, x, h => by simp at h; simpa [idsOf] using idsOf_get h
theorem idsOf_length : ∀ {l : List FI}, (idsOf l).length = l.length
  | [] => rfl
  | y :: l => by simp [idsOf, idsOf_length]
theorem fisOk_mem : ∀ {l : List FI}, fisOk l = true → ∀ x ∈ l, x.ok = true
  | [], _, x, h => by simp at h
  | y :: l, h, x, hx => by
    simp only [fisOk] at h
    cases hl : fisOk l with
    | false => rw [hl] at h; simp at h
    | true =>
      rw [hl, cond_true] at h
      rcases List.mem_cons.1 hx with rfl | hx
      · exact h
      · exact fisOk_mem hl x hx

/-! ## Stores -/
theorem addFams_next : ∀ (l : List (Nat × Nat)) (A : KSt), (addFams A l).next = A.next + l.length
  | [], _ => rfl
  | p :: l, A => by rw [addFams, addFams_next l]; simp; omega
theorem addFams_old : ∀ {l : List (Nat × Nat)} {A : KSt} {x : Nat}, x < A.next → (addFams A l).get x = A.get x
  | [], _, _, _ => rfl
  | p :: l, A, x, h => by rw [addFams, addFams_old (by simp; omega), KSt.get_new, if_neg (by omega)]
theorem addFams_at : ∀ {l : List (Nat × Nat)} {A : KSt} {i : Nat} {p : Nat × Nat}, l[i]? = some p → (addFams A l).get (A.next + i) = some (.fam p.1 p.2)
  | [], _, _, _, h => by simp at h
  | q :: l, A, 0, p, h => by
    simp at h; subst h
    rw [addFams, Nat.add_zero, addFams_old (by simp), KSt.get_new, if_pos rfl]
  | q :: l, A, i + 1, p, h => by
    simp at h
    have := addFams_at (A := A.new (.fam q.1 q.2)) h
    rw [KSt.next_new] at this
    rw [addFams, show A.next + (i + 1) = A.next + 1 + i by omega]
    exact this
theorem addFams_dom : ∀ {l : List (Nat × Nat)} {A : KSt} {x : Nat} {o : KObj}, (addFams A l).get x = some o → (A.get x = some o ∧ x < A.next + l.length) ∨ (x < A.next ∧ A.get x = some o) ∨ (∃ i p, x = A.next + i ∧ l[i]? = some p ∧ o = .fam p.1 p.2) ∨ A.get x = some o
  | [], _, _, _, h => .inr (.inr (.inr h))
  | p :: l, A, x, o, h => by
    rw [addFams] at h
    have key : (A.new (.fam p.1 p.2)).get x = some o → (∃ i q, x = A.next + i ∧ (p :: l)[i]? = some q ∧ o = .fam q.1 q.2) ∨ A.get x = some o := by
      intro h
      rw [KSt.get_new] at h
      split at h
      · rename_i e; simp at h; exact .inl ⟨0, p, by omega, rfl, h.symm⟩
      · exact .inr h
    rcases addFams_dom h with ⟨h, _⟩ | ⟨_, h⟩ | ⟨i, q, e, h1, h2⟩ | h
    · exact .inr (.inr (key h))
    · exact .inr (.inr (key h))
    · exact .inr (.inr (.inl ⟨i + 1, q, by rw [e]; simp; omega, by simpa using h1, h2⟩))
    · exact .inr (.inr (key h))
/-- what lies in a store to which families were added -/
theorem addFams_inv {l : List (Nat × Nat)} {A : KSt} {x : Nat} {o : KObj} (h : (addFams A l).get x = some o) : A.get x = some o ∨ ∃ i p, x = A.next + i ∧ l[i]? = some p ∧ o = .fam p.1 p.2 := by
  rcases addFams_dom h with ⟨h, _⟩ | ⟨_, h⟩ | h | h
  · exact .inl h
  · exact .inl h
  · exact .inr h
  · exact .inl h
theorem killF_next : ∀ (l : List (Option Nat)) (A : KSt), (killF A l).next = A.next
  | [], _ => rfl
  | some f :: l, A => by rw [killF, killF_next l]; rfl
  | none :: l, A => by rw [killF, killF_next l]
theorem killF_get : ∀ {l : List (Option Nat)} {A : KSt} {x : Nat}, (killF A l).get x = if x ∈ someK l then some .dead else A.get x
  | [], A, x => by simp [killF, someK]
  | none :: l, A, x => by rw [killF, killF_get, someK]
  | some f :: l, A, x => by
    rw [killF, killF_get, someK, KSt.get_put]
    by_cases h1 : x ∈ someK l
    · rw [if_pos h1, if_pos (List.mem_cons_of_mem _ h1)]
    · rw [if_neg h1]
      by_cases h2 : x = f
      · rw [if_pos h2, if_pos (by simp [h2])]
      · rw [if_neg h2, if_neg (by simp [h1, h2])]
theorem back_next : ∀ (bs : List Nat) (ps : List (Tmp × List CD × Nat)) (rs : List (List KV)) (A : KSt), (backRows A bs ps rs).next = A.next
  | [], _, _, _ => rfl
  | _ :: _, [], _, _ => rfl
  | _ :: _, _ :: _, [], _ => rfl
  | b :: bs, p :: ps, r :: rs, A => by rw [backRows, back_next bs ps rs]; rfl
theorem back_other : ∀ {bs : List Nat} {ps : List (Tmp × List CD × Nat)} {rs : List (List KV)} {A : KSt} {x : Nat}, x ∉ bs → (backRows A bs ps rs).get x = A.get x
  | [], _, _, _, _, _ => rfl
  | _ :: _, [], _, _, _, _ => rfl
  | _ :: _, _ :: _, [], _, _, _ => rfl
  | b :: bs, p :: ps, r :: rs, A, x, h => by
    simp only [List.mem_cons, not_or] at h
    rw [backRows, back_other h.2, KSt.get_put, if_neg h.1]
theorem back_at : ∀ {bs : List Nat} {ps : List (Tmp × List CD × Nat)} {rs : List (List KV)} {A : KSt} {k b : Nat} {p : Tmp × List CD × Nat} {r : List KV}, nodupK bs = true → bs[k]? = some b → ps[k]? = some p → rs[k]? = some r → (backRows A bs ps rs).get b = some (.row r p.2.2)
  | [], _, _, _, _, _, _, _, _, h, _, _ => by simp at h
  | _ :: _, [], _, _, _, _, _, _, _, _, h, _ => by simp at h
  | _ :: _, _ :: _, [], _, _, _, _, _, _, _, _, h => by simp at h
  | b :: bs, p :: ps, r :: rs, A, k, x, p', r', hn, hb, hp, hr => by
    have hn' := hn
    simp only [nodupK, Bool.and_eq_true] at hn
    cases k with
    | zero =>
      simp at hb hp hr
      subst hb hp hr
      rw [backRows, back_other, KSt.get_put, if_pos rfl]
      intro hm
      have := List.all_eq_true.1 hn.1 b hm
      simp at this
    | succ k =>
      simp only [List.getElem?_cons_succ] at hb hp hr
      rw [backRows]
      exact back_at hn.2 hb hp hr
theorem mem_next : ∀ {ps : List (Tmp × List CD × Nat)} {rs : List (List KV)} {A : KSt}, rs.length = ps.length → (memRows A ps rs).next = A.next + ps.length
  | [], [], _, _ => rfl
  | [], _ :: _, _, h => by simp at h
  | _ :: _, [], _, h => by simp at h
  | p :: ps, r :: rs, A, h => by rw [memRows, mem_next (by simpa using h)]; simp; omega
theorem mem_old : ∀ {ps : List (Tmp × List CD × Nat)} {rs : List (List KV)} {A : KSt} {x : Nat}, x < A.next → (memRows A ps rs).get x = A.get x
  | [], _, _, _, _ => rfl
  | _ :: _, [], _, _, _ => rfl
  | p :: ps, r :: rs, A, x, h => by rw [memRows, mem_old (by simp; omega), KSt.get_new, if_neg (by omega)]
theorem mem_at : ∀ {ps : List (Tmp × List CD × Nat)} {rs : List (List KV)} {A : KSt} {k : Nat} {p : Tmp × List CD × Nat} {r : List KV}, ps[k]? = some p → rs[k]? = some r → (memRows A ps rs).get (A.next + k) = some (.row r p.2.2)
  | [], _, _, _, _, _, h, _ => by simp at h
  | _ :: _, [], _, _, _, _, _, h => by simp at h
  | p :: ps, r :: rs, A, k, p', r', hp, hr => by
    cases k with
    | zero =>
      simp at hp hr; subst hp hr
      rw [memRows, Nat.add_zero, mem_old (by simp), KSt.get_new, if_pos rfl]
    | succ k =>
      simp only [List.getElem?_cons_succ] at hp hr
      have := mem_at (A := A.new (.row r p.2.2)) hp hr
      rw [memRows]
      simpa [Nat.add_comm, Nat.add_left_comm] using this
theorem mem_dom : ∀ {ps : List (Tmp × List CD × Nat)} {rs : List (List KV)} {A : KSt} {x : Nat} {o : KObj}, (memRows A ps rs).get x = some o → A.get x = some o ∨ ∃ k p r, x = A.next + k ∧ ps[k]? = some p ∧ rs[k]? = some r ∧ o = .row r p.2.2
  | [], _, _, _, _, h => .inl h
  | _ :: _, [], _, _, _, h => .inl h
  | p :: ps, r :: rs, A, x, o, h => by
    rw [memRows] at h
    rcases mem_dom h with h | ⟨k, p', r', rfl, h1, h2, h3⟩
    · rw [KSt.get_new] at h
      by_cases e : x = A.next
      · rw [if_pos e] at h; simp at h
        exact .inr ⟨0, p, r, by omega, rfl, rfl, h.symm⟩
      · rw [if_neg e] at h; exact .inl h
    · exact .inr ⟨k + 1, p', r', by simp; omega, by simpa using h1, by simpa using h2, h3⟩
theorem upto_get : ∀ (n : Nat) (l : List Nat) (k : Nat), (upto n l)[k]? = if k < n then some k else l[k - n]?
  | 0, l, k => by simp [upto]
  | n + 1, l, k => by
    rw [upto, upto_get n]
    by_cases h : k < n
    · rw [if_pos h, if_pos (by omega)]
    · rw [if_neg h]
      by_cases h2 : k = n
      · subst h2
        rw [if_pos (by omega)]
        simp
      · rw [if_neg (by omega), show k - n = (k - (n + 1)) + 1 by omega]
        simp
theorem ids_get (S : LSpec) (k : Nat) (h : k < S.rows.length) : S.ids[k]? = some k := by rw [LSpec.ids, upto_get, if_pos h]
theorem ids_inv {S : LSpec} {k b : Nat} (h : S.ids[k]? = some b) : b = k ∧ k < S.rows.length := by
  rw [LSpec.ids, upto_get] at h
  split at h
  · rename_i h1; simp at h; exact ⟨h.symm, h1⟩
  · simp at h
theorem sameIds_ok : ∀ {a b : List Nat}, sameIds a b = true → a = b
  | [], [], _ => rfl
  | [], _ :: _, h => by simp [sameIds] at h
  | _ :: _, [], h => by simp [sameIds] at h
  | x :: a, y :: b, h => by
    simp only [sameIds, Bool.and_eq_true] at h
    rw [Nat.eq_of_beq_eq_true h.1, sameIds_ok h.2]

/-! ## What a grab shows -/
theorem rowOf_some {t : KTm} {A : KSt} {p : Tmp × List CD × Nat} (h : (rowOf t A p).isSome = true) : ∃ b off cs, t.get p.1 = some (.ptr b off) ∧ A.get b = some (.row cs p.2.2) ∧ cs.length = p.2.1.length ∧ rowB t A p = b ∧ rowC t A p = cs := by
  unfold rowOf at h
  split at h
  · rename_i b off hb
    split at h
    · rename_i cs e hr
      cases hc : (Nat.beq e p.2.2 && Nat.beq cs.length p.2.1.length) with
      | false => rw [hc] at h; simp at h
      | true =>
        have hro : rowOf t A p = some (b, cs) := by simp only [rowOf, hb, hr, hc, cond_true]
        simp only [Bool.and_eq_true] at hc
        have he := Nat.eq_of_beq_eq_true hc.1
        subst he
        exact ⟨b, off, cs, hb, hr, Nat.eq_of_beq_eq_true hc.2, by simp [rowB, hro], by simp [rowC, hro]⟩
    · simp at h
  · simp at h
structure Grabbed (P : Program) (S : LSpec) (t : KTm) (A : KSt) (g : GR) : Prop where
  rows : rowsOk P t A S.rows = true
  nodup : nodupK g.bs = true
  ptrs : ptrsOk t g.bs S.ptrs = true
  vals : goodVDs S.vals g.vs = true
  fnodup : nodupK (someK g.fs) = true
  fams : fisOk (S.fis P t A) = true
  bs : g.bs = grabB t A S.rows
  fs : g.fs = idsOf (S.fis P t A)
  vs : g.vs = grabV P t S.vals
  rs : g.rs = grabR P t A S.rows
theorem grabbed {S : LSpec} {t : KTm} {A : KSt} (h : (S.grab P t A).ok = true) : Grabbed P S t A (S.grab P t A) := by
  unfold LSpec.grab at h ⊢
  simp only at h ⊢
  cases hc : (rowsOk P t A S.rows && nodupK (grabB t A S.rows) && ptrsOk t (grabB t A S.rows) S.ptrs && goodVDs S.vals (grabV P t S.vals) && nodupK (someK (idsOf (S.fis P t A)))) with
  | false => rw [hc] at h; simp at h
  | true =>
    rw [hc, cond_true] at h
    simp only [Bool.and_eq_true] at hc
    exact ⟨hc.1.1.1.1, hc.1.1.1.2, hc.1.1.2, hc.1.2, hc.2, h, rfl, rfl, rfl, rfl⟩
theorem grabB_get {t : KTm} {A : KSt} : ∀ {ps : List (Tmp × List CD × Nat)} {k : Nat} {p : Tmp × List CD × Nat}, ps[k]? = some p → (grabB t A ps)[k]? = some (rowB t A p)
  | [], _, _, h => by simp at h
  | p :: ps, 0, q, h => by simp at h; subst h; rfl
  | p :: ps, k + 1, q, h => by simp at h; simpa [grabB] using grabB_get h
theorem grabB_length {t : KTm} {A : KSt} : ∀ {ps : List (Tmp × List CD × Nat)}, (grabB t A ps).length = ps.length
  | [] => rfl
  | p :: ps => by simp [grabB, grabB_length]
theorem grabR_length {t : KTm} {A : KSt} : ∀ {ps : List (Tmp × List CD × Nat)}, (grabR P t A ps).length = ps.length
  | [] => rfl
  | p :: ps => by simp [grabR, grabR_length]
theorem rowsOk_get {t : KTm} {A : KSt} : ∀ {ps : List (Tmp × List CD × Nat)}, rowsOk P t A ps = true → ∀ {k : Nat} {p : Tmp × List CD × Nat}, ps[k]? = some p → (rowOf t A p).isSome = true ∧ goodCDs p.2.1 (normCDs P p.2.1 (rowC t A p)) = true
  | [], _, k, p, h => by simp at h
  | q :: ps, h, k, p, hp => by
    simp only [rowsOk, Bool.and_eq_true] at h
    cases k with
    | zero => simp at hp; subst hp; exact ⟨h.1, h.2.1⟩
    | succ k => simp at hp; exact rowsOk_get h.2.2 hp
theorem reRs_length : ∀ {ps : List (Tmp × List CD × Nat)} {rs : List (List KV)}, rs.length = ps.length → ∀ j, (reRs j ps rs).length = ps.length
  | [], [], _, _ => rfl
  | [], _ :: _, h, _ => by simp at h
  | _ :: _, [], h, _ => by simp at h
  | p :: ps, r :: rs, h, j => by simp [reRs, reRs_length (by simpa using h)]
/-- where a row's slices that grow stand in the row of all -/
def offR (j : Nat) : List (Tmp × List CD × Nat) → Nat → Nat
  | [], _ => j
  | _ :: _, 0 => j
  | p :: ps, k + 1 => offR (j + famN p.2.1) ps k
theorem reRs_get : ∀ {ps : List (Tmp × List CD × Nat)} {rs : List (List KV)} {j k : Nat} {p : Tmp × List CD × Nat} {r : List KV}, ps[k]? = some p → rs[k]? = some r → (reRs j ps rs)[k]? = some (reCDs (offR j ps k) p.2.1 r)
  | [], _, _, _, _, _, h, _ => by simp at h
  | _ :: _, [], _, _, _, _, _, h => by simp at h
  | p :: ps, r :: rs, j, 0, p', r', h1, h2 => by simp at h1 h2; subst h1 h2; rfl
  | p :: ps, r :: rs, j, k + 1, p', r', h1, h2 => by
    simp at h1 h2
    simp only [reRs, List.getElem?_cons_succ]
    exact reRs_get h1 h2
theorem famsR_hyp {E0 : Env} {t : KTm} {A : KSt} : ∀ {ps : List (Tmp × List CD × Nat)} {j : Nat}, rowsOk P t A ps = true → FamHyp E E0 (famsR P t A ps) j → ∀ {k : Nat} {p : Tmp × List CD × Nat}, ps[k]? = some p → FamHyp E E0 (famsC P A p.2.1 (rowC t A p)) (offR j ps k)
  | [], _, _, _, _, _, h => by simp at h
  | q :: ps, j, hr, hf, k, p, hp => by
    simp only [rowsOk, Bool.and_eq_true] at hr
    obtain ⟨b, off, cs, _, _, hl, _, hC⟩ := rowOf_some hr.1
    cases k with
    | zero => simp at hp; subst hp; exact hf.left
    | succ k =>
      simp at hp
      have := hf.right
      rw [famsC_length (by rw [hC]; exact hl)] at this
      exact famsR_hyp hr.2.2 this hp
theorem famsV_length {t : KTm} {A : KSt} : ∀ {ps : List (Tmp × VD)}, goodVDs ps (grabV P t ps) = true → (famsV P t A ps).length = famNV ps
  | [], _ => rfl
  | p :: ps, h => by
    simp only [grabV, goodVDs, Bool.and_eq_true] at h
    simp only [famsV, famNV, List.length_append]
    rw [famsC_length (normVD_len h.1), famsV_length h.2]
theorem lensC_get {A : KSt} : ∀ {ds : List CD} {vs : List KV} {i : Nat} {x : FI}, vs.length = ds.length → goodCDs ds (normCDs P ds vs) = true → (famsC P A ds vs)[i]? = some x → ∃ t v, x = famOf P A t v ∧ (lensC P ds (normCDs P ds vs))[i]? = some (lenOf (normCD P (.fam t) v), szL P t) ∧ goodCD (.fam t) (normCD P (.fam t) v) = true
  | [], [], _, _, _, _, h => by simp [famsC] at h
  | [], _ :: _, _, _, e, _, _ => by simp at e
  | _ :: _, [], _, _, e, _, _ => by simp at e
  | .k c :: ds, v :: vs, i, x, e, hg, h => by
    simp only [normCDs, goodCDs, Bool.and_eq_true] at hg
    have h' : (famsC P A ds vs)[i]? = some x := h
    obtain ⟨t', v', h1, h2, h3⟩ := lensC_get (show vs.length = ds.length by simpa using e) hg.2 h'
    exact ⟨t', v', h1, h2, h3⟩
  | .lit c :: ds, v :: vs, i, x, e, hg, h => by
    simp only [normCDs, goodCDs, Bool.and_eq_true] at hg
    have h' : (famsC P A ds vs)[i]? = some x := h
    obtain ⟨t', v', h1, h2, h3⟩ := lensC_get (show vs.length = ds.length by simpa using e) hg.2 h'
    exact ⟨t', v', h1, h2, h3⟩
  | .fam t :: ds, v :: vs, i, x, e, hg, h => by
    simp only [normCDs, goodCDs, Bool.and_eq_true] at hg
    cases i with
    | zero => simp [famsC] at h; exact ⟨t, v, h.symm, rfl, hg.1⟩
    | succ i =>
      simp [famsC] at h
      obtain ⟨t', v', h1, h2, h3⟩ := lensC_get (by simpa using e) hg.2 h
      exact ⟨t', v', h1, by simpa [lensC, normCDs] using h2, h3⟩
theorem lensC_length : ∀ {ds : List CD} {vs : List KV}, vs.length = ds.length → (lensC P ds vs).length = famN ds
  | [], [], _ => rfl
  | [], _ :: _, e => by simp at e
  | _ :: _, [], e => by simp at e
  | .k c :: ds, v :: vs, e => by simp only [lensC, famN]; exact lensC_length (by simpa using e)
  | .lit w :: ds, v :: vs, e => by simp only [lensC, famN]; exact lensC_length (by simpa using e)
  | .fam t :: ds, v :: vs, e => by simp only [lensC, famN, List.length_cons]; rw [lensC_length (by simpa using e)]
theorem goodCDs_len : ∀ {ds : List CD} {vs : List KV}, goodCDs ds vs = true → vs.length = ds.length
  | [], [], _ => rfl
  | [], _ :: _, h => by simp [goodCDs] at h
  | _ :: _, [], h => by simp [goodCDs] at h
  | d :: ds, v :: vs, h => by
    simp only [goodCDs, Bool.and_eq_true] at h
    simp [goodCDs_len h.2]
theorem goodVD_len {d : VD} {v : KV} (h : goodVD d v = true) : v.cells.length = d.ks.length := by
  rcases goodVD_cases h with ⟨cs, rfl, _, h1⟩ | ⟨h0, _, c, h1, _⟩
  · exact goodCDs_len h1
  · have : v.cells = [v] := by cases v <;> first | rfl | exact absurd rfl (h0 _)
    rw [this, h1]; rfl
theorem lensV_length : ∀ {ps : List (Tmp × VD)} {vs : List KV}, goodVDs ps vs = true → (lensV P ps vs).length = famNV ps
  | [], [], _ => rfl
  | [], _ :: _, h => by simp [goodVDs] at h
  | _ :: _, [], h => by simp [goodVDs] at h
  | p :: ps, v :: vs, h => by
    simp only [goodVDs, Bool.and_eq_true] at h
    simp only [lensV, famNV, List.length_append]
    rw [lensC_length (goodVD_len h.1), lensV_length h.2]
/-- how long a slice is that grows, and where it stands -/
def FamFact (A : KSt) (x : FI) (p : Nat × Nat) : Prop := (x.f = none ∧ p.1 = 0) ∨ ∃ f, x.f = some f ∧ A.get f = some (.fam p.1 p.2)
theorem famFact {A : KSt} {t : TypeId} {v : KV} (hok : (famOf P A t v).ok = true) (hg : goodCD (.fam t) (normCD P (.fam t) v) = true) : FamFact A (famOf P A t v) (lenOf (normCD P (.fam t) v), szL P t) := by
  cases v with
  | nilsl => exact .inl ⟨rfl, rfl⟩
  | ts t' m n es acc =>
    cases m with
    | fam f =>
      have e1 : normCD P (.fam t) (.ts t' (.fam f) n es acc) = cond (Nat.beq t t') (K.canonC P canonD (.ts t .any n es acc)) .unk := rfl
      rw [e1] at hg ⊢
      cases hb : Nat.beq t t' with
      | false => rw [hb] at hg; simp [goodCD, kindOk] at hg
      | true =>
        rw [cond_true]
        refine .inr ⟨f, ?_, ?_⟩
        · revert hok
          unfold famOf
          simp only
          split
          · intro _; rfl
          · intro hok; simp at hok
        · revert hok
          unfold famOf
          simp only
          split
          · rename_i top sz he
            intro hok
            simp only at hok
            cases hs : Nat.beq sz (szL P t) with
            | false => rw [hs] at hok; simp at hok
            | true =>
              rw [hs, cond_true] at hok
              have h1 := Nat.eq_of_beq_eq_true hs
              have h2 := Nat.eq_of_beq_eq_true (show Nat.beq top n = true from hok)
              subst h1 h2
              exact he
          · intro hok; simp at hok
    | any => simp [famOf] at hok
    | exact => simp [famOf] at hok
  | _ => simp [famOf] at hok
theorem lensV_fact {t : KTm} {A : KSt} : ∀ {ps : List (Tmp × VD)} {i : Nat} {x : FI}, goodVDs ps (grabV P t ps) = true → (famsV P t A ps)[i]? = some x → x.ok = true → ∃ p, (lensV P ps (grabV P t ps))[i]? = some p ∧ FamFact A x p
  | [], _, _, _, h, _ => by simp [famsV] at h
  | p :: ps, i, x, hg, h, hok => by
    simp only [grabV, goodVDs, Bool.and_eq_true] at hg
    simp only [famsV] at h
    have hl := normVD_len hg.1
    by_cases hi : i < (famsC P A p.2.ks (valOf t p.1).cells).length
    · rw [List.getElem?_append_left hi] at h
      have hg' : goodCDs p.2.ks (normCDs P p.2.ks (valOf t p.1).cells) = true ∧ (normVD P p.2 (valOf t p.1)).cells = normCDs P p.2.ks (valOf t p.1).cells := by
        rcases normVD_cases hg.1 with ⟨cs, e, _, h2, h3⟩ | ⟨_, c, h1, h2, h3, h4, h5⟩
        · rw [e] at h2 ⊢; exact ⟨h3, by rw [h2]; rfl⟩
        · rw [h4, h1]
          refine ⟨by simp [normCDs, goodCDs, h3], ?_⟩
          rw [h2]
          show (normCD P c (valOf t p.1)).cells = [normCD P c (valOf t p.1)]
          generalize normCD P c (valOf t p.1) = w at h5 ⊢
          cases w <;> first | rfl | exact absurd rfl (h5 _)
      obtain ⟨t', v', h1, h2, h3⟩ := lensC_get hl hg'.1 h
      refine ⟨_, ?_, h1 ▸ famFact (h1 ▸ hok) h3⟩
      simp only [grabV, lensV]
      rw [hg'.2, List.getElem?_append_left (List.getElem?_eq_some_iff.1 h2).1]
      exact h2
    · rw [List.getElem?_append_right (by omega)] at h
      obtain ⟨q, h1, h2⟩ := lensV_fact hg.2 h hok
      refine ⟨q, ?_, h2⟩
      simp only [grabV, lensV]
      have e1 : (lensC P p.2.ks (normVD P p.2 (valOf t p.1)).cells).length = (famsC P A p.2.ks (valOf t p.1).cells).length := by rw [lensC_length (goodVD_len hg.1), famsC_length hl]
      rw [List.getElem?_append_right (by omega), e1]
      exact h1
theorem lensR_fact {t : KTm} {A : KSt} : ∀ {ps : List (Tmp × List CD × Nat)} {i : Nat} {x : FI}, rowsOk P t A ps = true → (famsR P t A ps)[i]? = some x → x.ok = true → ∃ p, (lensR P ps (grabR P t A ps))[i]? = some p ∧ FamFact A x p
  | [], _, _, _, h, _ => by simp [famsR] at h
  | p :: ps, i, x, hg, h, hok => by
    simp only [rowsOk, Bool.and_eq_true] at hg
    simp only [famsR] at h
    obtain ⟨b, off, cs, _, _, hl, _, hC⟩ := rowOf_some hg.1
    rw [← hC] at hl
    by_cases hi : i < (famsC P A p.2.1 (rowC t A p)).length
    · rw [List.getElem?_append_left hi] at h
      obtain ⟨t', v', h1, h2, h3⟩ := lensC_get hl hg.2.1 h
      refine ⟨_, ?_, h1 ▸ famFact (h1 ▸ hok) h3⟩
      simp only [grabR, lensR]
      rw [List.getElem?_append_left (List.getElem?_eq_some_iff.1 h2).1]
      exact h2
    · rw [List.getElem?_append_right (by omega)] at h
      obtain ⟨q, h1, h2⟩ := lensR_fact hg.2.2 h hok
      refine ⟨q, ?_, h2⟩
      simp only [grabR, lensR]
      have e1 : (lensC P p.2.1 (normCDs P p.2.1 (rowC t A p))).length = (famsC P A p.2.1 (rowC t A p)).length := by rw [lensC_length (goodCDs_len hg.2.1), famsC_length hl]
      rw [List.getElem?_append_right (by omega), e1]
      exact h1
theorem lensR_length : ∀ {ps : List (Tmp × List CD × Nat)} {rs : List (List KV)}, rs.length = ps.length → (∀ (k : Nat) p r, ps[k]? = some p → rs[k]? = some r → goodCDs p.2.1 r = true) → ∀ {l : Nat}, l = (ps.map fun p => famN p.2.1).sum → (lensR P ps rs).length = l
  | [], [], _, _, l, hl => by subst hl; rfl
  | [], _ :: _, h, _, _, _ => by simp at h
  | _ :: _, [], h, _, _, _ => by simp at h
  | p :: ps, r :: rs, h, hk, l, hl => by
    simp only [lensR, List.length_append]
    rw [lensC_length (goodCDs_len (hk 0 p r rfl rfl)), lensR_length (by simpa using h) (fun k p r h1 h2 => hk (k + 1) p r (by simpa using h1) (by simpa using h2)) rfl, hl]
    simp
theorem famsR_length {t : KTm} {A : KSt} : ∀ {ps : List (Tmp × List CD × Nat)}, rowsOk P t A ps = true → (famsR P t A ps).length = (ps.map fun p => famN p.2.1).sum
  | [], _ => rfl
  | p :: ps, h => by
    simp only [rowsOk, Bool.and_eq_true] at h
    obtain ⟨b, off, cs, _, _, hl, _, hC⟩ := rowOf_some h.1
    simp only [famsR, List.length_append, List.map_cons, List.sum_cons]
    rw [famsC_length (by rw [hC]; exact hl), famsR_length h.2.2]
end Go.K
