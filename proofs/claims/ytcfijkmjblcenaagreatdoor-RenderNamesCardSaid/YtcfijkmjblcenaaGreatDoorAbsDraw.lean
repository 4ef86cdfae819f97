/-
  A region that draws its order: whatever order its edges allow, the abstract machine's own run of it (in the order of the text) tells what comes of it.
-/
import Derived.Test.YtcfijkmjblcenaaGreatDoorAbsOps5
import Derived.OrdersIn
namespace Go.Abs
noncomputable section
open Go

/-- the fence of an activation (none), of a round of a loop over a function: it bars nothing -/
abbrev Fr (r : Option Nat) : Fence := { Fence.wide with round := r }

/-! ## Small facts -/
mutual
theorem sameV_eq : ∀ {v w : Value}, sameV v w = true → v = w
  | .bool a, w, h => by cases w <;> simp_all [sameV]
  | .int k a, w, h => by cases w <;> simp_all [sameV]
  | .float k a, w, h => by cases w <;> simp_all [sameV]
  | .complex k a b, w, h => by cases w <;> simp_all [sameV]
  | .string a, w, h => by
    cases w with
    | string b =>
      simp only [sameV, decide_eq_true_eq] at h
      obtain ⟨⟨a⟩⟩ := a
      obtain ⟨⟨b⟩⟩ := b
      simp_all
    | _ => simp [sameV] at h
  | .pointer a, w, h => by cases w <;> simp_all [sameV]
  | .slice a n c, w, h => by cases w <;> simp_all [sameV]
  | .map a, w, h => by cases w <;> simp_all [sameV]
  | .chan a, w, h => by cases w <;> simp [sameV] at h
  | .func fn f c, w, h => by
    cases w with
    | func gn g d =>
      simp only [sameV, Bool.and_eq_true, decide_eq_true_eq] at h
      rw [h.1.1, sameA_eq h.1.2, sameA_eq h.2]
    | _ => simp [sameV] at h
  | .nilFunc, w, h => by cases w <;> simp_all [sameV]
  | .iface t v, w, h => by
    cases w with
    | iface u x =>
      simp only [sameV, Bool.and_eq_true, beq_iff_eq] at h
      rw [h.1, sameV_eq h.2]
    | _ => simp [sameV] at h
  | .nilIface, w, h => by cases w <;> simp_all [sameV]
  | .agg a, w, h => by
    cases w with
    | agg b => simp only [sameV] at h; rw [sameA_eq h]
    | _ => simp [sameV] at h
  | .tuple a, w, h => by
    cases w with
    | tuple b => simp only [sameV] at h; rw [sameA_eq h]
    | _ => simp [sameV] at h
theorem sameA_eq : ∀ {v w : Array Value}, sameA v w = true → v = w
  | ⟨l⟩, ⟨m⟩, h => by simp only [sameA] at h; rw [sameL_eq h]
theorem sameL_eq : ∀ {v w : List Value}, sameL v w = true → v = w
  | [], w, h => by cases w <;> simp_all [sameL]
  | x :: l, w, h => by
    cases w with
    | nil => simp [sameL] at h
    | cons y m =>
      simp only [sameL, Bool.and_eq_true] at h
      rw [sameV_eq h.1, sameL_eq h.2]
end

/-- ρ, asked of the blocks below n alone -/
def Ren.res (ρ : Ren) (n : Nat) : Ren := fun b => if b < n then ρ b else none
theorem Ren.res_le (ρ : Ren) (n : Nat) : (ρ.res n).le ρ := fun b l h => by unfold Ren.res at h; split at h <;> simp_all
theorem Ren.res_mono (ρ : Ren) {n m : Nat} (h : n ≤ m) : (ρ.res n).le (ρ.res m) := fun b l e => by
  unfold Ren.res at e ⊢
  split at e
  · rw [if_pos (by omega)]; exact e
  · simp at e
theorem Ren.res_le_res {ρ ρ' : Ren} (h : ρ.le ρ') (n : Nat) : (ρ.res n).le (ρ'.res n) := fun b l e => by
  unfold Ren.res at e ⊢
  split at e
  · rename_i hb; rw [if_pos hb]; exact h _ _ e
  · simp at e
theorem Ren.res_lt {ρ : Ren} {n b : Nat} {l : Loc} (h : ρ.res n b = some l) : b < n ∧ ρ b = some l := by
  unfold Ren.res at h
  split at h
  · exact ⟨‹_›, h⟩
  · simp at h
theorem Ren.res_of {ρ : Ren} {n b : Nat} (h : b < n) : ρ.res n b = ρ b := by unfold Ren.res; rw [if_pos h]

theorem FnR.under {ρ : Ren} {n : Nat} {fn fn' : Fn} (hu : underF n fn = true) (h : FnR ρ fn fn') : FnR (ρ.res n) fn fn' := by
  cases fn with
  | yield r =>
    obtain ⟨l, h1, h2⟩ := h
    simp only [underF] at hu
    rw [Nat.blt_eq] at hu
    exact ⟨l, by rw [Ren.res_of hu]; exact h1, h2⟩
  | _ => exact h
mutual
theorem VR.under {ρ : Ren} {n : Nat} : ∀ {v v' : Value}, Abs.under n v = true → VR ρ v v' → VR (ρ.res n) v v'
  | .bool b, v, _, hv => by simpa [VR] using hv
  | .int k n, v, _, hv => by simpa [VR] using hv
  | .float k x, v, _, hv => by simpa [VR] using hv
  | .complex k x y, v, _, hv => by simpa [VR] using hv
  | .string s, v, _, hv => by simpa [VR] using hv
  | .pointer none, v, _, hv => by simpa [VR] using hv
  | .pointer (some a), v, hu, hv => by
    simp only [Abs.under] at hu
    rw [Nat.blt_eq] at hu
    simp only [VR] at hv ⊢
    rw [Ren.res_of hu]
    exact hv
  | .slice none n c, v, _, hv => by simpa [VR] using hv
  | .slice (some a) n c, v, hu, hv => by
    simp only [Abs.under] at hu
    rw [Nat.blt_eq] at hu
    simp only [VR] at hv ⊢
    rw [Ren.res_of hu]
    exact hv
  | .map none, v, _, hv => by simpa [VR] using hv
  | .map (some r), v, hu, hv => by
    simp only [Abs.under] at hu
    rw [Nat.blt_eq] at hu
    simp only [VR] at hv ⊢
    rw [Ren.res_of hu]
    exact hv
  | .chan _, _, _, _ => by simp [VR]
  | .func fn f c, v, hu, hv => by
    simp only [Abs.under, Bool.and_eq_true] at hu
    simp only [VR] at hv ⊢
    obtain ⟨f', c', h2, h3, fn', h4, h5⟩ := hv
    exact ⟨f', c', VRA.under hu.1.2 h2, VRA.under hu.2 h3, fn', FnR.under hu.1.1 h4, h5⟩
  | .nilFunc, v, _, hv => by simpa [VR] using hv
  | .iface t x, v, hu, hv => by
    simp only [Abs.under] at hu
    simp only [VR] at hv ⊢
    obtain ⟨x', h2, h3⟩ := hv
    exact ⟨x', VR.under hu h2, h3⟩
  | .nilIface, v, _, hv => by simpa [VR] using hv
  | .agg cs, v, hu, hv => by
    simp only [Abs.under] at hu
    simp only [VR] at hv ⊢
    obtain ⟨x', h2, h3⟩ := hv
    exact ⟨x', VRA.under hu h2, h3⟩
  | .tuple cs, v, hu, hv => by
    simp only [Abs.under] at hu
    simp only [VR] at hv ⊢
    obtain ⟨x', h2, h3⟩ := hv
    exact ⟨x', VRA.under hu h2, h3⟩
theorem VRA.under {ρ : Ren} {n : Nat} : ∀ {v v' : Array Value}, Abs.underA n v = true → VRA ρ v v' → VRA (ρ.res n) v v'
  | ⟨l⟩, a, hu, hv => by simp only [Abs.underA] at hu; simp only [VRA] at hv ⊢; exact VRL.under hu hv
theorem VRL.under {ρ : Ren} {n : Nat} : ∀ {v v' : List Value}, Abs.underL n v = true → VRL ρ v v' → VRL (ρ.res n) v v'
  | [], l, _, hv => by simpa [VRL] using hv
  | x :: xs, l, hu, hv => by
    simp only [Abs.underL, Bool.and_eq_true] at hu
    simp only [VRL] at hv ⊢
    obtain ⟨y, ys, e, h1, h2⟩ := hv
    exact ⟨y, ys, e, VR.under hu.1 h1, VRL.under hu.2 h2⟩
end

/-! ## What the order of a region's edges gives -/
/-- what an operation waits for, at last -/
theorem befOne_spec {acc : List Nat} {j : Nat} : ∀ {es : List Edge}, Nat.testBit (befOne acc es) j = true → ∃ e ∈ es, binds e = true ∧ (j = e.on ∨ bef acc e.on j = true)
  | [], h => by simp [befOne] at h
  | e :: es, h => by
    simp only [befOne] at h
    cases hb : binds e with
    | false =>
      rw [hb, cond_false] at h
      obtain ⟨e', h1, h2⟩ := befOne_spec h
      exact ⟨e', by simp [h1], h2⟩
    | true =>
      rw [hb, cond_true] at h
      have e1 : ∀ a b : Nat, Nat.lor a b = a ||| b := fun _ _ => rfl
      have e2 : Nat.shiftLeft 1 e.on = 1 <<< e.on := rfl
      rw [e1, e1, e2, Nat.testBit_or, Nat.testBit_or, Bool.or_eq_true, Bool.or_eq_true] at h
      rcases h with (h | h) | h
      · refine ⟨e, by simp, hb, .inl ?_⟩
        rw [Nat.one_shiftLeft, Nat.testBit_two_pow] at h
        exact (of_decide_eq_true h).symm
      · exact ⟨e, by simp, hb, .inr h⟩
      · obtain ⟨e', h1, h2⟩ := befOne_spec h
        exact ⟨e', by simp [h1], h2⟩
theorem befAll_get : ∀ (os : List Oper) (acc : List Nat), ∃ r, befAll acc os = acc ++ r ∧ r.length = os.length
  | [], acc => ⟨[], by simp [befAll]⟩
  | o :: os, acc => by
    obtain ⟨r, h1, h2⟩ := befAll_get os (acc ++ [befOne acc o.after.toList])
    exact ⟨befOne acc o.after.toList :: r, by simp [befAll, h1], by simp [h2]⟩
/-- with edges that go back alone, what i waits for it waits for by an edge, or what it so waits for does -/
theorem bef_spec : ∀ (os : List Oper) (acc : List Nat) (i j : Nat) (o : Oper), os[i]? = some o → (∀ e ∈ o.after.toList, binds e = true → e.on < acc.length + i) →
    bef (befAll acc os) (acc.length + i) j = true → ∃ e ∈ o.after.toList, binds e = true ∧ (j = e.on ∨ bef (befAll acc os) e.on j = true)
  | [], acc, i, j, o, ho, _, _ => by simp at ho
  | o0 :: os, acc, 0, j, o, ho, hf, h => by
    simp at ho
    subst ho
    obtain ⟨r, h1, _⟩ := befAll_get os (acc ++ [befOne acc o0.after.toList])
    have e0 : befAll acc (o0 :: os) = acc ++ [befOne acc o0.after.toList] ++ r := by simp only [befAll]; exact h1
    rw [e0] at h ⊢
    have e1 : (acc ++ [befOne acc o0.after.toList] ++ r).getD (acc.length + 0) 0 = befOne acc o0.after.toList := by simp [List.getD]
    unfold bef at h
    rw [e1] at h
    obtain ⟨e, h2, h3, h4⟩ := befOne_spec h
    refine ⟨e, h2, h3, h4.imp id fun h5 => ?_⟩
    have hlt := hf e h2 h3
    unfold bef at h5 ⊢
    have : (acc ++ [befOne acc o0.after.toList] ++ r).getD e.on 0 = acc.getD e.on 0 := by
      simp only [List.getD, List.append_assoc]
      rw [List.getElem?_append_left (by simpa using hlt)]
    rw [this]
    exact h5
  | o0 :: os, acc, i + 1, j, o, ho, hf, h => by
    have hlen : (acc ++ [befOne acc o0.after.toList]).length + i = acc.length + (i + 1) := by simp; omega
    have := bef_spec os (acc ++ [befOne acc o0.after.toList]) i j o (by simpa using ho) (by rw [hlen]; exact hf) (by rw [hlen]; exact h)
    simpa only [befAll] using this

theorem befOne_edge {acc : List Nat} {e : Edge} : ∀ {es : List Edge}, e ∈ es → binds e = true → Nat.testBit (befOne acc es) e.on = true ∧ ∀ k, bef acc e.on k = true → Nat.testBit (befOne acc es) k = true
  | [], h, _ => by simp at h
  | x :: es, h, hb => by
    have e1 : ∀ a b : Nat, Nat.lor a b = a ||| b := fun _ _ => rfl
    have e2 : ∀ n, Nat.shiftLeft 1 n = 1 <<< n := fun _ => rfl
    simp only [befOne]
    rcases List.mem_cons.1 h with rfl | h
    · rw [hb, cond_true]
      simp only [e1, e2, Nat.testBit_or, Bool.or_eq_true]
      refine ⟨.inl (.inl ?_), fun k hk => .inl (.inr hk)⟩
      rw [Nat.one_shiftLeft, Nat.testBit_two_pow]
      simp
    · obtain ⟨h1, h2⟩ := befOne_edge h hb
      cases hx : binds x with
      | false => rw [cond_false]; exact ⟨h1, h2⟩
      | true =>
        rw [cond_true]
        simp only [e1, e2, Nat.testBit_or, Bool.or_eq_true]
        exact ⟨.inr h1, fun k hk => .inr (h2 k hk)⟩
theorem bef_edge : ∀ (os : List Oper) (acc : List Nat) (i : Nat) (o : Oper), os[i]? = some o → ∀ e ∈ o.after.toList, binds e = true → e.on < acc.length + i →
    bef (befAll acc os) (acc.length + i) e.on = true ∧ ∀ k, bef (befAll acc os) e.on k = true → bef (befAll acc os) (acc.length + i) k = true
  | [], acc, i, o, ho, _, _, _, _ => by simp at ho
  | o0 :: os, acc, 0, o, ho, e, he, hb, hlt => by
    simp at ho
    subst ho
    obtain ⟨r, h1, _⟩ := befAll_get os (acc ++ [befOne acc o0.after.toList])
    have e0 : befAll acc (o0 :: os) = acc ++ [befOne acc o0.after.toList] ++ r := by simp only [befAll]; exact h1
    rw [e0]
    have e1 : (acc ++ [befOne acc o0.after.toList] ++ r).getD (acc.length + 0) 0 = befOne acc o0.after.toList := by simp [List.getD]
    have e2 : (acc ++ [befOne acc o0.after.toList] ++ r).getD e.on 0 = acc.getD e.on 0 := by
      simp only [List.getD, List.append_assoc]
      rw [List.getElem?_append_left (by simpa using hlt)]
    obtain ⟨h2, h3⟩ := befOne_edge (acc := acc) he hb
    unfold bef
    rw [e1, e2]
    exact ⟨h2, fun k hk => h3 k hk⟩
  | o0 :: os, acc, i + 1, o, ho, e, he, hb, hlt => by
    have hlen : (acc ++ [befOne acc o0.after.toList]).length + i = acc.length + (i + 1) := by simp; omega
    have := bef_edge os (acc ++ [befOne acc o0.after.toList]) i o (by simpa using ho) e he hb (by rw [hlen]; exact hlt)
    rw [hlen] at this
    simpa only [befAll] using this

structure RegionFacts (P : Program) (all : List Oper) : Prop where
  back : ∀ i o, all[i]? = some o → ∀ e ∈ o.after.toList, binds e = true → e.on < i
  apart : ∀ i j x y, all[i]? = some y → all[j]? = some x → j < i → clash P all x y = true → bef (befAll [] all) i j = true
theorem clashes_spec {P : Program} {all : List Oper} {b : List Nat} {i : Nat} {y : Oper} : ∀ (xs : List Oper) (k : Nat), clashes P all b i y xs k = true → ∀ (j : Nat) (x : Oper), xs[j]? = some x → k + j < i → clash P all x y = true → bef b i (k + j) = true
  | [], k, _, j, x, hx, _, _ => by simp at hx
  | x0 :: xs, k, h, 0, x, hx, hlt, hc => by
    simp at hx
    subst hx
    simp only [clashes, Bool.and_eq_true, Bool.or_eq_true, Bool.not_eq_true'] at h
    rcases h.1 with (h1 | h1) | h1
    · have := Nat.le_of_ble_eq_true h1; omega
    · rw [hc] at h1; simp at h1
    · exact h1
  | x0 :: xs, k, h, j + 1, x, hx, hlt, hc => by
    simp only [clashes, Bool.and_eq_true] at h
    have := clashes_spec xs (k + 1) h.2 j x (by simpa using hx) (by omega) hc
    rwa [show k + 1 + j = k + (j + 1) by omega] at this
theorem regionOkFrom_spec {P : Program} {all : List Oper} {b : List Nat} : ∀ (os : List Oper) (k : Nat), regionOkFrom P all b os k = true → ∀ (i : Nat) (o : Oper), os[i]? = some o →
    (∀ e ∈ o.after.toList, binds e = true → e.on < k + i) ∧ clashes P all b (k + i) o all 0 = true
  | [], k, _, i, o, ho => by simp at ho
  | o0 :: os, k, h, 0, o, ho => by
    simp at ho
    subst ho
    simp only [regionOkFrom, Bool.and_eq_true, List.all_eq_true] at h
    refine ⟨fun e he hb => ?_, h.1.2⟩
    have := h.1.1 e he
    rw [hb] at this
    simp at this
    exact this
  | o0 :: os, k, h, i + 1, o, ho => by
    simp only [regionOkFrom, Bool.and_eq_true] at h
    have := regionOkFrom_spec os (k + 1) h.2 i o (by simpa using ho)
    rwa [show k + 1 + i = k + (i + 1) by omega] at this
theorem regionOk_facts {P : Program} {all : List Oper} (h : regionOk P all = true) : RegionFacts P all := by
  unfold regionOk at h
  refine ⟨fun i o ho => ?_, fun i j x y hy hx hlt hc => ?_⟩
  · have := (regionOkFrom_spec all 0 h i o ho).1
    simpa using this
  · have := clashes_spec all 0 (regionOkFrom_spec all 0 h i y hy).2 j x hx (by simpa using hlt) hc
    simpa using this

theorem bef_none {all : List Oper} {i j : Nat} (h : all[i]? = none) : bef (befAll [] all) i j = false := by
  obtain ⟨r, h1, h2⟩ := befAll_get all []
  rw [List.nil_append] at h1
  unfold bef
  rw [h1]
  have : r[i]? = none := by
    rw [List.getElem?_eq_none_iff] at h ⊢
    omega
  simp [List.getD, this]
theorem bef_lt {P : Program} {all : List Oper} (hf : RegionFacts P all) : ∀ {i j : Nat}, bef (befAll [] all) i j = true → j < i := by
  intro i
  induction i using Nat.strongRecOn with
  | _ i ih =>
    intro j h
    cases ho : all[i]? with
    | none => rw [bef_none ho] at h; simp at h
    | some o =>
      obtain ⟨e, h1, h2, h3⟩ := bef_spec all [] i j o ho (by simpa using hf.back i o ho) (by simpa using h)
      have hlt := hf.back i o ho e h1 h2
      rcases h3 with rfl | h3
      · exact hlt
      · have := ih e.on hlt h3; omega
theorem bef_trans {P : Program} {all : List Oper} (hf : RegionFacts P all) : ∀ {i j k : Nat}, bef (befAll [] all) i j = true → bef (befAll [] all) j k = true → bef (befAll [] all) i k = true := by
  intro i
  induction i using Nat.strongRecOn with
  | _ i ih =>
    intro j k h hk
    cases ho : all[i]? with
    | none => rw [bef_none ho] at h; simp at h
    | some o =>
      obtain ⟨e, h1, h2, h3⟩ := bef_spec all [] i j o ho (by simpa using hf.back i o ho) (by simpa using h)
      have hlt := hf.back i o ho e h1 h2
      have hedge := (bef_edge all [] i o ho e h1 h2 (by simpa using hlt)).2 k
      simp only [List.length_nil, Nat.zero_add] at hedge
      rcases h3 with rfl | h3
      · exact hedge hk
      · exact hedge (ih e.on hlt h3 hk)

/-! ## The region, operation by operation, whatever the order -/
/-- the operations that have been done: whatever one waits for is done before it -/
def Closed (all : List Oper) (S : Nat → Bool) : Prop := ∀ i j, S i = true → bef (befAll [] all) i j = true → S j = true
def readyFor (all : List Oper) (S : Nat → Bool) (i : Nat) : Prop := ∀ o, all[i]? = some o → ∀ e ∈ o.after.toList, binds e = true → S e.on = true
theorem Closed.ready {P : Program} {all : List Oper} (hf : RegionFacts P all) {S : Nat → Bool} (hc : Closed all S) {i : Nat} {o : Oper} (ho : all[i]? = some o) (hr : readyFor all S i) : ∀ j, bef (befAll [] all) i j = true → S j = true := by
  intro j hj
  obtain ⟨e, h1, h2, h3⟩ := bef_spec all [] i j o ho (by simpa using hf.back i o ho) (by simpa using hj)
  have hs := hr o ho e h1 h2
  rcases h3 with rfl | h3
  · exact hs
  · exact hc _ _ hs h3
def insertS (S : Nat → Bool) (i : Nat) : Nat → Bool := fun j => S j || Nat.beq j i
theorem Closed.insert {P : Program} {all : List Oper} (hf : RegionFacts P all) {S : Nat → Bool} (hc : Closed all S) {i : Nat} {o : Oper} (ho : all[i]? = some o) (hr : readyFor all S i) : Closed all (insertS S i) := by
  intro a b h1 h2
  simp only [insertS, Bool.or_eq_true] at h1 ⊢
  rcases h1 with h1 | h1
  · exact .inl (hc a b h1 h2)
  · have := Nat.eq_of_beq_eq_true h1
    subst this
    exact .inl (hc.ready hf ho hr b h2)

theorem binds_eq (e : Edge) : Region.binds .any e = binds e := by
  unfold Region.binds binds
  cases e.ground <;> rfl

theorem ready_spec {all : List Oper} {listed : Array Bool} {i : Nat} (h : i ∈ Region.ready .any ⟨all⟩ listed) : i < all.length ∧ listed.getD i true = false ∧ readyFor all (fun j => listed.getD j false) i := by
  unfold Region.ready at h
  rw [List.mem_filter, List.mem_range] at h
  obtain ⟨h1, h2⟩ := h
  simp only [Bool.and_eq_true, Bool.not_eq_true'] at h2
  refine ⟨by simpa using h1, h2.1, fun o ho e he hb => ?_⟩
  have e1 : (⟨all⟩ : Array Oper)[i]? = some o := by simpa using ho
  rw [e1] at h2
  simp only [Option.map_some, Option.getD_some] at h2
  have := Array.all_eq_true'.1 h2.2 e (by simpa using he)
  rw [binds_eq, hb] at this
  simpa using this
theorem ready_nil {P : Program} {all : List Oper} (hf : RegionFacts P all) {listed : Array Bool} (hl : listed.size = all.length) (h : Region.ready .any ⟨all⟩ listed = []) : ∀ i, i < all.length → listed.getD i false = true := by
  intro i
  induction i using Nat.strongRecOn with
  | _ i ih =>
    intro hi
    cases hc : listed.getD i false with
    | true => rfl
    | false =>
      exfalso
      obtain ⟨o, ho⟩ : ∃ o, all[i]? = some o := ⟨_, List.getElem?_eq_getElem hi⟩
      have hm : i ∈ Region.ready .any ⟨all⟩ listed := by
        unfold Region.ready
        rw [List.mem_filter, List.mem_range]
        refine ⟨by simpa using hi, ?_⟩
        have e1 : (⟨all⟩ : Array Oper)[i]? = some o := by simpa using ho
        rw [e1]
        have e2 : listed.getD i true = false := by
          have : i < listed.size := by omega
          simpa [Array.getD_eq_getD_getElem?, this] using hc
        simp only [e2, Bool.not_false, Bool.true_and, Option.map_some, Option.getD_some]
        rw [Array.all_eq_true']
        intro e he
        cases hb : binds e with
        | false => rw [binds_eq, hb]; rfl
        | true =>
          have hlt := hf.back i o ho e (by simpa using he) hb
          rw [ih e.on hlt (by omega)]
          simp
      rw [h] at hm
      simp at hm

theorem count_set : ∀ (l : List Bool) (i : Nat), l[i]? = some false → ((l.set i true).filter (!·)).length + 1 = (l.filter (!·)).length
  | [], i, h => by simp at h
  | x :: l, 0, h => by
    simp at h
    subst h
    simp
  | x :: l, i + 1, h => by
    have := count_set l i (by simpa using h)
    cases x <;> simp at this ⊢ <;> omega
theorem any_of_inv {P : Program} {all : List Oper} {r : Option Nat} (hf : RegionFacts P all) {Q : Exit → Act → World → Prop} (I : (Nat → Bool) → Act → World → Prop) (hI : ∀ S S' a w, (∀ i, i < all.length → S i = S' i) → I S a w → I S' a w)
    (step : ∀ S a w i o, I S a w → Closed all S → all[i]? = some o → S i = false → readyFor all S i → (∀ j, S j = true → j < all.length) → wpOpIn (Fr r) 0 P ⟨all⟩ Q i (I (insertS S i)) a w)
    (fin : ∀ S a w, (∀ i, i < all.length → S i = true) → I S a w → Q .normal a w) :
    ∀ (fuel : Nat) (listed : Array Bool) (a : Act) (w : World), listed.size = all.length → (listed.toList.filter (!·)).length = fuel → Closed all (fun j => listed.getD j false) → I (fun j => listed.getD j false) a w → wpAnyIn (Fr r) 0 P .any ⟨all⟩ Q fuel listed a w
  | 0, listed, a, w, hs, hn, hc, h => by
    have hall : ∀ i, i < all.length → listed.getD i false = true := by
      intro i hi
      have : i < listed.size := by omega
      cases hb : listed.getD i false with
      | true => rfl
      | false =>
        exfalso
        have hg : listed[i] = false := by simpa [Array.getD_eq_getD_getElem?, this] using hb
        have hm : listed[i] ∈ listed.toList.filter (!·) := by
          rw [List.mem_filter]
          exact ⟨by simp, by simp [hg]⟩
        rw [List.length_eq_zero_iff.1 hn] at hm
        simp at hm
    refine ⟨?_, fin _ a w hall h⟩
    cases hr : Region.ready .any ⟨all⟩ listed with
    | nil => rfl
    | cons i r =>
      have := ready_spec (all := all) (listed := listed) (i := i) (by rw [hr]; simp)
      have h1 := hall i this.1
      have h2 : listed.getD i true = true := by
        have hlt : i < listed.size := by omega
        simpa [Array.getD_eq_getD_getElem?, hlt] using h1
      rw [h2] at this
      simp at this
  | fuel + 1, listed, a, w, hs, hn, hc, h => by
    refine ⟨fun hr => fin _ a w (ready_nil hf hs hr) h, fun i hi => ?_⟩
    obtain ⟨hlt, hl, hrd⟩ := ready_spec hi
    obtain ⟨o, ho⟩ : ∃ o, all[i]? = some o := ⟨_, List.getElem?_eq_getElem hlt⟩
    have hlt' : i < listed.size := by omega
    have hSi : listed.getD i false = false := by simpa [Array.getD_eq_getD_getElem?, hlt'] using hl
    have hset : ∀ j, j < all.length → insertS (fun j => listed.getD j false) i j = (listed.setIfInBounds i true).getD j false := by
      intro j hj
      by_cases e : j = i
      · subst e
        simp [insertS, Array.getD_eq_getD_getElem?, hlt']
      · have : Nat.beq j i = false := by
          cases hb : Nat.beq j i with
          | false => rfl
          | true => exact absurd (Nat.eq_of_beq_eq_true hb) e
        simp [insertS, this, Array.getD_eq_getD_getElem?, Array.getElem?_setIfInBounds_ne (Ne.symm e)]
    refine wpOpIn_mono (fun a' w' h' => ?_) (step _ a w i o h hc ho hSi hrd (fun j hj => by
      rcases Nat.lt_or_ge j all.length with h1 | h1
      · exact h1
      · have : listed.getD j false = false := by
          rw [Array.getD_eq_getD_getElem?, Array.getElem?_eq_none (by omega)]
          rfl
        rw [this] at hj; simp at hj))
    refine any_of_inv hf I hI step fin fuel _ a' w' (by simpa using hs) ?_ ?_ (hI _ _ a' w' hset h')
    · rw [Array.toList_setIfInBounds]
      have := count_set listed.toList i (by simpa [Array.getD_eq_getD_getElem?, hlt'] using hSi)
      omega
    · intro x y hx hy
      have hb : ∀ z, (listed.setIfInBounds i true).getD z false = true ↔ insertS (fun j => listed.getD j false) i z = true := by
        intro z
        rcases Nat.lt_or_ge z all.length with h1 | h1
        · rw [hset z h1]
        · have e1 : (listed.setIfInBounds i true).getD z false = false := by
            rw [Array.getD_eq_getD_getElem?, Array.getElem?_eq_none (by simp; omega)]
            rfl
          have e2 : listed.getD z false = false := by
            rw [Array.getD_eq_getD_getElem?, Array.getElem?_eq_none (by omega)]
            rfl
          have e3 : Nat.beq z i = false := by
            cases hb : Nat.beq z i with
            | false => rfl
            | true => have := Nat.eq_of_beq_eq_true hb; omega
          simp [insertS, e1, e2, e3]
      rw [hb] at hx ⊢
      exact hc.insert hf ho hrd x y hx hy
/-- the same, outside of rounds -/
theorem any_of_inv0 {P : Program} {all : List Oper} (hf : RegionFacts P all) {Q : Exit → Act → World → Prop} (I : (Nat → Bool) → Act → World → Prop) (hI : ∀ S S' a w, (∀ i, i < all.length → S i = S' i) → I S a w → I S' a w)
    (step : ∀ S a w i o, I S a w → Closed all S → all[i]? = some o → S i = false → readyFor all S i → (∀ j, S j = true → j < all.length) → wpOp P ⟨all⟩ Q i (I (insertS S i)) a w)
    (fin : ∀ S a w, (∀ i, i < all.length → S i = true) → I S a w → Q .normal a w) :
    ∀ (fuel : Nat) (listed : Array Bool) (a : Act) (w : World), listed.size = all.length → (listed.toList.filter (!·)).length = fuel → Closed all (fun j => listed.getD j false) → I (fun j => listed.getD j false) a w → wpAny P .any ⟨all⟩ Q fuel listed a w
  | 0, listed, a, w, hs, hn, hc, h => by
    have hall : ∀ i, i < all.length → listed.getD i false = true := by
      intro i hi
      have : i < listed.size := by omega
      cases hb : listed.getD i false with
      | true => rfl
      | false =>
        exfalso
        have hg : listed[i] = false := by simpa [Array.getD_eq_getD_getElem?, this] using hb
        have hm : listed[i] ∈ listed.toList.filter (!·) := by
          rw [List.mem_filter]
          exact ⟨by simp, by simp [hg]⟩
        rw [List.length_eq_zero_iff.1 hn] at hm
        simp at hm
    refine ⟨?_, fin _ a w hall h⟩
    cases hr : Region.ready .any ⟨all⟩ listed with
    | nil => rfl
    | cons i r =>
      have := ready_spec (all := all) (listed := listed) (i := i) (by rw [hr]; simp)
      have h1 := hall i this.1
      have h2 : listed.getD i true = true := by
        have hlt : i < listed.size := by omega
        simpa [Array.getD_eq_getD_getElem?, hlt] using h1
      rw [h2] at this
      simp at this
  | fuel + 1, listed, a, w, hs, hn, hc, h => by
    refine ⟨fun hr => fin _ a w (ready_nil hf hs hr) h, fun i hi => ?_⟩
    obtain ⟨hlt, hl, hrd⟩ := ready_spec hi
    obtain ⟨o, ho⟩ : ∃ o, all[i]? = some o := ⟨_, List.getElem?_eq_getElem hlt⟩
    have hlt' : i < listed.size := by omega
    have hSi : listed.getD i false = false := by simpa [Array.getD_eq_getD_getElem?, hlt'] using hl
    have hset : ∀ j, j < all.length → insertS (fun j => listed.getD j false) i j = (listed.setIfInBounds i true).getD j false := by
      intro j hj
      by_cases e : j = i
      · subst e
        simp [insertS, Array.getD_eq_getD_getElem?, hlt']
      · have : Nat.beq j i = false := by
          cases hb : Nat.beq j i with
          | false => rfl
          | true => exact absurd (Nat.eq_of_beq_eq_true hb) e
        simp [insertS, this, Array.getD_eq_getD_getElem?, Array.getElem?_setIfInBounds_ne (Ne.symm e)]
    refine wpOp_mono (fun a' w' h' => ?_) (step _ a w i o h hc ho hSi hrd (fun j hj => by
      rcases Nat.lt_or_ge j all.length with h1 | h1
      · exact h1
      · have : listed.getD j false = false := by
          rw [Array.getD_eq_getD_getElem?, Array.getElem?_eq_none (by omega)]
          rfl
        rw [this] at hj; simp at hj))
    refine any_of_inv0 hf I hI step fin fuel _ a' w' (by simpa using hs) ?_ ?_ (hI _ _ a' w' hset h')
    · rw [Array.toList_setIfInBounds]
      have := count_set listed.toList i (by simpa [Array.getD_eq_getD_getElem?, hlt'] using hSi)
      omega
    · intro x y hx hy
      have hb : ∀ z, (listed.setIfInBounds i true).getD z false = true ↔ insertS (fun j => listed.getD j false) i z = true := by
        intro z
        rcases Nat.lt_or_ge z all.length with h1 | h1
        · rw [hset z h1]
        · have e1 : (listed.setIfInBounds i true).getD z false = false := by
            rw [Array.getD_eq_getD_getElem?, Array.getElem?_eq_none (by simp; omega)]
            rfl
          have e2 : listed.getD z false = false := by
            rw [Array.getD_eq_getD_getElem?, Array.getElem?_eq_none (by omega)]
            rfl
          have e3 : Nat.beq z i = false := by
            cases hb : Nat.beq z i with
            | false => rfl
            | true => have := Nat.eq_of_beq_eq_true hb; omega
          simp [insertS, e1, e2, e3]
      rw [hb] at hx ⊢
      exact hc.insert hf ho hrd x y hx hy
end
end Go.Abs
