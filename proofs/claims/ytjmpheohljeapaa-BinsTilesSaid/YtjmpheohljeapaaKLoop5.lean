/-
  Loops that are told whole: what is known behind the last round.
-/
import Derived.Test.YtjmpheohljeapaaKLoop4
namespace Go.K
open Go Go.Abs
variable {P : Program} {E : Env}

theorem offR_add : ∀ (ps : List (Tmp × List CD × Nat)) (j k : Nat), offR j ps k = j + offR 0 ps k
  | [], j, k => by simp [offR]
  | _ :: _, j, 0 => by simp [offR]
  | p :: ps, j, k + 1 => by
    simp only [offR]
    rw [offR_add ps (j + famN p.2.1) k, offR_add ps (0 + famN p.2.1) k]
    omega
theorem mem_row {S : LSpec} {vs : List KV} {rs : List (List KV)} (h : rs.length = S.rows.length) {k : Nat} {p : Tmp × List CD × Nat} {r : List KV} (hp : S.rows[k]? = some p) (hr : rs[k]? = some r) : (S.mem P vs rs).get k = some (.row (reCDs (offR (S.nr + famNV S.vals) S.rows k) p.2.1 r) p.2.2) := by
  have hk : k < S.nr := (List.getElem?_eq_some_iff.1 hp).1
  rw [LSpec.mem, addFams_old (by rw [mem_next' h]; exact hk)]
  have := mem_at (A := .empty) hp (show (S.rows' S.nr rs)[k]? = some _ from reRs_get hp hr)
  simpa [KSt.empty] using this
theorem mem_fam {S : LSpec} {vs : List KV} {rs : List (List KV)} (h : rs.length = S.rows.length) {i : Nat} {q : Nat × Nat} (hq : (S.lens P vs rs)[i]? = some q) : (S.mem P vs rs).get (S.nr + i) = some (.fam q.1 q.2) := by
  have := addFams_at (A := memRows .empty S.rows (S.rows' S.nr rs)) hq
  rw [mem_next' h] at this
  exact this
def Env.up (E E1 : Env) (nr nx : Nat) : Env := { κ := E.κ, z := E1.z, φ := fun b => if nx ≤ b then E1.φ (nr + (b - nx)) else E.φ b }
theorem Env.up_new {E1 : Env} {nr nx j : Nat} : (E.up E1 nr nx).φ (nx + j) = E1.φ (nr + j) := by
  simp only [Env.up]
  rw [if_pos (by omega), show nx + j - nx = j by omega]
theorem Env.up_old {E1 : Env} {nr nx b : Nat} (h : b < nx) : (E.up E1 nr nx).φ b = E.φ b := by
  simp only [Env.up]
  rw [if_neg (by omega)]
theorem restore {S : LSpec} {t : KTm} {A : KSt} {B B1 : St} {g : GR} {ρ ρ1 : Ren} {base N : Nat} {w w1 : World} {a1 : Act} {vs : List KV} {rs : List (List KV)} {E1 : Env} (hG : Grabbed P S t A g) (hk : KSim P E A B)
    (ht : TKR P E1 ρ1 (S.tm S.nr S.ids vs) N a1) (hs : KSim P E1 (S.mem P vs rs) B1) (hco : Co base (E.sub g.bs g.fs S.nr) B ρ w E1 B1 ρ1 w1) (hκ : ∀ k, k < S.rows.length → E1.κ k = (E.sub g.bs g.fs S.nr).κ k)
    (hv : goodVDs S.vals vs = true) (hrl : rs.length = S.rows.length) (hrg : ∀ (k : Nat) p r, S.rows[k]? = some p → rs[k]? = some r → goodCDs p.2.1 r = true) :
    ∃ E', TKR P E' ρ1 (S.tm A.next g.bs vs) N a1 ∧ Ev P base E A B ρ w E' (S.back P g.bs g.fs vs rs A) B1 ρ1 w1 := by
  have hle : E.le (E.up E1 S.nr A.next) := ⟨fun _ _ e => e, fun b r e => hco.z b r e, fun b q e => by rw [Env.up_old (hk.domφ b q e)]; exact e⟩
  have hκb : ∀ (k b : Nat), g.bs[k]? = some b → E1.κ k = E.κ b := fun k b hb => by
    rw [hκ k (by rw [← hG.lenb]; exact (List.getElem?_eq_some_iff.1 hb).1)]
    simp [Env.sub, hb]
  have hnext : (killF (backRows A g.bs S.rows (S.rows' A.next rs)) g.fs).next = A.next := by rw [killF_next, back_next]
  have hkeep : ∀ x, x < B.next → (∀ (k b : Nat), g.bs[k]? = some b → E.κ b ≠ some x) → B1.get x = B.get x := fun x hx hne => hco.keep x hx fun k e => by
    simp only [Env.sub, Option.bind_eq_some_iff] at e
    obtain ⟨b, h1, e⟩ := e
    exact hne k b h1 e
  have hfs : ∀ f, f ∈ someK g.fs → ∃ (i n sz : Nat), g.fs[i]? = some (some f) ∧ A.get f = some (.fam n sz) := by
    intro f hf
    obtain ⟨i, hi⟩ := List.getElem?_of_mem (someK_mem.1 hf)
    have hlt : i < (S.lens P g.vs g.rs).length := by rw [hG.lens, ← idsOf_length, ← hG.fs]; exact (List.getElem?_eq_some_iff.1 hi).1
    obtain ⟨fi, _, h2, h3⟩ := hG.fact (List.getElem?_eq_getElem hlt)
    rw [hi] at h2; simp at h2
    rcases h3 with ⟨h3, _⟩ | ⟨f', h3, h4⟩
    · rw [h3] at h2; simp at h2
    · rw [h3] at h2; simp at h2; subst h2; exact ⟨i, _, _, hi, h4⟩
  -- a row that was handed on
  have hback : ∀ (k b : Nat), g.bs[k]? = some b → ∃ (p : Tmp × List CD × Nat) (r : List KV) (x : Nat) (cs' : List Value), S.rows[k]? = some p ∧ rs[k]? = some r ∧ E.κ b = some x ∧ B1.get x = some (.row cs' p.2.2 true none) ∧ VKL P (E.up E1 S.nr A.next) (reCDs (offR (A.next + famNV S.vals) S.rows k) p.2.1 r) cs' ∧
      (killF (backRows A g.bs S.rows (S.rows' A.next rs)) g.fs).get b = some (.row (reCDs (offR (A.next + famNV S.vals) S.rows k) p.2.1 r) p.2.2) ∧ b ∉ someK g.fs := by
    intro k b hb
    have hlt : k < S.rows.length := by rw [← hG.lenb]; exact (List.getElem?_eq_some_iff.1 hb).1
    have hp := List.getElem?_eq_getElem hlt
    have hr := List.getElem?_eq_getElem (show k < rs.length by rw [hrl]; exact hlt)
    obtain ⟨b', cs, q1, q2, _⟩ := hG.row hp
    rw [hb] at q1; simp at q1; subst q1
    obtain ⟨x, cs', h1, h2, h3⟩ := hs.row k _ _ (mem_row hrl hp hr)
    have hnf : b ∉ someK g.fs := fun hf => by
      obtain ⟨_, _, _, _, h4⟩ := hfs b hf
      rw [q2] at h4; simp at h4
    refine ⟨_, _, x, cs', hp, hr, by rw [← hκb k b hb]; exact h1, h2, ?_, ?_, hnf⟩
    · refine VKL.cellsOut (E1 := E1) (E2 := E.up E1 S.nr A.next) rfl h3 (hrg _ _ _ hp hr) fun m _ q e => ?_
      rw [offR_add, show A.next + famNV S.vals + offR 0 S.rows k + m = A.next + (famNV S.vals + offR 0 S.rows k + m) by omega, Env.up_new]
      rw [offR_add, show S.nr + famNV S.vals + offR 0 S.rows k + m = S.nr + (famNV S.vals + offR 0 S.rows k + m) by omega] at e
      exact e
    · rw [killF_get, if_neg hnf]
      exact back_at hG.nodup hb hp (show (S.rows' A.next rs)[k]? = some _ from reRs_get hp hr)
  have hin : ∀ b, b ∈ g.bs → ∃ k : Nat, g.bs[k]? = some b := fun b hb => List.getElem?_of_mem hb
  have hsubφ : ∀ c q, (E.sub g.bs g.fs S.nr).φ c = some q → ∃ f, f ∈ someK g.fs ∧ E.φ f = some q := by
    intro c q e
    simp only [Env.sub] at e
    split at e
    · obtain ⟨f, h1, e⟩ := Option.bind_eq_some_iff.1 e
      obtain ⟨f', h2, e⟩ := Option.bind_eq_some_iff.1 e
      subst h2
      exact ⟨f', someK_mem.2 (List.mem_of_getElem? h1), e⟩
    · simp at e
  -- what lies in the store behind
  have hinv : ∀ b o, (S.back P g.bs g.fs vs rs A).get b = some o → (b ∈ g.bs ∧ ∃ cs e, o = .row cs e ∧ (killF (backRows A g.bs S.rows (S.rows' A.next rs)) g.fs).get b = some (.row cs e)) ∨ (b ∉ g.bs ∧ b ∉ someK g.fs ∧ A.get b = some o) ∨ (b ∈ someK g.fs ∧ o = .dead) ∨ ∃ i q, b = A.next + i ∧ (S.lens P vs rs)[i]? = some q ∧ o = .fam q.1 q.2 := by
    intro b o hb
    rcases addFams_inv hb with hb | ⟨i, q, h1, h2, h3⟩
    · by_cases hbs : b ∈ g.bs
      · obtain ⟨k, hk'⟩ := hin b hbs
        obtain ⟨p, r, x, cs', h1, h2, h3, h4, h5, h6, h7⟩ := hback k b hk'
        rw [h6] at hb; simp at hb
        exact .inl ⟨hbs, _, _, hb.symm, h6⟩
      · rw [killF_get] at hb
        split at hb
        · rename_i hf; simp at hb; exact .inr (.inr (.inl ⟨hf, hb.symm⟩))
        · rename_i hf
          rw [back_other hbs] at hb
          exact .inr (.inl ⟨hbs, hf, hb⟩)
    · rw [hnext] at h1
      exact .inr (.inr (.inr ⟨i, q, h1, h2, h3⟩))
  refine ⟨E.up E1 S.nr A.next, ?_, ⟨⟨?_, ?_, hs.z, ?_, hk.inj, ?_, ?_, ?_, ?_, ?_, hs.oldz, ?_, hs.fresh, hs.mem⟩, hco.goes, hle, ?_, ?_, fun _ _ e => .inl e, hco.newZ, ?_, ?_⟩⟩
  · refine TKR.pairs ht (PairsR.append (reVs_out (E1 := E1) (E2 := E.up E1 S.nr A.next) rfl hv fun m _ q e => by rw [Env.up_new]; exact e) (ptr_out fun p hp x e => ?_))
    obtain ⟨b, _, h2⟩ := ptrsOk_mem hG.ptrs p hp
    have hlt : p.2.1 < S.rows.length := by rw [← hG.lenb]; exact (List.getElem?_eq_some_iff.1 h2).1
    rw [List.getD_eq_getElem?_getD, ids_get S _ hlt] at e
    rw [List.getD_eq_getElem?_getD, h2]
    have e : E1.κ p.2.1 = some x := e
    rw [hκb _ _ h2] at e
    exact e
  · intro b cs esz hb
    rcases hinv b _ hb with ⟨hbs, _, _, e, h1⟩ | ⟨hbs, _, h1⟩ | ⟨_, e⟩ | ⟨_, _, _, _, e⟩
    · obtain ⟨k, hk'⟩ := hin b hbs
      obtain ⟨p, r, x, cs', q1, q2, q3, q4, q5, q6, q7⟩ := hback k b hk'
      rw [h1] at q6
      simp only [KObj.row.injEq] at e
      obtain ⟨rfl, rfl⟩ := e
      simp only [Option.some.injEq, KObj.row.injEq] at q6
      obtain ⟨rfl, rfl⟩ := q6
      exact ⟨x, cs', q3, q4, q5⟩
    · obtain ⟨x, c, q1, q2, q3⟩ := hk.row b cs esz h1
      refine ⟨x, c, q1, ?_, q3.mono hle⟩
      rw [hkeep x (hk.old b x q1) fun k b' hb' e => ?_]
      · exact q2
      · have := hk.inj _ _ _ q1 e
        subst this
        exact hbs (List.mem_of_getElem? hb')
    · simp at e
    · simp at e
  · intro b top sz hb
    rcases hinv b _ hb with ⟨_, _, _, e, _⟩ | ⟨hbs, hbf, h1⟩ | ⟨_, e⟩ | ⟨i, q, rfl, h2, e⟩
    · simp at e
    · rcases hk.fam b top sz h1 with ⟨h2, h3⟩ | ⟨q, h2, h3, h4⟩
      · exact .inl ⟨h2, by rw [Env.up_old (hk.live b _ h1)]; exact h3⟩
      · have hq := hk.oldφ b q h2
        refine .inr ⟨q, by rw [Env.up_old (hk.live b _ h1)]; exact h2, h3, fun x hx cs e own f k hrow => ?_⟩
        have hmq : B1.members q = B.members q := hco.keepF q hq fun c e => by
          obtain ⟨f', h5, h6⟩ := hsubφ c q e
          obtain ⟨_, _, _, _, h7⟩ := hfs f' h5
          have := hk.famInj b f' q _ _ _ _ h1 h7 h2 h6
          subst this
          exact hbf h5
        rw [hmq] at hx
        have hrow' := hrow
        rw [hkeep x (hk.mem q x hx) fun k' b' hb' e' => ?_] at hrow
        · exact h4 x hx cs e own f k hrow
        · obtain ⟨p, r', x', cs', q1, q2, q3, q4, q5, q6, q7⟩ := hback k' b' hb'
          rw [e'] at q3; simp at q3; subst q3
          rw [q4] at hrow'; simp at hrow'
    · simp at e
    · simp only [KObj.fam.injEq] at e
      obtain ⟨rfl, rfl⟩ := e
      rw [Env.up_new]
      exact hs.fam _ _ _ (mem_fam hrl h2)
  · intro b x hb
    have hx := hk.old b x hb
    show E1.z x = none
    cases hz : E1.z x with
    | none => rfl
    | some r =>
      rcases hco.newZ x r hz with e | e
      · have e : E.z x = some r := e
        rw [hk.apart b x hb] at e; simp at e
      · omega
  · intro b c q tb sb tc sc hb hc e1 e2
    have key : ∀ {b tb sb}, (S.back P g.bs g.fs vs rs A).get b = some (.fam tb sb) → (b < A.next ∧ b ∉ someK g.fs ∧ A.get b = some (.fam tb sb)) ∨ ∃ i, b = A.next + i ∧ (S.mem P vs rs).get (S.nr + i) = some (.fam tb sb) := by
      intro b tb sb hb
      rcases hinv b _ hb with ⟨_, _, _, e, _⟩ | ⟨_, hbf, h1⟩ | ⟨_, e⟩ | ⟨i, q, rfl, h2, e⟩
      · simp at e
      · exact .inl ⟨hk.live b _ h1, hbf, h1⟩
      · simp at e
      · simp only [KObj.fam.injEq] at e
        obtain ⟨rfl, rfl⟩ := e
        exact .inr ⟨i, rfl, mem_fam hrl h2⟩
    have cross : ∀ {b c tb sb i}, b < A.next → b ∉ someK g.fs → A.get b = some (.fam tb sb) → c = A.next + i → E.φ b = some q → E1.φ (S.nr + i) = some q → False := by
      intro b c tb sb i _ h2 h3 _ h5 h6
      rcases hco.newF _ _ h6 with ⟨c', e⟩ | e
      · obtain ⟨f', k1, k2⟩ := hsubφ c' q e
        obtain ⟨_, _, _, _, k3⟩ := hfs f' k1
        have := hk.famInj b f' q _ _ _ _ h3 k3 h5 k2
        subst this
        exact h2 k1
      · have := hk.oldφ b q h5; omega
    rcases key hb with ⟨h1, h2, h3⟩ | ⟨i, rfl, h2⟩ <;> rcases key hc with ⟨k1, k2, k3⟩ | ⟨j, rfl, k2⟩
    · rw [Env.up_old h1] at e1; rw [Env.up_old k1] at e2
      exact hk.famInj b c q _ _ _ _ h3 k3 e1 e2
    · rw [Env.up_old h1] at e1; rw [Env.up_new] at e2
      exact (cross h1 h2 h3 rfl e1 e2).elim
    · rw [Env.up_new] at e1; rw [Env.up_old k1] at e2
      exact (cross k1 k2 k3 rfl e2 e1).elim
    · rw [Env.up_new] at e1 e2
      have := hs.famInj _ _ q _ _ _ _ h2 k2 e1 e2
      omega
  · intro b x hb; have h1 := hk.dom b x hb; rw [LSpec.back, addFams_next, hnext]; omega
  · intro b q hb
    rw [LSpec.back, addFams_next, hnext]
    by_cases h1 : b < A.next
    · omega
    · obtain ⟨i, rfl⟩ := Nat.exists_eq_add_of_le (Nat.le_of_not_lt h1)
      rw [Env.up_new] at hb
      have := hs.domφ _ _ hb
      rw [LSpec.mem, addFams_next, mem_next' hrl] at this
      omega
  · intro b o hb
    rw [LSpec.back, addFams_next, hnext]
    rcases hinv b _ hb with ⟨hbs, _⟩ | ⟨_, _, h1⟩ | ⟨h1, _⟩ | ⟨i, q, rfl, h2, _⟩
    · obtain ⟨k, hk'⟩ := hin b hbs
      obtain ⟨p, r, x, cs', _, _, h3, _⟩ := hback k b hk'
      have := hk.dom b x h3; omega
    · have := hk.live b _ h1; omega
    · obtain ⟨_, _, _, _, h3⟩ := hfs b h1
      have := hk.live b _ h3; omega
    · have := (List.getElem?_eq_some_iff.1 h2).1; omega
  · intro b x hb; have := hk.old b x hb; have := hco.goes.next; omega
  · intro b q hb
    by_cases h1 : b < A.next
    · rw [Env.up_old h1] at hb
      have := hk.oldφ b q hb; have := hco.goes.next; omega
    · obtain ⟨i, rfl⟩ := Nat.exists_eq_add_of_le (Nat.le_of_not_lt h1)
      rw [Env.up_new] at hb
      exact hs.oldφ _ _ hb
  · rw [LSpec.back, addFams_next, hnext]; omega
  · intro x hx hne
    exact hkeep x hx fun k b _ e => hne b e
  · intro b q hb
    by_cases h1 : b < A.next
    · rw [Env.up_old h1] at hb; exact .inl ⟨b, hb⟩
    · obtain ⟨i, rfl⟩ := Nat.exists_eq_add_of_le (Nat.le_of_not_lt h1)
      rw [Env.up_new] at hb
      rcases hco.newF _ _ hb with ⟨c, e⟩ | e
      · obtain ⟨f', _, k2⟩ := hsubφ c q e
        exact .inl ⟨f', k2⟩
      · exact .inr e
  · intro q hq hne
    refine hco.keepF q hq fun c e => ?_
    obtain ⟨f', _, k2⟩ := hsubφ c q e
    exact hne f' k2
end Go.K
