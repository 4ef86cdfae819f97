/-
  Loops that are told whole: what is handed on, below.
-/
import Derived.Test.YtadjalkkhkkdiaaKLoop
namespace Go.K
open Go Go.Abs
variable {P : Program} {E : Env}

/-! ## Values -/
theorem litOk_eq {w v : KV} (h : litOk w v = true) : v = w := by
  unfold litOk at h
  split at h <;> simp at h
  · rename_i f g; rw [h]
  all_goals rfl
theorem litOk_rel {w v : KV} (h : litOk w v = true) {E0 : Env} {u : Value} (k : VK P E v u) : VK P E0 v u := by
  have := litOk_eq h
  subst this
  unfold litOk at h
  split at h <;> try (simp at h)
  · obtain ⟨l, m, rfl, h1, h2⟩ := k.fn_inv
    rw [h1.nil_inv, h2.nil_inv]
    exact .mkFn .nil .nil
  all_goals exact k
theorem VK.gCD {E0 : Env} (hz : E0.z = E.z) {d : CD} {v : KV} {u : Value} (h : VK P E v u) (hg : goodCD d v = true) : VK P E0 v u := by
  cases d with
  | k c => exact h.zK hz hg
  | lit w => exact litOk_rel hg h
theorem VKL.gCDs {E0 : Env} (hz : E0.z = E.z) : ∀ {ds : List CD} {vs : List KV} {us : List Value}, VKL P E vs us → goodCDs ds vs = true → VKL P E0 vs us
  | _, [], us, h, _ => by rw [h.nil_inv]; exact .nil
  | [], _ :: _, _, _, hg => by simp [goodCDs] at hg
  | d :: ds, v :: vs, us, h, hg => by
    simp only [goodCDs, Bool.and_eq_true] at hg
    obtain ⟨y, ys, rfl, h1, h2⟩ := h.cons_inv
    exact .cons (h1.gCD hz hg.1) (VKL.gCDs hz h2 hg.2)
theorem goodCDs_one {ds : List CD} {v : KV} (h : goodCDs ds [v] = true) : ∃ d, ds = [d] ∧ goodCD d v = true := by
  cases ds with
  | nil => simp [goodCDs] at h
  | cons d ds =>
    simp only [goodCDs, Bool.and_eq_true] at h
    cases ds with
    | nil => exact ⟨d, rfl, h.1⟩
    | cons e ds => simp [goodCDs] at h
theorem VK.gVD {E0 : Env} (hz : E0.z = E.z) {d : VD} {v : KV} {u : Value} (h : VK P E v u) (hg : goodVD d v = true) : VK P E0 v u := by
  by_cases ha : ∃ cs, v = .agg cs
  · obtain ⟨cs, rfl⟩ := ha
    simp only [goodVD, Bool.and_eq_true] at hg
    obtain ⟨m, rfl, h1⟩ := h.agg_inv
    exact .mkAgg (h1.gCDs hz hg.2)
  · have hg : (!d.agg && goodCDs d.ks [v]) = true := by
      cases v <;> first | exact hg | exact absurd ⟨_, rfl⟩ ha
    simp only [Bool.and_eq_true] at hg
    obtain ⟨c, _, h2⟩ := goodCDs_one hg.2
    exact h.gCD hz h2
theorem VK.nCD {d : CD} {v : KV} {u : Value} (h : VK P E v u) : VK P E (normCD d v) u := by
  cases d with
  | k c => exact h.normC
  | lit w =>
    show VK P E (cond (litOk w v) w .unk) u
    cases hb : litOk w v with
    | true => rw [litOk_eq hb] at h; exact h
    | false => exact .mkUnk
theorem VKL.nCDs : ∀ {ds : List CD} {vs : List KV} {us : List Value}, VKL P E vs us → vs.length = ds.length → VKL P E (normCDs ds vs) us
  | [], [], us, h, _ => by rw [h.nil_inv]; exact .nil
  | [], _ :: _, _, _, e => by simp at e
  | _ :: _, [], _, _, e => by simp at e
  | d :: ds, v :: vs, us, h, e => by
    obtain ⟨y, ys, rfl, h1, h2⟩ := h.cons_inv
    exact .cons h1.nCD (VKL.nCDs h2 (by simpa using e))
theorem VK.nVD {d : VD} {v : KV} {u : Value} (h : VK P E v u) : VK P E (normVD d v) u := by
  unfold K.normVD
  split
  · rename_i cs
    obtain ⟨m, rfl, h1⟩ := h.agg_inv
    cases hb : (d.agg && Nat.beq cs.length d.ks.length) with
    | false => exact .mkUnk
    | true =>
      simp only [Bool.and_eq_true] at hb
      exact .mkAgg (h1.nCDs (Nat.eq_of_beq_eq_true hb.2))
  · cases d.agg with
    | true => exact .mkUnk
    | false =>
      rw [cond_false]
      split
      · exact h.nCD
      · exact .mkUnk
theorem VK.tree {v : KV} {u : Value} (h : VK P E v u) : ∀ c ∈ v.cells, ∀ T m n es acc, c = .ts T m n es acc → TreeOk P T n es acc := by
  intro c hc T m n es acc e
  subst e
  by_cases ha : ∃ cs, v = .agg cs
  · obtain ⟨cs, rfl⟩ := ha
    obtain ⟨l, _, h1⟩ := h.agg_inv
    obtain ⟨i, hi⟩ := List.getElem?_of_mem hc
    obtain ⟨u, _, h2⟩ := h1.get hi
    exact h2.ts_inv.1
  · have : v.cells = [v] := by cases v <;> first | rfl | exact absurd ⟨_, rfl⟩ ha
    rw [this] at hc
    simp at hc
    rw [← hc] at h
    exact h.ts_inv.1

/-! ## The store -/
structure RowsIn (A : KSt) (ps : List (Tmp × List CD × Nat)) (bs : List Nat) (rs : List (List KV)) : Prop where
  lenb : bs.length = ps.length
  lenr : rs.length = ps.length
  has : ∀ (k : Nat) p, ps[k]? = some p → ∃ b r cs, bs[k]? = some b ∧ rs[k]? = some r ∧ A.get b = some (.row cs p.2.2) ∧ r = normCDs p.2.1 cs ∧ cs.length = p.2.1.length ∧ goodCDs p.2.1 r = true
theorem grabR_ok {t : KTm} {A : KSt} : ∀ {ps : List (Tmp × List CD × Nat)} {q : List Nat × List (List KV)}, grabR t A ps = some q → RowsIn A ps q.1 q.2
  | [], q, h => by
    simp [grabR] at h; subst h
    exact ⟨rfl, rfl, fun k p hp => by simp at hp⟩
  | p :: ps, q, h => by
    unfold grabR at h
    split at h
    · rename_i b off hb
      split at h
      · rename_i cs e hr
        cases hc : (Nat.beq e p.2.2 && Nat.beq cs.length p.2.1.length && goodCDs p.2.1 (normCDs p.2.1 cs)) with
        | false => rw [hc] at h; simp at h
        | true =>
          rw [hc, cond_true] at h
          obtain ⟨q', hq', rfl⟩ := Option.map_eq_some_iff.1 h
          have ih := grabR_ok hq'
          simp only [Bool.and_eq_true] at hc
          have he := Nat.eq_of_beq_eq_true hc.1.1
          subst he
          refine ⟨by simp [ih.lenb], by simp [ih.lenr], fun k p' hp => ?_⟩
          cases k with
          | zero =>
            simp at hp; subst hp
            exact ⟨b, _, cs, rfl, rfl, hr, rfl, Nat.eq_of_beq_eq_true hc.1.2, hc.2⟩
          | succ k =>
            simp only [List.getElem?_cons_succ] at hp ⊢
            exact ih.has k p' hp
      · simp at h
    · simp at h
theorem nodupK_ok : ∀ {bs : List Nat}, nodupK bs = true → ∀ (i j b : Nat), bs[i]? = some b → bs[j]? = some b → i = j
  | [], _, i, j, b, hi, _ => by simp at hi
  | a :: bs, h, i, j, b, hi, hj => by
    simp only [nodupK, Bool.and_eq_true, List.all_eq_true, Bool.not_eq_true'] at h
    cases i with
    | zero =>
      cases j with
      | zero => rfl
      | succ j =>
        simp at hi hj; subst hi
        have := h.1 a (List.mem_of_getElem? hj)
        exact absurd (Nat.beq_refl a) (by rw [this]; simp)
    | succ i =>
      cases j with
      | zero =>
        simp at hi hj; subst hj
        have := h.1 a (List.mem_of_getElem? hi)
        exact absurd (Nat.beq_refl a) (by rw [this]; simp)
      | succ j =>
        simp at hi hj
        rw [nodupK_ok h.2 i j b hi hj]
theorem back_next : ∀ (bs : List Nat) (ps : List (Tmp × List CD × Nat)) (rs : List (List KV)) (A : KSt), (backRows A bs ps rs).next = A.next
  | [], _, _, _ => rfl
  | _ :: _, [], _, _ => rfl
  | _ :: _, _ :: _, [], _ => rfl
  | b :: bs, p :: ps, r :: rs, A => by rw [backRows, back_next bs ps rs]; rfl
theorem back_other : ∀ {bs : List Nat} {ps : List (Tmp × List CD × Nat)} {rs : List (List KV)} {A : KSt} {x : Nat}, x ∉ bs → (backRows A bs ps rs).get x = A.get x
  | [], _, _, _, _, _ => rfl
  | _ :: _, [], _, _, _, _ => rfl
  | _ :: _, _ :: _, [], _, _, _ => rfl
  | b :: bs, p :: ps, r :: rs, A, x, h => by
    simp only [List.mem_cons, not_or] at h
    rw [backRows, back_other h.2, KSt.get_put, if_neg h.1]
theorem back_at : ∀ {bs : List Nat} {ps : List (Tmp × List CD × Nat)} {rs : List (List KV)} {A : KSt} {k b : Nat} {p : Tmp × List CD × Nat} {r : List KV}, nodupK bs = true → bs[k]? = some b → ps[k]? = some p → rs[k]? = some r → (backRows A bs ps rs).get b = some (.row r p.2.2)
  | [], _, _, _, _, _, _, _, _, h, _, _ => by simp at h
  | _ :: _, [], _, _, _, _, _, _, _, _, h, _ => by simp at h
  | _ :: _, _ :: _, [], _, _, _, _, _, _, _, _, h => by simp at h
  | b :: bs, p :: ps, r :: rs, A, k, x, p', r', hn, hb, hp, hr => by
    have hn' := hn
    simp only [nodupK, Bool.and_eq_true] at hn
    cases k with
    | zero =>
      simp at hb hp hr
      subst hb hp hr
      rw [backRows, back_other, KSt.get_put, if_pos rfl]
      intro hm
      have := List.all_eq_true.1 hn.1 b hm
      simp at this
    | succ k =>
      simp only [List.getElem?_cons_succ] at hb hp hr
      rw [backRows]
      exact back_at hn.2 hb hp hr
theorem mem_next : ∀ {ps : List (Tmp × List CD × Nat)} {rs : List (List KV)} {A : KSt}, rs.length = ps.length → (memRows A ps rs).next = A.next + ps.length
  | [], [], _, _ => rfl
  | [], _ :: _, _, h => by simp at h
  | _ :: _, [], _, h => by simp at h
  | p :: ps, r :: rs, A, h => by rw [memRows, mem_next (by simpa using h)]; simp; omega
theorem mem_old : ∀ {ps : List (Tmp × List CD × Nat)} {rs : List (List KV)} {A : KSt} {x : Nat}, x < A.next → (memRows A ps rs).get x = A.get x
  | [], _, _, _, _ => rfl
  | _ :: _, [], _, _, _ => rfl
  | p :: ps, r :: rs, A, x, h => by rw [memRows, mem_old (by simp; omega), KSt.get_new, if_neg (by omega)]
theorem mem_at : ∀ {ps : List (Tmp × List CD × Nat)} {rs : List (List KV)} {A : KSt} {k : Nat} {p : Tmp × List CD × Nat} {r : List KV}, ps[k]? = some p → rs[k]? = some r → (memRows A ps rs).get (A.next + k) = some (.row r p.2.2)
  | [], _, _, _, _, _, h, _ => by simp at h
  | _ :: _, [], _, _, _, _, _, h => by simp at h
  | p :: ps, r :: rs, A, k, p', r', hp, hr => by
    cases k with
    | zero =>
      simp at hp hr; subst hp hr
      rw [memRows, Nat.add_zero, mem_old (by simp), KSt.get_new, if_pos rfl]
    | succ k =>
      simp only [List.getElem?_cons_succ] at hp hr
      have := mem_at (A := A.new (.row r p.2.2)) hp hr
      rw [memRows]
      simpa [Nat.add_comm, Nat.add_left_comm] using this
theorem mem_dom : ∀ {ps : List (Tmp × List CD × Nat)} {rs : List (List KV)} {A : KSt} {x : Nat} {o : KObj}, (memRows A ps rs).get x = some o → A.get x = some o ∨ ∃ k p r, x = A.next + k ∧ ps[k]? = some p ∧ rs[k]? = some r ∧ o = .row r p.2.2
  | [], _, _, _, _, h => .inl h
  | _ :: _, [], _, _, _, h => .inl h
  | p :: ps, r :: rs, A, x, o, h => by
    rw [memRows] at h
    rcases mem_dom h with h | ⟨k, p', r', rfl, h1, h2, h3⟩
    · rw [KSt.get_new] at h
      by_cases e : x = A.next
      · rw [if_pos e] at h; simp at h
        exact .inr ⟨0, p, r, by omega, rfl, rfl, h.symm⟩
      · rw [if_neg e] at h; exact .inl h
    · exact .inr ⟨k + 1, p', r', by simp; omega, by simpa using h1, by simpa using h2, h3⟩
/-- the store of a round of its own -/
def Env.sub (E : Env) (bs : List Nat) : Env := { κ := fun i => (bs[i]?).bind E.κ, z := E.z, φ := fun _ => none }
theorem RowsIn.kap {A : KSt} {B : St} {ps : List (Tmp × List CD × Nat)} {bs : List Nat} {rs : List (List KV)} (h : RowsIn A ps bs rs) (hk : KSim P E A B) {k b : Nat} (hb : bs[k]? = some b) : ∃ p r cs x cs', ps[k]? = some p ∧ rs[k]? = some r ∧ A.get b = some (.row cs p.2.2) ∧ r = normCDs p.2.1 cs ∧ cs.length = p.2.1.length ∧ goodCDs p.2.1 r = true ∧ E.κ b = some x ∧ B.get x = some (.row cs' p.2.2 true none) ∧ VKL P E cs cs' := by
  have hlt : k < ps.length := by rw [← h.lenb]; exact (List.getElem?_eq_some_iff.1 hb).1
  obtain ⟨b', r, cs, h1, h2, h3, h4, h5, h6⟩ := h.has k ps[k] (List.getElem?_eq_getElem hlt)
  rw [hb] at h1; simp at h1; subst h1
  obtain ⟨x, cs', h7, h8, h9⟩ := hk.row _ _ _ h3
  exact ⟨_, r, cs, x, cs', List.getElem?_eq_getElem hlt, h2, h3, h4, h5, h6, h7, h8, h9⟩
theorem KSim.sub {A : KSt} {B : St} {S : LSpec} {bs : List Nat} {rs : List (List KV)} (h : KSim P E A B) (hr : RowsIn A S.rows bs rs) (hn : nodupK bs = true) : KSim P (E.sub bs) (S.mem rs) B where
  row b cs esz hb := by
    rcases mem_dom hb with e | ⟨k, p, r, rfl, h1, h2, h3⟩
    · simp [KSt.empty, KSt.get] at e
    · obtain ⟨b', r', cs0, h4, h5, h6, h7, h8, h9⟩ := hr.has k p h1
      rw [h2] at h5; simp at h5; subst h5
      simp only [KObj.row.injEq] at h3
      obtain ⟨rfl, rfl⟩ := h3
      obtain ⟨x, cs', h10, h11, h12⟩ := h.row _ _ _ h6
      have : (KSt.empty.next + k) = k := by simp [KSt.empty]
      rw [this]
      refine ⟨x, cs', by simp [Env.sub, h4, h10], h11, ?_⟩
      have h13 : VKL P E cs cs' := by rw [h7]; exact h12.nCDs h8
      exact VKL.gCDs (E := E) (E0 := E.sub bs) rfl h13 h9
  fam b top sz hb := by
    rcases mem_dom hb with e | ⟨k, p, r, rfl, h1, h2, h3⟩
    · simp [KSt.empty, KSt.get] at e
    · simp at h3
  z := h.z
  apart b x e := by
    simp only [Env.sub, Option.bind_eq_some_iff] at e
    obtain ⟨b', _, e⟩ := e
    exact h.apart b' x e
  inj b c x e1 e2 := by
    simp only [Env.sub, Option.bind_eq_some_iff] at e1 e2
    obtain ⟨b', h1, e1⟩ := e1
    obtain ⟨c', h2, e2⟩ := e2
    have := h.inj _ _ _ e1 e2
    subst this
    exact nodupK_ok hn _ _ _ h1 h2
  famInj b c g e := by simp [Env.sub] at e
  dom b x e := by
    simp only [Env.sub, Option.bind_eq_some_iff] at e
    obtain ⟨b', h1, _⟩ := e
    have : b < bs.length := (List.getElem?_eq_some_iff.1 h1).1
    rw [LSpec.mem, mem_next hr.lenr, ← hr.lenb]
    omega
  domφ b g e := by simp [Env.sub] at e
  live b o hb := by
    rcases mem_dom hb with e | ⟨k, p, r, rfl, h1, h2, h3⟩
    · simp [KSt.empty, KSt.get] at e
    · rw [LSpec.mem, mem_next hr.lenr]
      have := (List.getElem?_eq_some_iff.1 h1).1
      omega
  old b x e := by
    simp only [Env.sub, Option.bind_eq_some_iff] at e
    obtain ⟨b', _, e⟩ := e
    exact h.old b' x e
  oldz := h.oldz
  oldφ b g e := by simp [Env.sub] at e
  fresh := h.fresh
  mem := h.mem
/-- behind a round of its own -/
theorem Ev.sub {base : Nat} {A A1 : KSt} {B B1 : St} {ρ ρ1 : Ren} {w w1 : World} {E1 : Env} {S : LSpec} {bs : List Nat} {rs rs' : List (List KV)} (h : KSim P E A B) (hr : RowsIn A S.rows bs rs) (hn : nodupK bs = true)
    (hev : Ev P base (E.sub bs) (S.mem rs) B ρ w E1 A1 B1 ρ1 w1) (hr' : RowsIn A1 S.rows S.ids rs') (hid : ∀ k, k < S.rows.length → S.ids[k]? = some k) :
    Ev P base E A B ρ w { E with z := E1.z } (S.back bs rs' A) B1 ρ1 w1 := by
  have hle : E.le { E with z := E1.z } := ⟨fun _ _ e => e, hev.le.z, fun _ _ e => e⟩
  have hkeep : ∀ x, x < B.next → (∀ (k b : Nat), bs[k]? = some b → E.κ b ≠ some x) → B1.get x = B.get x := fun x hx hne => hev.keep x hx fun k e => by
    simp only [Env.sub, Option.bind_eq_some_iff] at e
    obtain ⟨b, h1, e⟩ := e
    exact hne k b h1 e
  have hmem : ∀ g, g < B.next → B1.members g = B.members g := fun g hg => hev.keepF g hg fun b e => by simp [Env.sub] at e
  have hnext := hev.goes.next
  -- a row that was handed on
  have hback : ∀ (k b : Nat), bs[k]? = some b → ∃ (p : Tmp × List CD × Nat) (r' : List KV) (x : Nat) (cs' : List Value), S.rows[k]? = some p ∧ rs'[k]? = some r' ∧ E.κ b = some x ∧ B1.get x = some (.row cs' p.2.2 true none) ∧ VKL P { E with z := E1.z } r' cs' ∧ (S.back bs rs' A).get b = some (.row r' p.2.2) := by
    intro k b hb
    obtain ⟨p, r, cs, x, cs', h1, h2, h3, h4, h5, h6, h7, h8, h9⟩ := hr.kap h hb
    obtain ⟨b', r', cs1, q1, q2, q3, q4, q5, q6⟩ := hr'.has k p h1
    have hk : k < S.rows.length := (List.getElem?_eq_some_iff.1 h1).1
    rw [hid k hk] at q1; simp at q1; subst q1
    obtain ⟨x', cs1', q7, q8, q9⟩ := hev.sim.row _ _ _ q3
    have : E1.κ k = some x := hev.le.κ k x (by simp [Env.sub, hb, h7])
    rw [this] at q7; simp at q7; subst q7
    refine ⟨p, r', x, cs1', h1, q2, h7, q8, ?_, back_at hn hb h1 q2⟩
    have h10 : VKL P E1 r' cs1' := by rw [q4]; exact q9.nCDs q5
    exact VKL.gCDs (E := E1) (E0 := { E with z := E1.z }) rfl h10 q6
  have hin : ∀ b, b ∈ bs → ∃ k : Nat, bs[k]? = some b := fun b hb => List.getElem?_of_mem hb
  refine ⟨⟨?_, ?_, hev.sim.z, ?_, h.inj, h.famInj, ?_, ?_, ?_, ?_, hev.sim.oldz, ?_, hev.sim.fresh, hev.sim.mem⟩, hev.goes, hle, ?_, ?_, fun _ _ e => .inl e, ?_, fun _ _ e => .inl e, fun g hg _ => hmem g hg⟩
  · intro b cs esz hb
    by_cases hbs : b ∈ bs
    · obtain ⟨k, hk⟩ := hin b hbs
      obtain ⟨p, r', x, cs', h1, h2, h3, h4, h5, h6⟩ := hback k b hk
      rw [h6] at hb
      simp at hb
      obtain ⟨rfl, rfl⟩ := hb
      exact ⟨x, cs', h3, h4, h5⟩
    · have hb : (backRows A bs S.rows rs').get b = some (.row cs esz) := hb
      rw [back_other hbs] at hb
      obtain ⟨x, c, h1, h2, h3⟩ := h.row b cs esz hb
      refine ⟨x, c, h1, ?_, h3.mono hle⟩
      rw [hkeep x (h.old b x h1) fun k b' hb' e => ?_]
      · exact h2
      · have := h.inj _ _ _ h1 e
        subst this
        exact hbs (List.mem_of_getElem? hb')
  · intro b top sz hb
    have hbs : b ∉ bs := by
      intro hbs
      obtain ⟨k, hk⟩ := hin b hbs
      obtain ⟨p, r', x, cs', h1, h2, h3, h4, h5, h6⟩ := hback k b hk
      rw [h6] at hb; simp at hb
    have hb : (backRows A bs S.rows rs').get b = some (.fam top sz) := hb
    rw [back_other hbs] at hb
    rcases h.fam b top sz hb with h1 | ⟨g, h1, h2, h3⟩
    · exact .inl h1
    · have hg := h.oldφ b g h1
      refine .inr ⟨g, h1, h2, fun x hx cs e own f k hrow => ?_⟩
      rw [hmem g hg] at hx
      have hrow' := hrow
      rw [hkeep x (h.mem g x hx) fun k' b' hb' e' => ?_] at hrow
      · exact h3 x hx cs e own f k hrow
      · obtain ⟨p, r', x', cs', q1, q2, q3, q4, q5, q6⟩ := hback k' b' hb'
        rw [e'] at q3; simp at q3; subst q3
        rw [q4] at hrow'; simp at hrow'
  · intro b x hb
    have hx := h.old b x hb
    cases hz : E1.z x with
    | none => rfl
    | some r =>
      rcases hev.newZ x r hz with e | e
      · have e : E.z x = some r := e
        rw [h.apart b x hb] at e; simp at e
      · omega
  · intro b x hb; have : (backRows A bs S.rows rs').next = A.next := back_next _ _ _ _; exact this ▸ h.dom b x hb
  · intro b g hb; have : (backRows A bs S.rows rs').next = A.next := back_next _ _ _ _; exact this ▸ h.domφ b g hb
  · intro b o hb
    have hnx : (backRows A bs S.rows rs').next = A.next := back_next _ _ _ _
    by_cases hbs : b ∈ bs
    · obtain ⟨k, hk⟩ := hin b hbs
      obtain ⟨p, r', x, cs', h1, h2, h3, _⟩ := hback k b hk
      exact hnx ▸ h.dom b x h3
    · have hb : (backRows A bs S.rows rs').get b = some o := hb
      rw [back_other hbs] at hb
      exact hnx ▸ h.live b o hb
  · intro b x hb; have := h.old b x hb; omega
  · intro b g hb; have := h.oldφ b g hb; omega
  · have hnx : (backRows A bs S.rows rs').next = A.next := back_next _ _ _ _
    exact Nat.le_of_eq hnx.symm
  · intro x hx hne
    exact hkeep x hx fun k b _ e => hne b e
  · intro b r hb
    rcases hev.newZ b r hb with e | e
    · exact .inl e
    · exact .inr e
end Go.K
