/-
  Loops that are told whole: the rounds are the loop's.
-/
import Derived.Test.YtjmpheohljeapaaKLoop3
namespace Go.K
open Go Go.Abs
variable {P : Program} {E : Env}

/-! ## A store of its own -/
/-- the names of a round of its own -/
def Env.sub (E : Env) (bs : List Nat) (fs : List (Option Nat)) (nr : Nat) : Env :=
  { κ := fun i => (bs[i]?).bind E.κ, z := E.z, φ := fun i => if nr ≤ i then (fs[i - nr]?).bind (fun f => f.bind E.φ) else none }
theorem Env.sub_fam {bs : List Nat} {fs : List (Option Nat)} {nr i : Nat} : (E.sub bs fs nr).φ (nr + i) = (fs[i]?).bind (fun f => f.bind E.φ) := by
  simp only [Env.sub]
  rw [if_pos (by omega), show nr + i - nr = i by omega]
theorem ofPairs_get : ∀ {l : List (Nat × KV)} {i : Nat} {v : KV}, (ofPairs l).get i = some v → (i, v) ∈ l
  | [], i, v, h => by simp [ofPairs] at h
  | p :: ps, i, v, h => by
    rw [ofPairs, Trie.get_set] at h
    split at h
    · rename_i e
      simp at h; subst h e
      simp
    · exact List.mem_cons_of_mem _ (ofPairs_get h)
theorem TKR.ofPairs {ρ : Ren} {l : List (Nat × KV)} {N : Nat} {a : Act} (hs : a.tmps.size = N) (h : ∀ q ∈ l, q.1 < N ∧ VC P E ρ q.2 (a.tmps.getD q.1 undef)) : TKR P E ρ (K.ofPairs l) N a := by
  refine ⟨hs, fun i => ?_, fun i hi => ?_⟩
  · cases hg : (K.ofPairs l).get i with
    | none => exact .unk
    | some v => exact (h _ (ofPairs_get hg)).2
  · cases hg : (K.ofPairs l).get i with
    | none => rfl
    | some v => have := (h _ (ofPairs_get hg)).1; exact absurd hi (Nat.not_le_of_lt this)
theorem Grabbed.hyp {S : LSpec} {t : KTm} {A : KSt} {g : GR} (h : Grabbed P S t A g) : FamHyp E (E.sub g.bs g.fs S.nr) (S.fis P t A) S.nr := fun i fi hi => by
  refine ⟨fisOk_mem h.fams fi (List.mem_of_getElem? hi), fun x q hx hq => ?_⟩
  rw [Env.sub_fam, h.fs, idsOf_get hi, Option.bind_some, hx, Option.bind_some]
  exact hq
theorem reVs_in {E0 : Env} {t : KTm} {A : KSt} {ρ : Ren} {N : Nat} {a : Act} (hz : E0.z = E.z) (ht : TKR P E ρ t N a) : ∀ {ps : List (Tmp × VD)} {j : Nat}, goodVDs ps (grabV P t ps) = true → FamHyp E E0 (famsV P t A ps) j → ∀ q ∈ reVs j ps (grabV P t ps), q.1 < N ∧ VC P E0 ρ q.2 (a.tmps.getD q.1 undef)
  | [], _, _, _, q, hq => by simp [reVs] at hq
  | p :: ps, j, hg, hf, q, hq => by
    simp only [grabV, goodVDs, Bool.and_eq_true] at hg
    simp only [grabV, reVs, List.mem_cons] at hq
    rcases hq with rfl | hq
    · refine ⟨?_, ?_⟩
      · obtain ⟨v, hv⟩ := VK.known_of hg.1
        by_cases hN : N ≤ p.1
        · rw [ht.none _ hN] at hv; simp at hv
        · exact Nat.lt_of_not_le hN
      · obtain ⟨u, h1, h2⟩ := ht.val p.1
        exact ⟨u, h1.vdIn hz hg.1 hf.left, h2⟩
    · have h2 := hf.right
      rw [famsC_length (normVD_len hg.1)] at h2
      exact reVs_in hz ht hg.2 h2 q hq
theorem ptrPairs_mem {bs : List Nat} : ∀ {ps : List (Tmp × Nat × Nat)} {q : Nat × KV}, q ∈ ptrPairs bs ps → ∃ p ∈ ps, q = (p.1, .ptr (bs.getD p.2.1 0) p.2.2)
  | [], _, h => by simp [ptrPairs] at h
  | p :: ps, q, h => by
    simp only [ptrPairs, List.mem_cons] at h
    rcases h with rfl | h
    · exact ⟨p, by simp, rfl⟩
    · obtain ⟨p', h1, h2⟩ := ptrPairs_mem h
      exact ⟨p', List.mem_cons_of_mem _ h1, h2⟩
theorem ptrsOk_mem {t : KTm} {bs : List Nat} : ∀ {ps : List (Tmp × Nat × Nat)}, ptrsOk t bs ps = true → ∀ q ∈ ps, ∃ b, t.get q.1 = some (.ptr b q.2.2) ∧ bs[q.2.1]? = some b
  | [], _, q, hq => by simp at hq
  | p :: ps, h, q, hq => by
    simp only [ptrsOk, Bool.and_eq_true] at h
    rcases List.mem_cons.1 hq with rfl | hq
    · have h1 := h.1
      unfold ptrOk at h1
      split at h1
      · rename_i b o b' e1 e2
        simp only [Bool.and_eq_true] at h1
        have := Nat.eq_of_beq_eq_true h1.1
        have := Nat.eq_of_beq_eq_true h1.2
        subst_vars
        exact ⟨_, e1, e2⟩
      · simp at h1
    · exact ptrsOk_mem h.2 q hq
theorem Grabbed.tkr {S : LSpec} {t : KTm} {A : KSt} {g : GR} {ρ : Ren} {N : Nat} {a : Act} (h : Grabbed P S t A g) (ht : TKR P E ρ t N a) : TKR P (E.sub g.bs g.fs S.nr) ρ (S.tm S.nr S.ids g.vs) N a := by
  refine TKR.ofPairs ht.size fun q hq => ?_
  have hh : FamHyp E (E.sub g.bs g.fs S.nr) (S.fis P t A) S.nr := h.hyp
  rcases List.mem_append.1 hq with hq | hq
  · rw [h.vs] at hq
    exact reVs_in (E := E) (E0 := E.sub g.bs g.fs S.nr) (A := A) rfl ht (h.vs ▸ h.vals) hh.left q hq
  · obtain ⟨p, hp, rfl⟩ := ptrPairs_mem hq
    obtain ⟨b, h1, h2⟩ := ptrsOk_mem h.ptrs p hp
    refine ⟨?_, ?_⟩
    · by_cases hN : N ≤ p.1
      · rw [ht.none _ hN] at h1; simp at h1
      · exact Nat.lt_of_not_le hN
    · have hk : p.2.1 < S.rows.length := by
        have := (List.getElem?_eq_some_iff.1 h2).1
        rw [h.bs, grabB_length] at this; exact this
      have hv := ht.val p.1
      rw [h1] at hv
      obtain ⟨u, h3, h4⟩ := hv
      refine ⟨u, ?_, h4⟩
      obtain ⟨x, h5, rfl⟩ := (show VK P E (.ptr b p.2.2) u from h3).ptr_inv
      have : S.ids.getD p.2.1 0 = p.2.1 := by rw [List.getD_eq_getElem?_getD, ids_get S _ hk]; rfl
      rw [this]
      exact .mkPtr (by simp [Env.sub, h2, h5])
/-- a row that is handed on -/
theorem Grabbed.row {S : LSpec} {t : KTm} {A : KSt} {g : GR} (h : Grabbed P S t A g) {k : Nat} {p : Tmp × List CD × Nat} (hp : S.rows[k]? = some p) : ∃ b cs, g.bs[k]? = some b ∧ A.get b = some (.row cs p.2.2) ∧ cs.length = p.2.1.length ∧ rowC t A p = cs ∧ g.rs[k]? = some (normCDs P p.2.1 cs) ∧ goodCDs p.2.1 (normCDs P p.2.1 cs) = true := by
  obtain ⟨h1, h2⟩ := rowsOk_get h.rows hp
  obtain ⟨b, off, cs, _, h4, h5, h6, h7⟩ := rowOf_some h1
  refine ⟨b, cs, by rw [h.bs, grabB_get hp, h6], h4, h5, h7, ?_, by rw [← h7]; exact h2⟩
  have : ∀ {ps : List (Tmp × List CD × Nat)} {k : Nat}, ps[k]? = some p → (grabR P t A ps)[k]? = some (normCDs P p.2.1 (rowC t A p)) := by
    intro ps
    induction ps with
    | nil => intro k h; simp at h
    | cons q ps ih =>
      intro k h
      cases k with
      | zero => simp at h; subst h; rfl
      | succ k => simp at h; simpa [grabR] using ih h
  rw [h.rs, this hp, h7]
theorem Grabbed.lenr {S : LSpec} {t : KTm} {A : KSt} {g : GR} (h : Grabbed P S t A g) : g.rs.length = S.rows.length := by rw [h.rs, grabR_length]
theorem Grabbed.lenb {S : LSpec} {t : KTm} {A : KSt} {g : GR} (h : Grabbed P S t A g) : g.bs.length = S.rows.length := by rw [h.bs, grabB_length]
theorem Grabbed.good {S : LSpec} {t : KTm} {A : KSt} {g : GR} (h : Grabbed P S t A g) : ∀ (k : Nat) p r, S.rows[k]? = some p → g.rs[k]? = some r → goodCDs p.2.1 r = true := fun k p r hp hr => by
  obtain ⟨b, cs, _, _, _, _, h1, h2⟩ := h.row hp
  rw [hr] at h1; simp at h1; subst h1; exact h2
theorem Grabbed.lens {S : LSpec} {t : KTm} {A : KSt} {g : GR} (h : Grabbed P S t A g) : (S.lens P g.vs g.rs).length = (S.fis P t A).length := by
  simp only [LSpec.lens, LSpec.fis, List.length_append]
  rw [lensV_length h.vals, lensR_length h.lenr h.good rfl, famsR_length h.rows, famsV_length (h.vs ▸ h.vals)]
theorem Grabbed.fact {S : LSpec} {t : KTm} {A : KSt} {g : GR} (h : Grabbed P S t A g) {i : Nat} {q : Nat × Nat} (hq : (S.lens P g.vs g.rs)[i]? = some q) : ∃ fi, (S.fis P t A)[i]? = some fi ∧ g.fs[i]? = some fi.f ∧ FamFact A fi q := by
  have hlt : i < (S.fis P t A).length := by rw [← h.lens]; exact (List.getElem?_eq_some_iff.1 hq).1
  have hfi := List.getElem?_eq_getElem hlt
  have hok := fisOk_mem h.fams _ (List.getElem_mem hlt)
  refine ⟨_, hfi, by rw [h.fs]; exact idsOf_get hfi, ?_⟩
  have hv : (famsV P t A S.vals).length = famNV S.vals := famsV_length (h.vs ▸ h.vals)
  have hlv : (lensV P S.vals g.vs).length = famNV S.vals := lensV_length h.vals
  simp only [LSpec.lens] at hq
  have hfi' := hfi
  simp only [LSpec.fis] at hfi'
  by_cases hi : i < famNV S.vals
  · rw [List.getElem?_append_left (by omega)] at hq hfi'
    obtain ⟨p, h1, h2⟩ := lensV_fact (h.vs ▸ h.vals) hfi' hok
    rw [h.vs, h1] at hq
    simp at hq; subst hq; exact h2
  · rw [List.getElem?_append_right (by omega)] at hq hfi'
    obtain ⟨p, h1, h2⟩ := lensR_fact h.rows hfi' hok
    rw [h.rs, hlv, ← hv, h1] at hq
    simp at hq; subst hq; exact h2
theorem mem_next' {S : LSpec} {rs : List (List KV)} (h : rs.length = S.rows.length) : (memRows .empty S.rows (S.rows' S.nr rs)).next = S.nr := by
  show (memRows .empty S.rows (reRs (S.nr + famNV S.vals) S.rows rs)).next = S.nr
  rw [mem_next (reRs_length h _)]
  simp [KSt.empty, LSpec.nr]
theorem mem_inv {S : LSpec} {vs : List KV} {rs : List (List KV)} (h : rs.length = S.rows.length) {b : Nat} {o : KObj} (hb : (S.mem P vs rs).get b = some o) :
    (∃ p r, S.rows[b]? = some p ∧ rs[b]? = some r ∧ o = .row (reCDs (offR (S.nr + famNV S.vals) S.rows b) p.2.1 r) p.2.2) ∨ ∃ i q, b = S.nr + i ∧ (S.lens P vs rs)[i]? = some q ∧ o = .fam q.1 q.2 := by
  rcases addFams_inv hb with hb | ⟨i, q, h1, h2, h3⟩
  · rcases mem_dom hb with e | ⟨k, p, r, rfl, h1, h2, h3⟩
    · simp [KSt.empty, KSt.get] at e
    · have hk : (KSt.empty.next + k) = k := by simp [KSt.empty]
      rw [hk]
      have hlt : k < rs.length := by rw [h]; exact (List.getElem?_eq_some_iff.1 h1).1
      have e1 := List.getElem?_eq_getElem hlt
      have e2 := reRs_get (j := S.nr + famNV S.vals) h1 e1
      have h2 : (reRs (S.nr + famNV S.vals) S.rows rs)[k]? = some r := h2
      rw [e2] at h2
      simp at h2
      exact .inl ⟨p, _, h1, e1, by rw [h3, ← h2]⟩
  · rw [mem_next' h] at h1
    exact .inr ⟨i, q, h1, h2, h3⟩
theorem Grabbed.sim {S : LSpec} {t : KTm} {A : KSt} {B : St} {g : GR} (h : Grabbed P S t A g) (hk : KSim P E A B) : KSim P (E.sub g.bs g.fs S.nr) (S.mem P g.vs g.rs) B where
  row b cs esz hb := by
    rcases mem_inv h.lenr hb with ⟨p, r, h1, h2, h3⟩ | ⟨i, q, _, _, h3⟩
    · simp only [KObj.row.injEq] at h3
      obtain ⟨rfl, rfl⟩ := h3
      obtain ⟨b', cs, h4, h5, h6, h7, h8, h9⟩ := h.row h1
      rw [h2] at h8; simp at h8; subst h8
      obtain ⟨x, cs', h10, h11, h12⟩ := hk.row _ _ _ h5
      refine ⟨x, cs', by simp [Env.sub, h4, h10], h11, ?_⟩
      have hh : FamHyp E (E.sub g.bs g.fs S.nr) (S.fis P t A) S.nr := h.hyp
      have hr := hh.right
      rw [famsV_length (h.vs ▸ h.vals)] at hr
      have := famsR_hyp h.rows hr h1
      rw [h7] at this
      exact VKL.cellsIn (E := E) (E0 := E.sub g.bs g.fs S.nr) rfl h12 h6 h9 this
    · simp at h3
  fam b top sz hb := by
    rcases mem_inv h.lenr hb with ⟨p, r, _, _, h3⟩ | ⟨i, q, rfl, h2, h3⟩
    · simp at h3
    · simp only [KObj.fam.injEq] at h3
      obtain ⟨rfl, rfl⟩ := h3
      obtain ⟨fi, h4, h5, h6⟩ := h.fact h2
      rw [Env.sub_fam, h5, Option.bind_some]
      rcases h6 with ⟨h6, h7⟩ | ⟨f, h6, h7⟩
      · rw [h6]; exact .inl ⟨h7, rfl⟩
      · rw [h6, Option.bind_some]; exact hk.fam f _ _ h7
  z := hk.z
  apart b x e := by
    simp only [Env.sub, Option.bind_eq_some_iff] at e
    obtain ⟨b', _, e⟩ := e
    exact hk.apart b' x e
  inj b c x e1 e2 := by
    simp only [Env.sub, Option.bind_eq_some_iff] at e1 e2
    obtain ⟨b', h1, e1⟩ := e1
    obtain ⟨c', h2, e2⟩ := e2
    have := hk.inj _ _ _ e1 e2
    subst this
    exact nodupK_ok h.nodup _ _ _ h1 h2
  famInj b c q tb sb tc sc hb hc e1 e2 := by
    rcases mem_inv h.lenr hb with ⟨p, r, _, _, h3⟩ | ⟨i, q1, rfl, h2, h3⟩
    · simp at h3
    rcases mem_inv h.lenr hc with ⟨p, r, _, _, h3⟩ | ⟨j, q2, rfl, h2', h3'⟩
    · simp at h3
    obtain ⟨fi, h4, h5, h6⟩ := h.fact h2
    obtain ⟨fj, h4', h5', h6'⟩ := h.fact h2'
    rw [Env.sub_fam, h5, Option.bind_some] at e1
    rw [Env.sub_fam, h5', Option.bind_some] at e2
    rcases h6 with ⟨h6, _⟩ | ⟨f, h6, h7⟩
    · rw [h6] at e1; simp at e1
    rcases h6' with ⟨h6', _⟩ | ⟨f', h6', h7'⟩
    · rw [h6'] at e2; simp at e2
    rw [h6, Option.bind_some] at e1
    rw [h6', Option.bind_some] at e2
    have := hk.famInj f f' q _ _ _ _ h7 h7' e1 e2
    subst this
    have := someK_nodup h.fnodup i j f (by rw [h5, h6]) (by rw [h5', h6'])
    omega
  dom b x e := by
    simp only [Env.sub, Option.bind_eq_some_iff] at e
    obtain ⟨b', h1, _⟩ := e
    have : b < g.bs.length := (List.getElem?_eq_some_iff.1 h1).1
    rw [LSpec.mem, addFams_next, mem_next' h.lenr]
    rw [h.lenb] at this
    simp only [LSpec.nr]; omega
  domφ b q e := by
    simp only [Env.sub] at e
    split at e
    · rename_i hle
      obtain ⟨f, h1, _⟩ := Option.bind_eq_some_iff.1 e
      have h2 : b - S.nr < g.fs.length := (List.getElem?_eq_some_iff.1 h1).1
      rw [h.fs, idsOf_length, ← h.lens] at h2
      rw [LSpec.mem, addFams_next, mem_next' h.lenr]
      omega
    · simp at e
  live b o hb := by
    rw [LSpec.mem, addFams_next, mem_next' h.lenr]
    rcases mem_inv h.lenr hb with ⟨p, r, h1, _, _⟩ | ⟨i, q, rfl, h2, h3⟩
    · have := (List.getElem?_eq_some_iff.1 h1).1
      simp only [LSpec.nr]; omega
    · have := (List.getElem?_eq_some_iff.1 h2).1
      omega
  old b x e := by
    simp only [Env.sub, Option.bind_eq_some_iff] at e
    obtain ⟨b', _, e⟩ := e
    exact hk.old b' x e
  oldz := hk.oldz
  oldφ b q e := by
    simp only [Env.sub] at e
    split at e
    · obtain ⟨f, _, e⟩ := Option.bind_eq_some_iff.1 e
      obtain ⟨f', _, e⟩ := Option.bind_eq_some_iff.1 e
      exact hk.oldφ _ _ e
    · simp at e
  fresh := hk.fresh
  mem := hk.mem

/-! ## From one store of its own to the next -/
structure Co (base : Nat) (E : Env) (B : St) (ρ : Ren) (w : World) (E' : Env) (B' : St) (ρ' : Ren) (w' : World) : Prop where
  goes : Goes base ρ B w ρ' B' w'
  z : ∀ b r, E.z b = some r → E'.z b = some r
  keep : ∀ x, x < B.next → (∀ b, E.κ b ≠ some x) → B'.get x = B.get x
  new : ∀ b x, E'.κ b = some x → (∃ c, E.κ c = some x) ∨ B.next ≤ x
  newZ : ∀ b r, E'.z b = some r → E.z b = some r ∨ B.next ≤ b
  newF : ∀ b g, E'.φ b = some g → (∃ c, E.φ c = some g) ∨ B.next ≤ g
  keepF : ∀ g, g < B.next → (∀ b, E.φ b ≠ some g) → B'.members g = B.members g
theorem Co.refl {base : Nat} {B : St} {ρ : Ren} {w : World} (s : Sim ρ B base w) : Co base E B ρ w E B ρ w :=
  ⟨.refl s, fun _ _ h => h, fun _ _ _ => rfl, fun _ _ h => .inl ⟨_, h⟩, fun _ _ h => .inl h, fun _ _ h => .inl ⟨_, h⟩, fun _ _ _ => rfl⟩
theorem Co.trans {base : Nat} {E1 E2 E3 : Env} {B1 B2 B3 : St} {ρ1 ρ2 ρ3 : Ren} {w1 w2 w3 : World} (h : Co base E1 B1 ρ1 w1 E2 B2 ρ2 w2) (k : Co base E2 B2 ρ2 w2 E3 B3 ρ3 w3) : Co base E1 B1 ρ1 w1 E3 B3 ρ3 w3 where
  goes := h.goes.trans k.goes
  z b r e := k.z b r (h.z b r e)
  keep x hx hn := by
    refine (k.keep x (Nat.lt_of_lt_of_le hx h.goes.next) fun b e => ?_).trans (h.keep x hx hn)
    rcases h.new b x e with ⟨c, e⟩ | e
    · exact hn c e
    · omega
  new b x e := by
    rcases k.new b x e with ⟨c, e⟩ | e
    · exact h.new c x e
    · have := h.goes.next; exact .inr (by omega)
  newZ b r e := by
    rcases k.newZ b r e with e | e
    · exact h.newZ b r e
    · have := h.goes.next; exact .inr (by omega)
  newF b g e := by
    rcases k.newF b g e with ⟨c, e⟩ | e
    · exact h.newF c g e
    · have := h.goes.next; exact .inr (by omega)
  keepF g hg hn := by
    refine (k.keepF g (Nat.lt_of_lt_of_le hg h.goes.next) fun b e => ?_).trans (h.keepF g hg hn)
    rcases h.newF b g e with ⟨c, e⟩ | e
    · exact hn c e
    · omega
theorem Ev.co {base : Nat} {A A1 : KSt} {B B1 : St} {ρ ρ1 : Ren} {w w1 : World} {E1 : Env} {bs : List Nat} {fs : List (Option Nat)} {nr : Nat} (h : Ev P base E A B ρ w E1 A1 B1 ρ1 w1) : Co base E B ρ w (E1.sub bs fs nr) B1 ρ1 w1 where
  goes := h.goes
  z := h.le.z
  keep := h.keep
  new b x e := by
    simp only [Env.sub, Option.bind_eq_some_iff] at e
    obtain ⟨b', _, e⟩ := e
    exact (h.new b' x e).imp (fun e => ⟨_, e⟩) id
  newZ := h.newZ
  newF b g e := by
    simp only [Env.sub] at e
    split at e
    · obtain ⟨f, _, e⟩ := Option.bind_eq_some_iff.1 e
      obtain ⟨f', _, e⟩ := Option.bind_eq_some_iff.1 e
      exact h.newF _ _ e
    · simp at e
  keepF := h.keepF

/-! ## The way back -/
theorem VKL.cellsOut {E1 E2 : Env} (hz : E2.z = E1.z) : ∀ {ds : List CD} {vs : List KV} {us : List Value} {i j : Nat}, VKL P E1 (reCDs i ds vs) us → goodCDs ds vs = true → (∀ m, m < famN ds → ∀ g, E1.φ (i + m) = some g → E2.φ (j + m) = some g) → VKL P E2 (reCDs j ds vs) us
  | [], [], us, _, _, h, _, _ => by rw [h.nil_inv]; exact .nil
  | [], _ :: _, _, _, _, _, hg, _ => by simp [goodCDs] at hg
  | _ :: _, [], _, _, _, _, hg, _ => by simp [goodCDs] at hg
  | d :: ds, v :: vs, us, i, j, h, hg, hf => by
    simp only [goodCDs, Bool.and_eq_true] at hg
    cases d with
    | k c =>
      obtain ⟨y, ys, rfl, h1, h2⟩ := VKL.cons_inv (show VKL P E1 (v :: reCDs i ds vs) us from h)
      exact .cons (h1.gCD (d := .k c) hz hg.1) (VKL.cellsOut hz h2 hg.2 hf)
    | lit w =>
      obtain ⟨y, ys, rfl, h1, h2⟩ := VKL.cons_inv (show VKL P E1 (v :: reCDs i ds vs) us from h)
      exact .cons (h1.gCD (d := .lit w) hz hg.1) (VKL.cellsOut hz h2 hg.2 hf)
    | fam t =>
      obtain ⟨y, ys, rfl, h1, h2⟩ := VKL.cons_inv (show VKL P E1 (setFam i v :: reCDs (i + 1) ds vs) us from h)
      refine .cons ?_ (VKL.cellsOut (i := i + 1) (j := j + 1) hz h2 hg.2 fun m hm g e => by
        rw [show j + 1 + m = j + (m + 1) by omega]
        exact hf (m + 1) (by simp only [famN]; omega) g (by rw [show i + (m + 1) = i + 1 + m by omega]; exact e))
      have hv : ∃ n es acc, v = .ts t .any n es acc := by
        have hg1 : kindOk (.slice t) v = true := hg.1
        cases v <;> simp [kindOk] at hg1
        rename_i t' m n es acc
        cases m <;> simp at hg1
        subst hg1; exact ⟨_, _, _, rfl⟩
      obtain ⟨n, es, acc, rfl⟩ := hv
      exact VK.swap hz (show VK P E1 (.ts t (.fam i) n es acc) y from h1) fun sz a cap _ hm => by
        refine ⟨hm.1, hm.2.imp id ?_⟩
        rintro ⟨b, r, g, q1, q2, q3, q4, q5⟩
        exact ⟨b, r, g, q1, by rw [hz]; exact q2, q3, hf 0 (by simp [famN]) g q4, q5⟩
theorem reVD_agg (j : Nat) (d : VD) (cs : List KV) : reVD j d (.agg cs) = .agg (reCDs j d.ks cs) := rfl
theorem reVD_one {j : Nat} {d : VD} {v : KV} (h : ∀ cs, v ≠ .agg cs) {c : CD} (hc : d.ks = [c]) : [reVD j d v] = reCDs j d.ks [v] := by
  have e : reVD j d v = (match d.ks with | [.fam _] => setFam j v | _ => v) := by
    cases v <;> first | rfl | exact absurd rfl (h _)
  rw [e, hc]
  cases c <;> rfl
theorem VK.vdOut {E1 E2 : Env} (hz : E2.z = E1.z) {d : VD} {v : KV} {u : Value} {i j : Nat} (h : VK P E1 (reVD i d v) u) (hg : goodVD d v = true) (hf : ∀ m, m < famN d.ks → ∀ g, E1.φ (i + m) = some g → E2.φ (j + m) = some g) : VK P E2 (reVD j d v) u := by
  rcases goodVD_cases hg with ⟨cs, rfl, _, h2⟩ | ⟨h0, _, c, h1, h2⟩
  · rw [reVD_agg] at h ⊢
    obtain ⟨l, rfl, k⟩ := h.agg_inv
    exact .mkAgg (VKL.cellsOut hz k h2 hf)
  · have k : VKL P E1 (reCDs i d.ks [v]) [u] := by rw [← reVD_one h0 h1]; exact .cons h .nil
    have k2 := VKL.cellsOut hz k (by rw [h1]; simp [goodCDs, h2]) hf
    rw [← reVD_one h0 h1] at k2
    obtain ⟨y, e, k3⟩ := k2.one_inv
    simp at e; subst e; exact k3
def PairsR (P : Program) (E1 E2 : Env) : List (Nat × KV) → List (Nat × KV) → Prop
  | [], [] => True
  | x :: xs, y :: ys => x.1 = y.1 ∧ (∀ u, VK P E1 x.2 u → VK P E2 y.2 u) ∧ PairsR P E1 E2 xs ys
  | _, _ => False
theorem PairsR.append {E1 E2 : Env} : ∀ {a b c d : List (Nat × KV)}, PairsR P E1 E2 a b → PairsR P E1 E2 c d → PairsR P E1 E2 (a ++ c) (b ++ d)
  | [], [], _, _, _, h => h
  | [], _ :: _, _, _, h, _ => h.elim
  | _ :: _, [], _, _, h, _ => h.elim
  | _ :: _, _ :: _, _, _, h, k => ⟨h.1, h.2.1, PairsR.append h.2.2 k⟩
theorem PairsR.get {E1 E2 : Env} : ∀ {a b : List (Nat × KV)}, PairsR P E1 E2 a b → ∀ i, ((ofPairs a).get i = none ∧ (ofPairs b).get i = none) ∨ ∃ x y, (ofPairs a).get i = some x ∧ (ofPairs b).get i = some y ∧ ∀ u, VK P E1 x u → VK P E2 y u
  | [], [], _, i => .inl (by simp [ofPairs])
  | [], _ :: _, h, _ => h.elim
  | _ :: _, [], h, _ => h.elim
  | x :: a, y :: b, h, i => by
    rw [ofPairs, ofPairs, Trie.get_set, Trie.get_set]
    by_cases e : i = x.1
    · rw [if_pos e, if_pos (by rw [e, h.1])]
      exact .inr ⟨_, _, rfl, rfl, h.2.1⟩
    · rw [if_neg e, if_neg (by rw [← h.1]; exact e)]
      exact PairsR.get h.2.2 i
theorem TKR.pairs {E1 E2 : Env} {ρ : Ren} {l m : List (Nat × KV)} {N : Nat} {a : Act} (h : TKR P E1 ρ (K.ofPairs l) N a) (hp : PairsR P E1 E2 l m) : TKR P E2 ρ (K.ofPairs m) N a := by
  refine ⟨h.size, fun i => ?_, fun i hi => ?_⟩
  · rcases hp.get i with ⟨_, h2⟩ | ⟨x, y, h1, h2, h3⟩
    · rw [h2]; exact .unk
    · have := h.val i
      rw [h1] at this
      rw [h2]
      obtain ⟨u, k1, k2⟩ := this
      exact ⟨u, h3 u k1, k2⟩
  · rcases hp.get i with ⟨_, h2⟩ | ⟨x, y, h1, h2, h3⟩
    · exact h2
    · have := h.none i hi
      rw [h1] at this; simp at this
theorem reVs_out {E1 E2 : Env} (hz : E2.z = E1.z) : ∀ {ps : List (Tmp × VD)} {vs : List KV} {i j : Nat}, goodVDs ps vs = true → (∀ m, m < famNV ps → ∀ g, E1.φ (i + m) = some g → E2.φ (j + m) = some g) → PairsR P E1 E2 (reVs i ps vs) (reVs j ps vs)
  | [], [], _, _, _, _ => trivial
  | [], _ :: _, _, _, hg, _ => by simp [goodVDs] at hg
  | _ :: _, [], _, _, hg, _ => by simp [goodVDs] at hg
  | p :: ps, v :: vs, i, j, hg, hf => by
    simp only [goodVDs, Bool.and_eq_true] at hg
    refine ⟨rfl, fun u h => h.vdOut hz hg.1 fun m hm g e => hf m (by simp only [famNV]; omega) g e, reVs_out hz hg.2 fun m hm g e => ?_⟩
    rw [Nat.add_assoc]
    exact hf (famN p.2.ks + m) (by simp only [famNV]; omega) g (by rw [← Nat.add_assoc]; exact e)
theorem ptr_out {E1 E2 : Env} {ids bs : List Nat} : ∀ {ps : List (Tmp × Nat × Nat)}, (∀ p ∈ ps, ∀ x, E1.κ (ids.getD p.2.1 0) = some x → E2.κ (bs.getD p.2.1 0) = some x) → PairsR P E1 E2 (ptrPairs ids ps) (ptrPairs bs ps)
  | [], _ => trivial
  | p :: ps, h => ⟨rfl, fun u k => by
      obtain ⟨x, h1, rfl⟩ := (show VK P E1 (.ptr (ids.getD p.2.1 0) p.2.2) u from k).ptr_inv
      exact .mkPtr (h p (by simp) x h1), ptr_out fun q hq => h q (by simp [hq])⟩
end Go.K
