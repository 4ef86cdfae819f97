/-
  The machine K's operations that ask nothing of the store do what the abstract machine's do.
-/
import Derived.Test.YtjmpheohljeapaaKRel
namespace Go.K
open Go Go.Abs
variable {P : Program} {E : Env}

def Gives {α : Type} (r : KR α) (v : α) : Prop :=
  match r with
  | .no => False
  | .ok u => u = v
  | .chk c u => c = true ∧ u = v
theorem KR.run_some {α R : Type} {r : KR α} {k : α → Option R} {x : R} (h : r.run k = some x) : ∃ v, Gives r v ∧ k v = some x := by
  cases r with
  | no => exact absurd h (by simp [KR.run])
  | ok v => exact ⟨v, rfl, h⟩
  | chk c v =>
    cases c with
    | false => exact absurd h (by simp [KR.run])
    | true => exact ⟨v, ⟨rfl, rfl⟩, h⟩
theorem Gives.of {α : Type} {o : Option α} {v : α} (h : Gives (KR.of o) v) : o = some v := by
  cases o with
  | none => exact h.elim
  | some u => have h : u = v := h; rw [h]
theorem Gives.cond {α : Type} {c : Bool} {r : KR α} {v : α} (h : Gives (cond c r .no) v) : c = true ∧ Gives r v := by
  cases c with
  | false => exact h.elim
  | true => exact ⟨rfl, h⟩
theorem cond_some {α : Type} {c : Bool} {r : Option α} {v : α} (h : cond c r none = some v) : c = true ∧ r = some v := by
  cases c with
  | false => simp at h
  | true => exact ⟨rfl, h⟩

/-- on lists: what K answers the other answers -/
def SimP (P : Program) (f : FP) (g : List Value → Option Value) : Prop :=
  ∀ (E : Env) (vs : List KV) (us : List Value) (v : KV), VKL P E vs us → Gives (f vs) v → ∃ u, g us = some u ∧ VK P E v u

theorem simMove : SimP P kMove fMove := by
  intro E vs us v h hg
  match vs, hg with
  | [x], hg =>
    obtain ⟨y, rfl, h1⟩ := h.one_inv
    have hg : x = v := hg
    subst hg
    exact ⟨y, rfl, h1⟩
theorem simPick : SimP P kPick fPick := by
  intro E vs us v h hg
  match vs, hg with
  | [.bool t, .bool a, .bool b], hg =>
    obtain ⟨x, y, z, rfl, h1, h2, h3⟩ := h.three_inv
    have := h1.bool_inv; subst this
    have := h2.bool_inv; subst this
    have := h3.bool_inv; subst this
    have hg : KV.bool (cond t a b) = v := hg
    subst hg
    exact ⟨_, rfl, by cases t <;> exact .mkBool⟩
  | [.bool t, a, b], hg =>
    obtain ⟨x, y, z, rfl, h1, h2, h3⟩ := h.three_inv
    have := h1.bool_inv; subst this
    refine ⟨_, rfl, ?_⟩
    have hg : v = cond t a b ∨ ∃ p q, a = .bool p ∧ b = .bool q ∧ v = .bool (cond t p q) := by
      unfold kPick at hg
      split at hg
      · rename_i t' a' b' e
        simp at e
        obtain ⟨rfl, rfl, rfl⟩ := e
        exact .inr ⟨_, _, rfl, rfl, hg.symm⟩
      · rename_i t' a' b' _ e
        simp at e
        obtain ⟨rfl, rfl, rfl⟩ := e
        exact .inl hg.symm
      · exact hg.elim
    rcases hg with rfl | ⟨p, q, rfl, rfl, rfl⟩
    · cases t
      · exact h3
      · exact h2
    · have := h2.bool_inv; subst this
      have := h3.bool_inv; subst this
      cases t <;> exact .mkBool

theorem known_of {v : KV} {u : Value} (h : VK P E v u) (hk : knownK v = true) : Abs.known u = true := by
  cases v with
  | agg cs => obtain ⟨l, rfl, q⟩ := h.agg_inv; rfl
  | int k n => have := h.int_inv; subst this; rfl
  | bool b => have := h.bool_inv; subst this; rfl
  | str b => have := h.str_inv; subst this; rfl
  | tup cs => obtain ⟨l, rfl, _⟩ := h.tup_inv; rfl
  | ts T m n es acc => obtain ⟨_, _, _, a, cap, rfl, _⟩ := h.ts_inv; rfl
  | tp T Tc i k es acc => obtain ⟨_, _, _, _, _, b, off, r, rfl, _⟩ := h.tp_inv; rfl
  | ptr b off => obtain ⟨x, _, rfl⟩ := h.ptr_inv; rfl
  | sl b off n c => obtain ⟨x, _, rfl⟩ := h.sl_inv; rfl
  | nilp => simp only [VK] at h; subst h; rfl
  | nilsl => simp only [VK] at h; subst h; rfl
  | nilmap => simp only [VK] at h; subst h; rfl
  | map b => simp only [VK] at h; obtain ⟨x, _, rfl⟩ := h; rfl
  | fn f a b => obtain ⟨l, m, rfl, _⟩ := h.fn_inv; rfl
  | nilfn => simp only [VK] at h; subst h; rfl
  | iface t x => simp only [VK] at h; obtain ⟨y, rfl, _⟩ := h; rfl
  | nilif => simp only [VK] at h; subst h; rfl
  | unk => simp [knownK] at hk
theorem cells_size {v : KV} {u : Value} (h : VK P E v u) (hk : knownK v = true) : u.cells.size = v.cells.length := by
  have := (h.cells hk).length
  simpa using this
theorem simFill {place : Nat → Option (Nat × Nat)} : ∀ {ps : List (Nat × KV)} {qs : List (Nat × Value)} {cs r : List KV} {cs' : List Value}, ps.map (·.1) = qs.map (·.1) → VKL P E (ps.map (·.2)) (qs.map (·.2)) → (∀ p ∈ ps, knownK p.2 = true) →
    VKL P E cs cs' → fillK place cs ps = some r → ∃ r', fillC place cs' qs = some r' ∧ VKL P E r r'
  | [], [], cs, r, cs', _, _, _, h, e => by simp [fillK] at e; subst e; exact ⟨cs', rfl, h⟩
  | [], _ :: _, _, _, _, e, _, _, _, _ => by simp at e
  | _ :: _, [], _, _, _, e, _, _, _, _ => by simp at e
  | (i, v) :: ps, (j, u) :: qs, cs, r, cs', e1, e2, hk, h, e => by
    simp only [List.map_cons, List.cons.injEq] at e1
    obtain ⟨rfl, e1⟩ := e1
    obtain ⟨y, ys, e3, h1, h2⟩ := e2.cons_inv
    simp only [List.map_cons, List.cons.injEq] at e3
    obtain ⟨rfl, rfl⟩ := e3
    have hkv : knownK v = true := hk (i, v) (by simp)
    simp only [fillK] at e
    simp only [fillC]
    split at e
    · rename_i off size hp
      rw [hp]
      obtain ⟨hc, e⟩ := cond_some e
      obtain ⟨cs1, e4, e5⟩ := Option.bind_eq_some_iff.1 e
      obtain ⟨r1, e6, h3⟩ := VKL.writeK e4 h (h1.cells hkv)
      obtain ⟨r', e7, h4⟩ := simFill e1 h2 (fun p hp => hk p (by simp [hp])) h3 e5
      refine ⟨r', ?_, h4⟩
      simp only
      rw [cells_size h1 hkv, hc, cond_true, e6]
      exact e7
    · simp at e
theorem zip_fst : ∀ (is : List Nat) {vs : List KV} {us : List Value}, VKL P E vs us → (zipK is vs).map (·.1) = (zipIdx is us).map (·.1) ∧ VKL P E ((zipK is vs).map (·.2)) ((zipIdx is us).map (·.2))
  | [], _, _, _ => by simp [zipK, zipIdx, VKL.nil]
  | i :: is, [], us, h => by rw [h.nil_inv]; simp [zipK, zipIdx, VKL.nil]
  | i :: is, v :: vs, us, h => by
    obtain ⟨y, ys, rfl, h1, h2⟩ := h.cons_inv
    obtain ⟨h3, h4⟩ := zip_fst is h2
    exact ⟨by simp [zipK, zipIdx, h3], by simpa [zipK, zipIdx] using VKL.cons h1 h4⟩
theorem zip_mem : ∀ (is : List Nat) (vs : List KV), ∀ p ∈ zipK is vs, p.2 ∈ vs
  | [], _, p, h => by simp [zipK] at h
  | i :: is, [], p, h => by simp [zipK] at h
  | i :: is, v :: vs, p, h => by
    simp only [zipK, List.mem_cons] at h
    rcases h with rfl | h
    · simp
    · simp [zip_mem is vs p h]
theorem all_known : ∀ {vs : List KV} {us : List Value}, VKL P E vs us → vs.all knownK = true → us.all Abs.known = true
  | [], us, h, _ => by rw [h.nil_inv]; rfl
  | v :: vs, us, h, k => by
    obtain ⟨y, ys, rfl, h1, h2⟩ := h.cons_inv
    simp only [List.all_cons, Bool.and_eq_true] at k ⊢
    exact ⟨known_of h1 k.1, all_known h2 k.2⟩
theorem simBuild {place : Nat → Option (Nat × Nat)} {z : Value} {is : List Nat} (hz : flat z = true) (h1 : oneAll (ofV z).cells = true) : SimP P (kBuildAt place (ofV z).cells is) (fBuildAt place z is) := by
  intro E vs us v h hg
  unfold kBuildAt at hg
  split at hg
  · rename_i cs hf
    obtain ⟨hk, hg⟩ := hg.cond
    have hg : KV.agg cs = v := hg
    subst hg
    obtain ⟨h2, h3⟩ := zip_fst is h
    obtain ⟨r', e, hr⟩ := simFill h2 h3 (fun p hp => by have := zip_mem is vs p hp; exact List.all_eq_true.1 hk _ this) (ofV_cells (P := P) (E := E) h1) hf
    refine ⟨.agg ⟨r'⟩, ?_, .mkAgg hr⟩
    unfold fBuildAt
    rw [hz, all_known h hk]
    simp [e, mkAgg]
  · exact hg.elim

theorem simNil : SimP P kNilCheck fNilCheck := by
  intro E vs us v h hg
  match vs, hg with
  | [.ptr b off], hg =>
    obtain ⟨y, rfl, h1⟩ := h.one_inv
    have hg : KV.ptr b off = v := hg
    subst hg
    have q := h1
    obtain ⟨x, e, rfl⟩ := h1.ptr_inv
    exact ⟨_, rfl, q⟩
  | [.tp T Tc i k es acc], hg =>
    obtain ⟨y, rfl, h1⟩ := h.one_inv
    have hg : KV.tp T Tc i k es acc = v := hg
    subst hg
    have q := h1
    obtain ⟨_, _, _, _, _, b, off, r, rfl, _⟩ := h1.tp_inv
    exact ⟨_, rfl, q⟩
  | [.fn (.func f) a b], hg =>
    obtain ⟨y, rfl, h1⟩ := h.one_inv
    have hg : KV.fn (.func f) a b = v := hg
    subst hg
    have q := h1
    obtain ⟨l, m, rfl, _⟩ := h1.fn_inv
    exact ⟨_, rfl, q⟩
theorem addTo_plain (b off n : Nat) : addTo ⟨b, off, none⟩ n = some (.pointer (some ⟨b, off + n, none⟩)) := rfl
theorem partOk_window {s ft : TypeId} {off : Nat} (h : partOk P s off ft = true) : ∀ m c, (layF P ft).ks[m]? = some c → (layF P s).ks[off + m]? = some c := by
  unfold partOk at h
  have key : ∀ (a b : List CK), cksEq a b = true → a = b := by
    intro a
    induction a with
    | nil => intro b hb; cases b <;> simp_all [cksEq]
    | cons x xs ih =>
      intro b hb
      cases b with
      | nil => simp [cksEq] at hb
      | cons y ys =>
        simp only [cksEq, Bool.and_eq_true] at hb
        rw [ih ys hb.2]
        congr 1
        cases x <;> cases y <;> simp_all [ckEq]
  split at h
  · rename_i l e
    obtain ⟨rfl, hl⟩ := takeK_eq e
    have := key _ _ h
    intro m c hm
    rw [← this, List.getElem?_take] at hm
    split at hm
    · rwa [dropK_eq, List.getElem?_drop] at hm
    · simp at hm
  · simp at h
theorem simFieldAddr {s ft : TypeId} {off : Nat} {good : Bool} (hgood : good = partOk P s off ft) : SimP P (kFieldAddr s off ft good) (fFieldAddr off) := by
  intro E vs us v h hg
  match vs, hg with
  | [.ptr b o], hg =>
    obtain ⟨y, rfl, h1⟩ := h.one_inv
    have hg : KV.ptr b (o + off) = v := hg
    subst hg
    obtain ⟨x, e, rfl⟩ := h1.ptr_inv
    exact ⟨_, rfl, .mkPtr e⟩
  | [.tp T Tc i k es acc], hg =>
    obtain ⟨y, rfl, h1⟩ := h.one_inv
    obtain ⟨hc, hg⟩ := Gives.cond hg
    have hg : KV.tp T ft i (k + off) es acc = v := hg
    subst hg
    simp only [Bool.and_eq_true] at hc
    have := Nat.eq_of_beq_eq_true hc.1
    subst this
    obtain ⟨ht, es', h2, hi, hw, b, o, r, rfl, h4, h5⟩ := h1.tp_inv
    refine ⟨_, rfl, ?_⟩
    simp only [VK]
    refine ⟨ht, es', h2, hi, ⟨fun m c hm => ?_⟩, b, o, r, by simp only [Value.pointer.injEq, Option.some.injEq, Addr.mk.injEq, and_true, true_and]; omega, h4, h5⟩
    have hp := partOk_window (hgood ▸ hc.2) m c hm
    have := hw.is _ _ hp
    rwa [show k + (off + m) = k + off + m by omega] at this
theorem simPart {t : TypeId} {cs : List KV} {cs' : List Value} {off : Nat} {v : KV} (h : VKL P E cs cs') (e : partK P t cs off = some v) : ∃ u, partOf P t cs' off = some u ∧ VK P E v u := by
  unfold partK at e
  unfold partOf
  split at e
  · rename_i ha
    rw [ha]
    obtain ⟨n, hn, e⟩ := Option.bind_eq_some_iff.1 e
    obtain ⟨l, hl, rfl⟩ := Option.map_eq_some_iff.1 e
    obtain ⟨r, hr, hv, _⟩ := h.takeK hl
    exact ⟨.agg ⟨r⟩, by simp [hn, hr], .mkAgg hv⟩
  · rename_i ha
    rw [ha]
    rw [dropK_eq] at e
    have hd := h.drop off
    cases hc : cs.drop off with
    | nil => rw [hc] at e; simp at e
    | cons x xs =>
      rw [hc] at e hd
      simp at e
      subst e
      obtain ⟨y, ys, e2, h1, _⟩ := hd.cons_inv
      exact ⟨y, by simp [dropN_eq, e2], h1⟩
  · simp at e
theorem simField {fd : Field} : SimP P (kField P fd) (fField P fd) := by
  intro E vs us v h hg
  match vs, hg with
  | [.agg cs], hg =>
    obtain ⟨y, rfl, h1⟩ := h.one_inv
    obtain ⟨l, rfl, h2⟩ := h1.agg_inv
    exact simPart h2 hg.of
theorem inR_spec {i : Int} {n : Nat} (h : inR i n = true) : ∃ m, i = .ofNat m ∧ m < n ∧ i.toNat = m := by
  simp only [inR, Bool.and_eq_true, decide_eq_true_eq] at h
  obtain ⟨m, rfl⟩ := Int.eq_ofNat_of_zero_le h.1
  exact ⟨m, rfl, by omega, rfl⟩
theorem inBounds_of {m n : Nat} (h : m < n) : inBounds (.ofNat m) n = some m := by
  have : Nat.blt m n = true := by rw [Nat.blt_eq]; exact h
  simp [inBounds, this]
theorem Gives.chk {α : Type} {c : Bool} {u v : α} (h : Gives (.chk c u) v) : c = true ∧ u = v := h
theorem simIndexArr {t e : TypeId} {len n : Nat} : SimP P (kIndexArr P t len n e) (fIndexArr len n) := by
  intro E vs us v h hg
  match vs, hg with
  | [.ptr b o, .int k i], hg =>
    obtain ⟨x, y, rfl, h1, h2⟩ := h.two_inv
    obtain ⟨hc, rfl⟩ := Gives.chk hg
    obtain ⟨x, e, rfl⟩ := h1.ptr_inv
    have := h2.int_inv; subst this
    obtain ⟨m, rfl, hm, hmm⟩ := inR_spec hc
    rw [hmm]
    refine ⟨_, ?_, .mkPtr e⟩
    show (inBounds (.ofNat m) len).bind _ = _
    rw [inBounds_of hm]; rfl
  | [.tp T Tc j k es acc, .int q i], hg =>
    obtain ⟨x, y, rfl, h1, h2⟩ := h.two_inv
    obtain ⟨hcc, hg⟩ := Gives.cond hg
    obtain ⟨hc, rfl⟩ := Gives.chk hg
    have := h2.int_inv; subst this
    obtain ⟨m, rfl, hm, hmm⟩ := inR_spec hc
    rw [hmm]
    simp only [Bool.and_eq_true] at hcc
    have := Nat.eq_of_beq_eq_true hcc.1.1
    subst this
    have hn : (layF P e).ks.length = n := Nat.eq_of_beq_eq_true hcc.2
    obtain ⟨ht, es', h3, hi, hw, b, o, r, rfl, h4, h5⟩ := h1.tp_inv
    refine ⟨_, by (show (inBounds (.ofNat m) len).bind _ = _); rw [inBounds_of hm]; rfl, ?_⟩
    simp only [VK]
    refine ⟨ht, es', h3, hi, ⟨fun a c ha => ?_⟩, b, o, r, by simp only [Value.pointer.injEq, Option.some.injEq, Addr.mk.injEq, and_true, true_and]; omega, h4, h5⟩
    have key : ∀ (l : List CK) (cnt m a : Nat) (c : CK), m < cnt → l[a]? = some c → (repeatK l cnt)[m * l.length + a]? = some c := by
      intro l cnt
      induction cnt with
      | zero => intro m a c hm; omega
      | succ cnt ih =>
        intro m a c hm hl
        have hlt : a < l.length := (List.getElem?_eq_some_iff.1 hl).1
        cases m with
        | zero => simp only [repeatK, Nat.zero_mul, Nat.zero_add]; rw [List.getElem?_append_left hlt]; exact hl
        | succ m =>
          simp only [repeatK]
          rw [List.getElem?_append_right (by rw [Nat.succ_mul]; omega), show (m + 1) * l.length + a - l.length = m * l.length + a by rw [Nat.succ_mul]; omega]
          exact ih m a c (by omega) hl
    have keyq : ∀ (a b : List CK), cksEq a b = true → a = b := by
      intro a
      induction a with
      | nil => intro b hb; cases b <;> simp_all [cksEq]
      | cons x xs ih =>
        intro b hb
        cases b with
        | nil => simp [cksEq] at hb
        | cons y ys =>
          simp only [cksEq, Bool.and_eq_true] at hb
          rw [ih ys hb.2]
          congr 1
          cases x <;> cases y <;> simp_all [ckEq]
    have h6 := key (layF P e).ks len m a c hm ha
    rw [← keyq _ _ hcc.1.2, hn] at h6
    have := hw.is _ _ h6
    rwa [show k + (m * n + a) = k + m * n + a by omega] at this
theorem simIndexSl {e n : Nat} {good : Bool} (hgood : good = Nat.beq (layF P e).ks.length n) : SimP P (kIndexSl e n good) (fIndexSl n) := by
  intro E vs us v h hg
  match vs, hg with
  | [.sl b o len cap, .int k i], hg =>
    obtain ⟨x, y, rfl, h1, h2⟩ := h.two_inv
    obtain ⟨hc, rfl⟩ := Gives.chk hg
    obtain ⟨x, e, rfl⟩ := h1.sl_inv
    have := h2.int_inv; subst this
    obtain ⟨m, rfl, hm, hmm⟩ := inR_spec hc
    rw [hmm]
    exact ⟨_, by (show (inBounds (.ofNat m) len).bind _ = _); rw [inBounds_of hm]; rfl, .mkPtr e⟩
  | [.ts T mk len es acc, .int q i], hg =>
    obtain ⟨x, y, rfl, h1, h2⟩ := h.two_inv
    obtain ⟨hcc, hg⟩ := Gives.cond hg
    obtain ⟨hc, rfl⟩ := Gives.chk hg
    have := h2.int_inv; subst this
    obtain ⟨m, rfl, hm, hmm⟩ := inR_spec hc
    rw [hmm]
    simp only [Bool.and_eq_true] at hcc
    have := Nat.eq_of_beq_eq_true hcc.1
    subst this
    have hn : (layF P T).ks.length = n := Nat.eq_of_beq_eq_true (hgood ▸ hcc.2)
    obtain ⟨ht, es', h3, a, cap, rfl, h4, h5, h6⟩ := h1.ts_inv
    rcases h5 with ⟨_, h0⟩ | ⟨b, off, r, rfl, h7, h8, h9⟩
    · omega
    · refine ⟨_, by (show (inBounds (.ofNat m) len).bind _ = _); rw [inBounds_of hm]; rfl, ?_⟩
      have hl := ht.len
      simp only [VK]
      refine ⟨⟨rfl, fun i hi => ht.acc i (by omega), ht.typed⟩, es', h3, by omega, ⟨fun a c ha => by simpa using ha⟩, b, off, r, ?_, h7, h9⟩
      simp only [szOf, hn, Value.pointer.injEq, Option.some.injEq, Addr.mk.injEq, and_true, true_and]
      omega
theorem simIndexAgg {len n : Nat} {e : TypeId} : SimP P (kIndexAgg P len n e) (fIndexAgg P len n e) := by
  intro E vs us v h hg
  match vs, hg with
  | [.agg cs, .int k i], hg =>
    obtain ⟨x, y, rfl, h1, h2⟩ := h.two_inv
    obtain ⟨l, rfl, h3⟩ := h1.agg_inv
    have := h2.int_inv; subst this
    simp only [kIndexAgg] at hg
    split at hg
    · rename_i u hu
      obtain ⟨hc, rfl⟩ := Gives.chk hg
      obtain ⟨m, rfl, hm, hmm⟩ := inR_spec hc
      rw [hmm] at hu
      obtain ⟨w, h4, h5⟩ := simPart h3 hu
      exact ⟨w, by (show (inBounds (.ofNat m) len).bind _ = _); rw [inBounds_of hm]; exact h4, h5⟩
    · exact hg.elim
theorem simIndexStr : SimP P kIndexStr fIndexStr := by
  intro E vs us v h hg
  match vs, hg with
  | [.str s, .int k i], hg =>
    obtain ⟨x, y, rfl, h1, h2⟩ := h.two_inv
    have := h1.str_inv; subst this
    have := h2.int_inv; subst this
    obtain ⟨hc, rfl⟩ := Gives.chk hg
    obtain ⟨m, rfl, hm, hmm⟩ := inR_spec hc
    rw [hmm]
    have hl : m < s.data.toList.length := by simpa using hm
    refine ⟨.int .u8 (s.data.toList.getD m 0).toNat, ?_, .mkInt⟩
    show (inBounds (.ofNat m) s.size).bind _ = _
    rw [inBounds_of hm]
    show (s.data.toList[m]?).map _ = _
    simp [List.getD, List.getElem?_eq_getElem hl]
theorem nthK_eq {α : Type} : ∀ (n : Nat) (l : List α), nthK n l = l[n]?
  | n, [] => by cases n <;> rfl
  | 0, x :: _ => rfl
  | n + 1, _ :: xs => by simp [nthK, nthK_eq n xs]
theorem simExtract {i : Nat} : SimP P (kExtract i) (fExtract i) := by
  intro E vs us v h hg
  match vs, hg with
  | [.tup ws], hg =>
    obtain ⟨y, rfl, h1⟩ := h.one_inv
    obtain ⟨l, rfl, h2⟩ := h1.tup_inv
    have := hg.of
    rw [nthK_eq] at this
    obtain ⟨u, h3, h4⟩ := h2.get this
    exact ⟨u, by simpa [fExtract] using h3, h4⟩
theorem simLenSl : SimP P kLenSl fLenSl := by
  intro E vs us v h hg
  match vs, hg with
  | [.ts T m n es acc], hg =>
    obtain ⟨y, rfl, h1⟩ := h.one_inv
    obtain ⟨_, _, _, a, cap, rfl, _⟩ := h1.ts_inv
    have hg : KV.int .i64 n = v := hg
    subst hg
    exact ⟨_, rfl, .mkInt⟩
  | [.sl b o n c], hg =>
    obtain ⟨y, rfl, h1⟩ := h.one_inv
    obtain ⟨x, _, rfl⟩ := h1.sl_inv
    have hg : KV.int .i64 n = v := hg
    subst hg
    exact ⟨_, rfl, .mkInt⟩
  | [.nilsl], hg =>
    obtain ⟨y, rfl, h1⟩ := h.one_inv
    have := h1.nilsl_inv; subst this
    have hg : KV.int .i64 0 = v := hg
    subst hg
    exact ⟨_, rfl, .mkInt⟩
theorem simLenStr : SimP P kLenStr fLenStr := by
  intro E vs us v h hg
  match vs, hg with
  | [.str s], hg =>
    obtain ⟨y, rfl, h1⟩ := h.one_inv
    have := h1.str_inv; subst this
    have hg : KV.int .i64 s.size = v := hg
    subst hg
    exact ⟨_, rfl, .mkInt⟩
theorem simStrId : SimP P kStrId fStrStr := by
  intro E vs us v h hg
  match vs, hg with
  | [.str s], hg =>
    obtain ⟨y, rfl, h1⟩ := h.one_inv
    have := h1.str_inv; subst this
    have hg : KV.str s = v := hg
    subst hg
    exact ⟨_, rfl, .mkStr⟩
theorem simMakeFunc {f : Fn} {k : Nat} : SimP P (kMakeFunc f k) (fMakeFunc f k) := by
  intro E vs us v h hg
  unfold kMakeFunc at hg
  split at hg
  · rename_i l hl
    have hg : KV.fn f l (dropK k vs) = v := hg
    subst hg
    have hl' : takeK k (dropK 0 vs) = some l := hl
    obtain ⟨r, h1, h2, _⟩ := h.takeK hl'
    have h1 : takeN k us = some r := h1
    refine ⟨_, by simp [fMakeFunc, h1]; rfl, .mkFn h2 ?_⟩
    rw [dropK_eq, dropN_eq]
    exact h.drop k
  · exact hg.elim
theorem simConvI {src dst : TypeId} {k k' : IntKind} (h2 : P.underlying dst = some (.int k)) (h3 : P.underlying src = some (.int k')) : SimP P (kConvI k) (fConvert P src dst) := by
  intro E vs us v h hg
  match vs, hg with
  | [.int j n], hg =>
    obtain ⟨y, rfl, h1⟩ := h.one_inv
    have := h1.int_inv; subst this
    have hg : KV.int k (k.wrap n) = v := hg
    subst hg
    refine ⟨.int k (k.wrap n), ?_, .mkInt⟩
    simp only [fConvert, h2]
    simp [convert, underlying, program, Bind.bind, Sem.bind, pureRun, h2, h3, Conv.intToInt, Pure.pure]
end Go.K
