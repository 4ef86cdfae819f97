/-
  slices.Insert told whole: from the runs of its body on its four ways (shown for a program) to what the abstract machine says of it.
-/
import Derived.Test.YtcfijkmjblcenaaGreatDoorAbsCode
namespace Go.Abs
noncomputable section
open Go

/-- the runs of slices.Insert at elements of sz cells -/
structure InsertRuns (P : Program) (f : FuncId) (t e : TypeId) (i0 : TypeInfo) (z : Value) (sz : Nat) : Prop where
  under : P.underlying t = some (.slice e)
  info : P.info? e = some i0
  zero : i0.zero = some z
  zc : z.cells.size = sz
  size : i0.size = sz
  pos : 2 ≤ sz
  fn : ∃ fn, P.funcs[f]? = some fn ∧ fn.body.isSome = true ∧ (fn.name == "runtime.NumGoroutine") = false
  nothing : ∀ (w : World) (bs vb : Option Addr) (n c i vc : Nat), i ≤ n → Calls P f #[.slice bs n c, .int .i64 i, .slice vb 0 vc] w fun e w' => e = .returned (.slice bs n c) ∧ w' = w
  fin : ∀ (w : World) (bs vb : Option Addr) (n c m vc : Nat), 0 < m → ∀ (v' : Value) (w' : World), (∀ ty, (Builtin.append_ #[t, t] ty #[.slice bs n c, .slice vb m vc]).run P w = .ok v' w') →
    Calls P f #[.slice bs n c, .int .i64 n, .slice vb m vc] w fun e w2 => e = .returned v' ∧ w2 = w'
  shift : ∀ (b off n c i vb voff m vc : Nat) (cs vs : List Value) (w : World), i < n → 0 < m → n + m ≤ c → n + m ≤ 17592186044416 → vb ≠ b → cs.length = n * sz → vs.length = m * sz →
    (∀ (j : Nat) (v : Value), cs[j]? = some v → w.cell? ⟨b, off + j, none⟩ = some v) → (∀ j, j < (n + m) * sz → (w.cell? ⟨b, off + j, none⟩).isSome = true) → (∀ j, j < (n + m) * sz → w.frozen? ⟨b, off + j, none⟩ = false) →
    (∀ (j : Nat) (v : Value), vs[j]? = some v → w.cell? ⟨vb, voff + j, none⟩ = some v) → (∀ v ∈ cs, v.oneCell' = true) → (∀ v ∈ vs, v.oneCell' = true) →
    ∀ (tA tB : TypeId) (kA kB : Nat), w.shape? vb = some (tA, kA) → w.shape? b = some (tB, kB) → kB ≠ 0 → w.frozen? ⟨vb, voff, none⟩ = false → w.frozen? ⟨vb, kA, none⟩ = false →
    Calls P f #[.slice (some ⟨b, off, none⟩) n c, .int .i64 i, .slice (some ⟨vb, voff, none⟩) m vc] w fun e w' =>
      e = .returned (.slice (some ⟨b, off, none⟩) (n + m) c) ∧ w' = (w.drew.setCells b (off + (i + m) * sz) (cs.drop (i * sz))).setCells b (off + i * sz) vs
  grow : ∀ (b off n c i vb voff m vc : Nat) (cs vs : List Value) (w : World), i < n → 0 < m → n ≤ c → c < n + m → n + m ≤ 17592186044416 → (n + m) * i0.bytes ≤ 140737488355328 → cs.length = n * sz → vs.length = m * sz →
    (∀ (j : Nat) (v : Value), cs[j]? = some v → w.cell? ⟨b, off + j, none⟩ = some v) → (∀ (j : Nat) (v : Value), vs[j]? = some v → w.cell? ⟨vb, voff + j, none⟩ = some v) → (∀ v ∈ cs, v.oneCell' = true) → (∀ v ∈ vs, v.oneCell' = true) →
    b < w.heap.size → vb < w.heap.size →
    Calls P f #[.slice (some ⟨b, off, none⟩) n c, .int .i64 i, .slice (some ⟨vb, voff, none⟩) m vc] w fun e' w' =>
      e' = .returned (.slice (some ⟨w.heap.size, 0, none⟩) (n + m) (grownCap w (n + m) c e)) ∧
      w' = (((w.alloc (.cells ((cs.take (i * sz)).toArray ++ Builtin.zeroCells z.cells (n + m - i) ++ Builtin.zeroCells z.cells (grownCap w (n + m) c e - (n + m))) e)).drew.setCells w.heap.size (i * sz) vs).drew).setCells w.heap.size ((i + m) * sz) (cs.drop (i * sz))

/-! ## Cells -/
theorem setCells_append (b : Nat) : ∀ (xs ys : List Value) (o : Nat) (w : World), w.setCells b o (xs ++ ys) = (w.setCells b o xs).setCells b (o + xs.length) ys
  | [], ys, o, w => by simp [World.setCells]
  | x :: xs, ys, o, w => by
    simp only [List.cons_append, World.setCells]
    rw [setCells_append b xs ys (o + 1)]
    simp only [List.length_cons]
    rw [show o + 1 + xs.length = o + (xs.length + 1) by omega]
theorem setCell_comm (w : World) (b i j : Nat) (u v : Value) (h : i ≠ j) : (w.setCell ⟨b, i, none⟩ u).setCell ⟨b, j, none⟩ v = (w.setCell ⟨b, j, none⟩ v).setCell ⟨b, i, none⟩ u := by
  simp only [World.setCell, Option.isSome_none, Bool.false_eq_true, if_false]
  congr 1
  apply Array.ext_getElem?
  intro k
  simp only [Array.getElem?_modify]
  by_cases hk : b = k
  · subst hk
    simp only [if_true]
    cases w.heap[b]? with
    | none => rfl
    | some o =>
      cases o <;> simp only [Option.map_some]
      congr 2
      apply Array.ext_getElem?
      intro m
      simp only [Array.getElem?_setIfInBounds, Array.size_setIfInBounds]
      by_cases h1 : j = m <;> by_cases h2 : i = m <;> simp_all
  · simp [hk]
theorem setCells_cell_comm (b i : Nat) (u : Value) : ∀ (ys : List Value) (o : Nat) (w : World), i < o ∨ o + ys.length ≤ i → (w.setCell ⟨b, i, none⟩ u).setCells b o ys = (w.setCells b o ys).setCell ⟨b, i, none⟩ u
  | [], o, w, _ => rfl
  | y :: ys, o, w, h => by
    simp only [World.setCells]
    rw [setCell_comm w b i o u y (by simp at h; omega), setCells_cell_comm b i u ys (o + 1) _ (by simp at h; omega)]
theorem setCells_comm (b : Nat) : ∀ (xs ys : List Value) (o1 o2 : Nat) (w : World), o1 + xs.length ≤ o2 → (w.setCells b o2 ys).setCells b o1 xs = (w.setCells b o1 xs).setCells b o2 ys
  | [], ys, o1, o2, w, _ => rfl
  | x :: xs, ys, o1, o2, w, h => by
    simp only [World.setCells]
    rw [← setCells_cell_comm b o1 x ys o2 w (by simp at h; omega)]
    exact setCells_comm b xs ys (o1 + 1) o2 _ (by simp at h; omega)
theorem setCells_drew (b : Nat) : ∀ (vs : List Value) (o : Nat) (w : World), (w.setCells b o vs).drew = w.drew.setCells b o vs
  | [], _, _ => rfl
  | v :: r, o, w => by rw [World.setCells, World.setCells, setCells_drew b r]; rfl
def setAll (c : Array Value) : Nat → List Value → Array Value
  | _, [] => c
  | o, v :: vs => setAll (c.setIfInBounds o v) (o + 1) vs
theorem setAll_size : ∀ (vs : List Value) (o : Nat) (c : Array Value), (setAll c o vs).size = c.size
  | [], _, _ => rfl
  | v :: vs, o, c => by rw [setAll, setAll_size vs]; simp
theorem setAll_get : ∀ (vs : List Value) (o : Nat) (c : Array Value) (j : Nat), o + vs.length ≤ c.size → (setAll c o vs)[j]? = if o ≤ j ∧ j < o + vs.length then vs[j - o]? else c[j]?
  | [], o, c, j, _ => by simp only [setAll, List.length_nil, Nat.add_zero]; rw [if_neg (by omega)]
  | v :: vs, o, c, j, h => by
    rw [setAll, setAll_get vs (o + 1) _ j (by simp at h ⊢; omega)]
    by_cases h1 : o + 1 ≤ j ∧ j < o + 1 + vs.length
    · rw [if_pos h1, if_pos (by simp; omega), show j - o = (j - (o + 1)) + 1 by omega]
      simp
    · rw [if_neg h1, Array.getElem?_setIfInBounds]
      by_cases h2 : o = j
      · subst h2
        have : o < c.size := by simp at h; omega
        simp [this]
      · rw [if_neg h2, if_neg (by simp; omega)]
theorem setCell_alloc (w : World) (c : Array Value) (T : TypeId) (o : Nat) (v : Value) : (w.alloc (.cells c T)).setCell ⟨w.heap.size, o, none⟩ v = w.alloc (.cells (c.setIfInBounds o v) T) := by
  simp only [World.setCell, Option.isSome_none, Bool.false_eq_true, if_false, World.alloc]
  congr 1
  apply Array.ext_getElem?
  intro k
  rw [Array.getElem?_modify]
  by_cases hk : w.heap.size = k
  · subst hk; simp
  · simp only [hk, if_false, Array.getElem?_push]
    rw [if_neg (fun h => hk h.symm)]
    simp [Ne.symm hk]
theorem setCells_alloc (w : World) (T : TypeId) : ∀ (vs : List Value) (o : Nat) (c : Array Value), (w.alloc (.cells c T)).setCells w.heap.size o vs = w.alloc (.cells (setAll c o vs) T)
  | [], _, _ => rfl
  | v :: vs, o, c => by rw [World.setCells, setCell_alloc, setCells_alloc w T vs, setAll]
theorem alloc_drew (w : World) (o : Obj) : (w.alloc o).drew = w.drew.alloc o := rfl

/-- what a row holds -/
theorem loadN_cells {ρ : Ren} {A : St} {base : Nat} {w : World} {a : Addr} {n : Nat} {cs : List Value} {l : Loc} (hs : Rel ρ A.get A.members base w) (hl : A.loadN a n = some cs) (hρ : ρ a.block = some l) :
    a.spot = none ∧ ∃ cs', VRL ρ cs cs' ∧ cs.length = n ∧ (∀ v ∈ cs, scalar v = true) ∧ ∀ (j : Nat) (v' : Value), cs'[j]? = some v' → w.cell? ⟨l.cb, l.coff + a.off + j, none⟩ = some v' := by
  simp only [St.loadN] at hl
  cases hp : plainAddr a with
  | false => simp [hp] at hl
  | true =>
    rw [hp, cond_true] at hl
    obtain ⟨cs0, h1, h2⟩ := Option.bind_eq_some_iff.1 hl
    simp only [rowCells] at h1
    split at h1
    · rename_i c e o kin hg
      simp at h1; subst h1
      rw [dropN_eq] at h2
      obtain ⟨rfl, hlen⟩ := takeN_eq h2
      obtain ⟨l', hl', ok⟩ := hs.row _ _ _ _ _ hg
      rw [hρ] at hl'; simp at hl'; subst hl'
      have hget : ∀ (j : Nat) (v : Value), ((c.drop a.off).take n)[j]? = some v → j < n ∧ c[a.off + j]? = some v := by
        intro j v e
        rw [List.getElem?_take] at e
        split at e
        · rename_i hj; rw [List.getElem?_drop] at e; exact ⟨hj, e⟩
        · simp at e
      obtain ⟨cs', hr, hc⟩ := choose_list (ρ := ρ) (fun j => w.cell? ⟨l.cb, l.coff + a.off + j, none⟩) ((c.drop a.off).take n) 0 (fun j v e => by
        obtain ⟨v', h3, h4, _⟩ := ok.cells _ _ (hget j v e).2
        exact ⟨v', by rw [Nat.zero_add, Nat.add_assoc]; exact h3, h4⟩)
      refine ⟨plain_eq hp, cs', hr, by rw [List.length_take, Nat.min_eq_left hlen], fun v hv => ?_, fun j v' e => by simpa using hc j v' e⟩
      obtain ⟨j, hj⟩ := List.getElem?_of_mem hv
      exact (ok.cells _ _ (hget j v hj).2).choose_spec.2.2
    · simp at h1
theorem VRL.oneCell {ρ : Ren} {cs cs' : List Value} (h : VRL ρ cs cs') (h1 : ∀ v ∈ cs, scalar v = true) : ∀ v ∈ cs', v.oneCell' = true := by
  intro v hv
  obtain ⟨i, hi⟩ := List.getElem?_of_mem hv
  have hlt : i < cs.length := by rw [← h.length]; exact (List.getElem?_eq_some_iff.1 hi).1
  obtain ⟨u, hu⟩ : ∃ u, cs[i]? = some u := ⟨cs[i], List.getElem?_eq_getElem hlt⟩
  obtain ⟨v2, h7, h8⟩ := h.get hu
  rw [hi] at h7; simp at h7; subst h7
  exact h8.scalar (h1 u (List.mem_of_getElem? hu))
theorem shape_of_cell {w : World} {b o : Nat} (h : (w.cell? ⟨b, o, none⟩).isSome = true) : ∃ T k, w.shape? b = some (T, k) ∧ o < k := by
  simp only [World.cell?, World.shape?] at h ⊢
  cases hb : w.heap[b]? with
  | none => rw [hb] at h; simp at h
  | some ob =>
    rw [hb] at h
    cases ob with
    | cells c T fr =>
      simp only at h ⊢
      refine ⟨T, c.size, rfl, ?_⟩
      rcases Nat.lt_or_ge o c.size with h1 | h1
      · exact h1
      · simp [Array.getElem?_eq_none h1] at h
    | _ => simp at h

theorem insert_sound {P : Program} {f : FuncId} {t e : TypeId} {i0 : TypeInfo} {z : Value} {sz : Nat} (H : InsertRuns P f t e i0 z sz) {args args' : List Value} {A B : St} {v : Value} {ρ : Ren} {base : Nat} {w : World}
    (h : fInsert sz i0.bytes A args = some (v, B)) (ha : VRL ρ args args') (hs : Sim ρ A base w) : Calls P f args'.toArray w fun ex w' => ∃ ρ' v', ex = .returned v' ∧ VR ρ' v v' ∧ Goes base ρ A w ρ' B w' := by
  have hsz := H.pos
  unfold fInsert at h
  split at h
  · rename_i bs n c iz vb k vc
    obtain ⟨s', r1, rfl, hsv, ha1⟩ := ha.cons_inv
    obtain ⟨i', r2, rfl, hiv, ha2⟩ := ha1.cons_inv
    obtain ⟨x', r3, rfl, hxv, ha3⟩ := ha2.cons_inv
    have := ha3.nil_inv
    subst this
    clear ha ha1 ha2 ha3
    have := hiv.int_inv
    subst this
    obtain ⟨i, hi, hh⟩ := Option.bind_eq_some_iff.1 h
    clear h
    obtain ⟨rfl, hlt⟩ := inBounds_eq hi
    have h := hh
    clear hh
    obtain ⟨bs', c', rfl⟩ := len_slice hsv
    obtain ⟨vb', vc', rfl⟩ := len_slice hxv
    cases hk0 : Nat.beq k 0 with
    | true =>
      rw [hk0, cond_true] at h
      have := Nat.eq_of_beq_eq_true hk0
      subst this
      simp at h
      obtain ⟨rfl, rfl⟩ := h
      refine (H.nothing w bs' vb' n c' i vc' (by omega)).mono ?_
      rintro ex w' ⟨rfl, rfl⟩
      exact ⟨ρ, _, rfl, hsv, .refl hs⟩
    | false =>
      rw [hk0, cond_false] at h
      have hk : 0 < k := Nat.pos_of_ne_zero (Nat.ne_of_beq_eq_false hk0)
      cases hin : Nat.beq i n with
      | true =>
        rw [hin, cond_true] at h
        have := Nat.eq_of_beq_eq_true hin
        subst this
        have hsrc : isSrc P t = true := by unfold isSrc; rw [H.under]
        rw [← H.size] at h
        obtain ⟨ρ', v', w', h1, h2, h3⟩ := fAppend_sound (ty := 0) H.under H.info H.zero hsrc (by rw [H.size]; omega) (by rw [H.zc, H.size]) hs hsv hxv h
        refine (H.fin w bs' vb' i c' k vc' hk v' w' (fun ty => h1)).mono ?_
        rintro ex w2 ⟨rfl, rfl⟩
        exact ⟨ρ', v', rfl, h2, h3⟩
      | false =>
        rw [hin, cond_false] at h
        have hilt : i < n := by have := Nat.ne_of_beq_eq_false hin; omega
        split at h
        · rename_i a b
          cases hc : (plainAddr a && rowEsz A a.block sz && awayFrom A a b && Nat.ble ((n + k + 512) * i0.bytes) 17592186044416 && Nat.ble (n + k) 17592186044416) with
          | false => rw [hc] at h; simp at h
          | true =>
            rw [hc, cond_true] at h
            simp only [Bool.and_eq_true] at hc
            obtain ⟨⟨⟨⟨hpa, hre⟩, haw⟩, hb1⟩, hb2⟩ := hc
            have hb1 := Nat.le_of_ble_eq_true hb1
            have hb2 := Nat.le_of_ble_eq_true hb2
            have hbytes : (n + k) * i0.bytes ≤ 140737488355328 := by rw [Nat.add_mul] at hb1; omega
            obtain ⟨new, hnew, h⟩ := Option.bind_eq_some_iff.1 h
            obtain ⟨old, hold, h⟩ := Option.bind_eq_some_iff.1 h
            obtain ⟨tail, htail, h⟩ := Option.bind_eq_some_iff.1 h
            obtain ⟨_, hnc, lc, a', c2, hl, hcc, ha', hfit, hse⟩ := hsv.slice_inv
            simp only [Value.slice.injEq, true_and] at hse
            obtain ⟨rfl, rfl⟩ := hse
            obtain ⟨_, hkc, lv, b', vc2, hlv, hvc, hb', _, hxe⟩ := hxv.slice_inv
            simp only [Value.slice.injEq, true_and] at hxe
            obtain ⟨rfl, rfl⟩ := hxe
            have ha := ha' (by omega)
            subst ha
            have hb := hb' (by omega)
            subst hb
            have hpa := plain_eq hpa
            obtain ⟨_, new', q1, q2, q3, q4⟩ := loadN_cells hs.rel hnew hlv
            obtain ⟨_, old', p1, p2, p3, p4⟩ := loadN_cells hs.rel hold hl
            obtain ⟨_, tail', t1, t2, t3, t4⟩ := loadN_cells hs.rel htail hl
            simp only at t4
            have hol : old'.length = i * sz := by rw [p1.length, p2]
            have hnl : new'.length = k * sz := by rw [q1.length, q2]
            have htl : tail'.length = (n - i) * sz := by rw [t1.length, t2]
            have hni : i * sz + (n - i) * sz = n * sz := by rw [← Nat.add_mul]; congr 1; omega
            have hcl : (old' ++ tail').length = n * sz := by rw [List.length_append, hol, htl, hni]
            have hcs : ∀ (j : Nat) (u : Value), (old' ++ tail')[j]? = some u → w.cell? ⟨lc.cb, lc.coff + a.off + j, none⟩ = some u := by
              intro j u hj
              rw [List.getElem?_append] at hj
              split at hj
              · exact p4 j u hj
              · rename_i hge
                have := t4 _ u hj
                rw [← this]
                congr 2
                rw [hol] at hge ⊢
                omega
            have hdrop : (old' ++ tail').drop (i * sz) = tail' := by rw [← hol]; simp
            have htake : (old' ++ tail').take (i * sz) = old' := by rw [← hol]; simp
            have h1c : ∀ u ∈ old' ++ tail', u.oneCell' = true := fun u hu => (List.mem_append.1 hu).elim (p1.oneCell p3 u) (t1.oneCell t3 u)
            have h1v := q1.oneCell q3
            obtain ⟨cs, own, kin, hrow⟩ := rowEsz_eq hre
            obtain ⟨l2, hl2, ok⟩ := hs.rel.row _ _ _ _ _ hrow
            rw [hl] at hl2; simp at hl2; subst hl2
            have hez : lc.esz = sz := ok.esz
            rw [hez] at hfit
            -- v lies in a block of its own, that bears no mark
            obtain ⟨cs2, e2, hrow2, he2, hne2⟩ : ∃ cs2 e2, A.get b.block = some (.row cs2 e2 true none) ∧ e2 ≠ 1 ∧ a.block ≠ b.block := by
              unfold awayFrom at haw
              simp only [Bool.and_eq_true, Bool.not_eq_true'] at haw
              obtain ⟨⟨h1, _⟩, h2⟩ := haw
              split at h2
              · rename_i cs2 e2 hg
                exact ⟨cs2, e2, hg, fun e => by subst e; simp at h2, Nat.ne_of_beq_eq_false h1⟩
              · simp at h2
            obtain ⟨l3, hl3, okv⟩ := hs.rel.row _ _ _ _ _ hrow2
            rw [hlv] at hl3; simp at hl3; subst hl3
            have hnofr : ∀ j, w.frozen? ⟨lv.cb, j, none⟩ = false := okv.mark rfl (by rw [okv.esz]; exact he2)
            have hncell : (w.cell? ⟨lv.cb, lv.coff + b.off, none⟩).isSome = true := by
              have hlt : 0 < new'.length := by rw [hnl]; exact Nat.mul_pos hk (by omega)
              have := q4 0 _ (List.getElem?_eq_getElem hlt)
              rw [Nat.add_zero] at this
              rw [this]; rfl
            obtain ⟨tA, kA, hsa, _⟩ := shape_of_cell hncell
            have hocell : (w.cell? ⟨lc.cb, lc.coff + a.off, none⟩).isSome = true := by
              have hlt : 0 < (old' ++ tail').length := by rw [hcl]; exact Nat.mul_pos (by omega) (by omega)
              have := hcs 0 _ (List.getElem?_eq_getElem hlt)
              rw [Nat.add_zero] at this
              rw [this]; rfl
            obtain ⟨tB, kB, hsb, hkB⟩ := shape_of_cell hocell
            -- in its place
            have inPlace : own = true → n + k ≤ c' → Calls P f #[.slice (some ⟨lc.cb, lc.coff + a.off, none⟩) n c', .int .i64 i, .slice (some ⟨lv.cb, lv.coff + b.off, none⟩) k vc'] w fun ex w' =>
                ex = .returned (.slice (some ⟨lc.cb, lc.coff + a.off, none⟩) (n + k) c') ∧ w' = w.drew.setCells lc.cb (lc.coff + a.off + i * sz) (new' ++ tail') := by
              intro hown hroom
              have hin2 : ∀ j, j < (n + k) * sz → lc.coff + a.off + j < lc.csize := fun j hj => by
                have : (n + k) * sz ≤ c' * sz := Nat.mul_le_mul_right _ hroom
                omega
              have hvne : lv.cb ≠ lc.cb := by
                intro e
                subst hown
                obtain ⟨fam, f1, f2, e1, _⟩ := hs.rel.apart b.block a.block _ _ lv lc hne2.symm hrow2 hrow rfl rfl hlv hl e
                simp [AObj.kin?] at e1
              refine (H.shift lc.cb (lc.coff + a.off) n c' i lv.cb (lv.coff + b.off) k vc' (old' ++ tail') new' w hilt hk hroom hb2 hvne hcl hnl hcs (fun j hj => (ok.there hown _ (hin2 j hj)).1) (fun j hj => (ok.there hown _ (hin2 j hj)).2)
                q4 h1c h1v tA tB kA kB hsa hsb (by omega) (hnofr _) (hnofr _)).mono ?_
              rintro ex w' ⟨rfl, rfl⟩
              refine ⟨rfl, ?_⟩
              rw [hdrop, setCells_append]
              have e1 : lc.coff + a.off + i * sz + new'.length = lc.coff + a.off + (i + k) * sz := by rw [hnl, Nat.add_mul]; omega
              rw [e1]
              exact setCells_comm _ _ _ _ _ _ (by rw [hnl, Nat.add_mul]; omega)
            -- a new row
            have anew : ∀ (fam fo : Nat) (K : St), K = A ∨ (∃ x lo hi L, K = A.kill x lo hi L) → c' < n + k →
                Calls P f #[.slice (some ⟨lc.cb, lc.coff + a.off, none⟩) n c', .int .i64 i, .slice (some ⟨lv.cb, lv.coff + b.off, none⟩) k vc'] w fun ex w' =>
                  ∃ ρ' v', ex = .returned v' ∧ VR ρ' (.slice (some ⟨A.next, 0, none⟩) (n + k) (n + k)) v' ∧ Goes base ρ A w ρ' (K.grow fam fo (old ++ (new ++ tail)) sz) w' := by
              intro fam fo K hK hlt'
              have hge := grownCap_ge w (n + k) c' e
              refine (H.grow lc.cb (lc.coff + a.off) n c' i lv.cb (lv.coff + b.off) k vc' (old' ++ tail') new' w hilt hk (by omega) hlt' hb2 hbytes hcl hnl hcs q4 h1c h1v ok.lies okv.lies).mono ?_
              rintro ex w' ⟨rfl, rfl⟩
              rw [hdrop, htake]
              generalize hROW : (old'.toArray ++ Builtin.zeroCells z.cells (n + k - i) ++ Builtin.zeroCells z.cells (grownCap w (n + k) c' e - (n + k))) = ROW
              have hsize : ROW.size = grownCap w (n + k) c' e * sz := by
                rw [← hROW]
                rw [Array.size_append, Array.size_append, zeros_size, zeros_size, H.zc, List.size_toArray, hol, ← Nat.add_mul, ← Nat.add_mul]
                congr 1; omega
              have hnk : (n + k) * sz ≤ ROW.size := by rw [hsize]; exact Nat.mul_le_mul_right _ hge
              have hnk2 : (n + k) * sz = i * sz + k * sz + (n - i) * sz := by rw [← Nat.add_mul, ← Nat.add_mul]; congr 1; omega
              have e1 : (w.alloc (.cells ROW e)).drew.setCells w.heap.size (i * sz) new' = (w.drew.alloc (.cells (setAll ROW (i * sz) new') e)) := by
                rw [alloc_drew]
                exact setCells_alloc w.drew e new' (i * sz) ROW
              have e2 : (((w.alloc (.cells ROW e)).drew.setCells w.heap.size (i * sz) new').drew).setCells w.heap.size ((i + k) * sz) tail' = w.drew.drew.alloc (.cells (setAll (setAll ROW (i * sz) new') ((i + k) * sz) tail') e) := by
                rw [e1, alloc_drew]
                exact setCells_alloc w.drew.drew e tail' ((i + k) * sz) _
              rw [e2]
              generalize hF : setAll (setAll ROW (i * sz) new') ((i + k) * sz) tail' = F
              have hFsize : F.size = grownCap w (n + k) c' e * sz := by rw [← hF, setAll_size, setAll_size, hsize]
              have hFget : ∀ (j : Nat) (u : Value), (old' ++ (new' ++ tail'))[j]? = some u → F[j]? = some u := by
                intro j u hj
                rw [← hF, setAll_get _ _ _ _ (by rw [setAll_size, htl, Nat.add_mul]; omega), setAll_get _ _ _ _ (by rw [hnl]; omega), htl, hnl]
                rw [List.getElem?_append] at hj
                split at hj
                · rename_i hj1
                  rw [hol] at hj1
                  rw [if_neg (by rw [Nat.add_mul]; omega), if_neg (by omega), ← hROW]
                  rw [Array.getElem?_append_left (by simp [hol]; omega), Array.getElem?_append_left (by simpa [hol] using hj1)]
                  simpa using hj
                · rename_i hj1
                  rw [hol] at hj1 hj
                  rw [List.getElem?_append] at hj
                  split at hj
                  · rename_i hj2
                    rw [hnl] at hj2
                    rw [if_neg (by rw [Nat.add_mul]; omega), if_pos (by omega)]
                    exact hj
                  · rename_i hj2
                    rw [hnl] at hj2 hj
                    have hj3 : j - i * sz - k * sz < tail'.length := (List.getElem?_eq_some_iff.1 hj).1
                    rw [htl] at hj3
                    rw [if_pos (by rw [Nat.add_mul]; omega)]
                    rw [← hj]
                    congr 1
                    rw [Nat.add_mul]; omega
              have hkg : Goes base ρ A w ρ K w.drew.drew := by
                have hd : ∀ (K : St) (w1 : World), Goes base ρ A w ρ K w1 → Goes base ρ A w ρ K w1.drew.drew := fun K w1 h => (h.trans (Goes.drew h.sim)).trans (Goes.drew (h.trans (Goes.drew h.sim)).sim)
                rcases hK with rfl | ⟨x, lo, hi, L, rfl⟩
                · exact hd _ _ (.refl hs)
                · exact hd _ _ (kill_goes hs x lo hi L)
              have hKn : K.next = A.next := by
                rcases hK with rfl | ⟨x, lo, hi, L, rfl⟩
                · rfl
                · simp
              have hgo := growNew_sound (w := w.drew.drew) (n := sz) (fam := fam) (f := fo) (c := F) e hkg.sim (p1.append (q1.append t1))
                (fun u hu => (List.mem_append.1 hu).elim (p3 u) fun h => (List.mem_append.1 h).elim (q3 u) (t3 u)) hFget (by
                rw [hFsize, List.length_append, List.length_append, p2, q2, t2, ← Nat.add_assoc, ← hnk2]
                exact Nat.mul_le_mul_right _ hge)
              refine ⟨_, _, rfl, ?_, hkg.trans hgo⟩
              simp only [VR]
              refine ⟨trivial, Nat.le_refl _, _, ⟨w.heap.size, 0, none⟩, grownCap w (n + k) c' e, by rw [hKn]; exact Ren.set_same _ _ _, hge, fun _ => rfl, ?_, rfl⟩
              show 0 + 0 + grownCap w (n + k) c' e * sz ≤ F.size
              rw [hFsize]
              omega
            show Calls P f #[.slice (some ⟨lc.cb, lc.coff + a.off, none⟩) n c', .int .i64 i, .slice (some ⟨lv.cb, lv.coff + b.off, none⟩) k vc'] w _
            have hall : VRL ρ (new ++ tail) (new' ++ tail') := q1.append t1
            have hall1 : ∀ u ∈ new ++ tail, scalar u = true := fun u hu => (List.mem_append.1 hu).elim (q3 u) (t3 u)
            cases hroom : Nat.ble (n + k) c with
            | true =>
              rw [hroom, cond_true] at h
              have hroom := Nat.le_of_ble_eq_true hroom
              obtain ⟨B', hst, h⟩ := Option.map_eq_some_iff.1 h
              simp at h
              obtain ⟨rfl, rfl⟩ := h
              simp only [St.storeN, hrow] at hst
              cases hp : (plainAddr ⟨a.block, a.off + i * sz, none⟩ && (new ++ tail).all scalar) with
              | false => rw [hp] at hst; simp at hst
              | true =>
                rw [hp, cond_true] at hst
                cases own with
                | false => simp at hst
                | true =>
                  obtain ⟨cs3, hw3, rfl⟩ := Option.map_eq_some_iff.1 hst
                  have hdr := Goes.drew (w := w) hs
                  have hgo := write_sound (w := w.drew) hdr.sim hrow hw3 hall hall1 hl
                  refine (inPlace rfl (by omega)).mono ?_
                  rintro ex w' ⟨rfl, rfl⟩
                  refine ⟨ρ, _, rfl, ?_, ?_⟩
                  · simp only [VR]
                    exact ⟨hpa, hroom, lc, _, c', hl, hcc, fun _ => rfl, by rw [hez]; exact hfit, rfl⟩
                  · rw [Nat.add_assoc lc.coff]
                    exact hdr.trans hgo
            | false =>
              rw [hroom, cond_false] at h
              have hroom : c < n + k := by
                have : ¬ (n + k ≤ c) := fun h => by rw [Nat.ble_eq_true_of_le h] at hroom; simp at hroom
                omega
              cases hex : exactEnd A sz c (some a) with
              | false => rw [hex] at h; simp at h
              | true =>
                rw [hex, cond_true] at h
                unfold growAt at h
                simp only [hrow] at h
                cases hown : own with
                | false => rw [hown] at h; simp at h
                | true =>
                  rw [hown] at h
                  have hbq : Nat.beq sz sz = true := by simp
                  rw [hbq] at h
                  simp only [Bool.and_self, cond_true] at h
                  cases kin with
                  | none =>
                    simp at h
                    obtain ⟨rfl, rfl⟩ := h
                    have hxe : a.off + c * sz = cs.length := by
                      unfold exactEnd at hex
                      simp only [hrow] at hex
                      exact Nat.eq_of_beq_eq_true hex
                    have hends := ok.ends hown rfl
                    have hc' : c' < n + k := by
                      have h9 : c' * sz ≤ c * sz := by omega
                      have := Nat.le_of_mul_le_mul_right h9 (by omega)
                      omega
                    exact anew A.next 0 A (.inl rfl) hc'
                  | some p =>
                    obtain ⟨fam, fo⟩ := p
                    simp at h
                    obtain ⟨rfl, rfl⟩ := h
                    by_cases hc' : c' < n + k
                    · have := anew fam (fo + a.off) (A.kill A.next (fo + (a.off + i * sz)) (fo + (a.off + i * sz) + (new.length + tail.length)) (A.members fam)) (.inr ⟨_, _, _, _, rfl⟩) hc'
                      exact this
                    · have hdr := Goes.drew (w := w) hs
                      subst hown
                      have hgo := graft_sound (w := w.drew) (aoff := a.off) (s := i * sz) hdr.sim hrow hl p1 p3 p2 (fun j v' hj => p4 j v' hj) hall hall1 (by
                        rw [List.length_append, q2, t2]
                        have h9 : (n + k) * sz ≤ c' * sz := Nat.mul_le_mul_right _ (by omega)
                        have h10 : (n + k) * sz = i * sz + k * sz + (n - i) * sz := by rw [← Nat.add_mul, ← Nat.add_mul]; congr 1; omega
                        omega)
                      refine (inPlace rfl (by omega)).mono ?_
                      rintro ex w' ⟨rfl, rfl⟩
                      refine ⟨ρ.set A.next ⟨lc.cb, lc.coff + a.off, lc.csize, sz⟩, _, rfl, ?_, ?_⟩
                      rotate_left
                      · have := hdr.trans hgo
                        rw [List.length_append] at this
                        exact this
                      · simp only [VR]
                        refine ⟨trivial, Nat.le_refl _, _, _, c', Ren.set_same _ _ _, by omega, fun _ => rfl, ?_, rfl⟩
                        show lc.coff + a.off + 0 + c' * sz ≤ lc.csize
                        omega
        · simp at h
  · simp at h

theorem insert_told {P : Program} {f : FuncId} {t e : TypeId} {i0 : TypeInfo} {z : Value} {sz : Nat} (H : InsertRuns P f t e i0 z sz) : ToldOk P (insertTold [(f, sz, i0.bytes)]) := by
  intro g fn hS args A v B hg
  simp only [insertTold] at hS
  cases hb : Nat.beq g f with
  | false => rw [hb] at hS; simp at hS
  | true =>
    rw [hb] at hS
    have := Nat.eq_of_beq_eq_true hb
    subst this
    simp at hS
    subst hS
    exact ⟨H.fn, fun ρ args' base w hv hs => insert_sound H hg hv hs⟩
end
end Go.Abs
