/-
  The machine K's slices: literal ones, parts, texts and append.
-/
import Derived.Test.YtjmpheohljeapaaKStore
namespace Go.K
open Go Go.Abs
variable {P : Program} {E : Env}

/-! ## Typed values -/
theorem VK.weak {T : TypeId} {m : Mk} {n : Nat} {es : List KV} {acc : Nat → KV} {u : Value} (h : VK P E (.ts T m n es acc) u) : VK P E (.ts T .any n es acc) u := by
  obtain ⟨ht, es', h1, a, cap, rfl, h2, h3, _⟩ := h.ts_inv
  simp only [VK]
  exact ⟨ht, es', h1, a, cap, rfl, h2, h3, trivial⟩
theorem VK.nilTs {T : TypeId} {acc : Nat → KV} : VK P E (.ts T .any 0 [] acc) (.slice none 0 0) := by
  simp only [VK]
  exact ⟨⟨rfl, fun i h => by omega, rfl⟩, [], .nil, none, 0, rfl, Nat.le_refl _, .inl ⟨rfl, rfl⟩, trivial⟩
theorem VK.orUnk {b : Bool} {v : KV} {u : Value} (h : VK P E v u) : VK P E (cond b v .unk) u := by
  cases b with
  | false => exact .mkUnk
  | true => exact h
theorem VK.normC {c : CK} {v : KV} {u : Value} (h : VK P E v u) : VK P E (normC c v) u := by
  unfold K.normC
  split
  · have := h.nilsl_inv; subst this; exact .nilTs
  · rename_i t t' m n es acc
    cases hb : Nat.beq t t' with
    | false => exact .mkUnk
    | true =>
      have := Nat.eq_of_beq_eq_true hb
      subst this
      exact h.weak
  · exact VK.orUnk h
theorem VKL.normCs : ∀ {ks : List CK} {cs : List KV} {l : List Value}, VKL P E cs l → cs.length = ks.length → VKL P E (normCs ks cs) l
  | [], [], l, h, _ => h
  | [], _ :: _, _, _, e => by simp at e
  | _ :: _, [], _, _, e => by simp at e
  | c :: ks, v :: cs, l, h, e => by
    obtain ⟨y, ys, rfl, h1, h2⟩ := h.cons_inv
    exact .cons h1.normC (VKL.normCs h2 (by simpa using e))
theorem VK.normV {l : Lay} {v : KV} {u : Value} (h : VK P E v u) : VK P E (normV l v) u := by
  unfold K.normV
  split
  · rename_i cs
    obtain ⟨m, rfl, h1⟩ := h.agg_inv
    cases hb : (l.agg && Nat.beq cs.length l.ks.length) with
    | false => exact .mkUnk
    | true =>
      simp only [Bool.and_eq_true] at hb
      exact .mkAgg (h1.normCs (Nat.eq_of_beq_eq_true hb.2))
  · cases l.agg with
    | true => exact .mkUnk
    | false =>
      rw [cond_false]
      split
      · exact h.normC
      · exact .mkUnk
theorem canonC_succ (d : Nat) (v : KV) : canonC P (d + 1) v = (match v with
  | .ts t _ n _ acc => .ts t .any n ((List.range n).map fun i => elemC P (canonC P d) t (acc i)) (fun i => elemC P (canonC P d) t (acc i))
  | v => v) := rfl
theorem kindOk_canon (d : Nat) {c : CK} {v : KV} (h : kindOk c v = true) : kindOk c (canonC P d v) = true := by
  cases d with
  | zero => exact h
  | succ d =>
    rw [canonC_succ]
    split
    · rename_i t m n es acc
      cases c <;> simp [kindOk] at h
      cases m <;> simp at h
      simp [kindOk, h]
    · exact h
theorem kindsOk_canon (d : Nat) : ∀ {ks : List CK} {cs : List KV}, kindsOk ks cs = true → kindsOk ks (cs.map (canonC P d)) = true
  | [], [], _ => rfl
  | [], _ :: _, h => by simp [kindsOk] at h
  | _ :: _, [], h => by simp [kindsOk] at h
  | c :: ks, v :: cs, h => by
    simp only [kindsOk, Bool.and_eq_true] at h
    simp only [List.map_cons, kindsOk, Bool.and_eq_true]
    exact ⟨kindOk_canon d h.1, kindsOk_canon d h.2⟩
theorem kindsOk_len : ∀ {ks : List CK} {vs : List KV}, kindsOk ks vs = true → vs.length = ks.length
  | [], [], _ => rfl
  | [], _ :: _, h => by simp [kindsOk] at h
  | _ :: _, [], h => by simp [kindsOk] at h
  | k :: ks, v :: vs, h => by
    simp only [kindsOk, Bool.and_eq_true] at h
    simp [kindsOk_len h.2]
theorem elemsOk_of {l : Lay} : ∀ {es : List KV}, (∀ (i : Nat) e, es[i]? = some e → elemOk l e = true) → elemsOk l es = true
  | [], _ => rfl
  | e :: es, h => by
    simp only [elemsOk, Bool.and_eq_true]
    exact ⟨h 0 e rfl, elemsOk_of fun i x hx => h (i + 1) x (by simpa using hx)⟩
theorem leaves_of {l : Lay} {v : KV} (h : elemOk l v = true) : leaves v l.ks 0 = v.cells ∧ kindsOk l.ks v.cells = true ∧ (v = mkV l.agg v.cells) := by
  have hk : kindsOk l.ks v.cells = true ∧ (v = mkV l.agg v.cells) := by
    by_cases ha : ∃ cs, v = .agg cs
    · obtain ⟨cs, rfl⟩ := ha
      simp only [elemOk, Bool.and_eq_true] at h
      refine ⟨h.2, ?_⟩
      rw [h.1]; rfl
    · have h1 : (!l.agg && kindsOk l.ks [v]) = true := by
        cases v <;> first | exact h | exact absurd ⟨_, rfl⟩ ha | simp [elemOk] at h
      have hc : v.cells = [v] := by cases v <;> first | rfl | exact absurd ⟨_, rfl⟩ ha
      simp only [Bool.and_eq_true, Bool.not_eq_true'] at h1
      rw [hc, h1.1]
      exact ⟨h1.2, rfl⟩
  refine ⟨?_, hk.1, hk.2⟩
  rw [leaves_eq (e := v) (ks := l.ks) hk.1 (fun m c e => by rw [Nat.zero_add]; exact e)]
  show (v.cells.drop 0).take l.ks.length = v.cells
  rw [List.drop_zero, ← kindsOk_len hk.1, List.take_length]
theorem elemOk_mk {l : Lay} {cs : List KV} {v : KV} (h : elemOk l v = true) (hk : kindsOk l.ks cs = true) (hlen : cs.length = v.cells.length) : elemOk l (mkV l.agg cs) = true := by
  by_cases ha : ∃ ds, v = .agg ds
  · obtain ⟨ds, rfl⟩ := ha
    simp only [elemOk, Bool.and_eq_true] at h
    rw [h.1]
    show (l.agg && kindsOk l.ks cs) = true
    rw [h.1, hk]; rfl
  · have h1 : (!l.agg && kindsOk l.ks [v]) = true := by
      cases v <;> first | exact h | exact absurd ⟨_, rfl⟩ ha | simp [elemOk] at h
    have hc : v.cells = [v] := by cases v <;> first | rfl | exact absurd ⟨_, rfl⟩ ha
    simp only [Bool.and_eq_true, Bool.not_eq_true'] at h1
    rw [hc] at hlen
    match cs, hlen with
    | [c], _ =>
      rw [h1.1]
      show elemOk l c = true
      have hone : one c = true := by
        cases hks : l.ks with
        | nil => rw [hks] at hk; simp [kindsOk] at hk
        | cons a as => rw [hks] at hk; simp only [kindsOk, Bool.and_eq_true] at hk; cases a <;> cases c <;> first | rfl | simp [kindOk] at hk
      cases c <;> first | (simp [one] at hone; done) | (simp only [elemOk, h1.1, Bool.not_false, Bool.true_and]; exact hk)
mutual
theorem VK.canonC : ∀ (d : Nat) {v : KV} {u : Value}, VK P E v u → VK P E (K.canonC P d v) u
  | 0, _, _, h => h
  | d + 1, v, u, h => by
    rw [canonC_succ]
    split
    · rename_i t m n es acc
      obtain ⟨ht, es', h1, a, cap, rfl, h2, h3, _⟩ := h.ts_inv
      simp only [VK]
      have hel : ∀ i, i < n → ∃ e e', es[i]? = some e ∧ es'[i]? = some e' ∧ acc i = e ∧ elemOk (layF P t) e = true ∧ VK P E e e' := by
        intro i hi
        have hl : i < es.length := by rw [← ht.len]; exact hi
        have e1 := List.getElem?_eq_getElem hl
        obtain ⟨e', e2, e3⟩ := h1.get e1
        exact ⟨_, e', e1, e2, by rw [ht.acc i hi, List.getD_eq_getElem?_getD, e1]; rfl, elemsOk_get ht.typed e1, e3⟩
      have hlen : es'.length = n := by rw [h1.length, ht.len]
      refine ⟨⟨by simp, fun i hi => ?_, ?_⟩, es', ?_, a, cap, rfl, h2, h3, trivial⟩
      · rw [List.getD_eq_getElem?_getD, List.getElem?_map, List.getElem?_range hi]; rfl
      · refine elemsOk_of fun i e he => ?_
        rw [List.getElem?_map] at he
        by_cases hi : i < n
        · rw [List.getElem?_range hi] at he
          simp only [Option.map_some, Option.some.injEq] at he
          obtain ⟨x, x', _, _, q3, q4, _⟩ := hel i hi
          rw [← he, q3, elemC]
          obtain ⟨r1, r2, _⟩ := leaves_of q4
          rw [r1]
          exact elemOk_mk q4 (kindsOk_canon d r2) (by simp)
        · rw [List.getElem?_eq_none (by simp; omega)] at he; simp at he
      · refine VKL.of_get (by simp [hlen]) fun i e e' he he' => ?_
        rw [List.getElem?_map] at he
        by_cases hi : i < n
        · rw [List.getElem?_range hi] at he
          simp only [Option.map_some, Option.some.injEq] at he
          obtain ⟨x, x', _, q2, q3, q4, q5⟩ := hel i hi
          rw [he'] at q2
          simp only [Option.some.injEq] at q2
          subst q2
          rw [← he, q3]
          exact VK.elemC d q4 q5
        · rw [List.getElem?_eq_none (by simp; omega)] at he; simp at he
    · exact h
theorem VK.elemC (d : Nat) {t : TypeId} {v : KV} {u : Value} (hk : elemOk (layF P t) v = true) (h : VK P E v u) : VK P E (K.elemC P (K.canonC P d) t v) u := by
  obtain ⟨r1, r2, r3⟩ := leaves_of hk
  rw [K.elemC, r1]
  by_cases ha : ∃ cs, v = .agg cs
  · obtain ⟨cs, rfl⟩ := ha
    obtain ⟨l, rfl, h1⟩ := h.agg_inv
    have hag : (layF P t).agg = true := by simp only [elemOk, Bool.and_eq_true] at hk; exact hk.1
    rw [hag]
    exact .mkAgg (VKL.canonCs d h1)
  · have hc : v.cells = [v] := by cases v <;> first | rfl | exact absurd ⟨_, rfl⟩ ha
    have hag : (layF P t).agg = false := by
      cases v <;> first | (simp only [elemOk, Bool.and_eq_true, Bool.not_eq_true'] at hk; exact hk.1) | exact absurd ⟨_, rfl⟩ ha | simp [elemOk] at hk
    rw [hag, hc]
    exact VK.canonC d h
theorem VKL.canonCs (d : Nat) : ∀ {cs : List KV} {l : List Value}, VKL P E cs l → VKL P E (cs.map (K.canonC P d)) l
  | [], l, h => h
  | c :: cs, l, h => by
    obtain ⟨y, ys, rfl, h1, h2⟩ := h.cons_inv
    exact .cons (VK.canonC d h1) (VKL.canonCs d h2)
end
theorem VK.canT {t : TypeId} {v : KV} {u : Value} (h : VK P E v u) : VK P E (K.canT P t v) u := by
  unfold K.canT
  cases hb : elemOk (layF P t) (K.normV (layF P t) v) with
  | false => exact .mkUnk
  | true => exact VK.elemC _ hb h.normV
theorem kindOk_one {c : CK} {v : KV} (h : kindOk c v = true) : one v = true := by
  cases c <;> cases v <;> simp [kindOk] at h <;> rfl
theorem kindsOk_one : ∀ {ks : List CK} {cs : List KV}, kindsOk ks cs = true → oneAll cs = true
  | [], [], _ => rfl
  | [], _ :: _, h => by simp [kindsOk] at h
  | _ :: _, [], h => by simp [kindsOk] at h
  | c :: ks, v :: cs, h => by
    simp only [kindsOk, Bool.and_eq_true] at h
    simp [oneAll, kindOk_one h.1, kindsOk_one h.2]

/-! ## Elements, one behind the other -/
def flatE : List Value → List Value
  | [] => []
  | v :: vs => v.cells.toList ++ flatE vs
theorem flatE_length {n : Nat} : ∀ {es : List Value}, (∀ v ∈ es, v.cells.size = n) → (flatE es).length = es.length * n
  | [], _ => by simp [flatE]
  | v :: es, h => by
    simp only [flatE, List.length_append, List.length_cons]
    rw [flatE_length fun u hu => h u (by simp [hu])]
    have := h v (by simp)
    simp only [Array.length_toList, this, Nat.succ_mul]
    omega
theorem flatE_lies {n : Nat} : ∀ {es : List Value}, (∀ v ∈ es, v.cells.size = n) → Lies n 0 (flatE es) es
  | [], _, i, x, h => by simp at h
  | v :: es, hs, i, x, h => by
    have hv := hs v (by simp)
    cases i with
    | zero =>
      simp at h
      subst h
      refine ⟨hv, fun k y hy => ?_⟩
      simp only [flatE, Nat.zero_mul, Nat.zero_add]
      have hlt : k < v.cells.size := (Array.getElem?_eq_some_iff.1 hy).1
      rw [List.getElem?_append_left (by simpa using hlt)]
      simpa using hy
    | succ i =>
      obtain ⟨h1, h2⟩ := flatE_lies (es := es) (fun u hu => hs u (by simp [hu])) i x (by simpa using h)
      refine ⟨h1, fun k y hy => ?_⟩
      have := h2 k y hy
      simp only [flatE]
      rw [List.getElem?_append_right (by simp [hv, Nat.succ_mul]; omega)]
      rw [← this]
      congr 1
      simp [hv, Nat.succ_mul]
      omega
theorem flatE_append : ∀ (a b : List Value), flatE (a ++ b) = flatE a ++ flatE b
  | [], b => rfl
  | v :: a, b => by simp [flatE, flatE_append a b]
theorem flatE_scalar : ∀ {es : List Value}, (∀ v ∈ es, ∀ c ∈ v.cells.toList, scalar c = true) → ∀ c ∈ flatE es, scalar c = true
  | [], _, c, h => by simp [flatE] at h
  | v :: es, hs, c, h => by
    simp only [flatE, List.mem_append] at h
    rcases h with h | h
    · exact hs v (by simp) c h
    · exact flatE_scalar (fun u hu => hs u (by simp [hu])) c h
def setV (es : List Value) (i : Nat) (v : Value) : List Value := es.set i v
theorem write_flat {n : Nat} : ∀ {es : List Value} {i : Nat} {v : Value}, (∀ u ∈ es, u.cells.size = n) → v.cells.size = n → i < es.length → writeN (i * n) (flatE es) v.cells.toList = some (flatE (es.set i v))
  | [], i, v, _, _, h => by simp at h
  | u :: es, 0, v, hs, hv, _ => by
    simp only [Nat.zero_mul, flatE, List.set_cons_zero]
    have key : ∀ (a b r : List Value), a.length = b.length → writeN 0 (a ++ r) b = some (b ++ r) := by
      intro a
      induction a with
      | nil => intro b r h; cases b <;> simp_all [writeN_z0]
      | cons x a ih =>
        intro b r h
        cases b with
        | nil => simp at h
        | cons y b => rw [List.cons_append, writeN_z2, ih b r (by simpa using h)]; rfl
    exact key _ _ _ (by simp [hs u (by simp), hv])
  | u :: es, i + 1, v, hs, hv, h => by
    have ih := write_flat (es := es) (i := i) (fun w hw => hs w (by simp [hw])) hv (by simpa using h)
    simp only [flatE, List.set_cons_succ]
    have key : ∀ (a r vs q : List Value) (m : Nat), writeN m r vs = some q → writeN (a.length + m) (a ++ r) vs = some (a ++ q) := by
      intro a
      induction a with
      | nil => intro r vs q m h; simpa using h
      | cons x a ih =>
        intro r vs q m h
        rw [List.length_cons, show a.length + 1 + m = (a.length + m) + 1 by omega, List.cons_append, writeN_s2, ih r vs q m h]
        rfl
    have := key u.cells.toList _ _ _ _ ih
    rw [show u.cells.toList.length + i * n = (i + 1) * n by simp [hs u (by simp), Nat.succ_mul]; omega] at this
    exact this
def fillV (es : List Value) : List (Nat × Value) → List Value
  | [] => es
  | (i, v) :: rest => fillV (es.set i v) rest
theorem fillV_length : ∀ (ps : List (Nat × Value)) (es : List Value), (fillV es ps).length = es.length
  | [], _ => rfl
  | p :: ps, es => by simp [fillV, fillV_length ps]
theorem fill_flat {n : Nat} (hn : 1 ≤ n) : ∀ {ps : List (Nat × Value)} {es : List Value}, (∀ u ∈ es, u.cells.size = n) → (∀ p ∈ ps, p.2.cells.size = n ∧ p.1 < es.length) →
    fillC (strideOf n) (flatE es) ps = some (flatE (fillV es ps)) ∧ ∀ u ∈ fillV es ps, u.cells.size = n
  | [], es, hs, _ => ⟨rfl, hs⟩
  | (i, v) :: ps, es, hs, hp => by
    obtain ⟨h1, h2⟩ := hp (i, v) (by simp)
    have h3 := write_flat hs h1 h2
    have hset : ∀ u ∈ es.set i v, u.cells.size = n := by
      intro u hu
      rcases List.mem_or_eq_of_mem_set hu with h | h
      · exact hs u h
      · subst h; exact h1
    obtain ⟨h4, h5⟩ := fill_flat hn (ps := ps) hset (fun p hq => by have := hp p (by simp [hq]); simpa using this)
    refine ⟨?_, h5⟩
    simp only [fillC, strideOf]
    have e1 : Nat.beq v.cells.size n = true := by rw [h1]; simp
    have e2 : Nat.ble 1 n = true := Nat.ble_eq_true_of_le hn
    rw [e1, e2]
    simp only [Bool.and_self, cond_true, h3, Option.bind_some]
    exact h4
theorem setAt_rel {v : KV} {u : Value} (h : VK P E v u) : ∀ {es : List KV} {es' : List Value} (i : Nat), VKL P E es es' → VKL P E (setAt es i v) (es'.set i u)
  | [], es', i, q => by rw [q.nil_inv]; cases i <;> exact .nil
  | x :: es, es', 0, q => by
    obtain ⟨y, ys, rfl, h1, h2⟩ := q.cons_inv
    exact .cons h h2
  | x :: es, es', i + 1, q => by
    obtain ⟨y, ys, rfl, h1, h2⟩ := q.cons_inv
    exact .cons h1 (setAt_rel h i h2)
theorem fillE_rel {l : Lay} : ∀ {is : List Nat} {vs : List KV} {us : List Value} {es : List KV} {es' : List Value}, VKL P E vs us → VKL P E es es' → VKL P E (fillE es ((zipK is vs).map fun p => (p.1, normV l p.2))) (fillV es' (zipIdx is us))
  | [], vs, us, es, es', _, h => by simpa [zipK, zipIdx, fillE, fillV] using h
  | i :: is, [], us, es, es', hv, h => by rw [hv.nil_inv]; simpa [zipK, zipIdx, fillE, fillV] using h
  | i :: is, v :: vs, us, es, es', hv, h => by
    obtain ⟨y, ys, rfl, h1, h2⟩ := hv.cons_inv
    simp only [zipK, zipIdx, List.map_cons, fillE, fillV]
    exact fillE_rel h2 (setAt_rel h1.normV i h)
theorem setAt_length : ∀ (es : List KV) (i : Nat) (v : KV), (setAt es i v).length = es.length
  | [], 0, _ => rfl
  | [], _ + 1, _ => rfl
  | _ :: _, 0, _ => rfl
  | e :: es, i + 1, v => by simp [setAt, setAt_length es i v]
theorem fillE_length : ∀ (ps : List (Nat × KV)) (es : List KV), (fillE es ps).length = es.length
  | [], _ => rfl
  | p :: ps, es => by simp [fillE, fillE_length ps, setAt_length]
theorem zip_lt {n : Nat} : ∀ {is : List Nat} (us : List Value), allBelow n is = true → ∀ p ∈ zipIdx is us, p.1 < n ∧ p.2 ∈ us
  | [], us, _, p, h => by simp [zipIdx] at h
  | i :: is, [], _, p, h => by simp [zipIdx] at h
  | i :: is, u :: us, h, p, hp => by
    simp only [allBelow, Bool.and_eq_true, Nat.blt_eq] at h
    simp only [zipIdx, List.mem_cons] at hp
    rcases hp with rfl | hp
    · exact ⟨h.1, by simp⟩
    · obtain ⟨h1, h2⟩ := zip_lt us h.2 p hp
      exact ⟨h1, by simp [h2]⟩
theorem repeat_flat (z : Value) : ∀ n, repeatL z.cells.toList n = flatE (List.replicate n z)
  | 0 => rfl
  | n + 1 => by simp [repeatL, List.replicate_succ, flatE, repeat_flat z n]
theorem repeatK_rel {z : KV} {u : Value} (h : VK P E z u) : ∀ n, VKL P E (repeatK [z] n) (List.replicate n u)
  | 0 => .nil
  | n + 1 => by simpa [repeatK, List.replicate_succ] using VKL.cons h (repeatK_rel h n)
theorem defAcc_ok {es : List KV} (i : Nat) : defAcc es i = es.getD i .unk := rfl
theorem elems_cells {l : Lay} : ∀ {es : List KV} {es' : List Value}, elemsOk l es = true → VKL P E es es' → ∀ u ∈ es', u.cells.size = l.ks.length ∧ ∀ c ∈ u.cells.toList, scalar c = true
  | [], es', _, h, u, hu => by rw [h.nil_inv] at hu; simp at hu
  | e :: es, es', hel, h, u, hu => by
    obtain ⟨y, ys, rfl, h1, h2⟩ := h.cons_inv
    simp only [elemsOk, Bool.and_eq_true] at hel
    rcases List.mem_cons.1 hu with rfl | hu
    · obtain ⟨k1, k2⟩ := elemOk_kinds hel.1
      have hc := h1.cells k2
      refine ⟨?_, hc.scalar (kindsOk_one k1)⟩
      have := hc.length
      have := kindsOk_length k1
      simp at *
      omega
    · exact elems_cells hel.2 h2 u hu
theorem map_norm {l : Lay} : ∀ {vs : List KV} {us : List Value}, VKL P E vs us → VKL P E (vs.map (normV l)) us
  | [], _, h => h
  | v :: vs, us, h => by
    obtain ⟨y, ys, rfl, h1, h2⟩ := h.cons_inv
    exact .cons h1.normV (map_norm h2)
theorem simBuildTree {e : TypeId} {n len : Nat} {z : Value} {is : List Nat} (hn : (layF P e).ks.length = n) (h1n : 1 ≤ n) (hz : z.cells.size = n) (hb : allBelow len is = true) :
    SimN P (kBuildTree (layF P e) e (normV (layF P e) (ofV z)) len is) (fBuildSlice n z len is) := by
  intro E A B vs us v h hv hg
  unfold kBuildTree at hg
  obtain ⟨hc, hg⟩ := Gives.cond hg
  simp only [Bool.and_eq_true] at hc
  obtain ⟨⟨hk, hvs⟩, hel⟩ := hc
  have hg : KV.ts e .exact len _ _ = v := hg
  subst hg
  have hz0 : VK P E (normV (layF P e) (ofV z)) z := (VK.ofV z).normV
  have hrel := fillE_rel (l := layF P e) (is := is) hv (repeatK_rel hz0 len)
  -- the sizes of what is filled in: each value is an element
  have hlen : (fillE (repeatK [normV (layF P e) (ofV z)] len) ((zipK is vs).map fun p => (p.1, normV (layF P e) p.2))).length = len := by
    rw [fillE_length, repeatK_length]; simp
  have hsizes : ∀ p ∈ zipIdx is us, p.2.cells.size = n ∧ p.1 < (List.replicate len z).length := by
    intro p hp
    obtain ⟨h5, h6⟩ := zip_lt us hb p hp
    have hm : VKL P E (vs.map (normV (layF P e))) us := map_norm hv
    exact ⟨by rw [← hn]; exact (elems_cells hvs hm p.2 h6).1, by simpa using h5⟩
  obtain ⟨h3, h4⟩ := fill_flat h1n (ps := zipIdx is us) (es := List.replicate len z) (fun u hu => by rw [(List.mem_replicate.1 hu).2]; exact hz) hsizes
  have hcells := elems_cells hel hrel
  have hall : (flatE (fillV (List.replicate len z) (zipIdx is us))).all scalar = true := List.all_eq_true.2 (flatE_scalar fun u hu => (hcells u hu).2)
  refine ⟨.row (flatE (fillV (List.replicate len z) (zipIdx is us))) n true none, fun b => .slice (some ⟨b, 0, none⟩) len len, E.setZ B.next ⟨_, n, true, none⟩, ?_, ?_, StEv.addZ h⟩
  · unfold fBuildSlice
    rw [repeat_flat, h3]
    simp only [Option.bind_some]
    rw [hall, all_known hv hk]
    rfl
  · have hmono := hrel.mono (StEv.addZ (cs' := flatE (fillV (List.replicate len z) (zipIdx is us))) (esz := n) h).le
    have hl2 : (fillV (List.replicate len z) (zipIdx is us)).length = len := by rw [fillV_length]; simp
    simp only [VK]
    refine ⟨⟨hlen.symm, fun i _ => rfl, hel⟩, _, hmono, some ⟨B.next, 0, none⟩, len, rfl, Nat.le_refl _, .inr ⟨B.next, 0, ⟨flatE (fillV (List.replicate len z) (zipIdx is us)), n, true, none⟩, rfl, by simp [Env.setZ], hn.symm, ?_⟩, rfl, fun b off hb => ?_⟩
    · have := flatE_lies h4
      unfold szOf
      rw [hn]
      exact this
    · simp at hb
      obtain ⟨rfl, rfl⟩ := hb
      refine ⟨⟨flatE (fillV (List.replicate len z) (zipIdx is us)), n, true, none⟩, by simp [Env.setZ], rfl, rfl, ?_⟩
      simp only [szOf, hn]
      rw [flatE_length h4, hl2]
      omega

/-! ## Parts of slices and texts -/
theorem bnds_of {m cap : Nat} {lo hi : Bool} {r : List KV} {r' : List Value} {x y : Int} (h : bnd2 m lo hi r = some (x, y)) (hr : VKL P E r r') (h0 : 0 ≤ x) (h1 : x ≤ y) (h2 : y ≤ (m : Int)) (hc : m ≤ cap) :
    bnds m cap lo hi false r' = some (x.toNat, y.toNat, cap) := by
  obtain ⟨x', rfl⟩ := Int.eq_ofNat_of_zero_le h0
  obtain ⟨y', rfl⟩ := Int.eq_ofNat_of_zero_le (Int.le_trans h0 h1)
  have hb : ∀ (k : IntKind) (i n : Nat), i ≤ n → bnd n (.int k (i : Int)) = some i := by
    intro k i n h
    show inBounds (.ofNat i) (Nat.succ n) = some i
    exact inBounds_of (by omega)
  match r, h with
  | [], h =>
    rw [hr.nil_inv]
    cases lo <;> cases hi <;> simp [bnd2] at h
    obtain ⟨h3, h4⟩ := h
    simp [bnds]
    omega
  | [.int k a], h =>
    obtain ⟨u, rfl, h3⟩ := hr.one_inv
    have := h3.int_inv; subst this
    cases lo <;> cases hi <;> simp [bnd2] at h
    · obtain ⟨h4, rfl⟩ := h
      simp only [bnds]
      rw [hb k y' cap (by omega)]
      simp
      omega
    · obtain ⟨rfl, h4⟩ := h
      simp only [bnds]
      rw [hb k x' m (by omega)]
      simp
      omega
  | [.int k a, .int k' c], h =>
    obtain ⟨u, v, rfl, h3, h4⟩ := hr.two_inv
    have := h3.int_inv; subst this
    have := h4.int_inv; subst this
    cases lo <;> cases hi <;> simp [bnd2] at h
    obtain ⟨rfl, rfl⟩ := h
    simp only [bnds]
    rw [hb k' y' cap (by omega)]
    simp only [Option.bind_some]
    rw [hb k x' y' (by omega)]
    simp
theorem elemsOk_drop {l : Lay} : ∀ {es : List KV} (n : Nat), elemsOk l es = true → elemsOk l (es.drop n) = true
  | es, 0, h => by simpa using h
  | [], n + 1, _ => rfl
  | e :: es, n + 1, h => by
    simp only [elemsOk, Bool.and_eq_true] at h
    simpa using elemsOk_drop n h.2
theorem elemsOk_take {l : Lay} : ∀ {es : List KV} (n : Nat), elemsOk l es = true → elemsOk l (es.take n) = true
  | es, 0, h => rfl
  | [], n + 1, _ => rfl
  | e :: es, n + 1, h => by
    simp only [elemsOk, Bool.and_eq_true] at h
    simp [elemsOk, h.1, elemsOk_take n h.2]
theorem elemsOk_append {l : Lay} : ∀ {es fs : List KV}, elemsOk l es = true → elemsOk l fs = true → elemsOk l (es ++ fs) = true
  | [], fs, _, h => h
  | e :: es, fs, h, k => by
    simp only [elemsOk, Bool.and_eq_true] at h
    simp [elemsOk, h.1, elemsOk_append h.2 k]
theorem Lies.part {sz off x k : Nat} {cs es : List Value} (h : Lies sz off cs es) : Lies sz (off + x * sz) cs ((es.drop x).take k) := by
  intro i v hv
  rw [List.getElem?_take] at hv
  split at hv
  · rw [List.getElem?_drop] at hv
    obtain ⟨h1, h2⟩ := h (x + i) v hv
    refine ⟨h1, fun j y hj => ?_⟩
    rw [← h2 j y hj]
    congr 1
    rw [Nat.add_mul]
    omega
  · simp at hv
theorem getD_get {es : List KV} {i : Nat} (h : i < es.length) : es[i]? = some (es.getD i .unk) := by simp [List.getD, h]
theorem simSliceSl {n : Nat} {lo hi : Bool} (_ : 1 ≤ n) : SimR P (kSliceSl P n lo hi) (fSliceSl n lo hi false) := by
  intro E A B vs us v h hv hg
  unfold kSliceSl at hg
  split at hg
  · rename_i T mk m es acc r
    split at hg
    · rename_i x y hb
      obtain ⟨hsz, hg⟩ := hg.cond
      have hsz := Nat.eq_of_beq_eq_true hsz
      obtain ⟨hc, rfl⟩ := Gives.chk hg
      simp only [Bool.and_eq_true, decide_eq_true_eq] at hc
      obtain ⟨⟨h0, h1⟩, h2⟩ := hc
      obtain ⟨u, r', rfl, h3, h4⟩ := hv.cons_inv
      obtain ⟨ht, es', h5, a, cap, rfl, h6, h7, _⟩ := h3.ts_inv
      have hbn := bnds_of hb h4 h0 h1 h2 h6
      have hlen := ht.len
      have hle : ((es.drop x.toNat).take (y.toNat - x.toNat)).length = y.toNat - x.toNat := by simp; omega
      have hT : TreeOk P T (y.toNat - x.toNat) ((es.drop x.toNat).take (y.toNat - x.toNat)) (fun i => acc (x.toNat + i)) := by
        refine ⟨hle.symm, fun i hi => ?_, elemsOk_take _ (elemsOk_drop _ ht.typed)⟩
        rw [ht.acc _ (by omega)]
        simp only [List.getD]
        rw [List.getElem?_take, if_pos hi, List.getElem?_drop]
      rcases h7 with ⟨rfl, hm⟩ | ⟨b, off, rr, rfl, h8, h9, h10⟩
      · refine ⟨.slice none (y.toNat - x.toNat) (cap - x.toNat), by simp [fSliceSl, hbn], ?_⟩
        simp only [VK]
        exact ⟨hT, _, (h5.drop _).take _, none, _, rfl, by omega, .inl ⟨rfl, by omega⟩, trivial⟩
      · have hrow := h.z b rr h8
        have hesz : rr.esz = n := by rw [h9]; exact hsz
        refine ⟨.slice (some ⟨b, off + x.toNat * n, none⟩) (y.toNat - x.toNat) (cap - x.toNat), ?_, ?_⟩
        · simp [fSliceSl, hbn, plainAddr, rowEsz, hrow, hesz]
        · simp only [VK]
          refine ⟨hT, _, (h5.drop _).take _, _, _, rfl, by omega, .inr ⟨b, off + x.toNat * n, rr, rfl, h8, h9, ?_⟩, trivial⟩
          have : szOf P T = n := hsz
          rw [this] at h10 ⊢
          exact h10.part
    · exact hg.elim
  · rename_i b o len cap r
    split at hg
    · rename_i cs esz hrow
      split at hg
      · rename_i x y hb
        obtain ⟨hsz, hg⟩ := hg.cond
        have hsz := Nat.eq_of_beq_eq_true hsz
        obtain ⟨hc, rfl⟩ := Gives.chk hg
        simp only [Bool.and_eq_true, decide_eq_true_eq] at hc
        obtain ⟨⟨⟨h0, h1⟩, h2⟩, h6⟩ := hc
        obtain ⟨u, r', rfl, h3, h4⟩ := hv.cons_inv
        obtain ⟨z, hz, rfl⟩ := h3.sl_inv
        have hbn := bnds_of hb h4 h0 h1 h2 h6
        obtain ⟨z', cs', e1, e2, _⟩ := h.row b cs esz hrow
        rw [hz] at e1
        simp at e1
        subst e1
        refine ⟨.slice (some ⟨z, o + x.toNat * n, none⟩) (y.toNat - x.toNat) (cap - x.toNat), ?_, .mkSl hz⟩
        simp [fSliceSl, hbn, plainAddr, rowEsz, e2, hsz]
      · exact hg.elim
    · exact hg.elim
  · exact hg.elim
theorem simSliceStr {lo hi : Bool} : SimP P (kSliceStr lo hi) (fSliceStr lo hi) := by
  intro E vs us v hv hg
  unfold kSliceStr at hg
  split at hg
  · rename_i s r
    split at hg
    · rename_i x y hb
      obtain ⟨hc, rfl⟩ := Gives.chk hg
      simp only [Bool.and_eq_true, decide_eq_true_eq] at hc
      obtain ⟨⟨h0, h1⟩, h2⟩ := hc
      obtain ⟨u, r', rfl, h3, h4⟩ := hv.cons_inv
      have := h3.str_inv; subst this
      have hbn := bnds_of hb h4 h0 h1 h2 (Nat.le_refl _)
      exact ⟨_, by simp [fSliceStr, hbn], .mkStr⟩
    · exact hg.elim
  · exact hg.elim
theorem simBytesStr : SimR P (fun _ => kBytesStr) fBytesStr := by
  intro E A B vs us v h hv hg
  have hg : Gives (kBytesStr vs) v := hg
  unfold kBytesStr at hg
  split at hg
  · obtain ⟨u, rfl, h1⟩ := hv.one_inv
    have := h1.nilsl_inv; subst this
    have hg : KV.str ⟨⟨[]⟩⟩ = v := hg
    subst hg
    exact ⟨_, rfl, .mkStr⟩
  · rename_i T mk m es acc _
    obtain ⟨u, rfl, h1⟩ := hv.one_inv
    obtain ⟨hc, rfl⟩ := Gives.chk hg
    obtain ⟨ht, es', h5, a, cap, rfl, h6, h7, _⟩ := h1.ts_inv
    have hlen := ht.len
    rcases h7 with ⟨rfl, hm⟩ | ⟨b, off, rr, rfl, h8, h9, h10⟩
    · have : es = [] := List.length_eq_zero_iff.1 (by omega)
      subst this
      exact ⟨_, rfl, .mkStr⟩
    · have hrow := h.z b rr h8
      -- the cells are the bytes
      have hval : ∀ (i : Nat) (w : Value), es'[i]? = some w → ∃ e, es[i]? = some e ∧ w = .int .u8 (byteOf e).toNat ∧ w.cells.size = 1 := by
        intro i w hw
        have hi : i < es.length := by rw [← h5.length]; exact (List.getElem?_eq_some_iff.1 hw).1
        obtain ⟨w', e1, e2⟩ := h5.get (getD_get hi)
        rw [hw] at e1
        simp at e1
        subst e1
        have hin := List.all_eq_true.1 hc _ (List.mem_of_getElem? (getD_get hi))
        refine ⟨_, getD_get hi, ?_⟩
        revert e2 hin
        generalize es.getD i .unk = e
        intro e2 hin
        cases e <;> simp [inByte] at hin
        rename_i k q
        cases k <;> simp at hin
        have := e2.int_inv; subst this
        refine ⟨?_, rfl⟩
        simp only [byteOf, Value.int.injEq, true_and]
        obtain ⟨p, rfl⟩ := Int.eq_ofNat_of_zero_le hin.1
        have hp : p < 256 := by omega
        simp [UInt8.toNat_ofNat', Nat.mod_eq_of_lt hp]
      have hes' : es' = es.map fun e => .int .u8 (byteOf e).toNat := by
        apply List.ext_getElem?
        intro i
        cases hw : es'[i]? with
        | none =>
          have : es.length ≤ i := by rw [← h5.length]; exact List.getElem?_eq_none_iff.1 hw
          simp [this]
        | some w =>
          obtain ⟨e, e1, e2, _⟩ := hval i w hw
          simp [e1, e2]
      have hsz1 : ∀ i w, es'[i]? = some w → szOf P T = 1 := fun i w hw => by
        obtain ⟨_, _, _, h11⟩ := hval i w hw
        rw [← (h10 i w hw).1]; exact h11
      have hload : B.loadN ⟨b, off, none⟩ m = some es' := by
        simp only [St.loadN, plainAddr, Option.isNone_none, cond_true, rowCells, hrow, Option.bind_some]
        have hl' : es'.length = m := by rw [h5.length]; exact hlen.symm
        have hcell : ∀ i, i < m → rr.cs[off + i]? = es'[i]? := by
          intro i hi
          have hi' : i < es'.length := by omega
          have hw : es'[i]? = some es'[i] := List.getElem?_eq_getElem hi'
          have h1' := hsz1 i _ hw
          obtain ⟨h12, h13⟩ := h10 i _ hw
          obtain ⟨e, e1, e2, _⟩ := hval i _ hw
          have := h13 0 es'[i] (by rw [e2]; rfl)
          rw [h1'] at this
          rw [hw, ← this]
          congr 1
          omega
        have hle : m ≤ (rr.cs.drop off).length := by
          cases hm0 : m with
          | zero => omega
          | succ q =>
            have := hcell q (by omega)
            have hq : q < es'.length := by omega
            rw [List.getElem?_eq_getElem hq] at this
            have := (List.getElem?_eq_some_iff.1 this).1
            simp
            omega
        rw [dropN_eq, takeN_of hle]
        congr 1
        apply List.ext_getElem?
        intro i
        rw [List.getElem?_take]
        split
        · rename_i hi
          rw [List.getElem?_drop]
          exact hcell i hi
        · rename_i hi
          exact (List.getElem?_eq_none_iff.2 (by omega)).symm
      have hbytes : ∀ (l : List KV), bytesA (l.map fun e => .int .u8 (byteOf e).toNat) = some (l.map byteOf) := by
        intro l
        induction l with
        | nil => rfl
        | cons e l ih =>
          have hb := (byteOf e).toNat_lt
          show cond (Nat.blt (byteOf e).toNat 256) ((bytesA (l.map fun e => .int .u8 (byteOf e).toNat)).map (UInt8.ofNat (byteOf e).toNat :: ·)) none = _
          have : Nat.blt (byteOf e).toNat 256 = true := by rw [Nat.blt_eq]; omega
          rw [this, cond_true, ih]
          simp
      refine ⟨.string ⟨⟨es.map byteOf⟩⟩, ?_, .mkStr⟩
      simp only [fBytesStr, hload, Option.bind_some]
      rw [hes', hbytes]
      rfl
  · exact hg.elim

/-! ## Growing -/
theorem kill_none {b lo hi : Nat} : ∀ {L : List Nat} {B : St}, (∀ x ∈ L, stale (B.get x) lo hi = false) → B.kill b lo hi L = B
  | [], B, _ => rfl
  | x :: L, B, h => by
    simp only [St.kill]
    rw [h x (by simp), Bool.and_false, cond_false]
    exact kill_none fun y hy => h y (by simp [hy])
theorem StEv.newFam {A : KSt} {B : St} (sz : Nat) (h : KSim P E A B) : StEv P E A B E (A.new (.fam 0 sz)) B := by
  have hn : E.φ A.next = none := by
    cases hφ : E.φ A.next with
    | none => rfl
    | some g => have := h.domφ _ g hφ; omega
  refine ⟨⟨?_, ?_, h.z, h.apart, h.inj, h.famInj.new (.inr hn), fun b x e => ?_, fun b g e => ?_, ?_, h.old, h.oldz, h.oldφ, h.fresh, h.mem⟩, Env.le_refl _, by simp, fun _ _ _ => rfl, fun _ _ e => .inl e, fun _ _ e => .inl e, fun _ _ e => .inl e, fun _ _ _ => rfl⟩
  · intro b cs esz hb
    rw [KSt.get_new] at hb
    split at hb
    · simp at hb
    · exact h.row b cs esz hb
  · intro b top sz0 hb
    rw [KSt.get_new] at hb
    split at hb
    · rename_i e
      simp at hb
      refine .inl ⟨hb.1.symm, ?_⟩
      cases hφ : E.φ b with
      | none => rfl
      | some g => have := h.domφ b g hφ; omega
    · exact h.fam b top sz0 hb
  · have := h.dom b x e; rw [KSt.next_new]; omega
  · have := h.domφ b g e; rw [KSt.next_new]; omega
  · intro b o hb
    rw [KSt.get_new] at hb
    rw [KSt.next_new]
    split at hb
    · omega
    · have := h.live b o hb; omega
theorem StEv.grow {A : KSt} {B : St} {f g top top' sz : Nat} {c : List Value} (h : KSim P E A B) (hA : A.get f = some (.fam top sz)) (hf : (E.φ f = none ∧ g = B.next) ∨ E.φ f = some g) (hc : c.length = top' * sz) (ht : top ≤ top') (hpos : 0 < top') :
    StEv P E A B ((E.setZ B.next ⟨c, sz, true, some (g, 0)⟩).setF f g) (A.put f (.fam top' sz)) (B.grow g 0 c sz) := by
  have hget : ∀ x, (B.grow g 0 c sz).get x = if x = B.next then some (.row c sz true (some (g, 0))) else B.get x := fun x => by simp [St.grow]
  have hmem : ∀ q, (B.grow g 0 c sz).members q = if q = g then B.next :: B.members g else B.members q := fun q => by simp [St.grow, St.members_join]
  have hnext : (B.grow g 0 c sz).next = B.next + 1 := rfl
  have hlef := h.live f _ hA
  have hle : E.le ((E.setZ B.next ⟨c, sz, true, some (g, 0)⟩).setF f g) := by
    refine ⟨fun _ _ e => e, fun b r e => ?_, fun b q e => ?_⟩
    · have := h.oldz b r e
      simp only [Env.setF, Env.setZ]; rw [if_neg (by omega)]; exact e
    · simp only [Env.setF, Env.setZ]
      split
      · rename_i e2
        subst e2
        rcases hf with ⟨h1, _⟩ | h1
        · rw [h1] at e; simp at e
        · rw [h1] at e; exact e
      · exact e
  have hg : g ≤ B.next := by
    rcases hf with ⟨_, h1⟩ | h1
    · omega
    · have := h.oldφ f g h1; omega
  generalize hB' : B.grow g 0 c sz = B' at hget hmem hnext
  refine ⟨⟨?_, ?_, ?_, ?_, ?_, ?_, ?_, ?_, ?_, ?_, ?_, ?_, ?_, ?_⟩, hle, Nat.le_refl _, ?_, fun b x e => .inl e, fun b r e => by
    simp only [Env.setF, Env.setZ] at e
    split at e
    · exact .inr (by omega)
    · exact .inl e, fun b q e => by
    simp only [Env.setF, Env.setZ] at e
    split at e
    · rename_i e2
      simp at e
      subst e e2
      rcases hf with ⟨_, h1⟩ | h1
      · exact .inr (by omega)
      · exact .inl h1
    · exact .inl e, fun q hq hn => by
    rw [hmem, if_neg]
    intro e2
    subst e2
    rcases hf with ⟨_, h1⟩ | h1
    · omega
    · exact hn f h1⟩
  · intro b cs esz hb
    rw [KSt.get_put] at hb
    split at hb
    · simp at hb
    · obtain ⟨x, c2, h1, h2, h3⟩ := h.row b cs esz hb
      have := h.old b x h1
      exact ⟨x, c2, h1, by rw [hget, if_neg (by omega)]; exact h2, h3.mono hle⟩
  · intro b t sz0 hb
    rw [KSt.get_put] at hb
    split at hb
    · rename_i e
      simp at hb
      obtain ⟨rfl, rfl⟩ := hb
      subst e
      refine .inr ⟨g, by simp [Env.setF], hpos, fun x hx cs e own q k hr => ?_⟩
      rw [hget] at hr
      rw [hmem, if_pos rfl] at hx
      split at hr
      · simp at hr
        obtain ⟨rfl, rfl, _, _, rfl⟩ := hr
        exact ⟨rfl, Nat.le_of_eq hc⟩
      · rename_i hne
        rcases List.mem_cons.1 hx with hx | hx
        · exact absurd hx hne
        · rcases hf with ⟨_, h1⟩ | h1
          · rw [h1, h.fresh _ (Nat.le_refl _)] at hx; simp at hx
          · rcases h.fam b top sz hA with ⟨_, h2⟩ | ⟨g2, h2, _, h3⟩
            · rw [h1] at h2; simp at h2
            · rw [h1] at h2
              simp at h2
              subst h2
              obtain ⟨h4, h5⟩ := h3 x hx cs e own q k hr
              exact ⟨h4, Nat.le_trans h5 (Nat.mul_le_mul_right _ ht)⟩
    · rename_i hbf
      rcases h.fam b t sz0 hb with ⟨h1, h2⟩ | ⟨g2, h2, hp2, h3⟩
      · exact .inl ⟨h1, by simp only [Env.setF, Env.setZ]; rw [if_neg hbf]; exact h2⟩
      · have hne : g2 ≠ g := by
          intro e
          subst e
          rcases hf with ⟨_, h1⟩ | h1
          · have := h.oldφ b g2 h2; omega
          · exact hbf (h.famInj b f g2 _ _ _ _ hb hA h2 h1)
        refine .inr ⟨g2, by simp only [Env.setF, Env.setZ]; rw [if_neg hbf]; exact h2, hp2, fun x hx cs e own q k hr => ?_⟩
        rw [hmem, if_neg hne] at hx
        have := h.mem g2 x hx
        rw [hget, if_neg (by omega)] at hr
        exact h3 x hx cs e own q k hr
  · intro b r hb
    simp only [Env.setF, Env.setZ] at hb
    rw [hget]
    split at hb
    · rename_i e; simp at hb; subst hb; rw [if_pos e]
    · rename_i e; rw [if_neg e]; exact h.z b r hb
  · intro b x hb
    have hb : E.κ b = some x := hb
    have := h.old b x hb
    simp only [Env.setF, Env.setZ]
    rw [if_neg (by omega)]
    exact h.apart b x hb
  · exact h.inj
  · intro b d q tb sb td sd lb ld hb hd
    simp only [Env.setF, Env.setZ] at hb hd
    rw [KSt.get_put] at lb ld
    have key : ∀ d t s, d ≠ f → A.get d = some (.fam t s) → E.φ d ≠ some g := by
      intro d t s hd hl e
      rcases hf with ⟨_, h1⟩ | h1
      · have := h.oldφ d g e; omega
      · exact hd (h.famInj d f g _ _ _ _ hl hA e h1)
    by_cases e1 : b = f <;> by_cases e2 : d = f
    · omega
    · rw [if_pos e1] at hb; rw [if_neg e2] at hd ld; simp at hb; subst hb; exact absurd hd (key d _ _ e2 ld)
    · rw [if_pos e2] at hd; rw [if_neg e1] at hb lb; simp at hd; subst hd; exact absurd hb (key b _ _ e1 lb)
    · rw [if_neg e1] at hb lb; rw [if_neg e2] at hd ld; exact h.famInj b d q _ _ _ _ lb ld hb hd
  · exact h.dom
  · intro b q hb
    simp only [Env.setF, Env.setZ] at hb
    rw [KSt.next_put]
    split at hb
    · omega
    · exact h.domφ b q hb
  · intro b o hb
    rw [KSt.get_put] at hb
    rw [KSt.next_put]
    split at hb
    · omega
    · exact h.live b o hb
  · intro b x hb; have := h.old b x hb; omega
  · intro b r hb
    simp only [Env.setF, Env.setZ] at hb
    rw [hnext]
    split at hb
    · omega
    · have := h.oldz b r hb; omega
  · intro b q hb
    simp only [Env.setF, Env.setZ] at hb
    rw [hnext]
    split at hb
    · simp at hb; omega
    · have := h.oldφ b q hb; omega
  · intro q hq
    rw [hnext] at hq
    rw [hmem, if_neg (by omega)]
    exact h.fresh q (by omega)
  · intro q x hx
    rw [hnext]
    rw [hmem] at hx
    split at hx
    · rcases List.mem_cons.1 hx with hx | hx
      · omega
      · have := h.mem g x hx; omega
    · have := h.mem q x hx; omega
  · intro x hx _; rw [hget, if_neg (by omega)]
end Go.K
