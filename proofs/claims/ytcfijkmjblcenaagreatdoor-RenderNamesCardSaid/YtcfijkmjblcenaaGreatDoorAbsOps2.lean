/-
  The abstract machine's operations do what the model's do: the second part.
-/
import Derived.Test.YtcfijkmjblcenaaGreatDoorAbsOps
namespace Go.Abs
open Go
section
variable {P : Program} {o : Oper}

theorem eqable_shape {ρ : Ren} {a a' : Value} (he : eqable a = true) (h : VR ρ a a') :
    (a' = .nilIface → a = .nilIface) ∧ (∀ cs, a' = .agg cs → ∃ cs', a = .agg cs') ∧ (∀ k n, a' ≠ .int k n) ∧ (∀ k n, a' ≠ .float k n) ∧ (∀ k n m, a' ≠ .complex k n m) ∧ (∀ s, a' ≠ .string s) := by
  cases a with
  | int k n => simp [eqable] at he
  | float k n => simp [eqable] at he
  | complex k n m => simp [eqable] at he
  | string s => simp [eqable] at he
  | chan r => simp [eqable] at he
  | tuple cs => simp [eqable] at he
  | bool b => have := h.bool_inv; subst this; simp
  | pointer p =>
    cases p with
    | none => have : a' = .pointer none := by simpa [VR] using h
              subst this; simp
    | some p => obtain ⟨_, _, _, rfl⟩ := h.ptr_inv; simp
  | slice p n c =>
    cases p with
    | none => have := h.slice_nil_inv; subst this; simp
    | some p => obtain ⟨_, _, _, _, _, _, _, _, _, rfl⟩ := h.slice_inv; simp
  | map r =>
    cases r with
    | none => have : a' = .map none := by simpa [VR] using h
              subst this; simp
    | some r =>
      have : ∃ l, ρ r = some l ∧ a' = .map (some l.cb) := by simpa only [VR] using h
      obtain ⟨_, _, rfl⟩ := this; simp
  | func fn f c => obtain ⟨_, _, _, rfl, _, _⟩ := h.func_inv; simp
  | nilFunc => have : a' = .nilFunc := by simpa [VR] using h
               subst this; simp
  | iface t x =>
    have : ∃ x', VR ρ x x' ∧ a' = .iface t x' := by simpa only [VR] using h
    obtain ⟨_, _, rfl⟩ := this; simp
  | nilIface => simp
                have : a' = .nilIface := by simpa [VR] using h
                subst this; simp
  | agg cs => obtain ⟨_, rfl, _⟩ := h.agg_inv; simp

theorem eqGuard_run {ρ : Ren} {op : BinOp} {t : TypeId} {x y : Operand} {a b a' b' : Value} (ea : eqable a = true) (eb : eqable b = true) (ha : VR ρ a a') (hb : VR ρ b b')
    (h : eqSure P t (isConst x || isConst y) a b = true) (w : World) : (eqGuard op t x y a' b').run P w = .ok () w := by
  obtain ⟨ha1, ha2, _⟩ := eqable_shape ea ha
  obtain ⟨hb1, hb2, _⟩ := eqable_shape eb hb
  unfold eqGuard
  cases hop : (!(op matches .eql | .neq)) with
  | true => simp
  | false =>
    simp only [Bool.false_eq_true, if_false]
    cases a' with
    | nilIface =>
      cases b' with
      | nilIface =>
        have e1 := ha1 rfl
        have e2 := hb1 rfl
        rw [e1, e2] at h
        have hc : (isConst x || isConst y) = true := h
        cases x with
        | const v => rfl
        | _ =>
          cases y with
          | const v => rfl
          | _ => simp [isConst] at hc
      | _ => rfl
    | agg cs =>
      cases b' with
      | agg ds =>
        obtain ⟨c1, rfl⟩ := ha2 _ rfl
        obtain ⟨c2, rfl⟩ := hb2 _ rfl
        have hg : P.eqGuardType P.depth t = false := by simpa [eqSure] using h
        simp [hg]
      | _ => rfl
    | _ => rfl

theorem binOp_eql {ρ : Ren} {t : TypeId} {a a' b' : Value} (ea : eqable a = true) (ha : VR ρ a a') : binOp .eql t a' b' = (do pure (.bool (← Op.equal t a' b'))) ∧ binOp .neq t a' b' = (do pure (.bool (!(← Op.equal t a' b')))) := by
  obtain ⟨_, _, h1, h2, h3, h4⟩ := eqable_shape ea ha
  cases a' with
  | int k n => exact absurd rfl (h1 k n)
  | float k n => exact absurd rfl (h2 k n)
  | complex k n m => exact absurd rfl (h3 k n m)
  | string s => exact absurd rfl (h4 s)
  | _ => constructor <;> rfl

theorem ok_bin {op : BinOp} {t yt : TypeId} {x y : Operand} (ho : o.op = .binOp op t x y yt) : InsOk P o (.pure (fBin P op t (isConst x || isConst y)) [x, y]) := by
  intro ρ ev ev' v he hf
  have hx := he x (by simp)
  have hy := he y (by simp)
  have full : ∀ b, eqFull P t (isConst x || isConst y) (ev x) (ev y) = some b → ∀ w, (eqGuard op t x y (ev' x) (ev' y)).run P w = .ok () w ∧ (Op.equal t (ev' x) (ev' y)).run P w = .ok b w ∧ eqable (ev x) = true := by
    intro b hb w
    unfold eqFull at hb
    cases hc : (eqable (ev x) && eqable (ev y) && eqSure P t (isConst x || isConst y) (ev x) (ev y)) with
    | false => rw [hc] at hb; simp at hb
    | true =>
      rw [hc, cond_true] at hb
      simp only [Bool.and_eq_true] at hc
      exact ⟨eqGuard_run hc.1.1 hc.1.2 hx hy hc.2 w, eqV_sound hx hy hb w, hc.1.1⟩
  simp only [List.map, fBin] at hf
  split at hf
  · rename_i j a k b e
    simp at e
    rw [e.1] at hx
    rw [e.2] at hy
    refine ⟨v, VR.of_flat (int_flat hf), fun w => ?_⟩
    simp [execOp, ho, hx.int_inv, hy.int_inv, guard_int, pureRun_run hf w]
  · rename_i a b e
    simp at e
    rw [e.1] at hx
    rw [e.2] at hy
    refine ⟨v, VR.of_flat (string_flat hf), fun w => ?_⟩
    simp [execOp, ho, hx.string_inv, hy.string_inv, guard_string, pureRun_run hf w]
  · rename_i a b _ _ e
    simp at e
    obtain ⟨rfl, rfl⟩ := e
    split at hf
    · obtain ⟨c, hc, rfl⟩ := Option.map_eq_some_iff.1 hf
      refine ⟨.bool c, VR.of_flat rfl, fun w => ?_⟩
      obtain ⟨h1, h2, h3⟩ := full c hc w
      simp [execOp, ho, h1, (binOp_eql (t := t) (b' := ev' y) h3 hx).1, h2]
    · obtain ⟨c, hc, rfl⟩ := Option.map_eq_some_iff.1 hf
      refine ⟨.bool (!c), VR.of_flat rfl, fun w => ?_⟩
      obtain ⟨h1, h2, h3⟩ := full c hc w
      simp [execOp, ho, h1, (binOp_eql (t := t) (b' := ev' y) h3 hx).2, h2]
    · simp at hf
  · simp at hf

/-! ## Composites -/
theorem writeN_nil : ∀ (n : Nat) (l : List Value), writeN n l [] = some l
  | 0, l => writeN_z0 l
  | n + 1, [] => writeN_s0 n
  | n + 1, x :: l => by simp [writeN_s2, writeN_nil n l]
theorem fill_foldl (off : Nat) : ∀ (l : List Value) (k : Nat) (cs : Array Value), off + k + l.length ≤ cs.size →
    ∃ r, writeN (off + k) cs.toList l = some r ∧ ((l.zipIdx k).foldl (fun cs (p : Value × Nat) => cs.setIfInBounds (off + p.2) p.1) cs).toList = r
  | [], k, cs, _ => ⟨cs.toList, writeN_nil _ _, rfl⟩
  | v :: l, k, cs, h => by
    obtain ⟨r, h1, h2⟩ := fill_foldl off l (k + 1) (cs.setIfInBounds (off + k) v) (by simp at h ⊢; omega)
    refine ⟨r, ?_, by simpa using h2⟩
    have hlt : off + k < cs.size := by simp at h; omega
    have key : ∀ (n : Nat) (l0 l1 : List Value) (v : Value), n < l0.length → writeN (n + 1) (l0.set n v) l1 = writeN n l0 (v :: l1) := by
      intro n
      induction n with
      | zero => intro l0 l1 v hn; cases l0 with
        | nil => simp at hn
        | cons x xs => simp [writeN_s2, writeN_z2]
      | succ n ih => intro l0 l1 v hn; cases l0 with
        | nil => simp at hn
        | cons x xs => simp only [List.set_cons_succ]; rw [writeN_s2, writeN_s2]; rw [ih xs l1 v (by simpa using hn)]
    rw [← key (off + k) cs.toList l v (by simpa using hlt)]
    rw [Array.toList_setIfInBounds] at h1
    exact h1
theorem fill_sound {ρ : Ren} {place : Nat → Option (Nat × Nat)} : ∀ {is : List Nat} {vs vs' : List Value} {cells : List Value} {cells' : Array Value} {r : List Value}, VRL ρ vs vs' → VRL ρ cells cells'.toList → (∀ v ∈ vs, ∀ c, v ≠ .chan c) →
    fillC place cells (zipIdx is vs) = some r → is.length = vs.length → ∃ r', Instr.fill place cells' (is.zip vs') = some r' ∧ VRL ρ r r'.toList
  | [], vs, vs', cells, cells', r, hv, hc, _, h, hl => by
    have : vs = [] := by cases vs <;> simp_all
    subst this
    simp [zipIdx, fillC] at h
    subst h
    exact ⟨cells', rfl, hc⟩
  | i :: is, [], vs', cells, cells', r, hv, hc, _, h, hl => by simp at hl
  | i :: is, v :: vs, vs', cells, cells', r, hv, hc, hn, h, hl => by
    obtain ⟨y, ys, rfl, hvy, hvs⟩ := hv.cons_inv
    simp only [zipIdx, fillC] at h
    cases hp : place i with
    | none => rw [hp] at h; simp at h
    | some p =>
      obtain ⟨off, size⟩ := p
      rw [hp] at h
      simp only at h
      cases hb : (Nat.beq v.cells.size size && Nat.ble 1 size) with
      | false => rw [hb] at h; simp at h
      | true =>
        rw [hb, cond_true] at h
        obtain ⟨cs, h1, h2⟩ := Option.bind_eq_some_iff.1 h
        obtain ⟨hb1, hb2⟩ := Bool.and_eq_true_iff.1 hb
        have hsz : v.cells.size = size := Nat.eq_of_beq_eq_true hb1
        have hpos : 1 ≤ size := Nat.le_of_ble_eq_true hb2
        have hvc := hvy.cells (hn v (by simp))
        obtain ⟨cs', h3, h4⟩ := VRL.write h1 hc hvc
        have hys : y.cells.size = size := by have := hvc.length; simp at this; omega
        obtain ⟨_, hfit, _⟩ := writeN_spec h3
        have hle := hfit (by intro e; have : y.cells.size = 0 := by rw [← Array.length_toList, e]; rfl
                             omega)
        simp at hle
        obtain ⟨q, h5, h6⟩ := fill_foldl off y.cells.toList 0 cells' (by simpa using hle)
        rw [Nat.add_zero] at h5
        rw [h3] at h5
        simp at h5
        subst h5
        obtain ⟨r', h7, h8⟩ := fill_sound (cells' := ((y.cells.toList.zipIdx 0).foldl (fun cs (p : Value × Nat) => cs.setIfInBounds (off + p.2) p.1) cells')) (is := is) hvs (by rw [h6]; exact h4) (fun v hv => hn v (by simp [hv])) h2 (by simpa using hl)
        refine ⟨r', ?_, h8⟩
        simp only [List.zip_cons_cons, Instr.fill, hp, hys]
        rw [if_neg (by simp; omega)]
        have e : y.cells.zipIdx.foldl (fun cs (x : Value × Nat) => cs.setIfInBounds (off + x.2) x.1) cells' = ((y.cells.toList.zipIdx 0).foldl (fun cs (p : Value × Nat) => cs.setIfInBounds (off + p.2) p.1) cells') := by
          rw [← Array.foldl_toList, Array.toList_zipIdx]
        rw [← e] at h7
        exact h7

theorem parts_eq (parts : Array (Nat × Operand)) (ev : Operand → Value) : (parts.map fun (i, x) => (i, ev x)).toList = (parts.toList.map (·.1)).zip ((parts.toList.map (·.2)).map ev) := by
  rw [Array.toList_map]
  induction parts.toList with
  | nil => rfl
  | cons p l ih => obtain ⟨i, x⟩ := p; simpa using ih
theorem known_all {vs : List Value} (h : vs.all known = true) : ∀ v ∈ vs, ∀ c, v ≠ .chan c := by
  intro v hv c e
  rw [List.all_eq_true] at h
  have := h v hv
  subst e
  simp [known] at this

theorem zero_info {t : TypeId} {z : Value} (h : zero? P t = some z) : ∃ i, P.info? t = some i ∧ i.zero = some z := by
  unfold zero? at h
  exact Option.bind_eq_some_iff.1 h
theorem size_info {t : TypeId} {n : Nat} (h : size? P t = some n) : ∃ i, P.info? t = some i ∧ i.size = n := by
  unfold size? at h
  exact Option.map_eq_some_iff.1 h
theorem cells_flat {ρ : Ren} {z : Value} (h : flat z = true) : VRL ρ z.cells.toList z.cells.toList :=
  (VR.of_flat h).cells (fun r e => by subst e; simp [flat] at h)

theorem fBuildAt_sound {ρ : Ren} {place : Nat → Option (Nat × Nat)} {z v : Value} {is : List Nat} {vs vs' : List Value} (hv : VRL ρ vs vs') (hl : is.length = vs.length) (h : fBuildAt place z is vs = some v) :
    ∃ r', Instr.fill place z.cells (is.zip vs') = some r' ∧ VR ρ v (.agg r') := by
  unfold fBuildAt at h
  cases hc : (flat z && vs.all known) with
  | false => rw [hc] at h; simp at h
  | true =>
    rw [hc, cond_true] at h
    obtain ⟨h1, h2⟩ := Bool.and_eq_true_iff.1 hc
    obtain ⟨r, h3, rfl⟩ := Option.map_eq_some_iff.1 h
    obtain ⟨r', h4, h5⟩ := fill_sound hv (cells_flat h1) (known_all h2) h3 hl
    exact ⟨r', h4, by simp only [mkAgg, VR]; exact ⟨r', VRA_iff.2 h5, rfl⟩⟩

theorem ok_build {t : TypeId} {parts : Array (Nat × Operand)} (ho : o.op = .build t parts) : InsOk P o (insBuild P t (parts.toList.map (·.1)) (parts.toList.map (·.2))) := by
  have done : ∀ (place : Nat → Option (Nat × Nat)) (z : Value), (∀ ps cells, Instr.fill place z.cells ps = some cells → P.built t ps = some cells) →
      InsOk P o (.pure (fBuildAt place z (parts.toList.map (·.1))) (parts.toList.map (·.2))) := by
    intro place z hb ρ ev ev' v he hf
    obtain ⟨r', h1, h2⟩ := fBuildAt_sound he.map (by simp) hf
    refine ⟨.agg r', h2, fun w => ?_⟩
    have h3 := hb _ _ h1
    have := run_build (P := P) w t (parts.map fun (i, x) => (i, ev' x)) r' (by rw [parts_eq]; exact h3)
    simp [execOp, ho, this]
  unfold insBuild
  split
  · rename_i z fields hz hu
    split
    · rename_i l hl
      obtain ⟨i, hi, hiz⟩ := zero_info hz
      refine done _ _ fun ps cells h => ?_
      unfold Program.built
      unfold placesOf at hl
      simp only [hi, hu, hiz, hl]
      have e : (fun x => l.toArray[x]?) = placeAt l := by funext x; simp [placeAt]
      rw [e]
      exact h
    · trivial
  · rename_i z n e hz hu
    split
    · rename_i k hk
      obtain ⟨i, hi, hiz⟩ := zero_info hz
      obtain ⟨j, hj, rfl⟩ := size_info hk
      refine done _ _ fun ps cells h => ?_
      unfold Program.built
      simp only [hi, hu, hiz, hj]
      exact h
    · trivial
  · trivial

theorem repeat_get (z : List Value) (hz : 1 ≤ z.length) : ∀ (len i : Nat), (repeatL z len)[i]? = if i < len * z.length then z[i % z.length]? else none
  | 0, i => by simp [repeatL]
  | len + 1, i => by
    simp only [repeatL, List.getElem?_append]
    split
    · rename_i h
      rw [if_pos (by rw [Nat.succ_mul]; omega), Nat.mod_eq_of_lt h]
    · rename_i h
      rw [repeat_get z hz len (i - z.length)]
      rw [Nat.succ_mul]
      by_cases hc : i - z.length < len * z.length
      · rw [if_pos hc, if_pos (by omega)]
        have : i % z.length = (i - z.length) % z.length := Nat.mod_eq_sub_mod (by omega)
        rw [this]
      · rw [if_neg hc, if_neg (by omega)]
theorem repeat_eq (z : Array Value) (len : Nat) (hz : 1 ≤ z.size) : (Array.range (len * z.size)).map (fun i => z[i % z.size]!) = ⟨repeatL z.toList len⟩ := by
  apply Array.ext'
  apply List.ext_getElem?
  intro i
  rw [repeat_get z.toList (by simpa using hz)]
  simp only [Array.length_toList]
  rw [Array.toList_map, Array.toList_range, List.getElem?_map]
  by_cases h : i < len * z.size
  · rw [if_pos h, List.getElem?_range h]
    have hm : i % z.size < z.size := Nat.mod_lt _ hz
    simp [hm]
  · rw [if_neg h, List.getElem?_eq_none (by simp; omega)]
    rfl
theorem VRL.repeat {ρ : Ren} {z z' : List Value} (h : VRL ρ z z') : ∀ n, VRL ρ (repeatL z n) (repeatL z' n)
  | 0 => .nil
  | n + 1 => h.append (VRL.repeat h n)

theorem ok_buildSlice {t : TypeId} {len : Nat} {parts : Array (Nat × Operand)} (ho : o.op = .buildSlice t len parts) : InsOk P o (insBuildSlice P t len (parts.toList.map (·.1)) (parts.toList.map (·.2))) := by
  unfold insBuildSlice
  split
  · rename_i e hu
    split
    · rename_i n z hn hz
      cases hc : (Nat.ble (len * n) 16777216 && Nat.beq z.cells.size n && Nat.ble 1 n && flat z) with
      | false => exact True.intro
      | true =>
        rw [cond_true]
        simp only [Bool.and_eq_true] at hc
        obtain ⟨⟨⟨h1, h2⟩, h3⟩, h4⟩ := hc
        have hle : len * n ≤ 16777216 := Nat.le_of_ble_eq_true h1
        have hzs : z.cells.size = n := Nat.eq_of_beq_eq_true h2
        have hpos : 1 ≤ n := Nat.le_of_ble_eq_true h3
        intro ρ ev ev' obj mk he hf
        unfold fBuildSlice at hf
        obtain ⟨l, hl, hf⟩ := Option.bind_eq_some_iff.1 hf
        cases hk : (l.all scalar && ((parts.toList.map (·.2)).map ev).all known) with
        | false => rw [hk] at hf; simp at hf
        | true =>
          rw [hk, cond_true] at hf
          obtain ⟨hk1, hk2⟩ := Bool.and_eq_true_iff.1 hk
          simp only [Option.some.injEq, Prod.mk.injEq] at hf
          obtain ⟨rfl, rfl⟩ := hf
          have hrep := VRL.repeat (cells_flat (ρ := ρ) h4) len
          obtain ⟨r', h5, h6⟩ := fill_sound (cells' := ⟨repeatL z.cells.toList len⟩) he.map hrep (known_all hk2) hl (by simp)
          rw [List.all_eq_true] at hk1
          have hlen : l.length = len * n := by
            have e1 : ∀ {is : List Nat} {vs cs r : List Value}, fillC (strideOf n) cs (zipIdx is vs) = some r → r.length = cs.length := by
              intro is
              induction is with
              | nil => intro vs cs r h; simp [zipIdx, fillC] at h; subst h; rfl
              | cons i is ih =>
                intro vs cs r h
                cases vs with
                | nil => simp [zipIdx, fillC] at h; subst h; rfl
                | cons v vs =>
                  simp only [zipIdx, fillC, strideOf] at h
                  cases hb : (Nat.beq v.cells.size n && Nat.ble 1 n) with
                  | false => rw [hb] at h; simp at h
                  | true =>
                    rw [hb, cond_true] at h
                    obtain ⟨q, hq, h⟩ := Option.bind_eq_some_iff.1 h
                    rw [ih h, (writeN_spec hq).1]
            rw [e1 hl]
            have e2 : ∀ (z : List Value) (k : Nat), (repeatL z k).length = k * z.length := by
              intro z k
              induction k with
              | zero => simp [repeatL]
              | succ k ih => simp [repeatL, ih, Nat.succ_mul, Nat.add_comm]
            rw [e2]
            simp [hzs]
          refine ⟨.cells r' e, fun b => .slice (some ⟨b, 0, none⟩) len len, ⟨r', e, rfl, h6, hk1⟩, fun w => ?_, fun ρ' m cb hρ => ?_⟩
          · have e1 : (Array.range (len * n)).map (fun i => z.cells[i % z.cells.size]!) = ⟨repeatL z.cells.toList len⟩ := by
              rw [← hzs]; exact repeat_eq z.cells len (by omega)
            have e2 : Instr.fill (fun i => some (i * n, n)) ((Array.range (len * n)).map (fun i => z.cells[i % z.cells.size]!)) (parts.map fun (i, x) => (i, ev' x)).toList = some r' := by
              rw [e1, parts_eq]; exact h5
            have hle' : ¬ (2 ^ 24 < len * n) := by omega
            simp only [execOp, ho, Instr.buildSlice, Sem.run_bind, run_under hu, Result.andThen_ok, run_size hn, gt_iff_lt]
            rw [if_neg hle']
            by_cases hl0 : len * n = 0
            · rw [hl0] at e2
              have e5 : ∀ (f g : Nat → Value), (Array.range 0).map f = (Array.range 0).map g := by intro f g; simp
              have e6 : Instr.fill (fun i => some (i * n, n)) ((Array.range 0).map (fun i => z.cells[i % z.cells.size]!)) (Array.map (fun x => (x.fst, ev' x.snd)) parts).toList = some r' := e2
              simp only [hl0, if_true, pure_bind]
              rw [e5 _ (fun i => z.cells[i % z.cells.size]!)]
              simp only [e6]
              simp [newRow]
            · have e6 : Instr.fill (fun i => some (i * n, n)) ((Array.range (len * n)).map (fun i => z.cells[i % z.cells.size]!)) (Array.map (fun x => (x.fst, ev' x.snd)) parts).toList = some r' := e2
              simp only [hl0, if_false, bind_pure_comp, Sem.run_bind, run_zero hz, Result.andThen_ok, Sem.run_pure]
              simp only [e6]
              simp [newRow]
          · simp only [VR]
            refine ⟨trivial, Nat.le_refl _, _, ⟨cb, 0, none⟩, len, hρ, Nat.le_refl _, fun _ => by simp [locOf], ?_, rfl⟩
            simp [locOf, hlen]
    · trivial
  · trivial

theorem len_slice {ρ : Ren} {a : Option Addr} {n c : Nat} {y : Value} (h : VR ρ (.slice a n c) y) : ∃ a' c', y = .slice a' n c' := by
  cases a with
  | none => exact ⟨_, _, h.slice_nil_inv⟩
  | some a => obtain ⟨_, _, _, a', c', _, _, _, _, h⟩ := h.slice_inv; exact ⟨_, _, h⟩
theorem ok_lenSl {argTypes : Array TypeId} {args : Array Operand} {t e : TypeId} (ho : o.op = .call ⟨.builtin .len, args, argTypes⟩) (hat : argTypes[0]? = some t) (hu : P.underlying t = some (.slice e)) : InsOk P o (.pure fLenSl args.toList) := by
  intro ρ ev ev' v he hf
  have hm := he.map
  unfold fLenSl at hf
  split at hf
  · rename_i a n c e1
    rw [e1] at hm
    obtain ⟨y, ys, e2, h1, h2⟩ := hm.cons_inv
    have h2 := h2.nil_inv
    subst h2
    simp at hf; subst hf
    refine ⟨_, VR.of_flat rfl, fun w => ?_⟩
    obtain ⟨a', c', rfl⟩ := len_slice h1
    have e3 : (args.map ev')[0]? = some (.slice a' n c') := by rw [evmap_toArray, e2]; rfl
    simp [execOp, ho, resolve, invoke, builtin, Builtin.len_, hat, e3, run_under hu, goInt]
  · simp at hf
theorem ok_lenStr {argTypes : Array TypeId} {args : Array Operand} {t : TypeId} (ho : o.op = .call ⟨.builtin .len, args, argTypes⟩) (hat : argTypes[0]? = some t) (hu : P.underlying t = some .string) : InsOk P o (.pure fLenStr args.toList) := by
  intro ρ ev ev' v he hf
  have hm := he.map
  unfold fLenStr at hf
  split at hf
  · rename_i s e1
    rw [e1] at hm
    obtain ⟨y, ys, e2, h1, h2⟩ := hm.cons_inv
    have h2 := h2.nil_inv
    subst h2
    simp at hf; subst hf
    refine ⟨_, VR.of_flat rfl, fun w => ?_⟩
    have h1 := h1.string_inv
    subst h1
    have e3 : (args.map ev')[0]? = some (.string s) := by rw [evmap_toArray, e2]; rfl
    simp [execOp, ho, resolve, invoke, builtin, Builtin.len_, hat, e3, run_under hu, goInt]
  · simp at hf

theorem calleeVal_sound {ρ : Ren} {vs vs' : List Value} {x x' : Value} {g : FuncId} {as : List Value} (hx : VR ρ x x') (hv : VRL ρ vs vs') (hg : Nat.blt g yB = true) (h : calleeVal vs x = some (g, as)) :
    ∃ first cap as', x' = .func (.func g) first cap ∧ as' = first.toList ++ vs' ++ cap.toList ∧ VRL ρ as as' := by
  unfold calleeVal at h
  split at h
  · rename_i g' first cap
    cases hb : Nat.blt g' yB with
    | false => rw [hb] at h; simp at h
    | true =>
      rw [hb, cond_true] at h
      simp at h
      obtain ⟨rfl, rfl⟩ := h
      obtain ⟨f', c', fn', rfl, h1, h2, h3⟩ := hx.func_inv
      have h3 : fn' = .func g' := h3
      subst h3
      exact ⟨f', c', _, rfl, rfl, by simpa using (h1.append hv).append h2⟩
  · simp at h
    obtain ⟨rfl, _⟩ := h
    rw [Nat.blt_eq] at hg
    exact absurd hg (Nat.not_lt.2 (Nat.le_add_right _ _))
  · simp at h
theorem ok_call {c : Call} {f : Operand} (ho : o.op = .call c) (hf : c.callee = .value f) : InsOk P o (.call f c.args.toList) := by
  refine ⟨fun ρ ev ev' l he hy => ?_, ?_⟩
  · have hx := he f (by simp)
    rw [hy] at hx
    obtain ⟨f', c', fn', h1, h2, h3, loc, h4, h5⟩ := hx.func_inv
    subst h5
    have h2 := h2.nil_inv
    have h3 := h3.nil_inv
    have e1 : f' = #[] := by cases f'; simpa using h2
    have e2 : c' = #[] := by cases c'; simpa using h3
    subst e1; subst e2
    refine ⟨loc, _, h4, he.tail.map, fun w => ?_⟩
    have e : c.args.map ev' = (c.args.toList.map ev').toArray := by apply Array.ext'; simp
    simp only [execOp, ho, Sem.run_bind, resolve, hf, Deferred.ofValue, h1, Sem.run_pure, Result.andThen_ok, invoke]
    simp [e]
  intro ρ ev ev' g vs he hg hcal hfn
  obtain ⟨first, cap, as', h1, h2, h3⟩ := calleeVal_sound (he f (by simp)) he.tail.map hg hcal
  obtain ⟨fn, h4, h5, h6⟩ := hfn
  refine ⟨as', h3, fun w => ?_⟩
  have hb : fn.body.isNone = false := by simpa using h5
  have e : first ++ c.args.map ev' ++ cap = as'.toArray := by
    apply Array.ext'
    simp [h2]
  have hh : ¬(fn.name = "runtime.NumGoroutine") := by simpa using h6
  simp only [execOp, ho, Sem.run_bind, resolve, hf, Deferred.ofValue, h1, Sem.run_pure, Result.andThen_ok, invoke, callFunc, run_program, h4]
  simp [hh, hb, ← e]

end
end Go.Abs
