/-
  The abstract machine's operations do what the model's do: slices, append, copy, make.
-/
import Derived.Test.YtcfijkmjblcenaaGreatDoorAbsOps2
import Derived.Laws.Slices
import Derived.Laws.MakeOwn
import Derived.Laws.AppendOwn
namespace Go.Abs
open Go
section
variable {P : Program} {o : Oper}

/-! ## Slice expressions -/
theorem bnd_sound {ρ : Ren} {y y' : Nat} {v v' : Value} {r : Nat} (hv : VR ρ v v') (h : bnd y v = some r) (hy : y ≤ y') :
    r ≤ y ∧ ∀ code w, (Instr.sliceBound v' y' code).run P w = .ok r w := by
  unfold bnd at h
  split at h
  · rename_i k i
    obtain ⟨rfl, hlt⟩ := inBounds_eq h
    have := hv.int_inv
    subst this
    have hle : r ≤ y := by omega
    refine ⟨hle, fun code w => ?_⟩
    have := run_sliceBound (P := P) w k (r : Int) y' code (by omega) (by omega)
    simpa using this
  · simp at h

theorem bnds_sound {ρ : Ren} {ev ev' : Operand → Value} {lo hi mx : Option Operand} {len cap cap' l h m : Nat} (he : EvOn ρ ev ev' (optL lo ++ optL hi ++ optL mx))
    (hb : bnds len cap lo.isSome hi.isSome mx.isSome ((optL lo ++ optL hi ++ optL mx).map ev) = some (l, h, m)) (hc : cap ≤ cap') (hlc : len ≤ cap) :
    l ≤ h ∧ h ≤ m ∧ m ≤ cap ∧ m ≤ (cond mx.isSome m cap') ∧ (cond mx.isSome m cap') ≤ cap' ∧ (mx.isSome = false → m = cap) ∧ ∀ b w, (Instr.sliceBounds b len cap' (lo.map ev') (hi.map ev') (mx.map ev')).run P w = .ok (l, h, cond mx.isSome m cap') w := by
  cases lo with
  | none =>
    cases hi with
    | none =>
      cases mx with
      | none =>
        simp [optL, bnds] at hb
        obtain ⟨rfl, rfl, rfl⟩ := hb
        exact ⟨by omega, hlc, Nat.le_refl _, hc, Nat.le_refl _, fun _ => rfl, fun b w => by simp [Instr.sliceBounds]⟩
      | some x => simp [optL, bnds] at hb
    | some y =>
      cases mx with
      | none =>
        simp only [optL, Option.isSome, List.nil_append, List.append_nil, List.map, bnds, Option.map_eq_some_iff] at hb
        obtain ⟨r, hr, hb⟩ := hb
        simp at hb
        obtain ⟨rfl, rfl, rfl⟩ := hb
        obtain ⟨h1, h2⟩ := bnd_sound (P := P) (he y (by simp [optL])) hr hc
        exact ⟨by omega, h1, Nat.le_refl _, hc, Nat.le_refl _, fun _ => rfl, fun b w => by simp [Instr.sliceBounds, h2]⟩
      | some z =>
        simp only [optL, Option.isSome, List.nil_append, List.map, List.cons_append, bnds, Option.bind_eq_some_iff, Option.map_eq_some_iff] at hb
        obtain ⟨r, hr, q, hq, hb⟩ := hb
        simp at hb
        obtain ⟨rfl, rfl, rfl⟩ := hb
        obtain ⟨h1, h2⟩ := bnd_sound (P := P) (he z (by simp [optL])) hr hc
        obtain ⟨h3, h4⟩ := bnd_sound (P := P) (he y (by simp [optL])) hq (Nat.le_refl _)
        exact ⟨by omega, h3, h1, Nat.le_refl _, by simp; omega, fun h => by simp at h, fun b w => by simp [Instr.sliceBounds, h2, h4]⟩
  | some x =>
    cases hi with
    | none =>
      cases mx with
      | none =>
        simp only [optL, Option.isSome, List.append_nil, List.map, bnds, Option.map_eq_some_iff] at hb
        obtain ⟨r, hr, hb⟩ := hb
        simp at hb
        obtain ⟨rfl, rfl, rfl⟩ := hb
        obtain ⟨h1, h2⟩ := bnd_sound (P := P) (he x (by simp [optL])) hr (Nat.le_refl _)
        exact ⟨h1, hlc, Nat.le_refl _, hc, Nat.le_refl _, fun _ => rfl, fun b w => by simp [Instr.sliceBounds, h2]⟩
      | some x => simp [optL, bnds] at hb
    | some y =>
      cases mx with
      | none =>
        simp only [optL, Option.isSome, List.append_nil, List.map, List.cons_append, List.nil_append, bnds, Option.bind_eq_some_iff, Option.map_eq_some_iff] at hb
        obtain ⟨r, hr, q, hq, hb⟩ := hb
        simp at hb
        obtain ⟨rfl, rfl, rfl⟩ := hb
        obtain ⟨h1, h2⟩ := bnd_sound (P := P) (he y (by simp [optL])) hr hc
        obtain ⟨h3, h4⟩ := bnd_sound (P := P) (he x (by simp [optL])) hq (Nat.le_refl _)
        exact ⟨h3, h1, Nat.le_refl _, hc, Nat.le_refl _, fun _ => rfl, fun b w => by simp [Instr.sliceBounds, h2, h4]⟩
      | some z =>
        simp only [optL, Option.isSome, List.map, List.cons_append, List.nil_append, bnds, Option.bind_eq_some_iff, Option.map_eq_some_iff] at hb
        obtain ⟨r, hr, q, hq, s, hs, hb⟩ := hb
        simp at hb
        obtain ⟨rfl, rfl, rfl⟩ := hb
        obtain ⟨h1, h2⟩ := bnd_sound (P := P) (he z (by simp [optL])) hr hc
        obtain ⟨h3, h4⟩ := bnd_sound (P := P) (he y (by simp [optL])) hq (Nat.le_refl _)
        obtain ⟨h5, h6⟩ := bnd_sound (P := P) (he x (by simp [optL])) hs (Nat.le_refl _)
        exact ⟨h5, h3, h1, Nat.le_refl _, by simp; omega, fun h => by simp at h, fun b w => by simp [Instr.sliceBounds, h2, h4, h6]⟩

theorem rowEsz_eq {A : St} {b n : Nat} (h : rowEsz A b n = true) : ∃ cs own kin, A.get b = some (.row cs n own kin) := by
  unfold rowEsz at h
  split at h
  · rename_i cs esz own kin hg
    have := Nat.eq_of_beq_eq_true h
    subst this
    exact ⟨cs, own, kin, hg⟩
  · simp at h

theorem addr_add_plain (a : Addr) (h : a.spot = none) (j : Nat) : a.add j = ⟨a.block, a.off + j, none⟩ := by
  obtain ⟨b, o, s⟩ := a
  simp only at h
  subst h
  exact addr_add_mid b o j

theorem ok_slice {t : TypeId} {x : Operand} {lo hi mx : Option Operand} (ho : o.op = .slice t x lo hi mx) : InsOk P o (insSlice P t x lo hi mx) := by
  unfold insSlice
  split
  · rename_i e hu
    split
    · rename_i n hn
      cases hpos : Nat.ble 1 n with
      | false => exact True.intro
      | true =>
        rw [cond_true]
        have hpos : 1 ≤ n := Nat.le_of_ble_eq_true hpos
        intro ρ A base w ev ev' v hs he hf
        have hx := he x (by simp)
        have hsl : P.underlying t = some (.slice (P.elem t)) → True := fun _ => trivial
        simp only [List.map, fSliceSl] at hf
        split at hf
        · rename_i len cap vs e1
          simp only [List.cons.injEq] at e1
          obtain ⟨e1, e2⟩ := e1
          rw [e1] at hx
          have hx := hx.slice_nil_inv
          subst e2
          obtain ⟨⟨l, h, m⟩, hb, rfl⟩ := Option.map_eq_some_iff.1 hf
          by_cases hlc : len ≤ cap
          · obtain ⟨h1, h2, h3, h4, h5, h6, h7⟩ := bnds_sound (P := P) he.tail hb (Nat.le_refl _) hlc
            have hm : cond mx.isSome m cap = m := by cases hmx : mx.isSome <;> simp; exact (h6 hmx).symm
            refine ⟨.slice none (h - l) (m - l), by simp [VR], ?_⟩
            simp [execOp, ho, Instr.sliceAt, Instr.slice, run_under hu, hx, h7, hm, run_size hn]
          · -- no slice is so; the bounds need not fail
            have key : ∀ b w, (Instr.sliceBounds b len cap (lo.map ev') (hi.map ev') (mx.map ev')).run P w = .ok (l, h, m) w := by
              intro b w
              have hcap : cap ≤ len := by omega
              cases lo with
              | none =>
                cases hi with
                | none =>
                  cases mx with
                  | none => simp [optL, bnds] at hb; obtain ⟨rfl, rfl, rfl⟩ := hb; simp [Instr.sliceBounds]
                  | some x => simp [optL, bnds] at hb
                | some y =>
                  cases mx with
                  | none =>
                    simp only [optL, Option.isSome, List.nil_append, List.append_nil, List.map, bnds, Option.map_eq_some_iff] at hb
                    obtain ⟨r, hr, hb⟩ := hb
                    simp at hb
                    obtain ⟨rfl, rfl, rfl⟩ := hb
                    have := (bnd_sound (P := P) (he y (by simp [optL])) hr (Nat.le_refl _)).2
                    simp [Instr.sliceBounds, this]
                  | some z =>
                    simp only [optL, Option.isSome, List.nil_append, List.map, List.cons_append, bnds, Option.bind_eq_some_iff, Option.map_eq_some_iff] at hb
                    obtain ⟨r, hr, q, hq, hb⟩ := hb
                    simp at hb
                    obtain ⟨rfl, rfl, rfl⟩ := hb
                    have h2 := (bnd_sound (P := P) (he z (by simp [optL])) hr (Nat.le_refl _)).2
                    have h4 := (bnd_sound (P := P) (he y (by simp [optL])) hq (Nat.le_refl _)).2
                    simp [Instr.sliceBounds, h2, h4]
              | some x' =>
                cases hi with
                | none =>
                  cases mx with
                  | none =>
                    simp only [optL, Option.isSome, List.append_nil, List.map, bnds, Option.map_eq_some_iff] at hb
                    obtain ⟨r, hr, hb⟩ := hb
                    simp at hb
                    obtain ⟨rfl, rfl, rfl⟩ := hb
                    have := (bnd_sound (P := P) (he x' (by simp [optL])) hr (Nat.le_refl _)).2
                    simp [Instr.sliceBounds, this]
                  | some x => simp [optL, bnds] at hb
                | some y =>
                  cases mx with
                  | none =>
                    simp only [optL, Option.isSome, List.append_nil, List.map, List.cons_append, List.nil_append, bnds, Option.bind_eq_some_iff, Option.map_eq_some_iff] at hb
                    obtain ⟨r, hr, q, hq, hb⟩ := hb
                    simp at hb
                    obtain ⟨rfl, rfl, rfl⟩ := hb
                    have h2 := (bnd_sound (P := P) (he y (by simp [optL])) hr (Nat.le_refl _)).2
                    have h4 := (bnd_sound (P := P) (he x' (by simp [optL])) hq (Nat.le_refl _)).2
                    simp [Instr.sliceBounds, h2, h4]
                  | some z =>
                    simp only [optL, Option.isSome, List.map, List.cons_append, List.nil_append, bnds, Option.bind_eq_some_iff, Option.map_eq_some_iff] at hb
                    obtain ⟨r, hr, q, hq, s, hs', hb⟩ := hb
                    simp at hb
                    obtain ⟨rfl, rfl, rfl⟩ := hb
                    have h2 := (bnd_sound (P := P) (he z (by simp [optL])) hr (Nat.le_refl _)).2
                    have h4 := (bnd_sound (P := P) (he y (by simp [optL])) hq (Nat.le_refl _)).2
                    have h6 := (bnd_sound (P := P) (he x' (by simp [optL])) hs' (Nat.le_refl _)).2
                    simp [Instr.sliceBounds, h2, h4, h6]
            refine ⟨.slice none (h - l) (m - l), by simp [VR], ?_⟩
            simp [execOp, ho, Instr.sliceAt, Instr.slice, run_under hu, hx, key, run_size hn]
        · rename_i a len cap vs e1
          simp only [List.cons.injEq] at e1
          obtain ⟨e1, e2⟩ := e1
          rw [e1] at hx
          subst e2
          obtain ⟨hsp, hlc, lc, a', c', hl, hcc, ha', hfit, h'⟩ := hx.slice_inv
          cases hg : (plainAddr a && rowEsz A a.block n) with
          | false => rw [hg] at hf; simp at hf
          | true =>
            rw [hg, cond_true] at hf
            obtain ⟨_, hesz⟩ := Bool.and_eq_true_iff.1 hg
            obtain ⟨cs, own, kin, hrow⟩ := rowEsz_eq hesz
            obtain ⟨l2, hl2, ok⟩ := hs.row _ _ _ _ _ hrow
            rw [hl] at hl2; simp at hl2; subst hl2
            have hez : lc.esz = n := ok.esz
            obtain ⟨⟨l, h, m⟩, hb, rfl⟩ := Option.map_eq_some_iff.1 hf
            obtain ⟨h1, h2, h3, h4, h5, h6, h7⟩ := bnds_sound (P := P) he.tail hb hcc hlc
            generalize hm' : cond mx.isSome m c' = m' at h4 h5 h7
            refine ⟨.slice (some (if m' = l then a' else a'.add (l * n))) (h - l) (m' - l), ?_, ?_⟩
            · simp only [VR]
              refine ⟨trivial, by omega, lc, _, m' - l, hl, by omega, fun hne => ?_, ?_, rfl⟩
              · rw [if_neg (by omega), ha' (by omega), addr_add_mid]
                simp only [Nat.add_assoc]
              · rw [hez]
                rw [hez] at hfit
                have e5 : l * n + (m' - l) * n = m' * n := by rw [← Nat.add_mul]; congr 1; omega
                have e6 : m' * n ≤ c' * n := Nat.mul_le_mul_right _ h5
                omega
            · simp only [execOp, ho, Instr.sliceAt, Instr.slice, Sem.run_bind, run_under hu, Result.andThen_ok, h', h7, run_size hn]
              by_cases hml : m' = l <;> simp [hml]
        · simp at hf
    · trivial
  · rename_i len e hu
    split
    · rename_i n hn
      cases hpos : Nat.ble 1 n with
      | false => exact True.intro
      | true =>
        rw [cond_true]
        intro ρ A base w ev ev' v hs he hf
        have hx := he x (by simp)
        simp only [List.map, fSliceArr] at hf
        split at hf
        · rename_i a vs e1
          simp only [List.cons.injEq] at e1
          obtain ⟨e1, e2⟩ := e1
          rw [e1] at hx
          subst e2
          obtain ⟨hsp, lc, hl, h'⟩ := hx.ptr_inv
          cases hg : (plainAddr a && rowEsz A a.block n && Nat.ble (a.off + len * n) (rowLen A a.block)) with
          | false => rw [hg] at hf; simp at hf
          | true =>
            rw [hg, cond_true] at hf
            simp only [Bool.and_eq_true] at hg
            obtain ⟨⟨_, hesz⟩, hlen⟩ := hg
            obtain ⟨cs, own, kin, hrow⟩ := rowEsz_eq hesz
            obtain ⟨l2, hl2, ok⟩ := hs.row _ _ _ _ _ hrow
            rw [hl] at hl2; simp at hl2; subst hl2
            have hez : lc.esz = n := ok.esz
            have hlen := Nat.le_of_ble_eq_true hlen
            have hrl : rowLen A a.block = cs.length := by unfold rowLen; rw [hrow]
            rw [hrl] at hlen
            have hft := ok.fits
            obtain ⟨⟨l, h, m⟩, hb, rfl⟩ := Option.map_eq_some_iff.1 hf
            obtain ⟨h1, h2, h3, h4, h5, h6, h7⟩ := bnds_sound (P := P) he.tail hb (Nat.le_refl _) (Nat.le_refl _)
            have hm : cond mx.isSome m len = m := by cases hmx : mx.isSome <;> simp; exact (h6 hmx).symm
            rw [hm] at h7
            refine ⟨.slice (some (if m = l then ⟨lc.cb, lc.coff + a.off, none⟩ else (⟨lc.cb, lc.coff + a.off, none⟩ : Addr).add (l * n))) (h - l) (m - l), ?_, ?_⟩
            · simp only [VR]
              refine ⟨trivial, by omega, lc, _, m - l, hl, Nat.le_refl _, fun hne => ?_, ?_, rfl⟩
              · rw [if_neg (by omega), addr_add_mid]
                simp only [Nat.add_assoc]
              · rw [hez]
                have e5 : l * n + (m - l) * n = m * n := by rw [← Nat.add_mul]; congr 1; omega
                have e6 : m * n ≤ len * n := Nat.mul_le_mul_right _ h3
                omega
            · simp only [execOp, ho, Instr.sliceAt, Sem.run_bind, run_under hu, Result.andThen_ok, h', Instr.sureAddr, Sem.run_pure, h7, run_size hn]
        · simp at hf
    · trivial
  · rename_i hu
    cases hmx : mx with
    | some z => exact True.intro
    | none =>
      show InsOk P o (.pure (fSliceStr lo.isSome hi.isSome) (x :: (optL lo ++ optL hi)))
      intro ρ ev ev' v he hf
      have hx := he x (by simp)
      simp only [List.map, fSliceStr] at hf
      split at hf
      · rename_i s vs e1
        simp only [List.cons.injEq] at e1
        obtain ⟨e1, e2⟩ := e1
        rw [e1] at hx
        have hx := hx.string_inv
        subst e2
        obtain ⟨⟨l, h, m⟩, hb, rfl⟩ := Option.map_eq_some_iff.1 hf
        have he' : EvOn ρ ev ev' (optL lo ++ optL hi ++ optL (none : Option Operand)) := by simpa [optL] using he.tail
        obtain ⟨h1, h2, h3, h4, h5, h6, h7⟩ := bnds_sound (P := P) (mx := none) he' (by simpa [optL] using hb) (Nat.le_refl _) (Nat.le_refl _)
        simp only [Option.isSome_none, cond_false, Option.map_none] at h7
        refine ⟨.string (s.extract l h), ?_, fun w => ?_⟩
        · have e : (⟨⟨(s.data.toList.drop l).take (h - l)⟩⟩ : ByteArray) = s.extract l h := by
            apply ByteArray.ext
            apply Array.ext'
            simp [ByteArray.data_extract, List.extract_eq_take_drop]
          rw [e]
          simp [VR]
        · simp [execOp, ho, Instr.sliceAt, Instr.slice, run_under hu, hx, hmx, h7]
      · simp at hf
  · trivial

/-! ## make -/
theorem ok_makeSlice {t : TypeId} {l c : Operand} (ho : o.op = .makeSlice t l c) : InsOk P o (insMakeSlice P t l c) := by
  unfold insMakeSlice
  split
  · rename_i e hu
    split
    · rename_i i hi
      split
      · rename_i z hz
        cases hc : (Nat.ble 1 i.size && Nat.ble 1 i.bytes && Nat.beq z.cells.size i.size && flat z && z.cells.toList.all scalar) with
        | false => exact True.intro
        | true =>
          rw [cond_true]
          simp only [Bool.and_eq_true] at hc
          obtain ⟨⟨⟨⟨h1, h2⟩, h3⟩, h4⟩, h5⟩ := hc
          have hn : 1 ≤ i.size := Nat.le_of_ble_eq_true h1
          have hb : 1 ≤ i.bytes := Nat.le_of_ble_eq_true h2
          have hzs : z.cells.size = i.size := Nat.eq_of_beq_eq_true h3
          rw [List.all_eq_true] at h5
          intro ρ ev ev' obj mk he hf
          simp only [List.map, fMakeSlice] at hf
          split at hf
          · rename_i k1 l0 k2 c0 e1
            simp only [List.cons.injEq, and_true] at e1
            cases hk : (Nat.ble l0 c0 && Nat.ble (i.bytes * c0) 281474976710656) with
            | false => rw [hk] at hf; simp at hf
            | true =>
              rw [hk, cond_true] at hf
              obtain ⟨hk1, hk2⟩ := Bool.and_eq_true_iff.1 hk
              have hle : l0 ≤ c0 := Nat.le_of_ble_eq_true hk1
              have hbc : i.bytes * c0 ≤ 281474976710656 := Nat.le_of_ble_eq_true hk2
              simp only [Option.some.injEq, Prod.mk.injEq] at hf
              obtain ⟨rfl, rfl⟩ := hf
              have hl := he l (by simp)
              have hcc := he c (by simp)
              rw [e1.1] at hl
              rw [e1.2] at hcc
              have hl := hl.int_inv
              have hcc := hcc.int_inv
              have e2 : madeCells z.cells (c0 * i.size) = ⟨repeatL z.cells.toList c0⟩ := by
                unfold madeCells
                rw [← hzs]
                exact repeat_eq z.cells c0 (by omega)
              have hc0 : c0 ≤ i.bytes * c0 := Nat.le_mul_of_pos_left _ hb
              have elen : ∀ (z : List Value) (k : Nat), (repeatL z k).length = k * z.length := by
                intro z k
                induction k with
                | zero => simp [repeatL]
                | succ k ih => simp [repeatL, ih, Nat.succ_mul, Nat.add_comm]
              have emem : ∀ (z : List Value) (k : Nat) (v : Value), v ∈ repeatL z k → v ∈ z := by
                intro z k v
                induction k with
                | zero => simp [repeatL]
                | succ k ih => simp only [repeatL, List.mem_append]; exact fun h => h.elim id ih
              refine ⟨.cells ⟨repeatL z.cells.toList c0⟩ e, fun b => .slice (some ⟨b, 0, none⟩) l0 c0, ⟨_, e, rfl, VRL.repeat (cells_flat h4) c0, fun v hv => h5 v (emem _ _ _ hv)⟩, fun w => ?_, fun ρ' n cb hρ => ?_⟩
              · have hr := run_make (P := P) w t e i z hu hi hz k1 k2 (l0 : Int) (c0 : Int) (by omega) (by omega) (by rw [← Int.natCast_mul]; exact Int.ofNat_le.2 hbc) (by omega)
                have hl' : ev' l = .int k1 (l0 : Int) := hl
                have hc' : ev' c = .int k2 (c0 : Int) := hcc
                simp only [Int.toNat_natCast, e2] at hr
                simp [execOp, ho, hl', hc', hr]
              · simp only [VR]
                refine ⟨trivial, hle, _, ⟨cb, 0, none⟩, c0, hρ, Nat.le_refl _, fun _ => rfl, ?_, rfl⟩
                show 0 + 0 + c0 * i.size ≤ (repeatL z.cells.toList c0).length
                rw [elen]
                simp [hzs]
          · simp at hf
      · trivial
    · trivial
  · trivial

theorem ok_iface {t : TypeId} {x : Operand} (ho : o.op = .makeInterface t x) : InsOk P o (insIface P t x) := by
  unfold insIface
  split
  · trivial
  · rename_i d hu hd
    intro ρ ev ev' v he hf
    simp [fIface] at hf
    subst hf
    refine ⟨.iface t (ev' x), by simp only [VR]; exact ⟨_, he x (by simp), rfl⟩, fun w => ?_⟩
    simp only [execOp, ho, Instr.makeInterface, Sem.run_bind, run_under hd, Result.andThen_ok]
    cases d <;> first | rfl | exact absurd rfl (hu _)
  · trivial

theorem fPure_sound {ρ : Ren} {s : List Value → Sem Value} {vs vs' : List Value} {v : Value} (hv : VRL ρ vs vs') (h : fPure P s vs = some v) : VR ρ v v ∧ ∀ w, (s vs').run P w = .ok v w := by
  unfold fPure at h
  cases hf : flatL vs with
  | false => rw [hf] at h; simp at h
  | true =>
    rw [hf, cond_true] at h
    obtain ⟨u, hu, h⟩ := Option.bind_eq_some_iff.1 h
    cases hfu : flat u with
    | false => rw [hfu] at h; simp at h
    | true =>
      rw [hfu] at h
      simp at h
      subst h
      rw [VRL.flat_eq hf hv]
      exact ⟨VR.of_flat hfu, fun w => pureRun_run hu w⟩
theorem ok_min {argTypes : Array TypeId} {args : Array Operand} (ho : o.op = .call ⟨.builtin .min, args, argTypes⟩) : InsOk P o (.pure (fPure P fun vs => Builtin.min_ #[] 0 ⟨vs⟩) args.toList) := by
  intro ρ ev ev' v he hf
  obtain ⟨h1, h2⟩ := fPure_sound he.map hf
  refine ⟨v, h1, fun w => ?_⟩
  have h3 := h2 w
  simp only [Builtin.min_] at h3
  simp only [execOp, ho, resolve, Sem.run_bind, Sem.run_pure, Result.andThen_ok, invoke, builtin, Builtin.min_, evmap_toArray]
  simp only [h3, Result.andThen_ok]
theorem ok_max {argTypes : Array TypeId} {args : Array Operand} (ho : o.op = .call ⟨.builtin .max, args, argTypes⟩) : InsOk P o (.pure (fPure P fun vs => Builtin.max_ #[] 0 ⟨vs⟩) args.toList) := by
  intro ρ ev ev' v he hf
  obtain ⟨h1, h2⟩ := fPure_sound he.map hf
  refine ⟨v, h1, fun w => ?_⟩
  have h3 := h2 w
  simp only [Builtin.max_] at h3
  simp only [execOp, ho, resolve, Sem.run_bind, Sem.run_pure, Result.andThen_ok, invoke, builtin, Builtin.max_, evmap_toArray]
  simp only [h3, Result.andThen_ok]

/-! ## append and copy -/
theorem lenA_sound {ρ : Ren} {x x' : Value} {k : Nat} (hx : VR ρ x x') (h : lenA x = some k) : Builtin.lenOf x' = Sem.pure k := by
  unfold lenA at h
  split at h
  · obtain ⟨a', c', rfl⟩ := len_slice hx
    simp at h; subst h; rfl
  · have := hx.string_inv
    subst this
    simp at h; subst h; rfl
  · simp at h
theorem firstA_sound {ρ : Ren} {A : St} {base : Nat} {w : World} {n k : Nat} {x x' : Value} {new : List Value} (hs : Rel ρ A.get A.members base w) (hx : VR ρ x x') (h : firstA A n k x = some new)
    (hk : ∀ m, lenA x = some m → k ≤ m) (hn : 1 ≤ n) : ∃ new', VRL ρ new new' ∧ (∀ v ∈ new, scalar v = true) ∧ new.length = k * n ∧ (Builtin.firstCells n k x').run P w = .ok new'.toArray w := by
  unfold firstA at h
  split at h
  · rename_i a len cap
    obtain ⟨hsp, hlc, lc, a', c', hl, hcc, ha', hfit, rfl⟩ := hx.slice_inv
    have hkl := hk len rfl
    obtain ⟨cs', h1, h2, h3, h4⟩ := loadN_sound (P := P) hs h hl
    refine ⟨cs', h1, h3, h2, ?_⟩
    simp only [Builtin.firstCells]
    by_cases hc : c' = 0
    · have hk0 : k = 0 := by omega
      subst hk0
      have hnew : new = [] := by rw [Nat.zero_mul] at h2; exact List.eq_nil_of_length_eq_zero h2
      subst hnew
      rw [h1.nil_inv, Nat.zero_mul]
      exact run_loadCells_list w a' [] (by simp)
    · rw [ha' hc]; exact h4
  · rename_i len cap
    have := hx.slice_nil_inv
    subst this
    cases hb : Nat.beq k 0 with
    | false => rw [hb] at h; simp at h
    | true =>
      rw [hb] at h
      simp at h
      subst h
      have hk0 := Nat.eq_of_beq_eq_true hb
      subst hk0
      exact ⟨[], .nil, by simp, by simp, run_firstCells_none w n 0 len cap⟩
  · rename_i s
    have := hx.string_inv
    subst this
    cases hb : Nat.beq n 1 with
    | false => rw [hb] at h; simp at h
    | true =>
      rw [hb] at h
      simp at h
      have hn1 := Nat.eq_of_beq_eq_true hb
      subst hn1
      have hks := hk s.size rfl
      have hsz : s.data.size = s.size := rfl
      have fl : ∀ l : List UInt8, VRL ρ (l.map fun b => Value.int .u8 b.toNat) (l.map fun b => Value.int .u8 b.toNat) := by
        intro l
        induction l with
        | nil => exact .nil
        | cons x l ih => exact .cons (by simp [VR]) ih
      subst h
      refine ⟨((s.data.toList.take k).map fun b => .int .u8 b.toNat), by simpa using fl (s.data.toList.take k), ?_, ?_, ?_⟩
      · intro v hv
        obtain ⟨b, _, rfl⟩ := List.mem_map.1 (by first | exact hv | exact List.mem_of_mem_take hv)
        rfl
      · simp; omega
      · simp only [Builtin.firstCells]
        rw [Sem.run_pure]
        congr 1
        apply Array.ext'
        simp [ByteArray.data_extract, List.extract_eq_take_drop]
  · simp at h

/-- THERE IS ROOM. -/
theorem run_append_here (t u ty e : TypeId) (i : TypeInfo) (ht : P.underlying t = some (.slice e)) (hi : P.info? e = some i) (hu : isSrc P u = true) (base : Option Addr) (sLen sCap : Nat) (x : Value) (n : Nat) (news : List Value)
    (hlen : Builtin.lenOf x = Sem.pure n) (w : World) (hcells : (Builtin.firstCells i.size n x).run P w = .ok news.toArray w) (hroom : sLen + n ≤ sCap) :
    (Builtin.append_ #[t, u] ty #[.slice base sLen sCap, x]).run P w = (((match base with | some a => storeCells (a.add (sLen * i.size)) news | none => pure () : Sem Unit).run P w).andThen fun _ w => .ok (.slice base (sLen + n) sCap) w) := by
  have hk : (∃ e', P.underlying u = some (.slice e')) ∨ P.underlying u = some .string := by
    unfold isSrc at hu
    split at hu
    · rename_i e' h; exact .inl ⟨_, h⟩
    · rename_i h; exact .inr h
    · simp at hu
  rcases hk with ⟨e', hk⟩ | hk <;> cases base <;> simp [Builtin.append_, run_under ht, run_under hk, sizeOf, typeInfo, hi, hlen, hroom, hcells]

/-- THERE IS NONE: a new row. -/
theorem run_append_anew (t u ty e : TypeId) (i : TypeInfo) (z : Value) (ht : P.underlying t = some (.slice e)) (hi : P.info? e = some i) (hz : i.zero = some z) (hu : isSrc P u = true) (base : Option Addr) (sLen sCap : Nat)
    (x : Value) (n : Nat) (olds news : List Value) (hlen : Builtin.lenOf x = Sem.pure n) (w : World) (hold : (Builtin.firstCells i.size sLen (.slice base sLen sCap)).run P w.drew = .ok olds.toArray w.drew)
    (hcells : (Builtin.firstCells i.size n x).run P w.drew = .ok news.toArray w.drew) (hg : sCap < sLen + n) (h63 : sLen + n ≤ 17592186044416) (hfit : Builtin.nextslicecap (sLen + n) sCap * i.bytes ≤ 281474976710656) :
    (Builtin.append_ #[t, u] ty #[.slice base sLen sCap, x]).run P w =
      .ok (.slice (some ⟨w.heap.size, 0, none⟩) (sLen + n) (grownCap w (sLen + n) sCap e))
        (w.drew.alloc (.cells ((olds ++ news).toArray ++ Builtin.zeroCells z.cells (grownCap w (sLen + n) sCap e - (sLen + n))) e)) := by
  have hk : (∃ e', P.underlying u = some (.slice e')) ∨ P.underlying u = some .string := by
    unfold isSrc at hu
    split at hu
    · rename_i e' h; exact .inl ⟨_, h⟩
    · rename_i h; exact .inr h
    · simp at hu
  have hn : ¬ (sLen + n ≤ sCap) := by omega
  have h63' : ¬ (9223372036854775807 < ((sLen : Int) + (n : Int))) := by omega
  have h48' : ¬ (281474976710656 < Builtin.nextslicecap (sLen + n) sCap * i.bytes) := by omega
  rcases hk with ⟨e', hk⟩ | hk <;>
    (simp [Builtin.append_, run_under ht, run_under hk, sizeOf, typeInfo, zeroValue, hi, hz, hlen, hn, h63', h48', Question.forced, hcells, hold, newRow, grownCap]
     congr 2
     apply Array.ext'
     simp [List.append_assoc])

theorem kill_goes {ρ : Ren} {A : St} {base : Nat} {w : World} (hs : Sim ρ A base w) (b lo hi : Nat) (L : List Nat) : Goes base ρ A w ρ (A.kill b lo hi L) w := by
  obtain ⟨hl1, hl2⟩ := kill_low b lo hi L A
  have hto : ∀ x o, (A.kill b lo hi L).get x = some o → o ≠ .dead → A.get x = some o := by
    intro x o hx hd
    rw [kill_get] at hx
    split at hx
    · simp at hx; exact absurd hx.symm hd
    · exact hx
  have hm : ∀ o : AObj, o.mine = true → o ≠ .dead := by intro o h e; subst e; simp [AObj.mine] at h
  refine ⟨⟨.of_obj (fun x o hx hd => hs.rel.obj (hto x o hx hd) hd) (fun b1 b2 o1 o2 l1 l2 hne g1 g2 m1 m2 => hs.rel.apart b1 b2 o1 o2 l1 l2 hne (hto _ _ g1 (hm _ m1)) (hto _ _ g2 (hm _ m2)) m1 m2) (fun x o fam f hx hk => ?_), fun x l h => ?_, hs.size, hs.glob⟩,
    fun _ _ => rfl, .refl _ _ _, by simp, hl1, fun x _ hx => ?_, fun k _ h => ?_⟩
  · rw [kill_members]; exact hs.rel.listed x o fam f (hto x o hx (by intro e; subst e; simp [AObj.kin?] at hk)) hk
  · rw [kill_next]; exact hs.dom x l h
  · cases Classical.em ((A.kill b lo hi L).get x = A.get x) with
    | inl h => exact h
    | inr h => have := hl2 x h; omega
  · obtain ⟨x, o, l, hx, hm', hr, e⟩ := h
    exact ⟨x, o, l, hto x o hx (hm _ hm'), hm', hr, e⟩

theorem grow_get (A : St) (fam f : Nat) (cs : List Value) (n x : Nat) : (A.grow fam f cs n).get x = if x = A.next then some (.row cs n true (some (fam, f))) else A.get x := by
  simp [St.grow]
theorem grow_members (A : St) (fam f : Nat) (cs : List Value) (n g : Nat) : (A.grow fam f cs n).members g = if g = fam then A.next :: A.members fam else A.members g := by
  simp only [St.grow, St.members_join, St.members_new]

/-- a new row that goes on behind what is known of it -/
theorem growNew_sound {ρ : Ren} {A : St} {base : Nat} {w : World} {cs cs' : List Value} {c : Array Value} {n fam f : Nat} (T : TypeId) (hs : Sim ρ A base w) (hc : VRL ρ cs cs') (h1 : ∀ v ∈ cs, scalar v = true)
    (hpre : ∀ (j : Nat) (v : Value), cs'[j]? = some v → c[j]? = some v) (hsz : cs.length ≤ c.size) :
    Goes base ρ A w (ρ.set A.next ⟨w.heap.size, 0, c.size, n⟩) (A.grow fam f cs n) (w.alloc (.cells c T)) := by
  refine new_sound (o := .row cs n true (some (fam, f))) hs (fun x => grow_get _ _ _ _ _ _) (fun g x h => ?_) (fun g f' h => ?_) (by simp [St.grow]) (by simp [St.grow]) (fun x hx _ => by rw [grow_get, if_neg (by omega)]) rfl ?_
  · rw [grow_members]; split
    · rename_i e; subst e; simp [h]
    · exact h
  · simp [AObj.kin?] at h; rw [grow_members, h.1]; simp
  · refine ⟨fun i v hi => ?_, fun h => by simp at h, fun _ => hs.size, fun _ j hj => ?_, by simpa using hsz, fun _ h => by simp at h, rfl, by simp, fun _ _ j => by simp only; rw [World.frozen?_alloc_new]⟩
    · obtain ⟨v', h2, h3⟩ := hc.get hi
      refine ⟨v', ?_, h3.mono (hs.le_set _), h1 v (List.mem_of_getElem? hi)⟩
      rw [Nat.zero_add, World.cell?_alloc_new]
      exact hpre i v' h2
    · simp only at hj ⊢
      rw [World.cell?_alloc_new, World.frozen?_alloc_new]
      refine ⟨?_, rfl⟩
      rw [Array.getElem?_eq_getElem (by omega)]
      rfl

/-- a row that goes on in the old one's place -/
theorem graft_sound {ρ : Ren} {A : St} {base : Nat} {w : World} {b aoff s esz fam f : Nat} {cs old old' new new' : List Value} {l : Loc}
    (hs : Sim ρ A base w) (hg : A.get b = some (.row cs esz true (some (fam, f)))) (hρ : ρ b = some l)
    (hold : VRL ρ old old') (ho1 : ∀ v ∈ old, scalar v = true) (hol : old.length = s) (hoc : ∀ j v', old'[j]? = some v' → w.cell? ⟨l.cb, l.coff + aoff + j, none⟩ = some v')
    (hnew : VRL ρ new new') (hn1 : ∀ v ∈ new, scalar v = true) (hfit : l.coff + aoff + s + new.length ≤ l.csize) :
    Goes base ρ A w (ρ.set A.next ⟨l.cb, l.coff + aoff, l.csize, esz⟩) ((A.kill A.next (f + (aoff + s)) (f + (aoff + s) + new.length) (A.members fam)).grow fam (f + aoff) (old ++ new) esz) (w.setCells l.cb (l.coff + aoff + s) new') := by
  obtain ⟨l', hl', ok⟩ := hs.rel.row _ _ _ _ _ hg
  rw [hρ] at hl'; simp at hl'; subst hl'
  have hvl : new'.length = new.length := hnew.length
  have hovl : old'.length = s := by rw [hold.length, hol]
  have hbn : b < A.next := hs.dom b l hρ
  have hmineb : AObj.mine (.row cs esz true (some (fam, f))) = true := rfl
  have hB : ∀ x, ((A.kill A.next (f + (aoff + s)) (f + (aoff + s) + new.length) (A.members fam)).grow fam (f + aoff) (old ++ new) esz).get x =
      if x = A.next then some (.row (old ++ new) esz true (some (fam, f + aoff))) else (A.kill A.next (f + (aoff + s)) (f + (aoff + s) + new.length) (A.members fam)).get x := by
    intro x; rw [grow_get, kill_next]
  have hBm : ∀ g, ((A.kill A.next (f + (aoff + s)) (f + (aoff + s) + new.length) (A.members fam)).grow fam (f + aoff) (old ++ new) esz).members g = if g = fam then A.next :: A.members fam else A.members g := by
    intro g; rw [grow_members, kill_next, kill_members]
  have hBn : ((A.kill A.next (f + (aoff + s)) (f + (aoff + s) + new.length) (A.members fam)).grow fam (f + aoff) (old ++ new) esz).next = A.next + 1 := by
    simp [St.grow]
  have hkl := kill_low A.next (f + (aoff + s)) (f + (aoff + s) + new.length) (A.members fam) A
  have hBl : ((A.kill A.next (f + (aoff + s)) (f + (aoff + s) + new.length) (A.members fam)).grow fam (f + aoff) (old ++ new) esz).low = (A.kill A.next (f + (aoff + s)) (f + (aoff + s) + new.length) (A.members fam)).low := rfl
  have hAK : ∀ x, x ≠ A.next → (A.kill A.next (f + (aoff + s)) (f + (aoff + s) + new.length) (A.members fam)).get x = if x ∈ A.members fam ∧ stale (A.get x) (f + (aoff + s)) (f + (aoff + s) + new.length) = true then some .dead else A.get x := by
    intro x hx; rw [kill_get]; simp [hx]
  generalize ((A.kill A.next (f + (aoff + s)) (f + (aoff + s) + new.length) (A.members fam)).grow fam (f + aoff) (old ++ new) esz) = B at hB hBm hBn hBl
  generalize (A.kill A.next (f + (aoff + s)) (f + (aoff + s) + new.length) (A.members fam)) = K at hB hBl hkl hAK
  have hle := hs.le_set (⟨l.cb, l.coff + aoff, l.csize, esz⟩ : Loc)
  have hother : ∀ x o, x ≠ A.next → B.get x = some o → o ≠ .dead → A.get x = some o ∧ (x ∈ A.members fam → stale (some o) (f + (aoff + s)) (f + (aoff + s) + new.length) = false) := by
    intro x o hx ho hd
    rw [hB, if_neg hx, hAK x hx] at ho
    split at ho
    · simp at ho; exact absurd ho.symm hd
    · rename_i hc
      refine ⟨ho, fun hm => ?_⟩
      rw [← ho]
      cases hst : stale (A.get x) (f + (aoff + s)) (f + (aoff + s) + new.length) with
      | false => rfl
      | true => exact absurd ⟨hm, hst⟩ hc
  have hcell : ∀ x : Addr, (x.block = l.cb → x.spot = none → x.off < l.coff + aoff + s ∨ l.coff + aoff + s + new'.length ≤ x.off) → (w.setCells l.cb (l.coff + aoff + s) new').cell? x = w.cell? x :=
    fun x h => World.cell?_setCells_out _ _ _ _ _ h
  have hsome : ∀ x, ((w.setCells l.cb (l.coff + aoff + s) new').cell? x).isSome = (w.cell? x).isSome := fun x => setCells_isSome _ _ _ _ _
  have hfr : ∀ x, (w.setCells l.cb (l.coff + aoff + s) new').frozen? x = w.frozen? x := fun x => World.frozen?_setCells _ _ _ _ _
  have hsz : (w.setCells l.cb (l.coff + aoff + s) new').heap.size = w.heap.size := setCells_size _ _ _ _
  have hmd : ∀ o : AObj, o.mine = true → o ≠ .dead := by intro o h e; subst e; simp [AObj.mine] at h
  -- who shares the block is of the family, in its place
  have hfam : ∀ x o l2, A.get x = some o → o.mine = true → ρ x = some l2 → l2.cb = l.cb → ∃ f2, o.kin? = some (fam, f2) ∧ l2.coff + f = l.coff + f2 := by
    intro x o l2 hx hm hr hcb
    by_cases hxb : x = b
    · subst hxb
      rw [hg] at hx; simp at hx; subst hx
      rw [hρ] at hr; simp at hr; subst hr
      exact ⟨f, rfl, rfl⟩
    · obtain ⟨g, f1, f2, e1, e2, e3⟩ := hs.rel.apart x b _ _ l2 l hxb hx hg hm hmineb hr hρ hcb
      simp [AObj.kin?] at e2
      obtain ⟨rfl, rfl⟩ := e2
      exact ⟨f1, e1, e3⟩
  have hfar : ∀ x cs2 e2 own2 kin2 l2, x ≠ A.next → B.get x = some (.row cs2 e2 own2 kin2) → ρ x = some l2 → RowOk ρ base w l2 cs2 e2 own2 kin2 → ∀ i, i < cs2.length →
      (w.setCells l.cb (l.coff + aoff + s) new').cell? ⟨l2.cb, l2.coff + i, none⟩ = w.cell? ⟨l2.cb, l2.coff + i, none⟩ := by
    intro x cs2 e2 own2 kin2 l2 hx hgx hρx ok2 i hi
    refine hcell _ (fun hbl _ => ?_)
    simp only at hbl ⊢
    obtain ⟨hA, hst⟩ := hother x _ hx hgx (by simp)
    cases own2 with
    | false => have h3 := ok2.foreign rfl; have h4 := ok.mine rfl; omega
    | true =>
      obtain ⟨f2, e1, e3⟩ := hfam x _ l2 hA rfl hρx hbl
      simp only [AObj.kin?] at e1
      subst e1
      have hm := hs.rel.listed x _ fam f2 hA rfl
      have := stale_false rfl (hst hm)
      rw [hvl]
      omega
  refine ⟨⟨.of_obj ?_ ?_ ?_, ?_, ?_, hs.glob.mono (hs.le_set _)⟩, ?_, ⟨(setCells_os _ _ _ _).1, (setCells_os _ _ _ _).2.1, (setCells_os _ _ _ _).2.2, Nat.le_of_eq hsz.symm, ?_⟩, ?_, ?_, ?_, ?_⟩
  · intro x o hgx hd
    by_cases hx : x = A.next
    · subst hx
      rw [hB, if_pos rfl] at hgx
      simp at hgx
      subst hgx
      refine ⟨_, Ren.set_same _ _ _, fun i v hi => ?_, fun h => by simp at h, fun _ => ok.mine rfl, fun _ j hj => ?_, ?_, fun _ h => by simp at h, rfl, by rw [hsz]; exact ok.lies, fun _ h2 j => by rw [hfr]; exact ok.mark rfl (by rw [ok.esz]; exact h2) j⟩
      · have hall : VRL ρ (old ++ new) (old' ++ new') := hold.append hnew
        obtain ⟨v', h2, h3⟩ := hall.get hi
        refine ⟨v', ?_, h3.mono hle, ?_⟩
        · rw [List.getElem?_append] at h2
          split at h2
          · rename_i hlt
            rw [hcell _ (fun _ _ => by simp only; omega)]
            exact hoc i v' h2
          · rename_i hge
            have hlt : i - old'.length < new'.length := (List.getElem?_eq_some_iff.1 h2).1
            have := World.cell?_setCells_in l.cb new' (l.coff + aoff + s) w (fun j hj => (ok.there rfl (l.coff + aoff + s + j) (by rw [hvl] at hj; omega)).1) (i - old'.length) hlt
            have e : l.coff + aoff + s + (i - old'.length) = l.coff + aoff + i := by omega
            rw [e] at this
            rw [List.getElem?_eq_getElem hlt] at h2
            exact this.trans h2
        · rcases List.mem_append.1 (List.mem_of_getElem? hi) with h | h
          · exact ho1 v h
          · exact hn1 v h
      · rw [hsome, hfr]; exact ok.there rfl j hj
      · simp only [List.length_append, hol]; omega
    · obtain ⟨hA, hst⟩ := hother x o hx hgx hd
      obtain ⟨l2, hr2, ok2⟩ := hs.rel.obj hA hd
      refine ⟨l2, hle _ _ hr2, ?_⟩
      cases o with
      | row cs2 e2 own2 kin2 =>
        have ok2 : RowOk ρ base w l2 cs2 e2 own2 kin2 := ok2
        refine ⟨fun i v hi => ?_, ok2.foreign, ok2.mine, fun h j hj => ?_, ok2.fits, ok2.ends, ok2.esz, by rw [hsz]; exact ok2.lies, fun h1 h2 j => by rw [hfr]; exact ok2.mark h1 h2 j⟩
        · obtain ⟨v', h3, h4, h5⟩ := ok2.cells i v hi
          exact ⟨v', by rw [hfar x _ _ _ _ l2 hx hgx hr2 ok2 i (List.getElem?_eq_some_iff.1 hi).1]; exact h3, h4.mono hle, h5⟩
        · rw [hsome, hfr]; exact ok2.there h j hj
      | map es =>
        have ok2 : MapOk ρ base w l2 es := ok2
        obtain ⟨es', clock, h3, h4⟩ := ok2.lies
        refine ⟨ok2.mine, es', clock, ?_, h4.mono hle⟩
        rw [setCells_heap]
        · exact h3
        · intro e
          obtain ⟨_, e1, _⟩ := hfam x _ l2 hA rfl hr2 e
          simp [AObj.kin?] at e1
      | iter st pos =>
        have ok2 : IterOk base w l2 st pos := ok2
        refine ⟨ok2.mine, ok2.lies.1, ?_⟩
        rw [setCells_heap]
        · exact ok2.lies.2
        · intro e
          obtain ⟨_, e1, _⟩ := hfam x _ l2 hA rfl hr2 e
          simp [AObj.kin?] at e1
      | dead => exact absurd rfl hd
      | loop st0 e0 t0 ps0 a0 c0 =>
        have ok2 : LoopOk ρ base w l2 st0 e0 t0 ps0 a0 c0 := ok2
        obtain ⟨fn, tmps, D, N, h3, h4⟩ := ok2.lies
        refine ⟨ok2.mine, fn, tmps, D, N, ?_, h4.mono hle⟩
        rw [setCells_heap]
        · exact h3
        · intro e
          obtain ⟨_, e1, _⟩ := hfam x _ l2 hA rfl hr2 e
          simp [AObj.kin?] at e1
  · intro b1 b2 o1 o2 l1 l2 hne g1 g2 m1 m2 r1 r2 hcb
    by_cases e1 : b1 = A.next
    · have e2 : b2 ≠ A.next := fun e => hne (e1.trans e.symm)
      subst e1
      rw [hB, if_pos rfl] at g1
      simp at g1; subst g1
      rw [Ren.set_same] at r1; simp at r1; subst r1
      rw [Ren.set_other _ _ e2] at r2
      obtain ⟨hA, _⟩ := hother b2 o2 e2 g2 (hmd _ m2)
      obtain ⟨f2, k1, k2⟩ := hfam b2 o2 l2 hA m2 r2 hcb.symm
      exact ⟨fam, f + aoff, f2, rfl, k1, by simp only; omega⟩
    · rw [Ren.set_other _ _ e1] at r1
      obtain ⟨hA1, _⟩ := hother b1 o1 e1 g1 (hmd _ m1)
      by_cases e2 : b2 = A.next
      · subst e2
        rw [hB, if_pos rfl] at g2
        simp at g2; subst g2
        rw [Ren.set_same] at r2; simp at r2; subst r2
        obtain ⟨f2, k1, k2⟩ := hfam b1 o1 l1 hA1 m1 r1 hcb
        exact ⟨fam, f2, f + aoff, k1, rfl, by simp only; omega⟩
      · rw [Ren.set_other _ _ e2] at r2
        obtain ⟨hA2, _⟩ := hother b2 o2 e2 g2 (hmd _ m2)
        exact hs.rel.apart b1 b2 o1 o2 l1 l2 hne hA1 hA2 m1 m2 r1 r2 hcb
  · intro x o g fx hx hk
    rw [hBm]
    by_cases e : x = A.next
    · subst e
      rw [hB, if_pos rfl] at hx
      simp at hx; subst hx
      simp [AObj.kin?] at hk
      rw [if_pos hk.1.symm]
      simp
    · have := hs.rel.listed x o g fx (hother x o e hx (by intro e; subst e; simp [AObj.kin?] at hk)).1 hk
      split
      · rename_i e2; subst e2; simp [this]
      · exact this
  · intro x l2 h
    rw [hBn]
    by_cases e : x = A.next
    · omega
    · rw [Ren.set_other _ _ e] at h; have := hs.dom x l2 h; omega
  · rw [hsz]; exact hs.size
  · intro x hx; exact Ren.set_other _ _ (by omega)
  · intro k hk hn
    exact setCells_heap _ (fun e => hn ⟨b, _, l, hg, rfl, hρ, e.symm⟩) _ _ _
  · omega
  · rw [hBl]; exact hkl.1
  · intro x hx hxl
    rw [hB, if_neg (by omega)]
    cases Classical.em (K.get x = A.get x) with
    | inl h => exact h
    | inr h => have := hkl.2 x h; omega
  · rintro k hk ⟨x, o, l2, hx, hm, hr, rfl⟩
    by_cases e : x = A.next
    · subst e
      rw [Ren.set_same] at hr; simp at hr; subst hr
      exact ⟨b, _, l, hg, rfl, hρ, rfl⟩
    · rw [Ren.set_other _ _ e] at hr
      exact ⟨x, o, l2, (hother x o e hx (hmd _ hm)).1, hm, hr, rfl⟩

theorem storeN_nil {A B : St} {a : Addr} (h : A.storeN a [] = some B) : plainAddr a = true := by
  unfold St.storeN at h
  cases hp : plainAddr a with
  | true => rfl
  | false => rw [hp] at h; simp at h
theorem plain_eq {a : Addr} (h : plainAddr a = true) : a.spot = none := by
  unfold plainAddr at h
  simpa using h

theorem loadCells_cell (w : World) (a : Addr) (n : Nat) (cs : List Value) (h : ∀ j, j < n → (w.cell? (a.add j)).isSome = true) (hr : (loadCells a n).run P w = .ok cs.toArray w) (j : Nat) (v : Value) (hj : cs[j]? = some v) :
    w.cell? (a.add j) = some v := by
  have h1 := run_loadCells (P := P) w a n (fun j => (w.cell? (a.add j)).getD undef) (fun j hj => by
    have := h j hj
    cases hc : w.cell? (a.add j) with
    | none => rw [hc] at this; simp at this
    | some u => rfl)
  rw [hr] at h1
  simp only [Result.ok.injEq, and_true] at h1
  have h2 : cs = (List.range n).map fun j => (w.cell? (a.add j)).getD undef := by
    have := congrArg Array.toList h1
    simpa using this
  rw [h2, List.getElem?_map] at hj
  cases hq : (List.range n)[j]? with
  | none => rw [hq] at hj; simp at hj
  | some m =>
    rw [hq] at hj
    have hlt : j < n := by have := (List.getElem?_eq_some_iff.1 hq).1; simpa using this
    have hm : m = j := by rw [List.getElem?_range hlt] at hq; simpa using hq.symm
    subst hm
    simp at hj
    have := h m hlt
    cases hc : w.cell? (a.add m) with
    | none => rw [hc] at this; simp at this
    | some u => rw [hc] at hj; simpa using hj

theorem zeros_size (z : Array Value) (n : Nat) : (Builtin.zeroCells z n).size = n * z.size := size_zeroCells z n

theorem fAppend_sound {ρ : Ren} {A B : St} {base : Nat} {w : World} {t u ty e : TypeId} {i : TypeInfo} {z s x s' x' v : Value} (ht : P.underlying t = some (.slice e)) (hi : P.info? e = some i) (hz : i.zero = some z) (hu : isSrc P u = true)
    (hn : 1 ≤ i.size) (hzs : z.cells.size = i.size) (hsim : Sim ρ A base w) (hsv : VR ρ s s') (hxv : VR ρ x x') (hf : fAppend i.size i.bytes A [s, x] = some (v, B)) :
    ∃ ρ' v' w', (Builtin.append_ #[t, u] ty #[s', x']).run P w = .ok v' w' ∧ VR ρ' v v' ∧ Goes base ρ A w ρ' B w' := by
  unfold fAppend at hf
  split at hf
  · rename_i bs sLen sCap x0 e0
    simp at e0
    obtain ⟨rfl, rfl⟩ := e0
    obtain ⟨k, hk, hf⟩ := Option.bind_eq_some_iff.1 hf
    have hlen := lenA_sound hxv hk
    have hkk : ∀ m, lenA x = some m → k ≤ m := fun m h => by rw [hk] at h; simp at h; omega
    cases hroom : Nat.ble (sLen + k) sCap with
    | true =>
      rw [hroom, cond_true] at hf
      have hroom := Nat.le_of_ble_eq_true hroom
      obtain ⟨new, hnew, hf⟩ := Option.bind_eq_some_iff.1 hf
      obtain ⟨new', h1, h2, h3, h4⟩ := firstA_sound (P := P) hsim.rel hxv hnew hkk hn
      cases bs with
      | none =>
        simp at hf
        obtain ⟨rfl, rfl⟩ := hf
        have := hsv.slice_nil_inv
        subst this
        have hr := run_append_here (P := P) t u ty e i ht hi hu none sLen sCap x' k new' hlen w h4 hroom
        exact ⟨ρ, _, w, by rw [hr]; rfl, by simp [VR], .refl hsim⟩
      | some a =>
        simp only at hf
        cases hpa : plainAddr a with
        | false => rw [hpa] at hf; simp at hf
        | true =>
          rw [hpa, cond_true] at hf
          obtain ⟨B', hst, hf⟩ := Option.map_eq_some_iff.1 hf
          simp at hf
          obtain ⟨rfl, rfl⟩ := hf
          obtain ⟨hsp, hlc, lc, a', c', hl, hcc, ha', hfit, rfl⟩ := hsv.slice_inv
          have hr := run_append_here (P := P) t u ty e i ht hi hu (some a') sLen c' x' k new' hlen w h4 (by omega)
          obtain ⟨w', h5, h6⟩ := storeN_sound (P := P) (a := ⟨a.block, a.off + sLen * i.size, none⟩) hsim hst hl h1
          have hrun : (storeCells (a'.add (sLen * i.size)) new').run P w = .ok () w' := by
            by_cases hc : c' = 0
            · have : new' = [] := by
                apply List.eq_nil_of_length_eq_zero
                rw [h1.length, h3]
                have : k = 0 := by omega
                subst this; omega
              subst this
              exact h5
            · rw [ha' hc, addr_add_mid]
              simp only at h5
              rw [Nat.add_assoc]
              exact h5
          refine ⟨ρ, .slice (some a') (sLen + k) c', w', ?_, ?_, h6⟩
          · rw [hr]
            simp only [hrun, Result.andThen_ok]
          · simp only [VR]
            exact ⟨hsp, hroom, lc, a', c', hl, hcc, ha', hfit, rfl⟩
    | false =>
      rw [hroom, cond_false] at hf
      have hroom : sCap < sLen + k := by
        have : ¬ (sLen + k ≤ sCap) := fun h => by rw [Nat.ble_eq_true_of_le h] at hroom; simp at hroom
        omega
      cases hc : (Nat.ble ((sLen + k + 512) * i.bytes) 17592186044416 && Nat.ble (sLen + k) 17592186044416 && exactEnd A i.size sCap bs) with
      | false => rw [hc] at hf; simp at hf
      | true =>
        rw [hc, cond_true] at hf
        simp only [Bool.and_eq_true] at hc
        obtain ⟨⟨hb1, hb2⟩, hex⟩ := hc
        have hb1 := Nat.le_of_ble_eq_true hb1
        have hb2 := Nat.le_of_ble_eq_true hb2
        have hbytes : (sLen + k) * i.bytes ≤ 140737488355328 := by
          rw [Nat.add_mul] at hb1; omega
        obtain ⟨new, hnew, hf⟩ := Option.bind_eq_some_iff.1 hf
        obtain ⟨new', h1, h2, h3, h4⟩ := firstA_sound (P := P) hsim.rel hxv hnew hkk hn
        have hdr := Goes.drew (w := w) hsim
        obtain ⟨newd, g1, g2, g3, g4⟩ := firstA_sound (P := P) hdr.sim.rel hxv hnew hkk hn
        -- a new row
        have anew : ∀ (bs' : Option Addr) (c' : Nat) (olds olds' : List Value) (fam f : Nat) (K : St), K = A ∨ (∃ x lo hi L, K = A.kill x lo hi L) → VRL ρ olds olds' → (∀ v ∈ olds, scalar v = true) → olds.length = sLen * i.size →
            (Builtin.firstCells i.size sLen (.slice bs' sLen c')).run P w.drew = .ok olds'.toArray w.drew → c' < sLen + k →
            ∃ ρ' v' w', (Builtin.append_ #[t, u] ty #[.slice bs' sLen c', x']).run P w = .ok v' w' ∧ VR ρ' (.slice (some ⟨A.next, 0, none⟩) (sLen + k) (sLen + k)) v' ∧ Goes base ρ A w ρ' (K.grow fam f (olds ++ new) i.size) w' := by
          intro bs' c' olds olds' fam f K hK ho ho1 hol hrun hlt
          have hr := run_append_anew (P := P) t u ty e i z ht hi hz hu bs' sLen c' x' k olds' newd hlen w hrun g4 hlt hb2 (growslice_fits hlt hbytes)
          have hge := grownCap_ge w (sLen + k) c' e
          have hkg : Goes base ρ A w ρ K w.drew := by
            rcases hK with rfl | ⟨x, lo, hi, L, rfl⟩
            · exact hdr
            · exact (kill_goes hsim x lo hi L).trans (Goes.drew (kill_goes hsim x lo hi L).sim)
          have hKn : K.next = A.next := by
            rcases hK with rfl | ⟨x, lo, hi, L, rfl⟩
            · rfl
            · simp
          have hsize : ((olds' ++ newd).toArray ++ Builtin.zeroCells z.cells (grownCap w (sLen + k) c' e - (sLen + k))).size = grownCap w (sLen + k) c' e * i.size := by
            rw [Array.size_append, zeros_size, hzs, List.size_toArray, List.length_append, ho.length, g1.length, hol, g3]
            rw [← Nat.add_mul, ← Nat.add_mul]
            congr 1; omega
          have hgo := growNew_sound (w := w.drew) (n := i.size) (fam := fam) (f := f) (c := (olds' ++ newd).toArray ++ Builtin.zeroCells z.cells (grownCap w (sLen + k) c' e - (sLen + k))) e hkg.sim (ho.append g1)
            (fun v hv => (List.mem_append.1 hv).elim (ho1 v) (g2 v)) (fun j v hj => by
              rw [Array.getElem?_append_left (by have := (List.getElem?_eq_some_iff.1 hj).1; simpa using this)]
              simpa using hj) (by
              rw [hsize, List.length_append, hol, g3, ← Nat.add_mul]
              exact Nat.mul_le_mul_right _ hge)
          refine ⟨_, _, _, hr, ?_, hkg.trans hgo⟩
          simp only [VR]
          refine ⟨trivial, Nat.le_refl _, _, ⟨w.heap.size, 0, none⟩, grownCap w (sLen + k) c' e, by rw [hKn]; exact Ren.set_same _ _ _, hge, fun _ => rfl, ?_, rfl⟩
          rw [hsize]
          show 0 + 0 + grownCap w (sLen + k) c' e * i.size ≤ grownCap w (sLen + k) c' e * i.size
          omega
        unfold appGrow at hf
        cases bs with
        | none =>
          simp only at hf
          cases hs0 : Nat.beq sLen 0 with
          | false => rw [hs0] at hf; simp at hf
          | true =>
            rw [hs0, cond_true] at hf
            simp at hf
            obtain ⟨rfl, rfl⟩ := hf
            have hs0 := Nat.eq_of_beq_eq_true hs0
            have := hsv.slice_nil_inv
            subst this
            have hn' : Builtin.firstCells i.size sLen (.slice none sLen sCap) = pure #[] := rfl
            exact anew none sCap [] [] A.next 0 A (.inl rfl) .nil (by simp) (by rw [hs0]; simp) (by rw [hn']; rfl) hroom
        | some a =>
          simp only at hf
          cases hpa : plainAddr a with
          | false => rw [hpa] at hf; simp at hf
          | true =>
            rw [hpa, cond_true] at hf
            have hsp := plain_eq hpa
            obtain ⟨_, hlc, lc, a', c', hl, hcc, ha', hfit, rfl⟩ := hsv.slice_inv
            obtain ⟨old, hold, hf⟩ := Option.bind_eq_some_iff.1 hf
            obtain ⟨old', q1, q2, q3, q4⟩ := loadN_sound (P := P) hdr.sim.rel hold hl
            have hrun : (Builtin.firstCells i.size sLen (.slice (some a') sLen c')).run P w.drew = .ok old'.toArray w.drew := by
              simp only [Builtin.firstCells]
              by_cases hc : c' = 0
              · have hs0 : sLen = 0 := by omega
                subst hs0
                have hnil : old = [] := by rw [Nat.zero_mul] at q2; exact List.eq_nil_of_length_eq_zero q2
                subst hnil
                rw [q1.nil_inv, Nat.zero_mul]
                exact run_loadCells_list w.drew a' [] (by simp)
              · rw [ha' hc]; exact q4
            split at hf
            · rename_i cs esz own kin hg
              cases hez : Nat.beq esz i.size with
              | false => rw [hez] at hf; simp at hf
              | true =>
                rw [hez, cond_true] at hf
                have hez := Nat.eq_of_beq_eq_true hez
                subst hez
                obtain ⟨l2, hl2, ok⟩ := hsim.rel.row _ _ _ _ _ hg
                rw [hl] at hl2; simp at hl2; subst hl2
                have hle : lc.esz = i.size := ok.esz
                cases kin with
                | none =>
                  simp only at hf
                  cases own with
                  | false => simp at hf
                  | true =>
                    simp at hf
                    obtain ⟨rfl, rfl⟩ := hf
                    have hxe : a.off + sCap * i.size = cs.length := by
                      unfold exactEnd at hex
                      simp only [hg] at hex
                      exact Nat.eq_of_beq_eq_true hex
                    have hends := ok.ends rfl rfl
                    have hc' : c' < sLen + k := by
                      have h9 : c' * i.size ≤ sCap * i.size := by rw [hle] at hfit; omega
                      have := Nat.le_of_mul_le_mul_right h9 (by omega)
                      omega
                    exact anew (some a') c' old old' A.next 0 A (.inl rfl) q1 q3 q2 hrun hc'
                | some p =>
                  obtain ⟨fam, f⟩ := p
                  simp only at hf
                  cases own with
                  | false => simp at hf
                  | true =>
                    simp at hf
                    obtain ⟨rfl, rfl⟩ := hf
                    by_cases hc' : c' < sLen + k
                    · exact anew (some a') c' old old' fam (f + a.off) _ (.inr ⟨_, _, _, _, rfl⟩) q1 q3 q2 hrun hc'
                    · -- in its place
                      have hne : c' ≠ 0 := by omega
                      have ha := ha' hne
                      subst ha
                      have hr := run_append_here (P := P) t u ty e i ht hi hu (some ⟨lc.cb, lc.coff + a.off, none⟩) sLen c' x' k new' hlen w h4 (by omega)
                      have hin : lc.coff + a.off + sLen * i.size + new.length ≤ lc.csize := by
                        rw [h3]
                        rw [hle] at hfit
                        have h9 : (sLen + k) * i.size ≤ c' * i.size := Nat.mul_le_mul_right _ (by omega)
                        rw [Nat.add_mul] at h9
                        omega
                      have hvl : new'.length = new.length := h1.length
                      obtain ⟨old2, p1, p2, p3, p4⟩ := loadN_sound (P := P) hsim.rel hold hl
                      have hoc : ∀ (j : Nat) (v' : Value), old2[j]? = some v' → w.cell? ⟨lc.cb, lc.coff + a.off + j, none⟩ = some v' := by
                        intro j v' hj
                        have hlt : j < sLen * i.size := by have := (List.getElem?_eq_some_iff.1 hj).1; rw [p1.length, p2] at this; exact this
                        have hcell := (ok.there rfl (lc.coff + a.off + j) (by omega)).1
                        have := loadCells_cell (P := P) w ⟨lc.cb, lc.coff + a.off, none⟩ (sLen * i.size) old2 (fun j hj => by rw [addr_add_mid]; exact (ok.there rfl (lc.coff + a.off + j) (by omega)).1) p4 j v' hj
                        rwa [addr_add_mid] at this
                      have hgo := graft_sound (w := w) (aoff := a.off) (s := sLen * i.size) hsim hg hl p1 p3 p2 hoc h1 h2 hin
                      have hst : (storeCells ((⟨lc.cb, lc.coff + a.off, none⟩ : Addr).add (sLen * i.size)) new').run P w = .ok () (w.setCells lc.cb (lc.coff + a.off + sLen * i.size) new') := by
                        rw [addr_add_mid]
                        exact run_storeCells_cells (P := P) lc.cb (lc.coff + a.off + sLen * i.size) new' 0 w (fun j hj => (ok.there rfl _ (by rw [hvl] at hj; omega)).1) (fun j hj => (ok.there rfl _ (by rw [hvl] at hj; omega)).2) (fun v hv' => by
                          obtain ⟨j, hj⟩ := List.getElem?_of_mem hv'
                          have hlt : j < new.length := by rw [← hvl]; exact (List.getElem?_eq_some_iff.1 hj).1
                          obtain ⟨u, hu⟩ : ∃ u, new[j]? = some u := ⟨new[j], List.getElem?_eq_getElem hlt⟩
                          obtain ⟨v2, h7, h8⟩ := h1.get hu
                          rw [hj] at h7; simp at h7; subst h7
                          exact h8.scalar (h2 u (List.mem_of_getElem? hu)))
                      refine ⟨_, .slice (some ⟨lc.cb, lc.coff + a.off, none⟩) (sLen + k) c', _, by rw [hr]; simp only [hst, Result.andThen_ok], ?_, hgo⟩
                      simp only [VR]
                      refine ⟨trivial, Nat.le_refl _, _, _, c', Ren.set_same _ _ _, by omega, fun _ => rfl, ?_, rfl⟩
                      show lc.coff + a.off + 0 + c' * i.size ≤ lc.csize
                      rw [hle] at hfit
                      omega
            · simp at hf
  · simp at hf

theorem two_args {argTypes : Array TypeId} {t u : TypeId} (h : argTypes.toList = [t, u]) : argTypes = #[t, u] := by
  apply Array.ext'
  simpa using h
theorem ok_append {argTypes : Array TypeId} {args : Array Operand} (ho : o.op = .call ⟨.builtin .append, args, argTypes⟩) : InsOk P o (insAppend P argTypes.toList args.toList) := by
  unfold insAppend
  split
  · rename_i t u hat
    split
    · rename_i e ht
      split
      · rename_i i hi
        split
        · rename_i z hz
          cases hc : (Nat.ble 1 i.size && Nat.beq z.cells.size i.size && isSrc P u) with
          | false => exact True.intro
          | true =>
            rw [cond_true]
            simp only [Bool.and_eq_true] at hc
            obtain ⟨⟨h1, h2⟩, h3⟩ := hc
            intro ρ A B base w ev ev' v hs he hf
            have hf0 := hf
            unfold fAppend at hf0
            split at hf0
            · rename_i bs sLen sCap x e1
              have hm := he.map
              rw [e1] at hm hf
              obtain ⟨s', r1, e2, hsv, hm⟩ := hm.cons_inv
              obtain ⟨x', r2, e3, hxv, hm⟩ := hm.cons_inv
              have := hm.nil_inv
              subst this e3
              obtain ⟨ρ', v', w', h4, h5, h6⟩ := fAppend_sound (ty := o.type) ht hi hz h3 (Nat.le_of_ble_eq_true h1) (Nat.eq_of_beq_eq_true h2) hs hsv hxv hf
              refine ⟨ρ', v', .value v', w', ?_, rfl, h5, h6⟩
              have e4 : args.map ev' = #[s', x'] := by apply Array.ext'; simpa using e2
              have e5 := two_args hat
              subst e5
              simp only [execOp, ho, Sem.run_bind, resolve, Sem.run_pure, Result.andThen_ok, invoke, builtin, e4, h4]
            · simp at hf0
        · trivial
      · trivial
    · trivial
  · trivial

theorem ok_copy {argTypes : Array TypeId} {args : Array Operand} (ho : o.op = .call ⟨.builtin .copy, args, argTypes⟩) : InsOk P o (insCopy P argTypes.toList args.toList) := by
  unfold insCopy
  split
  · rename_i t rest hat
    have hat0 : argTypes[0]? = some t := by rw [← Array.getElem?_toList, hat]; rfl
    split
    · rename_i e ht
      split
      · rename_i n hn
        cases hpos : Nat.ble 1 n with
        | false => exact True.intro
        | true =>
          rw [cond_true]
          have hpos : 1 ≤ n := Nat.le_of_ble_eq_true hpos
          intro ρ A B base w ev ev' v hs he hf
          unfold fCopy at hf
          split at hf
          · rename_i bs dLen dCap x e1
            have hm := he.map
            rw [e1] at hm
            obtain ⟨s', r1, e2, hsv, hm⟩ := hm.cons_inv
            obtain ⟨x', r2, e3, hxv, hm⟩ := hm.cons_inv
            have := hm.nil_inv
            subst this e3
            have e4 : args.map ev' = #[s', x'] := by apply Array.ext'; simpa using e2
            obtain ⟨k, hk, hf⟩ := Option.bind_eq_some_iff.1 hf
            have hlen := lenA_sound hxv hk
            obtain ⟨new, hnew, hf⟩ := Option.bind_eq_some_iff.1 hf
            obtain ⟨new', h1, h2, h3, h4⟩ := firstA_sound (P := P) hs.rel hxv hnew (fun m h => by rw [hk] at h; simp at h; subst h; exact Nat.min_le_left _ _) hpos
            cases bs with
            | none =>
              simp at hf
              obtain ⟨rfl, rfl⟩ := hf
              have := hsv.slice_nil_inv
              subst this
              refine ⟨ρ, goInt (Nat.min k dLen), .value (goInt (Nat.min k dLen)), w, ?_, rfl, VR.of_flat rfl, .refl hs⟩
              simp [execOp, ho, resolve, invoke, builtin, e4, Builtin.copy_, hat0, run_under ht, hlen, run_size hn, h4]
            | some a =>
              simp only at hf
              obtain ⟨B', hst, hf⟩ := Option.map_eq_some_iff.1 hf
              simp at hf
              obtain ⟨rfl, rfl⟩ := hf
              obtain ⟨hsp, hlc, lc, a', c', hl, hcc, ha', hfit, rfl⟩ := hsv.slice_inv
              obtain ⟨w', h5, h6⟩ := storeN_sound (P := P) hs hst hl h1
              have hrun : (storeCells a' new').run P w = .ok () w' := by
                by_cases hc : c' = 0
                · have : new' = [] := by
                    apply List.eq_nil_of_length_eq_zero
                    rw [h1.length, h3]
                    have : dLen = 0 := by omega
                    subst this; simp
                  subst this
                  exact h5
                · rw [ha' hc]; exact h5
              refine ⟨ρ, goInt (Nat.min k dLen), .value (goInt (Nat.min k dLen)), w', ?_, rfl, VR.of_flat rfl, h6⟩
              simp [execOp, ho, resolve, invoke, builtin, e4, Builtin.copy_, hat0, run_under ht, hlen, run_size hn, h4, hrun]
          · simp at hf
      · trivial
    · trivial
  · trivial

end
end Go.Abs
