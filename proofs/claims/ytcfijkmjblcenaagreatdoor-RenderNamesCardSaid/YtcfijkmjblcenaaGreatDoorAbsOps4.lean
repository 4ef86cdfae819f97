/-
  The abstract machine's operations do what the model's do: maps.
-/
import Derived.Test.YtcfijkmjblcenaaGreatDoorAbsOps3
import Derived.MapKept
namespace Go.Abs
open Go
section
variable {P : Program} {o : Oper}

/-- a map's owner may turn it -/
theorem putMap_goes {ρ : Ren} {A : St} {base : Nat} {w : World} {r : Nat} {es es2 : List (Value × Value)} {es2' : Array MapEntry} {clock2 : Nat} {l : Loc} (hs : Sim ρ A base w) (hg : A.get r = some (.map es)) (hρ : ρ r = some l)
    (hm : MRel ρ es2 es2'.toList) : Goes base ρ A w ρ (A.put r (.map es2)) { w with heap := w.heap.setIfInBounds l.cb (.map es2' clock2) } := by
  obtain ⟨l', hl', ok⟩ := hs.rel.map _ _ hg
  rw [hρ] at hl'; simp at hl'; subst hl'
  obtain ⟨es', clock, hheap, _⟩ := ok.lies
  have hlt : l.cb < w.heap.size := (Array.getElem?_eq_some_iff.1 hheap).1
  have hmine : AObj.mine (.map es) = true := rfl
  have hold : ∀ k, k ≠ l.cb → (w.heap.setIfInBounds l.cb (.map es2' clock2))[k]? = w.heap[k]? := fun k hk => by
    rw [Array.getElem?_setIfInBounds_ne (Ne.symm hk)]
  have hsz : (w.heap.setIfInBounds l.cb (.map es2' clock2)).size = w.heap.size := by simp
  have hB : ∀ x, (A.put r (.map es2)).get x = if x = r then some (.map es2) else A.get x := fun x => St.get_put _ _ _ _
  have hmd : ∀ o : AObj, o.mine = true → o ≠ .dead := by intro o h e; subst e; simp [AObj.mine] at h
  have hfar : ∀ x o l2, x ≠ r → A.get x = some o → o ≠ .dead → ρ x = some l2 → ObjOk ρ base w l2 o → l2.cb ≠ l.cb := by
    intro x o l2 hx hgx hd hr2 ok2 e
    cases hmo : o.mine with
    | true =>
      obtain ⟨_, _, _, _, e1, _⟩ := hs.rel.apart x r o _ l2 l hx hgx hg hmo hmine hr2 hρ e
      simp [AObj.kin?] at e1
    | false =>
      cases o with
      | row cs esz own kin =>
        have ok2 : RowOk ρ base w l2 cs esz own kin := ok2
        have h1 : own = false := hmo
        have := ok2.foreign h1
        have := ok.mine
        omega
      | map _ => simp [AObj.mine] at hmo
      | iter _ _ => simp [AObj.mine] at hmo
      | dead => exact hd rfl
      | loop _ _ _ _ _ _ => simp [AObj.mine] at hmo
  refine ⟨⟨.of_obj ?_ ?_ ?_, fun b l2 h => hs.dom b l2 h, by simpa using hs.size, hs.glob⟩, fun _ _ => rfl, ⟨rfl, rfl, rfl, Nat.le_of_eq hsz.symm, fun k hk hn => hold k (fun e => hn ⟨r, _, l, hg, hmine, hρ, e.symm⟩)⟩, Nat.le_refl _, Nat.min_le_left _ _, fun x hx hxl => ?_, ?_⟩
  · intro x o hgx hd
    rw [hB] at hgx
    split at hgx
    · rename_i e; subst e; simp at hgx; subst hgx
      refine ⟨l, hρ, ok.mine, es2', clock2, ?_, hm⟩
      show (w.heap.setIfInBounds l.cb (.map es2' clock2))[l.cb]? = _
      rw [Array.getElem?_setIfInBounds_self_of_lt hlt]
    · rename_i e
      obtain ⟨l2, hr2, ok2⟩ := hs.rel.obj hgx hd
      exact ⟨l2, hr2, ok2.keep (Ren.le_refl _) (hold _ (hfar x o l2 e hgx hd hr2 ok2)) (Nat.le_of_eq hsz.symm)⟩
  · have hto : ∀ x o, (A.put r (.map es2)).get x = some o → o.mine = true → ∃ o', A.get x = some o' ∧ o'.mine = true ∧ o'.kin? = o.kin? := by
      intro x o hx hm
      rw [hB] at hx
      split at hx
      · rename_i e; subst e; simp at hx; subst hx; exact ⟨_, hg, rfl, rfl⟩
      · exact ⟨o, hx, hm, rfl⟩
    intro b1 b2 o1 o2 l1 l2 hne g1 g2 m1 m2 r1 r2 hcb
    obtain ⟨p1, q1, n1, k1⟩ := hto _ _ g1 m1
    obtain ⟨p2, q2, n2, k2⟩ := hto _ _ g2 m2
    rw [← k1, ← k2]
    exact hs.rel.apart b1 b2 p1 p2 l1 l2 hne q1 q2 n1 n2 r1 r2 hcb
  · intro x o fam f hgx hk
    rw [hB] at hgx
    split at hgx
    · rename_i e; subst e; simp at hgx; subst hgx; simp [AObj.kin?] at hk
    · exact hs.rel.listed x o fam f hgx hk
  · rw [St.low_put] at hxl
    have : Nat.min A.low r ≤ r := Nat.min_le_right _ _
    rw [hB, if_neg (by omega)]
  · rintro k hk ⟨x, o, l2, hgx, hm, hr2, rfl⟩
    rw [hB] at hgx
    split at hgx
    · rename_i e; subst e
      rw [hρ] at hr2; simp at hr2; subst hr2
      exact ⟨x, _, l, hg, hmine, hρ, rfl⟩
    · exact ⟨x, o, l2, hgx, hm, hr2, rfl⟩

/-! ## Keys -/
theorem MRel.length {ρ : Ren} : ∀ {es : List (Value × Value)} {l : List MapEntry}, MRel ρ es l → l.length = es.length
  | [], l, h => by simp only [MRel] at h; subst h; rfl
  | (k, v) :: es, l, h => by
    simp only [MRel] at h
    obtain ⟨e, r, rfl, _, _, h⟩ := h
    simp [MRel.length h]
theorem MRel.get {ρ : Ren} : ∀ {es : List (Value × Value)} {l : List MapEntry}, MRel ρ es l → ∀ (i : Nat) (k v : Value), es[i]? = some (k, v) → ∃ e, l[i]? = some e ∧ VR ρ k e.key ∧ VR ρ v e.val
  | [], l, h, i, k, v, hi => by simp at hi
  | (k, v) :: es, l, h, i, k', v', hi => by
    simp only [MRel] at h
    obtain ⟨e, r, rfl, h1, h2, h⟩ := h
    cases i with
    | zero => simp at hi; obtain ⟨rfl, rfl⟩ := hi; exact ⟨e, rfl, h1, h2⟩
    | succ i => simp at hi; simpa using MRel.get h i k' v' hi
theorem MRel.append {ρ : Ren} : ∀ {es : List (Value × Value)} {l : List MapEntry} {k v : Value} {e : MapEntry}, MRel ρ es l → VR ρ k e.key → VR ρ v e.val → MRel ρ (es ++ [(k, v)]) (l ++ [e])
  | [], l, k, v, e, h, h1, h2 => by
    simp only [MRel] at h; subst h
    simp only [List.nil_append, MRel]
    exact ⟨e, [], rfl, h1, h2, rfl⟩
  | (k0, v0) :: es, l, k, v, e, h, h1, h2 => by
    simp only [MRel] at h
    obtain ⟨e0, r, rfl, h3, h4, h⟩ := h
    simp only [List.cons_append, MRel]
    exact ⟨e0, r ++ [e], rfl, h3, h4, MRel.append h h1 h2⟩
theorem MRel.modify {ρ : Ren} : ∀ {es : List (Value × Value)} {l : List MapEntry} {k v : Value} (f : MapEntry → MapEntry) (i : Nat), MRel ρ es l → (∀ e, VR ρ k (f e).key ∧ VR ρ v (f e).val) → MRel ρ (es.set i (k, v)) (l.modify i f)
  | [], l, k, v, f, i, h, _ => by simp only [MRel] at h; subst h; simp [MRel]
  | (k0, v0) :: es, l, k, v, f, i, h, hf => by
    simp only [MRel] at h
    obtain ⟨e0, r, rfl, h3, h4, h⟩ := h
    cases i with
    | zero => simp only [List.set_cons_zero, List.modify_zero_cons, MRel]; exact ⟨_, r, rfl, (hf e0).1, (hf e0).2, h⟩
    | succ i => simp only [List.set_cons_succ, List.modify_succ_cons, MRel]; exact ⟨e0, _, rfl, h3, h4, MRel.modify f i h hf⟩
theorem MRel.erase {ρ : Ren} : ∀ {es : List (Value × Value)} {l : List MapEntry} (i : Nat), MRel ρ es l → MRel ρ (es.eraseIdx i) (l.eraseIdx i)
  | [], l, i, h => by simp only [MRel] at h; subst h; simp [MRel]
  | (k0, v0) :: es, l, i, h => by
    simp only [MRel] at h
    obtain ⟨e0, r, rfl, h3, h4, h⟩ := h
    cases i with
    | zero => simpa using h
    | succ i => simp only [List.eraseIdx_cons_succ, MRel]; exact ⟨e0, _, rfl, h3, h4, MRel.erase i h⟩

/-- what was found, and what is found -/
def FR (ρ : Ren) : Option (Nat × Value) → Option (Nat × Value) → Prop
  | none, r => r = none
  | some (i, v), r => ∃ v', r = some (i, v') ∧ VR ρ v v'
theorem findNow_rel {ρ : Ren} (d : TypeDesc) (k : Value) : ∀ (es : List (Value × Value)) (l : List MapEntry) (i : Nat), MRel ρ es l → keysFlat es = true →
    (findNowA d k es i = none → Instr.findNow d k l i = none) ∧ ∀ r, findNowA d k es i = some r → ∃ r', Instr.findNow d k l i = some r' ∧ FR ρ r r'
  | [], l, i, h, _ => by
    simp only [MRel] at h; subst h
    exact ⟨fun h => by simp [findNowA] at h, fun r hr => by simp [findNowA] at hr; subst hr; exact ⟨none, rfl, rfl⟩⟩
  | (k0, v0) :: es, l, i, h, hf => by
    simp only [MRel] at h
    obtain ⟨e0, r0, rfl, h3, h4, h⟩ := h
    simp only [keysFlat, Bool.and_eq_true] at hf
    have hk : e0.key = k0 := h3.flat_eq hf.1
    have ih := findNow_rel d k es r0 (i + 1) h hf.2
    simp only [findNowA, Instr.findNow, hk]
    cases hsn : Instr.sameNow d k k0 with
    | none => exact ⟨fun _ => rfl, fun r hr => by simp at hr⟩
    | some b =>
      cases b with
      | true => exact ⟨fun h => by simp at h, fun r hr => by simp at hr; subst hr; exact ⟨_, rfl, _, rfl, h4⟩⟩
      | false => exact ih
theorem findAsk_rel {ρ : Ren} (kt : TypeId) (k : Value) : ∀ (es : List (Value × Value)) (l : List MapEntry) (i : Nat), MRel ρ es l → keysFlat es = true →
    ∀ r, findAskA P kt k es i = some r → ∃ r', (∀ w, (Instr.findAsking kt k l i).run P w = .ok r' w) ∧ FR ρ r r'
  | [], l, i, h, _ => by
    simp only [MRel] at h; subst h
    intro r hr
    simp [findAskA] at hr; subst hr; exact ⟨none, fun w => rfl, rfl⟩
  | (k0, v0) :: es, l, i, h, hf => by
    simp only [MRel] at h
    obtain ⟨e0, r0, rfl, h3, h4, h⟩ := h
    simp only [keysFlat, Bool.and_eq_true] at hf
    have hk : e0.key = k0 := h3.flat_eq hf.1
    intro r hr
    simp only [findAskA] at hr
    split at hr
    · rename_i he
      simp at hr; subst hr
      refine ⟨some (i, e0.val), fun w => ?_, _, rfl, h4⟩
      simp [Instr.findAsking, hk, pureRun_run he w]
    · rename_i he
      obtain ⟨r', h5, h6⟩ := findAsk_rel kt k es r0 (i + 1) h hf.2 r hr
      refine ⟨r', fun w => ?_, h6⟩
      simp only [Instr.findAsking, hk, Sem.run_bind, pureRun_run he w, Result.andThen_ok]
      exact h5 w
    · simp at hr
theorem findA_sound {ρ : Ren} {kt : TypeId} {d : TypeDesc} {k : Value} {es : List (Value × Value)} {l : List MapEntry} {r : Option (Nat × Value)} (hd : P.underlying kt = some d) (h : MRel ρ es l) (hf : keysFlat es = true) (hr : findA P kt d k es = some r) :
    ∃ r', (∀ w, (Instr.findKey kt k l).run P w = .ok r' w) ∧ FR ρ r r' := by
  have hn := findNow_rel d k es l 0 h hf
  unfold findA at hr
  split at hr
  · rename_i q hq
    simp at hr; subst hr
    obtain ⟨r', h1, h2⟩ := hn.2 _ hq
    refine ⟨r', fun w => ?_, h2⟩
    simp only [Instr.findKey, Sem.run_bind, run_under hd, Result.andThen_ok, h1]
    rfl
  · rename_i hq
    have h1 := hn.1 hq
    obtain ⟨r', h2, h3⟩ := findAsk_rel kt k es l 0 h hf r hr
    refine ⟨r', fun w => ?_, h3⟩
    simp only [Instr.findKey, Sem.run_bind, run_under hd, Result.andThen_ok, h1]
    exact h2 w
theorem keyOk_sound {ρ : Ren} {kt : TypeId} {b : Bool} {k k' : Value} {es : List (Value × Value)} (h : keyOk P kt b k es = true) (hk : VR ρ k k') : k' = k ∧ flat k = true ∧ keysFlat es = true ∧ ∀ w, (Instr.checkKey b 10000 kt k).run P w = .ok () w := by
  unfold keyOk at h
  simp only [Bool.and_eq_true] at h
  obtain ⟨⟨h1, h2⟩, h3⟩ := h
  cases hp : pureRun P (Instr.checkKey b 10000 kt k) with
  | none => rw [hp] at h3; simp at h3
  | some u => exact ⟨hk.flat_eq h1, h1, h2, fun w => pureRun_run hp w⟩
theorem MRel.isEmpty {ρ : Ren} {es : List (Value × Value)} {l : Array MapEntry} (h : MRel ρ es l.toList) : l.isEmpty = es.isEmpty := by
  have := h.length
  cases es with
  | nil => simp at this; simpa using this
  | cons e es => simp at this; simp; intro h; rw [h] at this; simp at this

/-! ## The operations -/
theorem VR.map_inv {ρ : Ren} {r : Nat} {v : Value} (h : VR ρ (.map (some r)) v) : ∃ l, ρ r = some l ∧ v = .map (some l.cb) := by simpa only [VR] using h
theorem VR.map_nil_inv {ρ : Ren} {v : Value} (h : VR ρ (.map none) v) : v = .map none := by simpa only [VR] using h
theorem VR.outK {ρ : Ren} {ok b : Bool} {v v' : Value} (h : VR ρ v v') : VR ρ (outK ok v b) (if ok then .tuple #[v', .bool b] else v') := by
  cases ok with
  | true => exact VR.mkTuple (.cons h (.cons (VR.of_flat rfl) .nil))
  | false => exact h

theorem ok_makeMap {t : TypeId} {r : Option Operand} (ho : o.op = .makeMap t r) : InsOk P o (insMakeMap P t r) := by
  unfold insMakeMap
  split
  · rename_i kt et hu
    intro ρ ev ev' obj mk he hf
    have hobj : obj = .map [] ∧ mk = fun n => .map (some n) := by
      unfold fMakeMap at hf
      split at hf
      · simp at hf; exact ⟨hf.1.symm, hf.2.symm⟩
      · simp at hf; exact ⟨hf.1.symm, hf.2.symm⟩
      · simp at hf
    obtain ⟨rfl, rfl⟩ := hobj
    refine ⟨.map #[] 0, fun n => .map (some n), rfl, fun w => ?_, fun ρ' n cb h => by simp only [VR]; exact ⟨_, h, rfl⟩⟩
    cases r with
    | none => simp [execOp, ho, Instr.makeMap]
    | some x =>
      have hx := he x (by simp [optL])
      unfold fMakeMap at hf
      simp only [optL, List.map] at hf
      split at hf
      · rename_i e; simp at e
      · rename_i k n e
        simp at e
        rw [e] at hx
        simp [execOp, ho, Instr.makeMap, hx.int_inv, run_under hu, asInt, asIntOf]
      · simp at hf
  · trivial

theorem fLookupIn_sound {ρ : Ren} {kt et : TypeId} {d : TypeDesc} {z v k k' : Value} {ok : Bool} {es : List (Value × Value)} {l : Array MapEntry} (hd : P.underlying kt = some d) (hz : zero? P et = some z) (hzf : flat z = true)
    (hm : MRel ρ es l.toList) (hk : VR ρ k k') (h : fLookupIn P kt d z ok k es = some v) :
    ∃ v', VR ρ v v' ∧ ∀ w, (do
      Instr.checkKey l.isEmpty 10000 kt k'
      let (v, b) ← match ← Instr.findKey kt k' l.toList with
        | some (_, v) => pure (v, true)
        | none => pure (← zeroValue et, false)
      pure (if ok then Value.tuple #[v, .bool b] else v) : Sem Value).run P w = .ok v' w := by
  unfold fLookupIn at h
  cases hc : keyOk P kt es.isEmpty k es with
  | false => rw [hc] at h; simp at h
  | true =>
    rw [hc, cond_true] at h
    obtain ⟨rfl, _, hkf, hch⟩ := keyOk_sound hc hk
    obtain ⟨r, hr, rfl⟩ := Option.map_eq_some_iff.1 h
    obtain ⟨r', h1, h2⟩ := findA_sound hd hm hkf hr
    rw [hm.isEmpty]
    cases r with
    | none =>
      have h2 : r' = none := h2
      subst h2
      refine ⟨_, VR.outK (VR.of_flat hzf), fun w => ?_⟩
      simp [hch, h1, run_zero hz]
    | some p =>
      obtain ⟨i, u⟩ := p
      obtain ⟨u', rfl, h3⟩ := h2
      refine ⟨_, VR.outK h3, fun w => ?_⟩
      simp [hch, h1]
theorem ok_lookup {t : TypeId} {x ix : Operand} {ok : Bool} (ho : o.op = .lookup t x ix ok) : InsOk P o (insLookup P t x ix ok) := by
  unfold insLookup
  split
  · rename_i kt et hu
    split
    · rename_i d z hd hz
      cases hzf : flat z with
      | false => exact True.intro
      | true =>
        rw [cond_true]
        intro ρ A base w ev ev' v hs he hf
        have hx := he x (by simp)
        have hk := he ix (by simp)
        simp only [List.map] at hf
        unfold fLookup at hf
        split at hf
        · rename_i k e
          simp at e
          obtain ⟨e1, e2⟩ := e
          rw [e1] at hx
          have hx := hx.map_nil_inv
          rw [← e2] at hf
          obtain ⟨v', h1, h2⟩ := fLookupIn_sound (ρ := ρ) (l := #[]) hd hz hzf (by simp [MRel]) hk hf
          refine ⟨v', h1, ?_⟩
          have h2 := h2 w
          simp only [execOp, ho, Instr.lookup, Sem.run_bind, run_under hu, Result.andThen_ok, hx, Sem.run_pure] at h2 ⊢
          exact congrArg (fun r : Result Value => r.andThen fun a w' => Result.ok (Next.value a) w') h2
        · rename_i r k e
          simp at e
          obtain ⟨e1, e2⟩ := e
          rw [e1] at hx
          rw [← e2] at hf
          obtain ⟨lc, hl, hx⟩ := hx.map_inv
          split at hf
          · rename_i es hg
            obtain ⟨l2, hl2, ok2⟩ := hs.map _ _ hg
            rw [hl] at hl2; simp at hl2; subst hl2
            obtain ⟨es', clock, hheap, hm⟩ := ok2.lies
            obtain ⟨v', h1, h2⟩ := fLookupIn_sound (l := es') hd hz hzf hm hk hf
            refine ⟨v', h1, ?_⟩
            have h2 := h2 w
            simp only [execOp, ho, Instr.lookup, Sem.run_bind, run_under hu, Result.andThen_ok, hx, MapKept.run_getObj_map hheap, Sem.run_pure] at h2 ⊢
            exact congrArg (fun r : Result Value => r.andThen fun a w' => Result.ok (Next.value a) w') h2
          · simp at hf
        · simp at hf
    · trivial
  · trivial

theorem fMapUpdate_sound {ρ : Ren} {A B : St} {base : Nat} {w : World} {t kt et : TypeId} {d : TypeDesc} {m k x m' k' x' v : Value} (hu : P.underlying t = some (.map kt et)) (hd : P.underlying kt = some d) (hs : Sim ρ A base w)
    (hm : VR ρ m m') (hk : VR ρ k k') (hx : VR ρ x x') (h : fMapUpdate P kt d A [m, k, x] = some (v, B)) : v = undef ∧ ∃ w', (Instr.mapUpdate t m' k' x').run P w = .ok () w' ∧ Goes base ρ A w ρ B w' := by
  unfold fMapUpdate at h
  split at h
  · rename_i r k0 x0 e
    simp at e
    obtain ⟨rfl, rfl, rfl⟩ := e
    obtain ⟨lc, hl, rfl⟩ := hm.map_inv
    split at h
    · rename_i es hg
      obtain ⟨l2, hl2, ok2⟩ := hs.rel.map _ _ hg
      rw [hl] at hl2; simp at hl2; subst hl2
      obtain ⟨es', clock, hheap, hmr⟩ := ok2.lies
      cases hc : keyOk P kt false k es with
      | false => rw [hc] at h; simp at h
      | true =>
        rw [hc, cond_true] at h
        obtain ⟨rfl, hkf0, hkf, hch⟩ := keyOk_sound hc hk
        obtain ⟨q, hq, h⟩ := Option.bind_eq_some_iff.1 h
        obtain ⟨r', h1, h2⟩ := findA_sound hd hmr hkf hq
        cases q with
        | none =>
          have h2 : r' = none := h2
          subst h2
          simp at h
          obtain ⟨rfl, rfl⟩ := h
          refine ⟨rfl, _, ?_, putMap_goes (es2' := es'.push { key := k', val := x', born := clock }) (clock2 := clock + 1) hs hg hl (by rw [Array.toList_push]; exact hmr.append hk hx)⟩
          simp [Instr.mapUpdate, run_under hu, MapKept.run_getObj_map hheap, hch, h1, MapKept.run_setObj_map _ hheap]
        | some p =>
          obtain ⟨i, u⟩ := p
          obtain ⟨u', rfl, h3⟩ := h2
          simp only at h
          cases hsb : Instr.sameBits 10000 (keyAt es i k') k' with
          | false => rw [hsb] at h; simp at h
          | true =>
            rw [hsb] at h
            simp at h
            obtain ⟨rfl, rfl⟩ := h
            have hold : ((es'[i]?).map (·.key)).getD k' = keyAt es i k' := by
              unfold keyAt
              cases hi : es[i]? with
              | none =>
                have : es'[i]? = none := by
                  rw [Array.getElem?_eq_none_iff]
                  have := List.getElem?_eq_none_iff.1 hi
                  rw [← Array.length_toList, hmr.length]; exact this
                rw [this]; rfl
              | some p =>
                obtain ⟨k1, v1⟩ := p
                obtain ⟨e, h5, h6, h7⟩ := hmr.get i k1 v1 hi
                have h5' : es'[i]? = some e := by simpa using h5
                have hk1 : flat k1 = true := by
                  have key : ∀ (es : List (Value × Value)) (i : Nat), keysFlat es = true → es[i]? = some (k1, v1) → flat k1 = true := by
                    intro es
                    induction es with
                    | nil => intro i _ h; simp at h
                    | cons e es ih =>
                      intro i hk h
                      simp only [keysFlat, Bool.and_eq_true] at hk
                      cases i with
                      | zero => simp at h; subst h; exact hk.1
                      | succ i => exact ih i hk.2 (by simpa using h)
                  exact key es i hkf hi
                rw [h5']
                simp only [Option.map_some, Option.getD_some]
                exact h6.flat_eq hk1
            refine ⟨rfl, _, ?_, putMap_goes (es2' := es'.modify i fun e => { e with key := k', val := x' }) (clock2 := clock) hs hg hl (by rw [Array.toList_modify]; exact hmr.modify _ i fun e => ⟨hk, hx⟩)⟩
            simp [Instr.mapUpdate, run_under hu, MapKept.run_getObj_map hheap, hch, h1, hold, Instr.keyThatStays, hsb, MapKept.run_setObj_map _ hheap]
    · simp at h
  · simp at h
theorem ok_mapUpdate {t : TypeId} {m k x : Operand} (ho : o.op = .mapUpdate t m k x ∨ o.op = .insert t m k x) : InsOk P o (insMapUpdate P t m k x) := by
  unfold insMapUpdate
  split
  · rename_i kt et hu
    split
    · rename_i d hd
      intro ρ A B base w ev ev' v hs he hf
      simp only [List.map] at hf
      obtain ⟨rfl, w', h1, h2⟩ := fMapUpdate_sound hu hd hs (he m (by simp)) (he k (by simp)) (he x (by simp)) hf
      refine ⟨ρ, undef, .skip, w', ?_, rfl, VR.of_flat (by simp [undef, flat, flatA, flatL]), h2⟩
      rcases ho with ho | ho <;> simp [execOp, ho, h1]
    · trivial
  · trivial

theorem unit_flat : flat unitV = true := rfl
theorem ok_delete {argTypes : Array TypeId} {args : Array Operand} (ho : o.op = .call ⟨.builtin .delete, args, argTypes⟩) : InsOk P o (insDelete P argTypes.toList args.toList) := by
  unfold insDelete
  split
  · rename_i t rest hat
    have hat0 : argTypes[0]? = some t := by rw [← Array.getElem?_toList, hat]; rfl
    split
    · rename_i kt et hu
      split
      · rename_i d hd
        intro ρ A B base w ev ev' v hs he hf
        have hm := he.map
        unfold fDelete at hf
        split at hf
        · rename_i k e1
          rw [e1] at hm
          obtain ⟨m', r1, e2, hmv, hm⟩ := hm.cons_inv
          obtain ⟨k', r2, e3, hkv, hm⟩ := hm.cons_inv
          have := hm.nil_inv
          subst this e3
          have e4 : args.map ev' = #[m', k'] := by apply Array.ext'; simpa using e2
          have := hmv.map_nil_inv
          subst this
          cases hc : keyOk P kt true k [] with
          | false => rw [hc] at hf; simp at hf
          | true =>
            rw [hc] at hf
            simp at hf
            obtain ⟨rfl, rfl⟩ := hf
            obtain ⟨rfl, _, hkf, hch⟩ := keyOk_sound hc hkv
            refine ⟨ρ, unitV, .value unitV, w, ?_, rfl, VR.of_flat unit_flat, .refl hs⟩
            simp [execOp, ho, resolve, invoke, builtin, e4, Builtin.delete_, hat0, run_under hu, hch, unitV]
        · rename_i r k e1
          rw [e1] at hm
          obtain ⟨m', r1, e2, hmv, hm⟩ := hm.cons_inv
          obtain ⟨k', r2, e3, hkv, hm⟩ := hm.cons_inv
          have := hm.nil_inv
          subst this e3
          have e4 : args.map ev' = #[m', k'] := by apply Array.ext'; simpa using e2
          obtain ⟨lc, hl, rfl⟩ := hmv.map_inv
          split at hf
          · rename_i es hg
            obtain ⟨l2, hl2, ok2⟩ := hs.rel.map _ _ hg
            rw [hl] at hl2; simp at hl2; subst hl2
            obtain ⟨es', clock, hheap, hmr⟩ := ok2.lies
            cases hc : keyOk P kt es.isEmpty k es with
            | false => rw [hc] at hf; simp at hf
            | true =>
              rw [hc, cond_true] at hf
              obtain ⟨rfl, _, hkf, hch⟩ := keyOk_sound hc hkv
              obtain ⟨q, hq, hqe⟩ := Option.map_eq_some_iff.1 hf
              obtain ⟨r', h1, h2⟩ := findA_sound hd hmr hkf hq
              rw [← hmr.isEmpty] at hch
              cases q with
              | none =>
                have h2 : r' = none := h2
                subst h2
                simp at hqe
                obtain ⟨rfl, rfl⟩ := hqe
                refine ⟨ρ, unitV, .value unitV, _, ?_, rfl, VR.of_flat unit_flat, putMap_goes (es2' := es') (clock2 := clock) hs hg hl hmr⟩
                simp [execOp, ho, resolve, invoke, builtin, e4, Builtin.delete_, hat0, run_under hu, MapKept.run_getObj_map hheap, hch, h1, MapKept.run_setObj_map _ hheap, unitV]
              | some p =>
                obtain ⟨i, u⟩ := p
                obtain ⟨u', rfl, h3⟩ := h2
                simp at hqe
                obtain ⟨rfl, rfl⟩ := hqe
                refine ⟨ρ, unitV, .value unitV, _, ?_, rfl, VR.of_flat unit_flat, putMap_goes (es2' := es'.eraseIdxIfInBounds i) (clock2 := clock) hs hg hl (by rw [Array.toList_eraseIdxIfInBounds]; exact hmr.erase i)⟩
                simp [execOp, ho, resolve, invoke, builtin, e4, Builtin.delete_, hat0, run_under hu, MapKept.run_getObj_map hheap, hch, h1, MapKept.run_setObj_map _ hheap, unitV]
          · simp at hf
        · simp at hf
      · trivial
    · trivial
  · trivial

theorem ok_clear {argTypes : Array TypeId} {args : Array Operand} (ho : o.op = .call ⟨.builtin .clear, args, argTypes⟩) : InsOk P o (insClear P argTypes.toList args.toList) := by
  unfold insClear
  split
  · rename_i t hat
    have hat0 : argTypes[0]? = some t := by rw [← Array.getElem?_toList, hat]; rfl
    split
    · rename_i kt et hu
      intro ρ A B base w ev ev' v hs he hf
      have hm := he.map
      unfold fClearMap at hf
      split at hf
      · rename_i e1
        simp at hf
        obtain ⟨rfl, rfl⟩ := hf
        rw [e1] at hm
        obtain ⟨m', r1, e2, hmv, hm⟩ := hm.cons_inv
        have := hm.nil_inv
        subst this
        have e4 : args.map ev' = #[m'] := by apply Array.ext'; simpa using e2
        have := hmv.map_nil_inv
        subst this
        refine ⟨ρ, unitV, .value unitV, w, ?_, rfl, VR.of_flat unit_flat, .refl hs⟩
        simp [execOp, ho, resolve, invoke, builtin, e4, Builtin.clear_, hat0, run_under hu, unitV]
      · rename_i r e1
        rw [e1] at hm
        obtain ⟨m', r1, e2, hmv, hm⟩ := hm.cons_inv
        have := hm.nil_inv
        subst this
        have e4 : args.map ev' = #[m'] := by apply Array.ext'; simpa using e2
        obtain ⟨lc, hl, rfl⟩ := hmv.map_inv
        split at hf
        · rename_i es hg
          simp at hf
          obtain ⟨rfl, rfl⟩ := hf
          obtain ⟨l2, hl2, ok2⟩ := hs.rel.map _ _ hg
          rw [hl] at hl2; simp at hl2; subst hl2
          obtain ⟨es', clock, hheap, hmr⟩ := ok2.lies
          refine ⟨ρ, unitV, .value unitV, _, ?_, rfl, VR.of_flat unit_flat, putMap_goes (es2' := #[]) (clock2 := clock) hs hg hl rfl⟩
          simp [execOp, ho, resolve, invoke, builtin, e4, Builtin.clear_, hat0, run_under hu, MapKept.run_getObj_map hheap, MapKept.run_setObj_map _ hheap, unitV]
        · simp at hf
      · simp at hf
    · rename_i e hu
      split
      · rename_i z hz
        cases hzc : (flat z && Nat.ble 1 z.cells.size) with
        | false => exact True.intro
        | true =>
          rw [cond_true]
          obtain ⟨hz1, hz2⟩ := Bool.and_eq_true_iff.1 hzc
          have hz2 := Nat.le_of_ble_eq_true hz2
          intro ρ A B base w ev ev' v hs he hf
          have hm := he.map
          unfold fClearSl at hf
          split at hf
          · rename_i n c e1
            simp at hf
            obtain ⟨rfl, rfl⟩ := hf
            rw [e1] at hm
            obtain ⟨m', r1, e2, hmv, hm⟩ := hm.cons_inv
            have := hm.nil_inv
            subst this
            have e4 : args.map ev' = #[m'] := by apply Array.ext'; simpa using e2
            have := hmv.slice_nil_inv
            subst this
            refine ⟨ρ, unitV, .value unitV, w, ?_, rfl, VR.of_flat unit_flat, .refl hs⟩
            simp [execOp, ho, resolve, invoke, builtin, e4, Builtin.clear_, hat0, run_under hu, unitV]
          · rename_i a n c e1
            rw [e1] at hm
            obtain ⟨m', r1, e2, hmv, hm⟩ := hm.cons_inv
            have := hm.nil_inv
            subst this
            have e4 : args.map ev' = #[m'] := by apply Array.ext'; simpa using e2
            obtain ⟨hsp, hlc, lc, a', c', hl, hcc, ha', hfit, rfl⟩ := hmv.slice_inv
            cases hn : Nat.beq n 0 with
            | true =>
              rw [hn] at hf
              simp at hf
              obtain ⟨rfl, rfl⟩ := hf
              have := Nat.eq_of_beq_eq_true hn
              subst this
              refine ⟨ρ, unitV, .value unitV, w, ?_, rfl, VR.of_flat unit_flat, .refl hs⟩
              simp [execOp, ho, resolve, invoke, builtin, e4, Builtin.clear_, hat0, run_under hu, unitV]
            | false =>
              rw [hn, cond_false] at hf
              have hn0 := Nat.ne_of_beq_eq_false hn
              obtain ⟨B', hst, hf⟩ := Option.map_eq_some_iff.1 hf
              simp at hf
              obtain ⟨rfl, rfl⟩ := hf
              obtain ⟨w', h5, h6⟩ := storeN_sound (P := P) hs hst hl ((cells_flat hz1).repeat n)
              have := ha' (by omega)
              subst this
              have e5 : Builtin.zeroCells z.cells n = ⟨repeatL z.cells.toList n⟩ := repeat_eq z.cells n hz2
              refine ⟨ρ, unitV, .value unitV, w', ?_, rfl, VR.of_flat unit_flat, h6⟩
              obtain ⟨m, rfl⟩ := Nat.exists_eq_succ_of_ne_zero hn0
              simp [execOp, ho, resolve, invoke, builtin, e4, Builtin.clear_, hat0, run_under hu, run_zero hz, e5, h5, unitV]
          · simp at hf
      · trivial
    · trivial
  · trivial

theorem ok_len {argTypes : Array TypeId} {args : Array Operand} (ho : o.op = .call ⟨.builtin .len, args, argTypes⟩) : InsOk P o (insLen P argTypes.toList args.toList) := by
  unfold insLen
  split
  · rename_i t et
    have hat : argTypes[0]? = some t := by rw [← Array.getElem?_toList, et]; rfl
    split
    · rename_i e hu; exact ok_lenSl ho hat hu
    · rename_i hu; exact ok_lenStr ho hat hu
    · rename_i kt et' hu
      intro ρ A base w ev ev' v hs he hf
      have hm := he.map
      unfold fLenMap at hf
      split at hf
      · rename_i e1
        rw [e1] at hm
        obtain ⟨y, ys, e2, h1, h2⟩ := hm.cons_inv
        have := h2.nil_inv
        subst this
        simp at hf; subst hf
        have := h1.map_nil_inv
        subst this
        refine ⟨_, VR.of_flat rfl, ?_⟩
        have e3 : (args.map ev')[0]? = some (.map none) := by rw [evmap_toArray, e2]; rfl
        simp [execOp, ho, resolve, invoke, builtin, Builtin.len_, hat, e3, run_under hu, goInt]
      · rename_i r e1
        rw [e1] at hm
        obtain ⟨y, ys, e2, h1, h2⟩ := hm.cons_inv
        have := h2.nil_inv
        subst this
        obtain ⟨lc, hl, rfl⟩ := h1.map_inv
        split at hf
        · rename_i es hg
          simp at hf; subst hf
          obtain ⟨l2, hl2, ok2⟩ := hs.map _ _ hg
          rw [hl] at hl2; simp at hl2; subst hl2
          obtain ⟨es', clock, hheap, hmr⟩ := ok2.lies
          refine ⟨_, VR.of_flat rfl, ?_⟩
          have e3 : (args.map ev')[0]? = some (.map (some lc.cb)) := by rw [evmap_toArray, e2]; rfl
          have hsz : es'.size = es.length := by rw [← Array.length_toList, hmr.length]
          simp [execOp, ho, resolve, invoke, builtin, Builtin.len_, hat, e3, run_under hu, goInt, MapKept.run_getObj_map hheap, hsz]
        · simp at hf
      · simp at hf
    · trivial
  · trivial

end
end Go.Abs
