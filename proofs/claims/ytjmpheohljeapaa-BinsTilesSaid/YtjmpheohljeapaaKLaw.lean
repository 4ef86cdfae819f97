/-
  A law's call, from what its arguments read as.
-/
import Derived.Test.YtjmpheohljeapaaKEntry
import Derived.WideShapes
import Derived.Below
namespace Go.K
open Go Go.Abs Go.WideShapes

mutual
def deepK (P : Program) : KV → Prop
  | .ts T _ n es acc => TreeOk P T n es acc ∧ deepKs P es
  | .agg cs => deepKs P cs
  | _ => True
def deepKs (P : Program) : List KV → Prop
  | [] => True
  | v :: vs => deepK P v ∧ deepKs P vs
end
mutual
theorem VK.deep {P : Program} {E : Env} : ∀ {v : KV} {u : Value}, VK P E v u → deepK P v
  | .ts T m n es acc, u, h => by
    obtain ⟨h1, us, h2, _⟩ := h.ts_inv
    exact ⟨h1, VKL.deep h2⟩
  | .agg cs, u, h => by
    obtain ⟨l, _, h1⟩ := h.agg_inv
    exact VKL.deep (vs := cs) h1
  | .int _ _, _, _ | .bool _, _, _ | .str _, _, _ | .tup _, _, _ | .tp .., _, _ | .ptr .., _, _ | .sl .., _, _ | .nilp, _, _ | .nilsl, _, _ | .nilmap, _, _ | .map _, _, _ | .fn .., _, _ | .nilfn, _, _ | .iface .., _, _ | .nilif, _, _ | .unk, _, _ => trivial
theorem VKL.deep {P : Program} {E : Env} : ∀ {vs : List KV} {us : List Value}, VKL P E vs us → deepKs P vs
  | [], _, _ => trivial
  | v :: vs, us, h => by
    simp only [VKL] at h
    obtain ⟨y, ys, _, h1, h2⟩ := h
    exact ⟨VK.deep h1, VKL.deep h2⟩
end
def argsOk (P : Program) : List TypeId → List KV → Bool
  | [], [] => true
  | t :: ts, v :: vs => elemOk (layF P t) v && argsOk P ts vs
  | _, _ => false
theorem argsOk_len {P : Program} : ∀ {ts : List TypeId} {as : List KV}, argsOk P ts as = true → as.length = ts.length
  | [], [], _ => rfl
  | [], _ :: _, h => by simp [argsOk] at h
  | _ :: _, [], h => by simp [argsOk] at h
  | t :: ts, v :: vs, h => by
    simp only [argsOk, Bool.and_eq_true] at h
    simp [argsOk_len h.2]
/-- a parameter's type: may it be read, and is its layout known? -/
def paramT (P : Program) (t : TypeId) : Bool := entryT P 30 t && (match lay P 12 t with
  | some l => Nat.beq l.ks.length (P.cellsOf t)
  | .none => false)
section
variable {H : Type} {enc : TypeId × Value → H} {P : Program} {W : World}
theorem pos_of_wide {r : Reach} {base : Nat} {t : TypeId} {v : Value} (h : Value.okWide P W r base t v) : PosW W v.cells.toList := by
  intro a n c hm
  have cell : ∀ u, Cell.okWide P W r base u (.slice (some a) n c) → 0 < W.heap.size := by
    intro u hu
    unfold Cell.okWide at hu
    split at hu <;> try (rename_i heq; simp at heq; done)
    unfold Cell.ok at hu
    split at hu <;> try (rename_i heq; simp at heq; done)
    · rename_i e heq
      simp at heq
      obtain ⟨rfl, rfl, rfl⟩ := heq
      obtain ⟨_, _, _, _, row, cells, hs, _⟩ := hu
      unfold World.shape? at hs
      split at hs
      · rename_i hh
        have := (Array.getElem?_eq_some_iff.1 hh).1
        omega
      · simp at hs
    · exact hu.elim
  unfold Value.okWide at h
  split at h
  · obtain ⟨cs, rfl, _, ts, _, _, hc⟩ := h
    obtain ⟨i, hi⟩ := List.getElem?_of_mem hm
    obtain ⟨u, _, hu⟩ := hc i _ (by simpa [Value.cells] using hi)
    exact cell u hu
  · obtain ⟨cs, rfl, _, ts, _, _, hc⟩ := h
    obtain ⟨i, hi⟩ := List.getElem?_of_mem hm
    obtain ⟨u, _, hu⟩ := hc i _ (by simpa [Value.cells] using hi)
    exact cell u hu
  · have hv : v.cells.toList = [v] ∨ ∃ cs, v = .agg cs := by cases v <;> first | exact .inl rfl | exact .inr ⟨_, rfl⟩
    rcases hv with hv | ⟨cs, rfl⟩
    · rw [hv] at hm
      simp at hm
      subst hm
      exact cell t h
    · exfalso
      unfold Cell.okWide at h
      split at h <;> try (rename_i heq; simp at heq; done)
      unfold Cell.ok at h
      split at h <;> first | (rename_i heq; simp at heq; done) | exact h.elim
theorem read_arg {E : Env} {B : St} {ρ : Ren} {t : TypeId} {v : Value} {d : DataW H} {ps : List MemPlace} {r : Reach} {base : Nat} (ht : paramT P t = true) (hd : DataW.Trod enc P W 0 (fun _ => true) true t v d ps) (hw : Value.okWide P W r base t v) (hi : Ini P W E B ρ) :
    ∃ E' B' ρ' a, Ini P W E' B' ρ' ∧ E.le E' ∧ ρ.le ρ' ∧ VC P E' ρ' a v ∧ elemOk (layF P t) a = true ∧ wfK a := by
  unfold paramT at ht
  simp only [Bool.and_eq_true] at ht
  obtain ⟨ht1, ht2⟩ := ht
  split at ht2
  · rename_i l hl
    obtain ⟨fuel, hf⟩ := hd
    obtain ⟨E1, B1, ρ1, ks, h1, h2, h3, ⟨m, h4, h4'⟩, h5, h6⟩ := read_ok 30 t ht1 fuel _ _ E B ρ hf (pos_of_wide hw) hi
    have hk := h6 12 l hl
    have hlF : layF P t = l := by simp [layF, hl]
    -- the value's shape
    have hshape : (l.agg = true ∧ ∃ cs : Array Value, v = .agg cs) ∨ (l.agg = false ∧ l.ks.length = 1 ∧ v.cells.toList = [v]) := by
      unfold entryT at ht1
      split at ht1
      · rename_i k hu
        obtain ⟨n, rfl⟩ := okWide_int hu hw
        simp only [lay, hu, Option.some.injEq] at hl
        subst hl; exact .inr ⟨rfl, rfl, rfl⟩
      · rename_i hu
        obtain ⟨n, rfl⟩ := okWide_bool hu hw
        simp only [lay, hu, Option.some.injEq] at hl
        subst hl; exact .inr ⟨rfl, rfl, rfl⟩
      · rename_i hu
        obtain ⟨n, rfl⟩ := okWide_string hu hw
        simp only [lay, hu, Option.some.injEq] at hl
        subst hl; exact .inr ⟨rfl, rfl, rfl⟩
      · rename_i e hu
        obtain ⟨a, n, c, rfl⟩ := okWide_slice hu hw
        simp only [lay, hu, Option.some.injEq] at hl
        subst hl; exact .inr ⟨rfl, rfl, rfl⟩
      · rename_i fs hu
        simp only [lay, hu, Option.map_eq_some_iff] at hl
        obtain ⟨_, _, rfl⟩ := hl
        unfold Value.okWide at hw
        rw [hu] at hw
        obtain ⟨cs, rfl, _⟩ := hw
        exact .inl ⟨rfl, cs, rfl⟩
      · rename_i len e hu
        simp only [lay, hu, Option.map_eq_some_iff] at hl
        obtain ⟨_, _, rfl⟩ := hl
        unfold Value.okWide at hw
        rw [hu] at hw
        obtain ⟨cs, rfl, _⟩ := hw
        exact .inl ⟨rfl, cs, rfl⟩
      · simp at ht1
    refine ⟨E1, B1, ρ1, mkV l.agg ks, h1, h2, h3, ?_, ?_, mkV_wf h5⟩
    · rcases hshape with ⟨ha, cs, rfl⟩ | ⟨ha, hlen, hv⟩
      · rw [ha]
        exact ⟨.agg ⟨m⟩, .mkAgg h4, VR.mkAgg (l' := cs.toList) h4'⟩
      · rw [ha]
        rw [hv] at h4'
        have hml : m.length = 1 := by have := h4'.length; simpa using this.symm
        have := mkV_rel (agg := false) h4 (.inr hml)
        match m, hml, h4', this with
        | [y], _, h4', this =>
          obtain ⟨z, zs, e, q1, _⟩ := h4'.cons_inv
          simp at e
          refine ⟨y, this, ?_⟩
          rw [e.1]; exact q1
    · rw [hlF]
      exact mkV_elem hk (hshape.imp (·.1) (·.2.1))
  · simp at ht2
theorem read_args {r : Reach} {base : Nat} : ∀ {ts : List TypeId} {vs : List Value} {ds : List (DataW H)} {ps : List MemPlace} {E : Env} {B : St} {ρ : Ren}, (∀ t ∈ ts, paramT P t = true) → DataW.TrodAll enc P W 0 (fun _ => true) true ts vs ds ps →
    (∀ (j : Nat) t v, ts[j]? = some t → vs[j]? = some v → Value.okWide P W r base t v) → Ini P W E B ρ → ∃ E' B' ρ' as, Ini P W E' B' ρ' ∧ E.le E' ∧ ρ.le ρ' ∧ VCL P E' ρ' as vs ∧ argsOk P ts as = true ∧ wfKs as
  | [], vs, ds, ps, E, B, ρ, _, h, _, hi => by
    obtain ⟨rfl, _, _⟩ := Go.ChangeShapes.trodAll_nil h
    exact ⟨E, B, ρ, [], hi, Env.le_refl _, Ren.le_refl _, ⟨[], .nil, .nil⟩, rfl, trivial⟩
  | t :: ts, vs, ds, ps, E, B, ρ, ht, h, hw, hi => by
    obtain ⟨v, vs1, d, ds1, a, b, rfl, rfl, rfl, h1, h2⟩ := Go.ChangeShapes.trodAll_cons h
    obtain ⟨E1, B1, ρ1, x, q1, q2, q3, ⟨u, q4, q4'⟩, q5, q6⟩ := read_arg (ht t (by simp)) h1 (hw 0 t v rfl rfl) hi
    obtain ⟨E2, B2, ρ2, xs, p1, p2, p3, ⟨m, p4, p4'⟩, p5, p6⟩ := read_args (fun t' h' => ht t' (by simp [h'])) h2 (fun j t' v' h3 h4 => hw (j + 1) t' v' (by simpa using h3) (by simpa using h4)) q1
    exact ⟨E2, B2, ρ2, x :: xs, p1, Env.le_trans q2 p2, Ren.le_trans q3 p3, ⟨u :: m, .cons (q4.mono p2) p4, .cons (q4'.mono p3) p4'⟩, by simp [argsOk, q5, p5], ⟨q6, p6⟩⟩
/-- A LAW: if the machine says true of all trees that the arguments can read as, the call returns true and nothing that was there has turned. -/
theorem law_ok (hP : P.funcs.toList.all funcOk = true) (hm : P.follows .mixedOrders = true) {cfg : Cfg} (hpc : PcOk P cfg.pc) (hlp : LpAll P cfg) {L n : Nat} {f : FuncId} {ts : List TypeId} (hts : ts.all (paramT P) = true)
    (hall : ∀ as, argsOk P ts as = true → wfKs as → deepKs P as → pureK P cfg L n f (normArgs P ts as) = some (.bool true)) {args : Array Value} {ds : List (DataW H)} {ps : List MemPlace} {r : Reach} {base : Nat}
    (hd : DataW.TrodAll enc P W 0 (fun _ => true) true ts args.toList ds ps) (hw : ∀ (j : Nat) t v, ts[j]? = some t → args.toList[j]? = some v → Value.okWide P W r base t v) :
    Calls P f args W fun e w' => e = .returned (.bool true) ∧ RowKit.Below W.heap.size W w' := by
  obtain ⟨E, B, ρ, as, h1, _, _, h4, h5, h6⟩ := read_args (List.all_eq_true.1 hts) hd hw (Ini.start P W)
  have hdeep : deepKs P as := by obtain ⟨m, q, _⟩ := h4; exact q.deep
  have hrun := hall as h5 h6 hdeep
  have h4 : VCL P E ρ (normArgs P ts as) args.toList := by
    obtain ⟨m, q, q'⟩ := h4
    exact ⟨m, VKL.zArgs rfl q (argsOk_len h5), q'⟩
  have hic := icall_soundK (R := KV) hP hm hpc hlp L n
  obtain ⟨fn, c, hf, hc, hok, hnm, hrun⟩ := body_cases hP hrun
  have := body_soundK hpc hic hm L hf hc hok (hlp f fn c hf hc) hrun h4 (base := W.heap.size) (w := W) ⟨h1.k, h1.sim⟩
  refine this.mono ?_
  rintro e w' ⟨vs, vs', E1, A1, B1, ρ1, rfl, ⟨m, q1, q1'⟩, q2, q3⟩
  have q3 : Bool.rec (motive := fun _ => Option KV) .none (some (packK (typedAll P (resTypes P f) vs))) (Nat.beq vs.length (resTypes P f).length) = some (.bool true) := q3
  cases hb : Nat.beq vs.length (resTypes P f).length with
  | false => rw [hb] at q3; exact absurd q3 (by simp)
  | true =>
    rw [hb] at q3
    have q3 : some (packK (typedAll P (resTypes P f) vs)) = some (.bool true) := q3
    simp only [Option.some.injEq] at q3
    have hv : VC P E1 ρ1 (packK (typedAll P (resTypes P f) vs)) (packV vs') := pack_sound ⟨m, by rw [typedAll_args]; exact VKL.zArgs rfl q1 (Nat.eq_of_beq_eq_true hb), q1'⟩
    rw [q3] at hv
    have hg := q2.goes
    refine ⟨by rw [hv.bool_inv], hg.kept.os, hg.kept.tape, hg.kept.output, hg.kept.size, fun k hk => hg.kept.block k hk ?_⟩
    rintro ⟨b, o, l, ho, hmine, _⟩
    rw [(h1.foreign b o ho).1] at hmine
    simp at hmine
end

/-! ## Pure functions, listed -/
noncomputable def pcOf : List (Nat × (List KV → KR KV)) → FuncId → Option (List KV → KR KV)
  | [], _ => .none
  | p :: ps, g => cond (Nat.beq p.1 g) (some p.2) (pcOf ps g)
theorem pc_all {P : Program} : ∀ {ps : List (Nat × (List KV → KR KV))}, (∀ p ∈ ps, PureOk P p.1 p.2) → PcOk P (pcOf ps)
  | [], _ => fun g F h => by simp [pcOf] at h
  | p :: ps, h => fun g F hF => by
    unfold pcOf at hF
    cases hb : Nat.beq p.1 g with
    | true =>
      rw [hb] at hF
      simp only [cond_true, Option.some.injEq] at hF
      have := Nat.eq_of_beq_eq_true hb
      subst this hF
      exact h p (by simp)
    | false =>
      rw [hb] at hF
      exact pc_all (fun q hq => h q (List.mem_cons_of_mem _ hq)) g F hF
theorem pc_none {P : Program} : PcOk P Cfg.none.pc := fun g F h => by simp [Cfg.none] at h
theorem lp_none {P : Program} : LpAll P Cfg.none := fun f fn c _ _ p F body h => by simp [Cfg.none] at h

/-! ## Plain forms -/
theorem elemOk_unk (l : Lay) : elemOk l .unk = false := by
  show (!l.agg && kindsOk l.ks [.unk]) = false
  cases l.ks with
  | nil => simp [kindsOk]
  | cons c cs => cases c <;> simp [kindsOk, kindOk]
theorem canT_elem {P : Program} {t : TypeId} {v : KV} (h : elemOk (layF P t) (canT P t v) = true) : ∃ w, canT P t v = elemC P (canonC P canonD) t w := by
  unfold canT at h ⊢
  cases hb : elemOk (layF P t) (normV (layF P t) v) with
  | false => rw [hb, cond_false, elemOk_unk] at h; simp at h
  | true => exact ⟨normV (layF P t) v, rfl⟩
theorem normCs_good : ∀ {ks : List CK} {cs : List KV}, kindsOk ks cs = true → normCs ks cs = cs
  | [], [], _ => rfl
  | [], _ :: _, h => by simp [kindsOk] at h
  | _ :: _, [], h => by simp [kindsOk] at h
  | k :: ks, v :: vs, h => by
    simp only [kindsOk, Bool.and_eq_true] at h
    have e : normC k v = v := by
      unfold normC
      split
      · simp [kindOk] at h
      · rename_i t t' m n es acc
        cases m <;> simp [kindOk] at h
        obtain ⟨rfl, _⟩ := h
        rw [Nat.beq_refl, cond_true]
      · rw [h.1]; rfl
    rw [normCs, e, normCs_good h.2]
theorem normV_good {l : Lay} {v : KV} (h : elemOk l v = true) : normV l v = v := by
  by_cases ha : ∃ cs, v = .agg cs
  · obtain ⟨cs, rfl⟩ := ha
    simp only [elemOk, Bool.and_eq_true] at h
    show cond (l.agg && Nat.beq cs.length l.ks.length) (KV.agg (normCs l.ks cs)) .unk = _
    rw [h.1, kindsOk_len h.2, normCs_good h.2]
    simp
  · have h1 : (!l.agg && kindsOk l.ks [v]) = true := by
      cases v <;> first | exact h | exact absurd ⟨_, rfl⟩ ha | simp [elemOk] at h
    simp only [Bool.and_eq_true, Bool.not_eq_true'] at h1
    have e : normV l v = cond l.agg .unk (match l.ks with | [c] => normC c v | _ => .unk) := by
      cases v <;> first | rfl | exact absurd ⟨_, rfl⟩ ha
    rw [e, h1.1, cond_false]
    match hk : l.ks, h1.2 with
    | [c], h2 =>
      have := normCs_good h2
      simpa [normCs] using this
    | [], h2 => simp [kindsOk] at h2
    | _ :: _ :: _, h2 => simp [kindsOk] at h2
theorem canT_good {P : Program} {t : TypeId} {v : KV} (h : elemOk (layF P t) v = true) : canT P t v = elemC P (canonC P canonD) t v := by
  unfold canT
  rw [normV_good h, h, cond_true]
/-- what is handed to a function that is told: the forms of some values -/
noncomputable def formA (P : Program) : List TypeId → (Nat → KV) → Nat → List KV
  | [], _, _ => []
  | t :: ts, w, k => elemC P (canonC P canonD) t (w k) :: formA P ts w (Nat.succ k)
theorem formA_congr {P : Program} : ∀ {ts : List TypeId} {w w' : Nat → KV} {k : Nat}, (∀ i, k ≤ i → w i = w' i) → formA P ts w k = formA P ts w' k
  | [], _, _, _, _ => rfl
  | t :: ts, w, w', k, h => by
    rw [formA, formA, h k (Nat.le_refl _), formA_congr fun i hi => h i (by omega)]
theorem args_form {P : Program} : ∀ {ts : List TypeId} {as : List KV} (k : Nat), argsOk P ts (normArgs P ts as) = true → ∃ w, normArgs P ts as = formA P ts w k
  | [], as, k, _ => ⟨fun _ => .unk, by cases as <;> rfl⟩
  | t :: ts, [], k, h => by simp [normArgs, argsOk] at h
  | t :: ts, v :: vs, k, h => by
    simp only [normArgs, argsOk, Bool.and_eq_true] at h
    obtain ⟨w, hw⟩ := canT_elem h.1
    obtain ⟨w', hw'⟩ := args_form (k + 1) h.2
    refine ⟨fun i => if i = k then w else w' i, ?_⟩
    rw [normArgs, formA, hw, hw', if_pos rfl]
    rw [formA_congr (w := w') (w' := fun i => if i = k then w else w' i) fun i hi => by rw [if_neg (by omega)]]
theorem args_good {P : Program} : ∀ {ts : List TypeId} {as : List KV} (k : Nat) {w : Nat → KV}, argsOk P ts as = true → (∀ i, i < as.length → w (k + i) = as.getD i .unk) → normArgs P ts as = formA P ts w k
  | [], [], k, _, _, _ => rfl
  | [], _ :: _, _, _, h, _ => by simp [argsOk] at h
  | _ :: _, [], _, _, h, _ => by simp [argsOk] at h
  | t :: ts, v :: vs, k, w, h, hw => by
    simp only [argsOk, Bool.and_eq_true] at h
    rw [normArgs, formA, canT_good h.1, args_good (k + 1) (w := w) h.2 fun i hi => by have := hw (i + 1) (by simp; omega); rw [show k + 1 + i = k + (i + 1) by omega, this]; rfl]
    have := hw 0 (by simp)
    rw [Nat.add_zero] at this
    rw [this]; rfl
/-- a function's answer where its arguments are of its types -/
noncomputable def guardF (P : Program) (g : FuncId) (F : List KV → KR KV) : List KV → KR KV := fun as => cond (argsOk P (paramsOf P g) as) (F as) .no
theorem pure_of {P : Program} {g : FuncId} {F : List KV → KR KV} (hP : P.funcs.toList.all funcOk = true) (hm : P.follows .mixedOrders = true) {cfg : Cfg} (hpc : PcOk P cfg.pc) (hlp : LpAll P cfg) {L n : Nat}
    (h : ∀ w v, Gives (F (formA P (paramsOf P g) w 0)) v → pureK P cfg L n g (formA P (paramsOf P g) w 0) = some v) : PureOk P g (guardF P g F) :=
  pure_ok hP hm fun as v _ hF => by
    unfold guardF at hF
    obtain ⟨hb, hF⟩ := Gives.cond hF
    obtain ⟨w, hw⟩ := args_form 0 hb
    rw [hw] at hF ⊢
    exact ⟨cfg, L, n, hpc, hlp, h w v hF⟩
/- what a loop hands on: the forms of some values -/
noncomputable def formC (P : Program) (d : CD) (w : KV) : KV :=
  match d with
  | .k c => canonC P canonD (leaf c w)
  | .lit v => v
  | .fam t => canonC P canonD (leaf (.slice t) w)
noncomputable def formL (P : Program) : List CD → (Nat → KV) → Nat → List KV
  | [], _, _ => []
  | d :: ds, w, k => formC P d (w k) :: formL P ds w (Nat.succ k)
noncomputable def formV (P : Program) (d : VD) (w : Nat → KV) : KV := Bool.rec (motive := fun _ => KV) ((formL P d.ks w 0).headD .unk) (.agg (formL P d.ks w 0)) d.agg
noncomputable def formVs (P : Program) : List (Tmp × VD) → (Nat → Nat → KV) → Nat → List KV
  | [], _, _ => []
  | p :: ps, w, k => formV P p.2 (w k) :: formVs P ps w (Nat.succ k)
noncomputable def formRs (P : Program) : List (Tmp × List CD × Nat) → (Nat → Nat → KV) → Nat → List (List KV)
  | [], _, _ => []
  | p :: ps, w, k => formL P p.2.1 (w k) 0 :: formRs P ps w (Nat.succ k)
theorem formC_of {P : Program} {d : CD} {v : KV} (h : goodCD d (normCD P d v) = true) : ∃ w, normCD P d v = formC P d w := by
  cases d with
  | k c =>
    have e : normCD P (.k c) v = cond (kindOk c (normC c v)) (canonC P canonD (leaf c (normC c v))) .unk := rfl
    cases hb : kindOk c (normC c v) with
    | true => exact ⟨normC c v, by rw [e, hb]; rfl⟩
    | false =>
      rw [e, hb] at h
      cases c <;> simp [goodCD, kindOk] at h
  | lit u =>
    have e : normCD P (.lit u) v = cond (litOk u v) u .unk := rfl
    cases hb : litOk u v with
    | true => exact ⟨.unk, by rw [e, hb]; rfl⟩
    | false =>
      rw [e, hb, cond_false] at h
      have h : litOk u .unk = true := h
      cases u <;> first | (simp [litOk] at h; done) | (rename_i f a b; cases f <;> cases a <;> cases b <;> simp [litOk] at h)
  | fam t =>
    cases v with
    | nilsl => exact ⟨.ts t .any 0 [] defAcc0, rfl⟩
    | ts t' m n es acc =>
      cases m with
      | fam f =>
        have e : normCD P (.fam t) (.ts t' (.fam f) n es acc) = cond (Nat.beq t t') (canonC P canonD (.ts t .any n es acc)) .unk := rfl
        cases hb : Nat.beq t t' with
        | true => exact ⟨.ts t .any n es acc, by rw [e, hb]; rfl⟩
        | false => rw [e, hb] at h; simp [goodCD, kindOk] at h
      | _ => simp [normCD, goodCD, kindOk] at h
    | _ => simp [normCD, goodCD, kindOk] at h
theorem formL_congr {P : Program} : ∀ {ds : List CD} {w w' : Nat → KV} {k : Nat}, (∀ i, k ≤ i → w i = w' i) → formL P ds w k = formL P ds w' k
  | [], _, _, _, _ => rfl
  | t :: ts, w, w', k, h => by
    rw [formL, formL, h k (Nat.le_refl _), formL_congr fun i hi => h i (by omega)]
theorem formL_of {P : Program} : ∀ {ds : List CD} {vs : List KV} (k : Nat), goodCDs ds (normCDs P ds vs) = true → ∃ w, normCDs P ds vs = formL P ds w k
  | [], vs, k, _ => ⟨fun _ => .unk, by cases vs <;> rfl⟩
  | d :: ds, [], k, h => by simp [normCDs, goodCDs] at h
  | d :: ds, v :: vs, k, h => by
    simp only [normCDs, goodCDs, Bool.and_eq_true] at h
    obtain ⟨w, hw⟩ := formC_of h.1
    obtain ⟨w', hw'⟩ := formL_of (k + 1) h.2
    refine ⟨fun i => if i = k then w else w' i, ?_⟩
    rw [normCDs, formL, hw, hw', if_pos rfl]
    rw [formL_congr (w := w') (w' := fun i => if i = k then w else w' i) fun i hi => by rw [if_neg (by omega)]]
theorem formV_of {P : Program} {d : VD} {v : KV} (h : goodVD d (normVD P d v) = true) : ∃ w, normVD P d v = formV P d w := by
  have hag := goodVD_cases h
  rcases normVD_cases h with ⟨cs, rfl, h1, h2, h3⟩ | ⟨h0, c, h1, h2, h3, h4, h5⟩
  · obtain ⟨w, hw⟩ := formL_of 0 h3
    refine ⟨w, ?_⟩
    have : d.agg = true := by
      rcases hag with ⟨_, _, q, _⟩ | ⟨q, _⟩
      · exact q
      · exact absurd h2 (q _)
    rw [h2, hw, formV, this]
  · obtain ⟨w, hw⟩ := formC_of h3
    refine ⟨fun _ => w, ?_⟩
    have : d.agg = false := by
      rcases hag with ⟨cs, q, _⟩ | ⟨_, q, _⟩
      · rw [h2] at q; exact absurd q (h5 _)
      · exact q
    rw [h2, hw, formV, this, h1]; rfl
theorem formVs_congr {P : Program} : ∀ {ps : List (Tmp × VD)} {w w' : Nat → Nat → KV} {k : Nat}, (∀ i, k ≤ i → w i = w' i) → formVs P ps w k = formVs P ps w' k
  | [], _, _, _, _ => rfl
  | t :: ts, w, w', k, h => by
    rw [formVs, formVs, h k (Nat.le_refl _), formVs_congr fun i hi => h i (by omega)]
theorem formVs_of {P : Program} {t : KTm} : ∀ {ps : List (Tmp × VD)} (k : Nat), goodVDs ps (grabV P t ps) = true → ∃ w, grabV P t ps = formVs P ps w k
  | [], k, _ => ⟨fun _ _ => .unk, rfl⟩
  | p :: ps, k, h => by
    simp only [grabV, goodVDs, Bool.and_eq_true] at h
    obtain ⟨w, hw⟩ := formV_of h.1
    obtain ⟨w', hw'⟩ := formVs_of (k + 1) h.2
    refine ⟨fun i => if i = k then w else w' i, ?_⟩
    rw [grabV, formVs, hw, hw', if_pos rfl]
    rw [formVs_congr (w := w') (w' := fun i => if i = k then w else w' i) fun i hi => by rw [if_neg (by omega)]]
theorem formRs_congr {P : Program} : ∀ {ps : List (Tmp × List CD × Nat)} {w w' : Nat → Nat → KV} {k : Nat}, (∀ i, k ≤ i → w i = w' i) → formRs P ps w k = formRs P ps w' k
  | [], _, _, _, _ => rfl
  | t :: ts, w, w', k, h => by
    rw [formRs, formRs, h k (Nat.le_refl _), formRs_congr fun i hi => h i (by omega)]
theorem formRs_of {P : Program} : ∀ {ps : List (Tmp × List CD × Nat)} {rs : List (List KV)} (k : Nat), rs.length = ps.length → (∀ (i : Nat) p r, ps[i]? = some p → rs[i]? = some r → goodCDs p.2.1 r = true) →
    (∀ (i : Nat) p, ps[i]? = some p → ∃ cs0, rs[i]? = some (normCDs P p.2.1 cs0) ∧ cs0.length = p.2.1.length) → ∃ w, rs = formRs P ps w k
  | [], [], k, _, _, _ => ⟨fun _ _ => .unk, rfl⟩
  | [], _ :: _, _, h, _, _ => by simp at h
  | _ :: _, [], _, h, _, _ => by simp at h
  | p :: ps, r :: rs, k, hl, hg, hn => by
    obtain ⟨cs0, h1, _⟩ := hn 0 p rfl
    simp only [List.getElem?_cons_zero, Option.some.injEq] at h1
    have h2 := hg 0 p r rfl rfl
    rw [h1] at h2
    obtain ⟨w, hw⟩ := formL_of 0 h2
    obtain ⟨w', hw'⟩ := formRs_of (ps := ps) (rs := rs) (k + 1) (by simpa using hl) (fun i p r a b => hg (i + 1) p r (by simpa using a) (by simpa using b)) fun i p a => by simpa using hn (i + 1) p (by simpa using a)
    refine ⟨fun i => if i = k then w else w' i, ?_⟩
    rw [formRs, h1, hw, if_pos rfl]
    congr 1
    rw [hw']
    exact formRs_congr fun i hi => by rw [if_neg (by omega)]
theorem StOk.form {P : Program} {S : LSpec} {vs : List KV} {rs : List (List KV)} (h : StOk P S vs rs) : ∃ wv wr, vs = formVs P S.vals wv 0 ∧ rs = formRs P S.rows wr 0 := by
  obtain ⟨t, ht⟩ := h.vn
  have hv := h.v
  rw [ht] at hv
  obtain ⟨wv, hwv⟩ := formVs_of 0 hv
  obtain ⟨wr, hwr⟩ := formRs_of 0 h.lenr h.good h.rn
  exact ⟨wv, wr, by rw [ht, hwv], hwr⟩

/-! ## Loops over plain data -/
/-- what a round comes to -/
inductive Stp (X : Type) where
  | fail
  | next (x : X)
  | out (e : AExit) (x : X)
def Stp.enc {X : Type} (ev : X → List KV) (er : X → List (List KV)) : Stp X → Option (AExit × List KV × List (List KV))
  | .fail => .none
  | .next x => some (.normal, ev x, er x)
  | .out e x => some (e, ev x, er x)
theorem Stp.enc_cond {X : Type} (ev : X → List KV) (er : X → List (List KV)) (c : Bool) (a b : Stp X) : Stp.enc ev er (cond c a b) = cond c (Stp.enc ev er a) (Stp.enc ev er b) := by cases c <;> rfl
/-- the rounds, one after the other -/
def Stp.go {X : Type} (step : X → Stp X) : Nat → X → Stp X
  | 0, _ => .fail
  | n + 1, x => match step x with
    | .fail => .fail
    | .next x => Stp.go step n x
    | .out e x => cond (isNormal e) .fail (.out e x)
def sameExit : AExit → AExit → Bool
  | .normal, .normal => true
  | .exit i, .exit j => Nat.beq i j
  | .goto i, .goto j => Nat.beq i j
  | .ret, .ret => true
  | _, _ => false
theorem sameExit_eq {a b : AExit} (h : sameExit a b = true) : a = b := by
  cases a <;> cases b <;> simp [sameExit] at h <;> first | rfl | (subst h; rfl)
def Stp.by {X : Type} (s : Stp X) (e : AExit) : Bool :=
  match s with
  | .out e' _ => sameExit e' e
  | _ => false
def Stp.st {X : Type} [Inhabited X] (s : Stp X) : X :=
  match s with
  | .out _ x => x
  | _ => default
theorem go_iter {X : Type} {step : X → Stp X} {ev : X → List KV} {er : X → List (List KV)} {rd : List KV → List (List KV) → Option (AExit × List KV × List (List KV))} (h : ∀ x, rd (ev x) (er x) = Stp.enc ev er (step x)) :
    ∀ (n : Nat) (x : X) (e : AExit) (y : X), Stp.go step n x = .out e y → iterK rd n (ev x) (er x) = some (e, ev y, er y)
  | 0, x, e, y, hg => by simp [Stp.go] at hg
  | n + 1, x, e, y, hg => by
    simp only [Stp.go] at hg
    have hx := h x
    cases hs : step x with
    | fail => rw [hs] at hg; simp at hg
    | next x' =>
      rw [hs] at hg hx
      simp only [iterK, hx, Stp.enc, isNormal, cond_true]
      exact go_iter h n x' e y hg
    | out e' x' =>
      rw [hs] at hg hx
      simp only at hg
      cases hn : isNormal e' with
      | true => rw [hn] at hg; simp at hg
      | false =>
        rw [hn, cond_false] at hg
        simp only [Stp.out.injEq] at hg
        obtain ⟨rfl, rfl⟩ := hg
        simp only [iterK, hx, Stp.enc, hn, cond_false]
/-- a loop over plain data, told whole: the ways out, one after the other -/
def tellBy {X : Type} [Inhabited X] (ev : X → List KV) (er : X → List (List KV)) (s : Stp X) : List AExit → LTell
  | [] => .no
  | e :: es => .br (s.by e) (.out e (ev s.st) (er s.st)) (tellBy ev er s es)
theorem tellBy_ev {X : Type} [Inhabited X] {ev : X → List KV} {er : X → List (List KV)} {s : Stp X} : ∀ {es : List AExit} {e : AExit} {vs : List KV} {rs : List (List KV)}, (tellBy ev er s es).ev = some (e, vs, rs) → ∃ x, s = .out e x ∧ vs = ev x ∧ rs = er x
  | [], e, vs, rs, h => by simp [tellBy, LTell.ev] at h
  | e' :: es, e, vs, rs, h => by
    simp only [tellBy, LTell.ev] at h
    cases hb : s.by e' with
    | false => rw [hb] at h; exact tellBy_ev h
    | true =>
      rw [hb, cond_true] at h
      simp only [Option.some.injEq, Prod.mk.injEq] at h
      obtain ⟨rfl, rfl, rfl⟩ := h
      cases s with
      | out e0 x =>
        have := sameExit_eq (show sameExit e0 e' = true from hb)
        subst this
        exact ⟨x, rfl, rfl, rfl⟩
      | fail => simp [Stp.by] at hb
      | next x => simp [Stp.by] at hb
def bigN : Nat := 1000000000000
def goN {X : Type} (step : X → Stp X) (x : X) : Stp X := Stp.go step bigN x
theorem loop_ok {P : Program} {l : Lp} {X : Type} [Inhabited X] {cfg : Cfg} {L n : Nat} (hpc : PcOk P cfg.pc) (hlp : LpAll P cfg) {step : X → Stp X} {ev : X → List KV} {er : X → List (List KV)} {es : List AExit} {pa : List KV → List (List KV) → X}
    (hF : ∀ vs rs, l.F vs rs = tellBy ev er (goN step (pa vs rs)) es) (hst : ∀ wv wr, ev (pa (formVs P l.S.vals wv 0) (formRs P l.S.rows wr 0)) = formVs P l.S.vals wv 0 ∧ er (pa (formVs P l.S.vals wv 0) (formRs P l.S.rows wr 0)) = formRs P l.S.rows wr 0)
    (hrd : ∀ x, roundK P cfg L n l.f l.p (bodyOf P l.f l.p) l.S (ev x) (er x) = Stp.enc ev er (step x)) : l.Ok P :=
  ⟨cfg, L, n, hpc, hlp, fun vs rs e vs' rs' hok hev => by
    obtain ⟨wv, wr, rfl, rfl⟩ := hok.form
    obtain ⟨h1, h2⟩ := hst wv wr
    rw [hF] at hev
    obtain ⟨y, hy, rfl, rfl⟩ := tellBy_ev hev
    have := go_iter hrd bigN _ e y hy
    rw [h1, h2] at this
    exact ⟨bigN, this⟩⟩
theorem args0 {P : Program} {as : List KV} (h : argsOk P [] as = true) : as = [] := by
  cases as with
  | nil => rfl
  | cons a as => simp [argsOk] at h
theorem args_cons {P : Program} {t : TypeId} {ts : List TypeId} {as : List KV} (h : argsOk P (t :: ts) as = true) : ∃ v vs, as = v :: vs ∧ elemOk (layF P t) v = true ∧ argsOk P ts vs = true := by
  cases as with
  | nil => simp [argsOk] at h
  | cons a as =>
    simp only [argsOk, Bool.and_eq_true] at h
    exact ⟨a, as, rfl, h.1, h.2⟩
theorem elem_agg {ks : List CK} {v : KV} (h : elemOk ⟨true, ks⟩ v = true) : ∃ cs, v = .agg cs ∧ kindsOk ks cs = true := by
  cases v with
  | agg cs => exact ⟨cs, rfl, by simpa [elemOk] using h⟩
  | tup cs => simp [elemOk] at h
  | _ => simp [elemOk] at h
theorem elem_one {k : CK} {v : KV} (h : elemOk ⟨false, [k]⟩ v = true) : kindOk k v = true := by
  cases v with
  | agg cs => simp [elemOk] at h
  | tup cs => simp [elemOk] at h
  | _ => simpa [elemOk, kindsOk] using h
theorem it_n {rd : List KV → List (List KV) → Option (AExit × List KV × List (List KV))} {n : Nat} {vs vs' : List KV} {rs rs' : List (List KV)} (h : rd vs rs = some (.normal, vs', rs')) : iterK rd (n + 1) vs rs = iterK rd n vs' rs' := by
  simp only [iterK, h]; rfl
theorem it_o {rd : List KV → List (List KV) → Option (AExit × List KV × List (List KV))} {n : Nat} {e : AExit} {vs vs' : List KV} {rs rs' : List (List KV)} (h : rd vs rs = some (e, vs', rs')) (he : isNormal e = false) : iterK rd (n + 1) vs rs = some (e, vs', rs') := by
  simp only [iterK, h, he]; rfl
end Go.K
