/-
  A law's call, from what its arguments read as.
-/
import Derived.Test.YtadjalkkhkkdiaaKEntry
import Derived.WideShapes
import Derived.Below
namespace Go.K
open Go Go.Abs Go.WideShapes

mutual
def deepK (P : Program) : KV → Prop
  | .ts T _ n es acc => TreeOk P T n es acc ∧ deepKs P es
  | .agg cs => deepKs P cs
  | _ => True
def deepKs (P : Program) : List KV → Prop
  | [] => True
  | v :: vs => deepK P v ∧ deepKs P vs
end
mutual
theorem VK.deep {P : Program} {E : Env} : ∀ {v : KV} {u : Value}, VK P E v u → deepK P v
  | .ts T m n es acc, u, h => by
    obtain ⟨h1, us, h2, _⟩ := h.ts_inv
    exact ⟨h1, VKL.deep h2⟩
  | .agg cs, u, h => by
    obtain ⟨l, _, h1⟩ := h.agg_inv
    exact VKL.deep (vs := cs) h1
  | .int _ _, _, _ | .bool _, _, _ | .str _, _, _ | .tup _, _, _ | .tp .., _, _ | .ptr .., _, _ | .sl .., _, _ | .nilp, _, _ | .nilsl, _, _ | .nilmap, _, _ | .map _, _, _ | .fn .., _, _ | .nilfn, _, _ | .iface .., _, _ | .nilif, _, _ | .unk, _, _ => trivial
theorem VKL.deep {P : Program} {E : Env} : ∀ {vs : List KV} {us : List Value}, VKL P E vs us → deepKs P vs
  | [], _, _ => trivial
  | v :: vs, us, h => by
    simp only [VKL] at h
    obtain ⟨y, ys, _, h1, h2⟩ := h
    exact ⟨VK.deep h1, VKL.deep h2⟩
end
def argsOk (P : Program) : List TypeId → List KV → Bool
  | [], [] => true
  | t :: ts, v :: vs => elemOk (layF P t) v && argsOk P ts vs
  | _, _ => false
/-- a parameter's type: may it be read, and is its layout known? -/
def paramT (P : Program) (t : TypeId) : Bool := entryT P 30 t && (match lay P 12 t with
  | some l => Nat.beq l.ks.length (P.cellsOf t)
  | .none => false)
section
variable {H : Type} {enc : TypeId × Value → H} {P : Program} {W : World}
theorem pos_of_wide {r : Reach} {base : Nat} {t : TypeId} {v : Value} (h : Value.okWide P W r base t v) : PosW W v.cells.toList := by
  intro a n c hm
  have cell : ∀ u, Cell.okWide P W r base u (.slice (some a) n c) → 0 < W.heap.size := by
    intro u hu
    unfold Cell.okWide at hu
    split at hu <;> try (rename_i heq; simp at heq; done)
    unfold Cell.ok at hu
    split at hu <;> try (rename_i heq; simp at heq; done)
    · rename_i e heq
      simp at heq
      obtain ⟨rfl, rfl, rfl⟩ := heq
      obtain ⟨_, _, _, _, row, cells, hs, _⟩ := hu
      unfold World.shape? at hs
      split at hs
      · rename_i hh
        have := (Array.getElem?_eq_some_iff.1 hh).1
        omega
      · simp at hs
    · exact hu.elim
  unfold Value.okWide at h
  split at h
  · obtain ⟨cs, rfl, _, ts, _, _, hc⟩ := h
    obtain ⟨i, hi⟩ := List.getElem?_of_mem hm
    obtain ⟨u, _, hu⟩ := hc i _ (by simpa [Value.cells] using hi)
    exact cell u hu
  · obtain ⟨cs, rfl, _, ts, _, _, hc⟩ := h
    obtain ⟨i, hi⟩ := List.getElem?_of_mem hm
    obtain ⟨u, _, hu⟩ := hc i _ (by simpa [Value.cells] using hi)
    exact cell u hu
  · have hv : v.cells.toList = [v] ∨ ∃ cs, v = .agg cs := by cases v <;> first | exact .inl rfl | exact .inr ⟨_, rfl⟩
    rcases hv with hv | ⟨cs, rfl⟩
    · rw [hv] at hm
      simp at hm
      subst hm
      exact cell t h
    · exfalso
      unfold Cell.okWide at h
      split at h <;> try (rename_i heq; simp at heq; done)
      unfold Cell.ok at h
      split at h <;> first | (rename_i heq; simp at heq; done) | exact h.elim
theorem read_arg {E : Env} {B : St} {ρ : Ren} {t : TypeId} {v : Value} {d : DataW H} {ps : List MemPlace} {r : Reach} {base : Nat} (ht : paramT P t = true) (hd : DataW.Trod enc P W 0 (fun _ => true) true t v d ps) (hw : Value.okWide P W r base t v) (hi : Ini P W E B ρ) :
    ∃ E' B' ρ' a, Ini P W E' B' ρ' ∧ E.le E' ∧ ρ.le ρ' ∧ VC P E' ρ' a v ∧ elemOk (layF P t) a = true ∧ wfK a := by
  unfold paramT at ht
  simp only [Bool.and_eq_true] at ht
  obtain ⟨ht1, ht2⟩ := ht
  split at ht2
  · rename_i l hl
    obtain ⟨fuel, hf⟩ := hd
    obtain ⟨E1, B1, ρ1, ks, h1, h2, h3, ⟨m, h4, h4'⟩, h5, h6⟩ := read_ok 30 t ht1 fuel _ _ E B ρ hf (pos_of_wide hw) hi
    have hk := h6 12 l hl
    have hlF : layF P t = l := by simp [layF, hl]
    -- the value's shape
    have hshape : (l.agg = true ∧ ∃ cs : Array Value, v = .agg cs) ∨ (l.agg = false ∧ l.ks.length = 1 ∧ v.cells.toList = [v]) := by
      unfold entryT at ht1
      split at ht1
      · rename_i k hu
        obtain ⟨n, rfl⟩ := okWide_int hu hw
        simp only [lay, hu, Option.some.injEq] at hl
        subst hl; exact .inr ⟨rfl, rfl, rfl⟩
      · rename_i hu
        obtain ⟨n, rfl⟩ := okWide_bool hu hw
        simp only [lay, hu, Option.some.injEq] at hl
        subst hl; exact .inr ⟨rfl, rfl, rfl⟩
      · rename_i hu
        obtain ⟨n, rfl⟩ := okWide_string hu hw
        simp only [lay, hu, Option.some.injEq] at hl
        subst hl; exact .inr ⟨rfl, rfl, rfl⟩
      · rename_i e hu
        obtain ⟨a, n, c, rfl⟩ := okWide_slice hu hw
        simp only [lay, hu, Option.some.injEq] at hl
        subst hl; exact .inr ⟨rfl, rfl, rfl⟩
      · rename_i fs hu
        simp only [lay, hu, Option.map_eq_some_iff] at hl
        obtain ⟨_, _, rfl⟩ := hl
        unfold Value.okWide at hw
        rw [hu] at hw
        obtain ⟨cs, rfl, _⟩ := hw
        exact .inl ⟨rfl, cs, rfl⟩
      · rename_i len e hu
        simp only [lay, hu, Option.map_eq_some_iff] at hl
        obtain ⟨_, _, rfl⟩ := hl
        unfold Value.okWide at hw
        rw [hu] at hw
        obtain ⟨cs, rfl, _⟩ := hw
        exact .inl ⟨rfl, cs, rfl⟩
      · simp at ht1
    refine ⟨E1, B1, ρ1, mkV l.agg ks, h1, h2, h3, ?_, ?_, mkV_wf h5⟩
    · rcases hshape with ⟨ha, cs, rfl⟩ | ⟨ha, hlen, hv⟩
      · rw [ha]
        exact ⟨.agg ⟨m⟩, .mkAgg h4, VR.mkAgg (l' := cs.toList) h4'⟩
      · rw [ha]
        rw [hv] at h4'
        have hml : m.length = 1 := by have := h4'.length; simpa using this.symm
        have := mkV_rel (agg := false) h4 (.inr hml)
        match m, hml, h4', this with
        | [y], _, h4', this =>
          obtain ⟨z, zs, e, q1, _⟩ := h4'.cons_inv
          simp at e
          refine ⟨y, this, ?_⟩
          rw [e.1]; exact q1
    · rw [hlF]
      exact mkV_elem hk (hshape.imp (·.1) (·.2.1))
  · simp at ht2
theorem read_args {r : Reach} {base : Nat} : ∀ {ts : List TypeId} {vs : List Value} {ds : List (DataW H)} {ps : List MemPlace} {E : Env} {B : St} {ρ : Ren}, (∀ t ∈ ts, paramT P t = true) → DataW.TrodAll enc P W 0 (fun _ => true) true ts vs ds ps →
    (∀ (j : Nat) t v, ts[j]? = some t → vs[j]? = some v → Value.okWide P W r base t v) → Ini P W E B ρ → ∃ E' B' ρ' as, Ini P W E' B' ρ' ∧ E.le E' ∧ ρ.le ρ' ∧ VCL P E' ρ' as vs ∧ argsOk P ts as = true ∧ wfKs as
  | [], vs, ds, ps, E, B, ρ, _, h, _, hi => by
    obtain ⟨rfl, _, _⟩ := Go.ChangeShapes.trodAll_nil h
    exact ⟨E, B, ρ, [], hi, Env.le_refl _, Ren.le_refl _, ⟨[], .nil, .nil⟩, rfl, trivial⟩
  | t :: ts, vs, ds, ps, E, B, ρ, ht, h, hw, hi => by
    obtain ⟨v, vs1, d, ds1, a, b, rfl, rfl, rfl, h1, h2⟩ := Go.ChangeShapes.trodAll_cons h
    obtain ⟨E1, B1, ρ1, x, q1, q2, q3, ⟨u, q4, q4'⟩, q5, q6⟩ := read_arg (ht t (by simp)) h1 (hw 0 t v rfl rfl) hi
    obtain ⟨E2, B2, ρ2, xs, p1, p2, p3, ⟨m, p4, p4'⟩, p5, p6⟩ := read_args (fun t' h' => ht t' (by simp [h'])) h2 (fun j t' v' h3 h4 => hw (j + 1) t' v' (by simpa using h3) (by simpa using h4)) q1
    exact ⟨E2, B2, ρ2, x :: xs, p1, Env.le_trans q2 p2, Ren.le_trans q3 p3, ⟨u :: m, .cons (q4.mono p2) p4, .cons (q4'.mono p3) p4'⟩, by simp [argsOk, q5, p5], ⟨q6, p6⟩⟩
/-- A LAW: if the machine says true of all trees that the arguments can read as, the call returns true and nothing that was there has turned. -/
theorem law_ok (hP : P.funcs.toList.all funcOk = true) (hm : P.follows .mixedOrders = true) {cfg : Cfg} (hpc : PcOk P cfg.pc) (hlp : LpAll P cfg) {L n : Nat} {f : FuncId} {ts : List TypeId} (hts : ts.all (paramT P) = true)
    (hall : ∀ as, argsOk P ts as = true → wfKs as → deepKs P as → pureK P cfg L n f as = some (.bool true)) {args : Array Value} {ds : List (DataW H)} {ps : List MemPlace} {r : Reach} {base : Nat}
    (hd : DataW.TrodAll enc P W 0 (fun _ => true) true ts args.toList ds ps) (hw : ∀ (j : Nat) t v, ts[j]? = some t → args.toList[j]? = some v → Value.okWide P W r base t v) :
    Calls P f args W fun e w' => e = .returned (.bool true) ∧ RowKit.Below W.heap.size W w' := by
  obtain ⟨E, B, ρ, as, h1, _, _, h4, h5, h6⟩ := read_args (List.all_eq_true.1 hts) hd hw (Ini.start P W)
  have hdeep : deepKs P as := by obtain ⟨m, q, _⟩ := h4; exact q.deep
  have hrun := hall as h5 h6 hdeep
  have hic := icall_soundK (R := KV) hP hm hpc hlp L n
  obtain ⟨fn, c, hf, hc, hok, hnm, hrun⟩ := body_cases hP hrun
  have := body_soundK hpc hic hm L hf hc hok (hlp f fn c hf hc) hrun h4 (base := W.heap.size) (w := W) ⟨h1.k, h1.sim⟩
  refine this.mono ?_
  rintro e w' ⟨vs, vs', E1, A1, B1, ρ1, rfl, ⟨m, q1, q1'⟩, q2, q3⟩
  have q3 : Bool.rec (motive := fun _ => Option KV) .none (some (packK (typedAll P (resTypes P f) vs))) (Nat.beq vs.length (resTypes P f).length) = some (.bool true) := q3
  cases hb : Nat.beq vs.length (resTypes P f).length with
  | false => rw [hb] at q3; exact absurd q3 (by simp)
  | true =>
    rw [hb] at q3
    have q3 : some (packK (typedAll P (resTypes P f) vs)) = some (.bool true) := q3
    simp only [Option.some.injEq] at q3
    have hv : VC P E1 ρ1 (packK (typedAll P (resTypes P f) vs)) (packV vs') := pack_sound ⟨m, by rw [typedAll_args]; exact VKL.zArgs rfl q1 (Nat.eq_of_beq_eq_true hb), q1'⟩
    rw [q3] at hv
    have hg := q2.goes
    refine ⟨by rw [hv.bool_inv], hg.kept.os, hg.kept.tape, hg.kept.output, hg.kept.size, fun k hk => hg.kept.block k hk ?_⟩
    rintro ⟨b, o, l, ho, hmine, _⟩
    rw [(h1.foreign b o ho).1] at hmine
    simp at hmine
end

/-! ## Pure functions, listed -/
noncomputable def pcOf : List (Nat × (List KV → Option KV)) → FuncId → Option (List KV → Option KV)
  | [], _ => .none
  | p :: ps, g => cond (Nat.beq p.1 g) (some p.2) (pcOf ps g)
theorem pc_all {P : Program} : ∀ {ps : List (Nat × (List KV → Option KV))}, (∀ p ∈ ps, PureOk P p.1 p.2) → PcOk P (pcOf ps)
  | [], _ => fun g F h => by simp [pcOf] at h
  | p :: ps, h => fun g F hF => by
    unfold pcOf at hF
    cases hb : Nat.beq p.1 g with
    | true =>
      rw [hb] at hF
      simp only [cond_true, Option.some.injEq] at hF
      have := Nat.eq_of_beq_eq_true hb
      subst this hF
      exact h p (by simp)
    | false =>
      rw [hb] at hF
      exact pc_all (fun q hq => h q (List.mem_cons_of_mem _ hq)) g F hF
theorem pc_none {P : Program} : PcOk P Cfg.none.pc := fun g F h => by simp [Cfg.none] at h
theorem lp_none {P : Program} : LpAll P Cfg.none := fun f fn c _ _ p F body h => by simp [Cfg.none] at h
/-- a function's answer where its arguments are of its types -/
noncomputable def guardF (P : Program) (g : FuncId) (F : List KV → Option KV) : List KV → Option KV := fun as => cond (argsOk P (paramsOf P g) as) (F as) .none
theorem pure_of {P : Program} {g : FuncId} {F : List KV → Option KV} (hP : P.funcs.toList.all funcOk = true) (hm : P.follows .mixedOrders = true) {cfg : Cfg} (hpc : PcOk P cfg.pc) (hlp : LpAll P cfg) {L n : Nat}
    (h : ∀ as v, argsOk P (paramsOf P g) as = true → F as = some v → pureK P cfg L n g as = some v) : PureOk P g (guardF P g F) :=
  pure_ok hP hm fun as v _ hF => by
    unfold guardF at hF
    cases hb : argsOk P (paramsOf P g) as with
    | false => rw [hb] at hF; simp at hF
    | true => rw [hb] at hF; exact ⟨cfg, L, n, hpc, hlp, h as v hb hF⟩
theorem args0 {P : Program} {as : List KV} (h : argsOk P [] as = true) : as = [] := by
  cases as with
  | nil => rfl
  | cons a as => simp [argsOk] at h
theorem args_cons {P : Program} {t : TypeId} {ts : List TypeId} {as : List KV} (h : argsOk P (t :: ts) as = true) : ∃ v vs, as = v :: vs ∧ elemOk (layF P t) v = true ∧ argsOk P ts vs = true := by
  cases as with
  | nil => simp [argsOk] at h
  | cons a as =>
    simp only [argsOk, Bool.and_eq_true] at h
    exact ⟨a, as, rfl, h.1, h.2⟩
theorem elem_agg {ks : List CK} {v : KV} (h : elemOk ⟨true, ks⟩ v = true) : ∃ cs, v = .agg cs ∧ kindsOk ks cs = true := by
  cases v with
  | agg cs => exact ⟨cs, rfl, by simpa [elemOk] using h⟩
  | tup cs => simp [elemOk] at h
  | _ => simp [elemOk] at h
theorem elem_one {k : CK} {v : KV} (h : elemOk ⟨false, [k]⟩ v = true) : kindOk k v = true := by
  cases v with
  | agg cs => simp [elemOk] at h
  | tup cs => simp [elemOk] at h
  | _ => simpa [elemOk, kindsOk] using h
theorem it_n {rd : List KV → List (List KV) → Option (AExit × List KV × List (List KV))} {n : Nat} {vs vs' : List KV} {rs rs' : List (List KV)} (h : rd vs rs = some (.normal, vs', rs')) : iterK rd (n + 1) vs rs = iterK rd n vs' rs' := by
  simp only [iterK, h]; rfl
theorem it_o {rd : List KV → List (List KV) → Option (AExit × List KV × List (List KV))} {n : Nat} {e : AExit} {vs vs' : List KV} {rs rs' : List (List KV)} (h : rd vs rs = some (e, vs', rs')) (he : isNormal e = false) : iterK rd (n + 1) vs rs = some (e, vs', rs') := by
  simp only [iterK, h, he]; rfl
end Go.K
