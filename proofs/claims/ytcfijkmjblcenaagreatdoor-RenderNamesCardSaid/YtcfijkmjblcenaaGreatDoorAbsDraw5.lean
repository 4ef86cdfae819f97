/-
  A region that draws its order: the abstract machine's run of it is sound.
-/
import Derived.Test.YtcfijkmjblcenaaGreatDoorAbsDraw4
namespace Go.Abs
noncomputable section
open Go

structure TR (ρ : Ren) (t : Tm) (N : Nat) (a : Act) : Prop where
  size : a.tmps.size = N
  val : ∀ i, VR ρ ((t.get i).getD undef) (a.tmps.getD i undef)
  none : ∀ i, N ≤ i → t.get i = Option.none
  glob : Glob ρ

theorem VR.undef {ρ : Ren} : VR ρ undef undef := VR.of_flat (by simp [Go.undef, flat, flatA, flatL])

/-- a round: the body that yield hands over to -/
def Round (P : Program) (l : Nat) (args : Array Value) (w : World) (R : Ending → World → Prop) : Prop :=
  ∃ f tmps assign body, (Instr.yield l args).run P w = .ok (.round l f tmps assign body) w ∧ RoundIn Fence.wide 0 P l f tmps assign body w R
def CallOk (P : Program) (call : CallF) : Prop :=
  ∀ f args A v B, call f args A = some (v, B) →
    (Nat.blt f yB = true → ∃ fn, P.funcs[f]? = some fn ∧ fn.body.isSome = true ∧ (fn.name == "runtime.NumGoroutine") = false) ∧
    ∀ (ρ : Ren) (args' : List Value) (base : Nat) (w : World), VRL ρ args args' → Sim ρ A base w →
      (Nat.blt f yB = true → Calls P f args'.toArray w fun e w' => ∃ ρ' v', e = .returned v' ∧ VR ρ' v v' ∧ Goes base ρ A w ρ' B w') ∧
      (Nat.blt f yB = false → ∀ loc, ρ (Nat.sub f yB) = some loc → Round P loc.cb args'.toArray w fun e w' => ∃ ρ' v', e = .returned v' ∧ VR ρ' v v' ∧ Goes base ρ A w ρ' B w')

theorem wpIn_of {P : Program} {o : Oper} {r : Option Nat} {a : Act} {w : World} {next : Act → World → Prop} {Q : Exit → Act → World → Prop} (hnd : ∀ c, o.op ≠ .defer c)
    (h : o.uponIn (Fr r) 0 P a next Q ((execOp a.eval o).run P w)) : o.wpIn (Fr r) 0 P a w next Q := by
  refine ⟨fun _ _ => trivial, ?_⟩
  rw [Oper.semAt_eq _ _ _ hnd]
  exact h
theorem calleeVal_inv {args : List Value} {v : Value} {g : FuncId} {vs : List Value} (h : calleeVal args v = some (g, vs)) (hg : Nat.blt g yB = false) : ∃ l, v = .func (.yield l) ⟨[]⟩ ⟨[]⟩ ∧ Nat.sub g yB = l ∧ vs = args := by
  unfold calleeVal at h
  split at h
  · rename_i g' first cap
    cases hb : Nat.blt g' yB with
    | false => rw [hb] at h; simp at h
    | true =>
      rw [hb] at h
      simp only [cond_true, Option.some.injEq, Prod.mk.injEq] at h
      rw [h.1, hg] at hb
      simp at hb
  · rename_i l
    simp only [Option.some.injEq, Prod.mk.injEq] at h
    exact ⟨l, rfl, by rw [← h.1]; exact Nat.add_sub_cancel_left .., h.2.symm⟩
  · simp at h
/-- a call, or a round -/
theorem call_up {P : Program} {call : CallF} {o : Oper} {r : Option Nat} {f : Operand} {xs : List Operand} {g : FuncId} {vs : List Value} {A B : St} {v : Value} {ρ : Ren} {ev : Operand → Value} {a : Act} {base : Nat} {w : World} {next : Act → World → Prop} {Q : Exit → Act → World → Prop}
    (hok : InsOk P o (.call f xs)) (hcall : CallOk P call) (hev : EvOn ρ ev a.eval (f :: xs)) (hcal : calleeVal (xs.map ev) (ev f) = some (g, vs)) (h : call g vs A = some (v, B)) (hs : Sim ρ A base w)
    (hk : ∀ ρ' v' w', VR ρ' v v' → Goes base ρ A w ρ' B w' → next (a.put o.dst v') w') : o.uponIn (Fr r) 0 P a next Q ((execOp a.eval o).run P w) := by
  obtain ⟨hfn, hc⟩ := hcall _ _ _ _ _ h
  cases hb : Nat.blt g yB with
  | true =>
    obtain ⟨vs', h1, h2⟩ := hok.2 ρ _ _ _ _ hev hb hcal (hfn hb)
    rw [h2 w]
    refine ⟨fun h => by simp [Fence.wide] at h, ?_⟩
    have h3 := (callsIn_wide (n := 0)).2 ((hc ρ vs' base w h1 hs).1 hb)
    refine CallsIn.mono (F := Fr r) (n := 0) (R := fun e w' => ∃ ρ' v', e = .returned v' ∧ VR ρ' v v' ∧ Goes base ρ A w ρ' B w') h3 ?_
    rintro e w' ⟨ρ', v', rfl, h4, h5⟩
    exact hk ρ' v' w' h4 h5
  | false =>
    obtain ⟨l, e1, e2, rfl⟩ := calleeVal_inv hcal hb
    obtain ⟨loc, vs', h0, h1, h2⟩ := hok.1 ρ _ _ l hev e1
    obtain ⟨f', tmps, assign, body, h3, h4⟩ := (hc ρ vs' base w h1 hs).2 hb loc (by rw [e2]; exact h0)
    rw [h2 w, h3]
    refine ⟨fun h => by simp [Fence.wide] at h, ?_⟩
    refine RoundIn.mono (F := Fr r) (n := 0) (R := fun e w' => ∃ ρ' v', e = .returned v' ∧ VR ρ' v v' ∧ Goes base ρ A w ρ' B w') h4 ?_
    rintro e w' ⟨ρ', v', rfl, h4, h5⟩
    exact hk ρ' v' w' h4 h5

section
variable {P : Program} {call : CallF} {all : List Oper} {A0 : St} {t0 : Tm} {R : List Rec} {N : Nat} {d0 : List Deferred} {base : Nat} {ρ0 : Ren} {w0 : World}

theorem Inv.congr (hS : Setup P call all A0 t0 R) {S S' : Nat → Bool} {a : Act} {w : World} {ρ : Ren} (h : ∀ i, i < all.length → S i = S' i) (hI : Inv all A0 t0 R N d0 base ρ0 w0 S a w ρ) : Inv all A0 t0 R N d0 base ρ0 w0 S' a w ρ := by
  have hR : ∀ r ∈ R, S r.i = S' r.i := fun r hr => h _ (by rw [← hS.len]; exact hS.valid.lt hr)
  have hl : lS R S' = lS R S := (lastE_congr R fun s hs _ => hR s hs).symm
  have hw : ∀ x, writer all R S' x = writer all R S x := fun x => (find_congr R fun s hs => by rw [hR s hs]).symm
  have hc : coreOf A0 R S' = coreOf A0 R S := by simp only [coreOf, hl]
  refine ⟨hI.size, hI.defers, fun x => ?_, by rw [hc]; exact hI.core, ?_, ?_, ?_, ?_⟩
  · unfold nxOf valOf; rw [hw]; exact hI.tm x
  · rw [hc, hl]; intro r hr h1; exact hI.news r hr (by rw [hR r hr]; exact h1)
  · rw [hl]; intro r hr s hs h1 h2; exact hI.newsApart r hr s hs (by rw [hR r hr]; exact h1) (by rw [hR s hs]; exact h2)
  · intro r hr h1; exact hI.unborn r hr (by rw [hR r hr]; exact h1)
  · rw [hc]
    intro b l h1
    rcases hI.dom b l h1 with h2 | ⟨s, hs, h2, h3⟩
    · exact .inl h2
    · exact .inr ⟨s, hs, by rw [← hR s hs]; exact h2, h3⟩

theorem looks_guard {o : Oper} {d : Tmp} (h : d ∈ guardTmp all o) : d ∈ looks P all o := by unfold looks; simp [h]
theorem looks_op {o : Oper} {x : Tmp} (h : Operand.tmp x ∈ insXs (compile P o.op)) : x ∈ looks P all o := by unfold looks; simp [opTmps_mem h]

theorem readsOk_spec {b : List Nat} {es : List (Option Nat)} : ∀ {rs : List Rec}, readsOk b A0 R es rs = true → ∀ r ∈ rs, ∀ f vs, r.did = .read f vs → under r.nx r.v = true ∧ readOk b A0 R r f vs es = true
  | [], _, r, h, _, _, _ => by simp at h
  | x :: rs, h, r, hr, f, vs, hd => by
    simp only [readsOk, Bool.and_eq_true] at h
    rcases List.mem_cons.1 hr with e | hr
    · subst e
      rw [hd] at h
      simpa using h.1
    · exact readsOk_spec h.2 r hr f vs hd
theorem readOk_spec {b : List Nat} {r : Rec} {f : St → List Value → Option Value} {vs : List Value} {e : Option Nat} : ∀ {es : List (Option Nat)}, readOk b A0 R r f vs es = true → e ∈ es → mayE b r.i e R = true → f (viewE b A0 R e (bef b r.i)) vs = some r.v
  | [], _, h, _ => by simp at h
  | x :: es, h, he, hm => by
    simp only [readOk, Bool.and_eq_true] at h
    rcases List.mem_cons.1 he with rfl | he
    · have h1 := h.1
      rw [hm, cond_true] at h1
      unfold sameO at h1
      split at h1
      · rename_i u hu; rw [hu, sameV_eq h1]
      · simp at h1
    · exact readOk_spec h.2 he hm
theorem readsSure_of {b : List Nat} {R : List Rec} (h : readsOk b A0 R (effects R) R = true) : ReadsSure b A0 R := fun r hr f vs hd => by
  obtain ⟨h1, h2⟩ := readsOk_spec h r hr f vs hd
  exact ⟨.inl h1, fun e he hm => readOk_spec h2 he hm⟩
theorem effects_mem : ∀ {R : List Rec} {r : Rec}, r ∈ R → isAct r → some r.i ∈ effects R
  | [], r, h, _ => by simp at h
  | x :: R, r, h, ha => by
    simp only [effects]
    rcases List.mem_cons.1 h with rfl | h
    · obtain ⟨B, hB⟩ := ha; rw [hB]; simp
    · have := effects_mem h ha
      split
      · simp [this]
      · exact this
theorem effects_none : ∀ (R : List Rec), none ∈ effects R
  | [] => by simp [effects]
  | x :: R => by
    simp only [effects]
    have := effects_none R
    split
    · simp [this]
    · exact this
theorem mayE_of {b : List Nat} {i : Nat} {e : Option Nat} : ∀ {R : List Rec}, (∀ r ∈ R, isAct r → match e with | some e => (bef b i r.i = true → r.i ≤ e) ∧ (bef b r.i i = true → e < r.i) | none => bef b i r.i = false) → mayE b i e R = true
  | [], _ => rfl
  | r :: R, h => by
    simp only [mayE, Bool.and_eq_true]
    refine ⟨?_, mayE_of fun s hs => h s (by simp [hs])⟩
    split
    · rename_i B hB
      have := h r (by simp) ⟨B, hB⟩
      cases e with
      | none => simp only at this ⊢; simp [this]
      | some e =>
        simp only at this ⊢
        simp only [Bool.and_eq_true, Bool.or_eq_true, Bool.not_eq_true']
        refine ⟨?_, ?_⟩
        · cases hb : bef b i r.i with
          | false => exact .inl rfl
          | true => exact .inr (by rw [Nat.ble_eq]; exact this.1 hb)
        · cases hb : bef b r.i i with
          | false => exact .inl rfl
          | true => exact .inr (by rw [Nat.blt_eq]; exact this.2 hb)
    · rfl

/-- what a read that is ready may see as the last that turned the store -/
theorem mayE_last (hS : Setup P call all A0 t0 R) {S : Nat → Bool} (hc : Closed all S) {r : Rec} {o : Oper} (ho : all[r.i]? = some o) (hSi : S r.i = false) (hrd : readyFor all S r.i) :
    lS R S ∈ effects R ∧ mayE (befAll [] all) r.i (lS R S) R = true := by
  rcases hS.last S with ⟨h1, _, h3⟩ | ⟨y, hy, h1, h2, h3, _, h5⟩
  · rw [h1]
    refine ⟨effects_none R, mayE_of fun s hs ha => ?_⟩
    cases hb : bef (befAll [] all) r.i s.i with
    | false => rfl
    | true =>
      have := hc.ready hS.facts ho hrd _ hb
      rw [h3 s hs ha] at this; simp at this
  · rw [h1]
    refine ⟨effects_mem hy ⟨_, h3⟩, mayE_of fun s hs ha => ⟨fun hb => h5 s hs ha (hc.ready hS.facts ho hrd _ hb), fun hb => ?_⟩⟩
    have hns : S s.i = false := by
      cases hss : S s.i with
      | false => rfl
      | true =>
        have := hc _ _ hss hb
        rw [hSi] at this; simp at this
    rcases Nat.lt_trichotomy y.i s.i with h | h | h
    · exact h
    · rw [← h, h2] at hns; simp at hns
    · have := hc _ _ h2 (chain_bef hS.facts hS.valid hS.chain hy hs ⟨_, h3⟩ ha h)
      rw [hns] at this; simp at this

theorem VR.res_res {ρ : Ren} {n m : Nat} {v v' : Value} (hv : VR ((ρ.res n).res m) v v') : VR (ρ.res m) v v' := by
  refine hv.mono fun b l e => ?_
  obtain ⟨h1, h2⟩ := Ren.res_lt e
  obtain ⟨_, h3⟩ := Ren.res_lt h2
  rw [Ren.res_of h1]; exact h3

theorem Inv.glob {S : Nat → Bool} {a : Act} {w : World} {ρ : Ren} (hI : Inv all A0 t0 R N d0 base ρ0 w0 S a w ρ) (hs0 : Sim ρ0 A0 base w0) {n : Nat} (hn : A0.next ≤ n) : Glob (ρ.res n) := fun g hg => by
  obtain ⟨l, e, h⟩ := hs0.glob g hg
  have h1 := hs0.dom g l e
  have h2 := hI.core.ext g h1
  rw [e] at h2
  obtain ⟨_, h3⟩ := Ren.res_lt h2
  exact ⟨l, by rw [Ren.res_of (by omega)]; exact h3, h⟩

/-- the next operation, whichever it is -/
theorem step_sound (hcall : CallOk P call) (hS : Setup P call all A0 t0 R) (hs0 : Sim ρ0 A0 base w0) (hdN : all.all (dstOk N) = true) (ht0 : ∀ x, N ≤ x → t0.get x = none) {Q : Exit → Act → World → Prop} {S : Nat → Bool} {a : Act} {w : World} {i : Nat} {o : Oper}
    (hI : ∃ ρ, Inv all A0 t0 R N d0 base ρ0 w0 S a w ρ) (hc : Closed all S) (ho : all[i]? = some o) (hSi : S i = false) (hrd : readyFor all S i) {rd : Option Nat} :
    wpOpIn (Fr rd) 0 P ⟨all⟩ Q i (fun a' w' => ∃ ρ, Inv all A0 t0 R N d0 base ρ0 w0 (insertS S i) a' w' ρ) a w := by
  obtain ⟨ρ, hI⟩ := hI
  have hlt : i < all.length := (List.getElem?_eq_some_iff.1 ho).1
  obtain ⟨r, hr, rfl⟩ := hS.valid.get (i := i) (by rw [hS.len]; exact hlt)
  obtain ⟨R0, R1, e, hv, hi, o', ho', hrec⟩ := hS.valid.at hr
  rw [ho] at ho'
  simp at ho'
  subst ho'
  have hdst : ∀ d, o.dst = some d → d < N := by
    intro d ed
    have := List.all_eq_true.1 hdN o (List.mem_of_getElem? ho)
    unfold dstOk at this
    rw [ed] at this
    simp only at this
    rw [Nat.blt_eq] at this
    exact this
  have hoA : (⟨all⟩ : Array Oper)[r.i]? = some o := by simpa using ho
  have hevx : ∀ x ∈ looks P all o, VR (ρ.res (nxAt A0 R0)) (((textT all t0 R0).get x).getD undef) (a.tmps.getD x undef) := fun x hx => ev_ready hS hI hc hr e hv ho hSi hrd hx
  have htN : ∀ (R0 : List Rec) (x : Nat), N ≤ x → (textT all t0 R0).get x = none := by
    intro R0 x hx
    induction R0 with
    | nil => exact ht0 x hx
    | cons s R0 ih =>
      simp only [textT]
      cases hds : dstOf all s.i with
      | none => exact ih
      | some d =>
        simp only [putT, Trie.get_set]
        have hd : d < N := by
          unfold dstOf at hds
          obtain ⟨os, h1, h2⟩ := Option.bind_eq_some_iff.1 hds
          have := List.all_eq_true.1 hdN os (List.mem_of_getElem? h1)
          unfold dstOk at this
          rw [h2] at this
          simp only at this
          rw [Nat.blt_eq] at this
          exact this
        rw [if_neg (fun e => by rw [e] at hx; exact absurd hd (Nat.not_lt_of_le hx))]
        exact ih
  unfold recV at hrec
  obtain ⟨wd, hwd, hrec⟩ := Option.bind_eq_some_iff.1 hrec
  have hwant : Region.wanted o (yielded ⟨all⟩ a.tmps) = wd := guard_ready (fun d hd => ⟨hevx d (looks_guard hd), fun hne => by
    rw [hI.size]
    rcases Nat.lt_or_ge d N with h | h
    · exact h
    · exact absurd (htN R0 d h) hne⟩) hwd
  unfold wpOpIn
  rw [hoA]
  simp only [hwant]
  cases wd with
  | false =>
    simp only [cond_false, Option.some.injEq] at hrec
    have hdid : r.did = .val := by rw [← hrec]
    have hrv : r.v = undef := by rw [← hrec]
    simp only [Bool.false_eq_true, if_false]
    exact ⟨fun _ _ => trivial, ρ, hI.plain hS hc hr ho hSi hdst (by rintro ⟨B, hB⟩; rw [hdid] at hB; simp at hB) (fun id ob h => by rw [hdid] at h; simp at h) (by rw [hrv]; exact VR.undef)⟩
  | true =>
    simp only [cond_true] at hrec
    simp only [if_true]
    refine wpIn_of (fun c e => by rw [e] at hrec; simp [compile, recIns] at hrec) ?_
    have hok := compile_ok P o
    have hev : EvOn (ρ.res (nxAt A0 R0)) (evA (textT all t0 R0)) a.eval (insXs (compile P o.op)) := by
      intro x hx
      cases x with
      | tmp x => exact hevx x (looks_op hx)
      | const v =>
        simp only [evA, Act.eval]
        cases hf : flat v with
        | true => exact VR.of_flat hf
        | false => simp [VR]
      | global g => exact (hI.glob hs0 hv.nx_base).ev g
      | func f => exact VR.mkFunc (l := []) (m := []) (.func f) rfl .nil .nil
    generalize compile P o.op = ins at hrec hok hev
    cases ins with
    | pure f xs =>
      simp only [recIns] at hrec
      obtain ⟨v, hv1, hrec⟩ := Option.map_eq_some_iff.1 hrec
      have hdid : r.did = .val := by rw [← hrec]
      have hrv : r.v = v := by rw [← hrec]
      have hnx : r.nx = nxAt A0 R0 := by rw [← hrec]
      obtain ⟨v', h1, h2⟩ := hok _ _ _ _ hev hv1
      rw [h2 w]
      exact ⟨ρ, hI.plain hS hc hr ho hSi hdst (by rintro ⟨B, hB⟩; rw [hdid] at hB; simp at hB) (fun id ob h => by rw [hdid] at h; simp at h) (by rw [hrv, hnx]; exact h1)⟩
    | read f xs =>
      simp only [recIns] at hrec
      obtain ⟨v, hv1, hrec⟩ := Option.map_eq_some_iff.1 hrec
      have hdid : r.did = .read f (xs.map (evA (textT all t0 R0))) := by rw [← hrec]
      obtain ⟨hun, hro⟩ := hS.reads r hr _ _ hdid
      obtain ⟨hm1, hm2⟩ := mayE_last hS hc ho hSi hrd
      have hval := hro _ hm1 hm2
      rcases hun with hun | hstill
      rotate_left
      · -- nothing is made here
        have hno := hstill.1
        have hcore : (coreOf A0 R S).next ≤ r.nx := hstill.2 _ hm1 hm2
        have hview := hI.view hS hs0 (bef (befAll [] all) r.i) (fun s hs id ob h => (hno s hs id ob h).elim) r.nx hcore (fun s hs id ob h => (hno s hs id ob h).elim)
        have hrel : Rel (ρ.res r.nx) (viewE (befAll [] all) A0 R (lS R S) (bef (befAll [] all) r.i)).get (viewE (befAll [] all) A0 R (lS R S) (bef (befAll [] all) r.i)).members base w := hview.sim.rel
        have hnx0 : r.nx = nxAt A0 R0 := by rw [← hrec]
        obtain ⟨v', h1, h2⟩ := hok _ _ _ _ _ _ _ hrel (fun x hx => by have := hev x hx; rwa [← hnx0] at this) hval
        rw [h2]
        exact ⟨ρ, hI.plain hS hc hr ho hSi hdst (by rintro ⟨B, hB⟩; rw [hdid] at hB; simp at hB) (fun id ob h => by rw [hdid] at h; simp at h) h1⟩
      have hnx : r.nx = nxAt A0 R0 := by rw [← hrec]
      -- the view that it has
      let n := (coreOf A0 R S).next + nxAt A0 R
      have hview := hI.view hS hs0 (bef (befAll [] all) r.i) (fun s hs id ob _ h => hc.ready hS.facts ho hrd _ h) n (Nat.le_add_right _ _) (fun s hs id ob _ _ _ => Nat.le_trans (hS.valid.nx_head hs) (Nat.le_add_left _ _))
      have hn0 : nxAt A0 R0 ≤ n := by
        have := hS.valid.nx_head hr
        rw [← hnx]
        exact Nat.le_trans this (Nat.le_add_left _ _)
      have hrel : Rel (ρ.res n) (viewE (befAll [] all) A0 R (lS R S) (bef (befAll [] all) r.i)).get (viewE (befAll [] all) A0 R (lS R S) (bef (befAll [] all) r.i)).members base w := hview.sim.rel
      obtain ⟨v', h1, h2⟩ := hok _ _ _ _ _ _ _ hrel (fun x hx => (hev x hx).mono (ρ.res_mono hn0)) hval
      rw [h2]
      refine ⟨ρ, hI.plain hS hc hr ho hSi hdst (by rintro ⟨B, hB⟩; rw [hdid] at hB; simp at hB) (fun id ob h => by rw [hdid] at h; simp at h) ?_⟩
      exact VR.res_res (VR.under hun h1)
    | make f xs =>
      simp only [recIns] at hrec
      obtain ⟨⟨ob, mk⟩, hv1, hrec⟩ := Option.map_eq_some_iff.1 hrec
      have hdid : r.did = .make (nxAt A0 R0) ob := by rw [← hrec]
      have hrv : r.v = mk (nxAt A0 R0) := by rw [← hrec]
      have hnx : r.nx = nxAt A0 R0 + 1 := by rw [← hrec]
      obtain ⟨c, mk', h1, h2, h3⟩ := hok _ _ _ _ _ hev hv1
      rw [h2 w]
      exact ⟨_, hI.made hS hc hr ho hSi hdst hdid h1 (by omega) (fun ρ' h => by rw [hrv]; exact h3 _ _ _ h)⟩
    | act f xs =>
      simp only [recIns] at hrec
      obtain ⟨⟨v, B⟩, hv1, hrec⟩ := Option.bind_eq_some_iff.1 hrec
      cases hb : Nat.ble (nxAt A0 R0) B.next with
      | false => rw [hb] at hrec; simp at hrec
      | true =>
        rw [hb] at hrec
        simp only [cond_true, Option.some.injEq] at hrec
        have hdid : r.did = .act B := by rw [← hrec]
        have hrv : r.v = v := by rw [← hrec]
        have hnx : r.nx = B.next := by rw [← hrec]
        obtain ⟨hview, hfin⟩ := hI.acted hS hs0 hc hr e hv hi ho hSi hrd hdst hdid (by rw [hnx]; exact Nat.le_of_ble_eq_true hb) hnx
        obtain ⟨ρ2, v', nx, w', h1, h2, h3, h4⟩ := hok _ _ _ _ w _ _ _ hview.sim hev hv1
        rw [h1]
        have hdone := hfin ρ2 v' w' h4 (by rw [hrv]; exact h3)
        cases nx with
        | value u =>
          have : u = v' := h2
          subst this
          exact hdone
        | skip =>
          have : v' = undef := h2
          subst this
          exact hdone
        | _ => exact h2.elim
    | call f args =>
      simp only [recIns] at hrec
      obtain ⟨⟨g, vs⟩, hcal, hrec⟩ := Option.bind_eq_some_iff.1 hrec
      obtain ⟨⟨v, B⟩, hv1, hrec⟩ := Option.bind_eq_some_iff.1 hrec
      cases hb : Nat.ble (nxAt A0 R0) B.next with
      | false => rw [hb] at hrec; simp at hrec
      | true =>
        rw [hb] at hrec
        simp only [cond_true, Option.some.injEq] at hrec
        have hdid : r.did = .act B := by rw [← hrec]
        have hrv : r.v = v := by rw [← hrec]
        have hnx : r.nx = B.next := by rw [← hrec]
        obtain ⟨hview, hfin⟩ := hI.acted hS hs0 hc hr e hv hi ho hSi hrd hdst hdid (by rw [hnx]; exact Nat.le_of_ble_eq_true hb) hnx
        exact call_up hok hcall hev hcal hv1 hview.sim fun ρ2 v' w' h3 h4 => hfin ρ2 v' w' h4 (by rw [hrv]; exact h3)
    | bad => simp [recIns] at hrec

theorem drawn_core {P : Program} {call : CallF} {rd : Option Nat} (hcall : CallOk P call) (hm : P.follows .mixedOrders = true) {id : Nat} {all : List Oper} {N base : Nat} (hdN : all.all (dstOk N) = true) {t t1 : Tm} {A : St} {R : List Rec} {ρ : Ren} {a : Act} {w : World} {Q : Exit → Act → World → Prop}
    (hok : regionOk P all = true) (htr : traceV P call (befAll [] all) all A all 0 [] t = some (R, t1)) (hch1 : chainOk (befAll [] all) R = true) (hreads : ReadsSure (befAll [] all) A R) (ht : TR ρ t N a) (hs : Sim ρ A base w)
    (hq : ∀ ρ' a' w', TR ρ' t1 N a' → a'.defers = a.defers → Goes base ρ A w ρ' ((viewE (befAll [] all) A R (lastE R) (fun _ => true)).at (nxAt A R)) w' → Q .normal a' w') : (Code.region id ⟨all⟩ true).wpIn (Fr rd) 0 P Q a w := by
      obtain ⟨hv, rfl, hlen⟩ := trace_valid (P := P) (call := call) (all := all) (A0 := A) (t0 := t) all [] R t1 (by simp) trivial htr
      have hS : Setup P call all A t R := ⟨regionOk_facts hok, hv, by simpa using hlen, hch1, hreads⟩
      -- the draw itself turns no block
      have hsd : Sim ρ A base w.drew := (Goes.drew hs).sim
      refine wpIn_region_any hm ?_
      show wpAnyIn (Fr rd) 0 P .any ⟨all⟩ Q all.length (Array.replicate all.length false) a w.drew
      have hnone : ∀ i, (Array.replicate all.length false).getD i false = false := by
        intro i
        rw [Array.getD_eq_getD_getElem?, Array.getElem?_replicate]
        split <;> rfl
      have hno : ∀ i, (fun j => (Array.replicate all.length false).getD j false) i = true → False := fun i h => by
        have h2 : (Array.replicate all.length false).getD i false = true := h
        rw [hnone] at h2
        simp at h2
      refine any_of_inv hS.facts (fun S a' w' => ∃ ρ', Inv all A t R N a.defers base ρ w.drew S a' w' ρ') (fun S S' a' w' hSS ⟨ρ', hI⟩ => ⟨ρ', hI.congr hS hSS⟩)
        (fun S a' w' i o hI hc ho hSi hrd _ => step_sound hcall hS hsd hdN ht.none hI hc ho hSi hrd) ?_ all.length _ a w.drew (by simp) ?_ (fun i j hi _ => (hno i hi).elim) ⟨ρ, ?_⟩
      · rintro S a' w' hall ⟨ρ', hI⟩
        have hview := hI.view hS hsd (fun _ => true) (fun r hr _ _ _ _ => hall _ (by rw [← hS.len]; exact hS.valid.lt hr)) (nxAt A R) ?_ (fun r hr _ _ _ _ _ => hS.valid.nx_head hr)
        · have hlS : lS R S = lastE R := by
            have : R = R.filter (fun _ => true) := (List.filter_eq_self.2 fun _ _ => rfl).symm
            conv => rhs; rw [this]
            exact lastE_congr R fun s hs _ => hall _ (by rw [← hS.len]; exact hS.valid.lt hs)
          rw [hlS] at hview
          refine hq (ρ'.res (nxAt A R)) a' w' ⟨hI.size, fun x => ?_, fun x hx => ?_, hI.glob hsd hS.valid.nx_base⟩ hI.defers ((Goes.drew hs).trans hview)
          · have h1 := hI.tm x
            have hw : writer all R S x = R.find? (fun r => dstOf all r.i == some x) := find_congr R fun s hs => by rw [hall _ (by rw [← hS.len]; exact hS.valid.lt hs)]; simp
            unfold nxOf valOf at h1
            rw [hw] at h1
            rw [textT_get]
            cases hf : R.find? (fun r => dstOf all r.i == some x) with
            | none => rw [hf] at h1; exact h1.mono (ρ'.res_mono hS.valid.nx_base)
            | some s => rw [hf] at h1; exact h1.mono (ρ'.res_mono (hS.valid.nx_head (List.mem_of_find?_eq_some hf)))
          · rw [textT_get]
            cases hf : R.find? (fun r => dstOf all r.i == some x) with
            | none => exact ht.none x hx
            | some s =>
              exfalso
              have h1 := List.find?_some hf
              simp only [beq_iff_eq] at h1
              unfold dstOf at h1
              obtain ⟨os, h2, h3⟩ := Option.bind_eq_some_iff.1 h1
              have := List.all_eq_true.1 hdN os (List.mem_of_getElem? h2)
              unfold dstOk at this
              rw [h3] at this
              simp only at this
              rw [Nat.blt_eq] at this
              omega
        · rcases hS.last S with ⟨_, h2, _⟩ | ⟨y, hy, h1, h2, h3, h4, h5⟩
          · rw [h2]; exact hS.valid.nx_base
          · rw [← h4]; exact hS.valid.nx_head hy
      · simp
      · have hSnone : ∀ i, (fun j => (Array.replicate all.length false).getD j false) i = false := hnone
        have hl : lS R (fun j => (Array.replicate all.length false).getD j false) = none := by
          have : R.filter (fun r => (fun j => (Array.replicate all.length false).getD j false) r.i) = [] := by
            rw [List.filter_eq_nil_iff]
            intro r _
            rw [hSnone]; simp
          unfold lS
          rw [this]
          rfl
        have hw : ∀ x, writer all R (fun j => (Array.replicate all.length false).getD j false) x = none := by
          intro x
          unfold writer
          rw [List.find?_eq_none]
          intro r _ hcon
          exact hno r.i (Bool.and_eq_true_iff.1 hcon).1
        have hcore : coreOf A R (fun j => (Array.replicate all.length false).getD j false) = A := by unfold coreOf; rw [hl]; rfl
        have hres : ρ.res A.next = ρ := by
          funext b
          unfold Ren.res
          split
          · rfl
          · rename_i hb
            cases hρ : ρ b with
            | none => rfl
            | some l => exact absurd (hs.dom b l hρ) hb
        refine ⟨ht.size, rfl, fun x => ?_, ?_, ?_, ?_, ?_, ?_⟩
        · unfold nxOf valOf
          rw [hw]
          show VR (ρ.res A.next) _ _
          rw [hres]
          exact ht.val x
        · rw [hcore, hres]; exact Goes.refl hsd
        · intro r hr h1; exact (hno r.i h1).elim
        · intro r hr s hs' h1; exact (hno r.i h1).elim
        · intro r hr _ idn ob hd
          cases hρ : ρ idn with
          | none => rfl
          | some l =>
            have h1 := hs.dom idn l hρ
            have h2 := (hS.make_id hr hd).1
            omega
        · rw [hcore]; intro b l h1; exact .inl (hs.dom b l h1)
end

theorem drawn_sound {P : Program} {call : CallF} {rd : Option Nat} (hcall : CallOk P call) (hm : P.follows .mixedOrders = true) {id : Nat} {all : List Oper} {N base : Nat} (hdN : all.all (dstOk N) = true) {t t' : Tm} {A B : St} {ρ : Ren} {a : Act} {w : World} {Q : Exit → Act → World → Prop}
    (h : drawnV P call all t A = some (t', B)) (ht : TR ρ t N a) (hs : Sim ρ A base w) (hq : ∀ ρ' a' w', TR ρ' t' N a' → a'.defers = a.defers → Goes base ρ A w ρ' B w' → Q .normal a' w') : (Code.region id ⟨all⟩ true).wpIn (Fr rd) 0 P Q a w := by
  unfold drawnV at h
  cases hok : regionOk P all with
  | false => rw [hok] at h; simp at h
  | true =>
    rw [hok, cond_true] at h
    obtain ⟨⟨R, t1⟩, htr, h⟩ := Option.bind_eq_some_iff.1 h
    cases hch : (chainOk (befAll [] all) R && readsOk (befAll [] all) A R (effects R) R) with
    | false => simp only [hch] at h; simp at h
    | true =>
      simp only [hch, cond_true, Option.some.injEq, Prod.mk.injEq] at h
      obtain ⟨rfl, rfl⟩ := h
      obtain ⟨hch1, hch2⟩ := Bool.and_eq_true_iff.1 hch
      exact drawn_core hcall hm hdN hok htr hch1 (readsSure_of hch2) ht hs hq

/-! ### Quiet regions -/
theorem quiet_last {A0 : St} : ∀ {R : List Rec}, Quiet A0 R → lastE R = none ∧ nxAt A0 R = A0.next ∧ effects R = [none] ∧ ∀ sel A, commit sel A R = A
  | [], _ => ⟨rfl, rfl, rfl, fun _ _ => rfl⟩
  | r :: R, h => by
    obtain ⟨h1, h2, h3, h4⟩ := quiet_last (R := R) fun s hs => h s (by simp [hs])
    obtain ⟨h5, h6⟩ := h r (by simp)
    rcases h6 with h6 | ⟨f, vs, h6⟩ <;> exact ⟨by simp [lastE, h6, h1], h5, by simp [effects, h6, h3], fun sel A => by simp [commit, h6, h4]⟩
theorem quiet_view {A0 : St} {R : List Rec} (h : Quiet A0 R) (b : List Nat) (sel : Nat → Bool) : viewE b A0 R none sel = A0 := by
  unfold viewE
  rw [(quiet_last h).2.2.2]
  rfl
theorem quiet_chain {A0 : St} (b : List Nat) : ∀ {R : List Rec}, Quiet A0 R → chainOk b R = true
  | [], _ => rfl
  | r :: R, h => by
    have ih := quiet_chain b (R := R) fun s hs => h s (by simp [hs])
    rcases (h r (by simp)).2 with h6 | ⟨f, vs, h6⟩ <;> simp [chainOk, h6, ih]

theorem quiet_still {A0 : St} {R : List Rec} {b : List Nat} {r : Rec} (h : Quiet A0 R) (hr : r ∈ R) : Still b A0 R r :=
  ⟨fun s hs id ob e => by rcases (h s hs).2 with h1 | ⟨f, vs, h1⟩ <;> rw [h1] at e <;> simp at e, fun e he _ => by
    rw [(quiet_last h).2.2.1] at he
    simp at he
    subst he
    exact Nat.le_of_eq (h r hr).1.symm⟩

def readsIt (A0 : St) (R : List Rec) : Prop := ∀ r ∈ R, ∀ f vs, r.did = .read f vs → f A0 vs = some r.v
theorem quiet_trace {P : Program} {call : CallF} {b : List Nat} {all : List Oper} {A0 : St} : ∀ (os : List Oper) (i : Nat) (R : List Rec) (t t' : Tm) (B : St), (os.all fun o => lookIns (compile P o.op)) = true → Quiet A0 R → readsIt A0 R →
    opsV P call all os t A0 = some (t', B) → B = A0 ∧ ∃ R', traceV P call b all A0 os i R t = some (R', t') ∧ Quiet A0 R' ∧ readsIt A0 R'
  | [], i, R, t, t', B, _, hq, hr, h => by
    simp only [opsV_nil, Option.some.injEq, Prod.mk.injEq] at h
    obtain ⟨rfl, rfl⟩ := h
    exact ⟨rfl, R, rfl, hq, hr⟩
  | o :: os, i, R, t, t', B, hl, hq, hr, h => by
    rw [List.all_cons, Bool.and_eq_true] at hl
    obtain ⟨hl1, hl2⟩ := hl
    simp only [opsV_cons] at h
    obtain ⟨wd, hwd, h⟩ := Option.bind_eq_some_iff.1 h
    obtain ⟨q1, q2, q3, q4⟩ := quiet_last hq
    have hview := quiet_view hq b (bef b i)
    have step : ∀ r : Rec, recV P call b all A0 R i t o = some r → r.nx = A0.next → (r.did = .val ∨ ∃ f vs, r.did = .read f vs) → (∀ f vs, r.did = .read f vs → f A0 vs = some r.v) → opsV P call all os (putT t o.dst r.v) A0 = some (t', B) →
        B = A0 ∧ ∃ R', traceV P call b all A0 (o :: os) i R t = some (R', t') ∧ Quiet A0 R' ∧ readsIt A0 R' := by
      intro r h1 h2 h3 h4 h5
      obtain ⟨e, R', h6, h7, h8⟩ := quiet_trace os (Nat.succ i) (r :: R) _ t' B hl2 (fun s hs => by
        rcases List.mem_cons.1 hs with rfl | hs
        · exact ⟨h2, h3⟩
        · exact hq s hs) (fun s hs => by
        rcases List.mem_cons.1 hs with rfl | hs
        · exact h4
        · exact hr s hs) h5
      exact ⟨e, R', by simp only [traceV, h1, Option.bind_some]; exact h6, h7, h8⟩
    cases wd with
    | false =>
      rw [cond_false] at h
      exact step ⟨i, undef, nxAt A0 R, .val⟩ (by simp [recV, hwd]) q2 (.inl rfl) (fun f vs hd => by simp at hd) h
    | true =>
      rw [cond_true] at h
      obtain ⟨⟨v, C⟩, h1, h2⟩ := Option.bind_eq_some_iff.1 h
      cases hc : compile P o.op with
      | pure f xs =>
        rw [hc] at h1
        simp only [insV] at h1
        obtain ⟨u, hu, he⟩ := Option.map_eq_some_iff.1 h1
        simp at he
        obtain ⟨rfl, rfl⟩ := he
        exact step ⟨i, u, nxAt A0 R, .val⟩ (by simp [recV, hwd, hc, recIns, hu]) q2 (.inl rfl) (fun f vs hd => by simp at hd) h2
      | read f xs =>
        rw [hc] at h1
        simp only [insV] at h1
        obtain ⟨u, hu, he⟩ := Option.map_eq_some_iff.1 h1
        simp at he
        obtain ⟨rfl, rfl⟩ := he
        exact step ⟨i, u, nxAt A0 R, .read f (xs.map (evA t))⟩ (by simp [recV, hwd, hc, recIns, q1, hview, hu]) q2 (.inr ⟨_, _, rfl⟩) (fun f' vs hd => by simp at hd; obtain ⟨rfl, rfl⟩ := hd; exact hu) h2
      | make f xs => rw [hc] at hl1; simp [lookIns] at hl1
      | act f xs => rw [hc] at hl1; simp [lookIns] at hl1
      | call f xs => rw [hc] at hl1; simp [lookIns] at hl1
      | bad => rw [hc] at hl1; simp [lookIns] at hl1
theorem quiet_sound {P : Program} {call : CallF} {rd : Option Nat} (hcall : CallOk P call) (hm : P.follows .mixedOrders = true) {id : Nat} {all : List Oper} {N base : Nat} (hdN : all.all (dstOk N) = true) {t t' : Tm} {A B : St} {ρ : Ren} {a : Act} {w : World} {Q : Exit → Act → World → Prop}
    (hqv : quietV P all = true) (h : opsV P call all all t A = some (t', B)) (ht : TR ρ t N a) (hs : Sim ρ A base w) (hq : ∀ ρ' a' w', TR ρ' t' N a' → a'.defers = a.defers → Goes base ρ A w ρ' B w' → Q .normal a' w') : (Code.region id ⟨all⟩ true).wpIn (Fr rd) 0 P Q a w := by
  obtain ⟨hok, hl⟩ := Bool.and_eq_true_iff.1 hqv
  obtain ⟨rfl, R, htr, h1, h2⟩ := quiet_trace (b := befAll [] all) all 0 [] t t' B hl (fun r hr => by simp at hr) (fun r hr => by simp at hr) h
  obtain ⟨q1, q2, q3, q4⟩ := quiet_last h1
  refine drawn_core hcall hm hdN hok htr (quiet_chain _ h1) (fun r hr f vs hd => ⟨.inr (quiet_still h1 hr), fun e he _ => ?_⟩) ht hs fun ρ' a' w' ht' hdf hg => ?_
  · rw [q3] at he
    simp at he
    subst he
    rw [quiet_view h1]
    exact h2 r hr f vs hd
  · rw [q1, quiet_view h1, q2] at hg
    exact hq ρ' a' w' ht' hdf hg
end
end Go.Abs
