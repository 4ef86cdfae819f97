/-
  A region that draws its order: the steps, and the whole.
-/
import Derived.Test.YtcfijkmjblcenaaGreatDoorAbsDraw3
namespace Go.Abs
noncomputable section
open Go

theorem lastE_congr {p q : Rec → Bool} : ∀ (l : List Rec), (∀ s ∈ l, isAct s → p s = q s) → lastE (l.filter p) = lastE (l.filter q)
  | [], _ => rfl
  | s :: l, h => by
    have ih := lastE_congr l fun x hx => h x (by simp [hx])
    cases hd : s.did with
    | act B =>
      have := h s (by simp) ⟨B, hd⟩
      rw [List.filter_cons, List.filter_cons, this]
      split
      · simp only [lastE, hd]
      · exact ih
    | _ =>
      rw [List.filter_cons, List.filter_cons]
      split <;> split <;> first | exact ih | (simp only [lastE, hd]; exact ih)
theorem lastE_append : ∀ (l m : List Rec), (∀ s ∈ l, ¬ isAct s) → lastE (l ++ m) = lastE m
  | [], m, _ => rfl
  | s :: l, m, h => by
    have ih := lastE_append l m fun x hx => h x (by simp [hx])
    have hs := h s (by simp)
    simp only [List.cons_append, lastE]
    split
    · rename_i B hB; exact absurd ⟨B, hB⟩ hs
    · exact ih
theorem commit_skip {sel : Nat → Bool} {A : St} : ∀ (l m : List Rec), (∀ s ∈ l, sel s.i = false) → commit sel A (l ++ m) = commit sel A m
  | [], m, _ => rfl
  | s :: l, m, h => by
    have ih := commit_skip (A := A) l m fun x hx => h x (by simp [hx])
    simp only [List.cons_append, commit]
    split
    · rw [h s (by simp), cond_false]; exact ih
    · exact ih
theorem find_congr {p q : Rec → Bool} : ∀ (l : List Rec), (∀ s ∈ l, p s = q s) → l.find? p = l.find? q
  | [], _ => rfl
  | s :: l, h => by
    simp only [List.find?_cons, h s (by simp), find_congr l fun x hx => h x (by simp [hx])]

theorem insertS_self (S : Nat → Bool) (i : Nat) : insertS S i i = true := by simp [insertS]
theorem insertS_other {S : Nat → Bool} {i j : Nat} (h : j ≠ i) : insertS S i j = S j := by
  have : Nat.beq j i = false := by
    cases hb : Nat.beq j i with
    | false => rfl
    | true => exact absurd (Nat.eq_of_beq_eq_true hb) h
  simp [insertS, this]

theorem Sim.keep {ρ ρ' : Ren} {A : St} {base : Nat} {w w' : World} (hs : Sim ρ A base w) (hle : ρ.le ρ') (hdom : ∀ b l, ρ' b = some l → b < A.next) (hw : ∀ k, k < w.heap.size → w'.heap[k]? = w.heap[k]?) (hsz : w.heap.size ≤ w'.heap.size) : Sim ρ' A base w' := by
  have hback : ∀ b o l, A.get b = some o → o ≠ .dead → ρ' b = some l → ρ b = some l := by
    intro b o l hg hd hr
    obtain ⟨l', h1, _⟩ := hs.rel.obj hg hd
    have := hle _ _ h1
    rw [hr] at this; simp at this; subst this
    exact h1
  refine ⟨.of_obj (fun b o hg hd => ?_) ?_ hs.rel.listed, hdom, Nat.le_trans hs.size hsz, hs.glob.mono hle⟩
  · obtain ⟨l, h1, h2⟩ := hs.rel.obj hg hd
    exact ⟨l, hle _ _ h1, h2.keep hle (hw _ (h2.lt hd)) hsz⟩
  · intro b1 b2 o1 o2 l1 l2 hne g1 g2 m1 m2 r1 r2 hcb
    exact hs.rel.apart b1 b2 o1 o2 l1 l2 hne g1 g2 m1 m2 (hback b1 o1 l1 g1 (by intro e; subst e; simp [AObj.mine] at m1) r1) (hback b2 o2 l2 g2 (by intro e; subst e; simp [AObj.mine] at m2) r2) hcb
theorem Img.keep {ρ ρ' : Ren} {A : St} {base : Nat} {w : World} {k : Nat} (hs : Sim ρ A base w) (hle : ρ.le ρ') (h : Img ρ' A k) : Img ρ A k := by
  obtain ⟨b, o, l, hg, hm, hr, rfl⟩ := h
  obtain ⟨l', h1, _⟩ := hs.rel.obj hg (by intro e; subst e; simp [AObj.mine] at hm)
  have := hle _ _ h1
  rw [hr] at this; simp at this; subst this
  exact ⟨b, o, l, hg, hm, h1, rfl⟩
theorem Img.lt {ρ : Ren} {A : St} {base : Nat} {w : World} {k : Nat} (hs : Sim ρ A base w) (h : Img ρ A k) : k < w.heap.size := by
  obtain ⟨b, o, l, hg, hm, hr, rfl⟩ := h
  have hd : o ≠ .dead := by intro e; subst e; simp [AObj.mine] at hm
  obtain ⟨l', h1, h2⟩ := hs.rel.obj hg hd
  rw [hr] at h1; simp at h1; subst h1
  exact h2.lt hd

section
variable {P : Program} {call : CallF} {all : List Oper} {A0 : St} {t0 : Tm} {R : List Rec} {N : Nat} {d0 : List Deferred} {base : Nat} {ρ0 : Ren} {w0 : World}

theorem writer_insert (hS : Setup P call all A0 t0 R) {S : Nat → Bool} (hc : Closed all S) {r : Rec} (hr : r ∈ R) {o : Oper} (ho : all[r.i]? = some o) (hSi : S r.i = false) (x : Nat) :
    writer all R (insertS S r.i) x = if o.dst = some x then some r else writer all R S x := by
  have hd : dstOf all r.i = o.dst := by simp [dstOf, ho]
  by_cases h : o.dst = some x
  · rw [if_pos h]
    obtain ⟨R0, R1, e, _⟩ := hS.valid.at hr
    unfold writer
    rw [e, List.find?_append]
    have h1 : R1.find? (fun s => insertS S r.i s.i && (dstOf all s.i == some x)) = none := by
      rw [List.find?_eq_none]
      intro s hs hcon
      simp only [Bool.and_eq_true, beq_iff_eq] at hcon
      have hgt : r.i < s.i := by
        have hp := hS.valid.sorted
        rw [e, List.pairwise_append] at hp
        exact hp.2.2 s hs r (by simp)
      rw [insertS_other (by omega)] at hcon
      obtain ⟨os, hos⟩ : ∃ os, all[s.i]? = some os := by
        cases h' : all[s.i]? with
        | none => simp [dstOf, h'] at hcon
        | some os => exact ⟨os, rfl⟩
      have hds : os.dst = some x := by simpa [dstOf, hos] using hcon.2
      have hcl : clash P all o os = true := by
        unfold clash
        have : sameDst o.dst os.dst = true := by rw [h, hds]; simp [sameDst]
        rw [this]; simp
      have := hc _ _ hcon.1 (hS.facts.apart s.i r.i o os hos ho hgt hcl)
      rw [hSi] at this; simp at this
    rw [h1]
    simp [insertS_self, hd, h]
  · rw [if_neg h]
    refine find_congr R fun s hs => ?_
    by_cases e : s.i = r.i
    · have : (dstOf all s.i == some x) = false := by rw [e, hd]; simpa using h
      simp [this]
    · rw [insertS_other e]

theorem ev_ready (hS : Setup P call all A0 t0 R) {S : Nat → Bool} {a : Act} {w : World} {ρ : Ren} (hI : Inv all A0 t0 R N d0 base ρ0 w0 S a w ρ) (hc : Closed all S) {r : Rec} {o : Oper} {R0 R1 : List Rec} (hr : r ∈ R) (e : R = R1 ++ r :: R0) (hv : Valid P call all A0 t0 R0)
    (ho : all[r.i]? = some o) (hSi : S r.i = false) (hrd : readyFor all S r.i) {x : Nat} (hx : x ∈ looks P all o) :
    VR (ρ.res (nxAt A0 R0)) (((textT all t0 R0).get x).getD undef) (a.tmps.getD x undef) := by
  obtain ⟨R0', h1, h2⟩ := writer_ready hS hc hr ho hSi hrd hx
  have := h1 R1 R0 e
  subst this
  have ht := hI.tm x
  unfold nxOf valOf at ht
  rw [h2] at ht
  rw [textT_get]
  cases hf : R0.find? (fun r => dstOf all r.i == some x) with
  | none => rw [hf] at ht; exact ht.mono (ρ.res_mono hv.nx_base)
  | some s => rw [hf] at ht; exact ht.mono (ρ.res_mono (hv.nx_head (List.mem_of_find?_eq_some hf)))

theorem guard_ready {ρ : Ren} {t : Tm} {a : Act} {o : Oper} {wd : Bool} (h : ∀ d ∈ guardTmp all o, VR ρ ((t.get d).getD undef) (a.tmps.getD d undef) ∧ (t.get d ≠ none → d < a.tmps.size)) (hw : wantedA all t o.guard = some wd) :
    Region.wanted o (yielded ⟨all⟩ a.tmps) = wd := by
  unfold wantedA at hw
  unfold Region.wanted
  split at hw
  · rename_i hg; simp at hw; rw [hg]; exact hw.symm
  · rename_i j want hg
    rw [hg]
    simp only
    unfold yielded
    have e : (⟨all⟩ : Array Oper)[j]? = all[j]? := by simp
    rw [e]
    cases hd : (all[j]?).bind (·.dst) with
    | none => rw [hd] at hw; simp [isWanted] at hw; subst hw; simp
    | some d =>
      rw [hd] at hw
      simp only [Option.bind_some] at hw ⊢
      obtain ⟨hv, hlt⟩ := h d (by simp [guardTmp, hg, hd])
      cases ht : t.get d with
      | none =>
        rw [ht] at hw hv
        simp [isWanted] at hw; subst hw
        simp only [Option.getD_none] at hv
        have hu : a.tmps.getD d undef = undef := hv.flat_eq (by simp [undef, flat, flatA, flatL])
        cases hc : a.tmps[d]? with
        | none => simp
        | some u =>
          have : a.tmps.getD d undef = u := by simp [Array.getD_eq_getD_getElem?, hc]
          rw [hu] at this
          subst this
          simp [undef]
      | some v =>
        have hlt := hlt (by rw [ht]; simp)
        rw [ht] at hw hv
        simp only [Option.getD_some] at hv
        have hc : a.tmps[d]? = some (a.tmps.getD d undef) := by simp [Array.getD_eq_getD_getElem?, hlt]
        rw [hc]
        generalize a.tmps.getD d undef = u at hv
        cases v with
        | bool b =>
          simp [isWanted] at hw
          have := hv.bool_inv
          subst this
          subst hw
          cases b <;> cases want <;> rfl
        | tuple cs =>
          simp [isWanted] at hw
          obtain ⟨cs', rfl, _⟩ := hv.tuple_inv
          subst hw
          rfl
        | _ => simp [isWanted] at hw

theorem getD_put {a : Act} {dst : Option Tmp} {v' : Value} {x : Nat} (hd : ∀ d, dst = some d → d < a.tmps.size) : (a.put dst v').tmps.getD x undef = if dst = some x then v' else a.tmps.getD x undef := by
  cases dst with
  | none => simp [Act.put]
  | some d =>
    have := hd d rfl
    simp only [Act.put]
    by_cases h : x = d
    · subst h; simp [Array.getD_eq_getD_getElem?, this]
    · rw [if_neg (by simpa using fun e => h e.symm)]
      simp [Array.getD_eq_getD_getElem?, Array.getElem?_setIfInBounds_ne (Ne.symm h)]

/-- the temporaries behind an operation -/
theorem tm_insert (hS : Setup P call all A0 t0 R) {S : Nat → Bool} {a : Act} {w : World} {ρ ρ' : Ren} (hI : Inv all A0 t0 R N d0 base ρ0 w0 S a w ρ) (hc : Closed all S) {r : Rec} {o : Oper} (hr : r ∈ R) (ho : all[r.i]? = some o) (hSi : S r.i = false)
    (hdst : ∀ d, o.dst = some d → d < N) (hle : ρ.le ρ') {v' : Value} (hv : VR (ρ'.res r.nx) r.v v') :
    ∀ x, VR (ρ'.res (nxOf all A0 R (insertS S r.i) x)) (valOf all t0 R (insertS S r.i) x) ((a.put o.dst v').tmps.getD x undef) := by
  intro x
  rw [getD_put (by rw [hI.size]; exact hdst)]
  unfold nxOf valOf
  rw [writer_insert hS hc hr ho hSi]
  by_cases h : o.dst = some x
  · simp only [if_pos h]; exact hv
  · simp only [if_neg h]
    exact (hI.tm x).mono (Ren.res_le_res hle _)

theorem lS_insert {S : Nat → Bool} {r : Rec} (hS : Setup P call all A0 t0 R) (hr : r ∈ R) (hna : ¬ isAct r) : lS R (insertS S r.i) = lS R S := by
  refine lastE_congr R fun s hs ha => ?_
  by_cases e : s.i = r.i
  · exact absurd (hS.valid.inj hs hr e ▸ ha) hna
  · exact insertS_other e

/-- an operation that neither makes a block nor turns the store -/
theorem Inv.plain (hS : Setup P call all A0 t0 R) {S : Nat → Bool} {a : Act} {w : World} {ρ : Ren} (hI : Inv all A0 t0 R N d0 base ρ0 w0 S a w ρ) (hc : Closed all S) {r : Rec} {o : Oper} (hr : r ∈ R) (ho : all[r.i]? = some o) (hSi : S r.i = false)
    (hdst : ∀ d, o.dst = some d → d < N) (hna : ¬ isAct r) (hnm : ∀ id ob, r.did ≠ .make id ob) {v' : Value} (hv : VR (ρ.res r.nx) r.v v') : Inv all A0 t0 R N d0 base ρ0 w0 (insertS S r.i) (a.put o.dst v') w ρ := by
  have hl := lS_insert (S := S) hS hr hna
  have hcore : coreOf A0 R (insertS S r.i) = coreOf A0 R S := by simp only [coreOf, hl]
  have hin : ∀ s ∈ R, insertS S r.i s.i = true → ∀ id ob, s.did = .make id ob → S s.i = true := by
    intro s hs h id ob hd
    by_cases e : s.i = r.i
    · have := hS.valid.inj hs hr e
      subst this
      exact absurd hd (hnm id ob)
    · rwa [insertS_other e] at h
  refine ⟨?_, ?_, tm_insert hS hI hc hr ho hSi hdst (Ren.le_refl _) hv, ?_, ?_, ?_, ?_, ?_⟩
  · rw [← hI.size]; cases o.dst <;> simp [Act.put]
  · rw [← hI.defers]; cases o.dst <;> rfl
  · rw [hcore]; exact hI.core
  · rw [hcore, hl]; intro s hs h id ob hd hb; exact hI.news s hs (hin s hs h id ob hd) id ob hd hb
  · rw [hl]; intro s hs u hu h1 h2 id ob id' ob' d1 d2; exact hI.newsApart s hs u hu (hin s hs h1 id ob d1) (hin u hu h2 id' ob' d2) id ob id' ob' d1 d2
  · intro s hs h id ob hd
    have hne : s.i ≠ r.i := fun e => by rw [e, insertS_self] at h; simp at h
    rw [insertS_other hne] at h
    exact hI.unborn s hs h id ob hd
  · rw [hcore]
    intro b l h
    rcases hI.dom b l h with h | ⟨s, hs, h1, h2⟩
    · exact .inl h
    · exact .inr ⟨s, hs, by unfold insertS; rw [h1]; rfl, h2⟩

/-- an operation that makes a block -/
theorem Inv.made (hS : Setup P call all A0 t0 R) {S : Nat → Bool} {a : Act} {w : World} {ρ : Ren} (hI : Inv all A0 t0 R N d0 base ρ0 w0 S a w ρ) (hc : Closed all S) {r : Rec} {o : Oper} (hr : r ∈ R) (ho : all[r.i]? = some o) (hSi : S r.i = false)
    (hdst : ∀ d, o.dst = some d → d < N) {id : Nat} {ob : AObj} (hd : r.did = .make id ob) {c : Obj} {n : Nat} (hnew : NewOk (ρ.res n) ob c) (hn : n ≤ r.nx) {v' : Value} (hv : ∀ ρ' : Ren, ρ' id = some (locOf ob w.heap.size) → VR ρ' r.v v') :
    Inv all A0 t0 R N d0 base ρ0 w0 (insertS S r.i) (a.put o.dst v') (w.alloc c) (ρ.set id (locOf ob w.heap.size)) := by
  have hna : ¬ isAct r := by rintro ⟨B, hB⟩; rw [hd] at hB; simp at hB
  have hl := lS_insert (S := S) hS hr hna
  have hcore : coreOf A0 R (insertS S r.i) = coreOf A0 R S := by simp only [coreOf, hl]
  have hun := hI.unborn r hr hSi id ob hd
  have hle : ρ.le (ρ.set id (locOf ob w.heap.size)) := by
    intro b l h
    rw [Ren.set_other]
    · exact h
    · intro e; subst e; rw [hun] at h; simp at h
  obtain ⟨hid, hnx⟩ := hS.make_id hr hd
  have hold : ∀ k, k < w.heap.size → (w.alloc c).heap[k]? = w.heap[k]? := fun k hk => RowKit.Below.heap_alloc _ _ _ hk
  have hsz : w.heap.size ≤ (w.alloc c).heap.size := by simp
  have hsim := hI.core.sim
  have hrle := Ren.res_le_res hle (coreOf A0 R S).next
  have himg : ∀ k, Img ((ρ.set id (locOf ob w.heap.size)).res (coreOf A0 R S).next) (coreOf A0 R S) k → Img (ρ.res (coreOf A0 R S).next) (coreOf A0 R S) k := fun k h => h.keep hsim hrle
  refine ⟨?_, ?_, tm_insert hS hI hc hr ho hSi hdst hle (hv _ (by rw [Ren.res_of (by omega), Ren.set_same])), ?_, ?_, ?_, ?_, ?_⟩
  · rw [← hI.size]; cases o.dst <;> simp [Act.put]
  · rw [← hI.defers]; cases o.dst <;> rfl
  · rw [hcore]
    have hco := hI.core
    refine ⟨hsim.keep hrle (fun b l h => (Ren.res_lt h).1) hold hsz, fun b hb => ?_, ⟨hco.kept.os, hco.kept.tape, hco.kept.output, Nat.le_trans hco.kept.size hsz, fun k hk hn => ?_⟩, hco.next, hco.low, hco.same, fun k hk h => hco.img k hk (himg k h)⟩
    · have h1 := hco.ext b hb
      have : b < (coreOf A0 R S).next := Nat.lt_of_lt_of_le hb hco.next
      rw [Ren.res_of this] at h1 ⊢
      rw [Ren.set_other _ _ (by omega)]
      exact h1
    · rw [hold k (Nat.lt_of_lt_of_le hk hco.kept.size)]; exact hco.kept.block k hk hn
  · rw [hcore, hl]
    intro s hs h id' ob' hd' hb
    by_cases e : s.i = r.i
    · have := hS.valid.inj hs hr e
      subst this
      rw [hd] at hd'; simp at hd'
      obtain ⟨rfl, rfl⟩ := hd'
      refine ⟨c, w.heap.size, Ren.set_same _ _ _, hnew.mono (Ren.le_trans (ρ.res_mono hn) (Ren.res_le_res hle _)), (MapKept.heap_alloc w c).1, hI.core.kept.size, fun h => ?_⟩
      have := (himg _ h).lt hsim
      omega
    · rw [insertS_other e] at h
      obtain ⟨c', cb, h1, h2, h3, h4, h5⟩ := hI.news s hs h id' ob' hd' hb
      exact ⟨c', cb, hle _ _ h1, h2.mono (Ren.res_le_res hle _), by rw [hold cb (Array.getElem?_eq_some_iff.1 h3).1]; exact h3, h4, fun h => h5 (himg _ h)⟩
  · rw [hl]
    have hloc : ∀ s ∈ R, insertS S r.i s.i = true → ∀ id' ob', s.did = .make id' ob' → befE (befAll [] all) (lS R S) s.i = false → ∀ l, (ρ.set id (locOf ob w.heap.size)) id' = some l →
        (s.i = r.i ∧ l.cb = w.heap.size) ∨ (s.i ≠ r.i ∧ S s.i = true ∧ ρ id' = some l ∧ l.cb < w.heap.size) := by
      intro s hs h id' ob' hd' hb l hl'
      by_cases e : s.i = r.i
      · have := hS.valid.inj hs hr e
        subst this
        rw [hd] at hd'; simp at hd'
        rw [← hd'.1, Ren.set_same] at hl'
        simp at hl'
        exact .inl ⟨rfl, by rw [← hl', locOf_cb]⟩
      · rw [insertS_other e] at h
        have hne : id' ≠ id := fun e' => by
          subst e'
          exact e (by rw [hS.make_inj hs hr hd' hd])
        rw [Ren.set_other _ _ hne] at hl'
        obtain ⟨c', cb, h1, _, h3, _⟩ := hI.news s hs h id' ob' hd' hb
        rw [h1] at hl'; simp at hl'
        exact .inr ⟨e, h, by rw [h1, hl'], by rw [← hl', locOf_cb]; exact (Array.getElem?_eq_some_iff.1 h3).1⟩
    intro s hs u hu h1 h2 id1 ob1 id2 ob2 d1 d2 b1 b2 hne l1 l2 e1 e2
    rcases hloc s hs h1 id1 ob1 d1 b1 l1 e1 with ⟨p1, p2⟩ | ⟨p1, p2, p3, p4⟩ <;> rcases hloc u hu h2 id2 ob2 d2 b2 l2 e2 with ⟨q1, q2⟩ | ⟨q1, q2, q3, q4⟩
    · omega
    · omega
    · omega
    · exact hI.newsApart s hs u hu p2 q2 id1 ob1 id2 ob2 d1 d2 b1 b2 hne l1 l2 p3 q3
  · intro s hs h id' ob' hd'
    have hne : s.i ≠ r.i := fun e => by rw [e, insertS_self] at h; simp at h
    rw [insertS_other hne] at h
    have hne' : id' ≠ id := fun e' => by
      subst e'
      exact hne (by rw [hS.make_inj hs hr hd' hd])
    rw [Ren.set_other _ _ hne']
    exact hI.unborn s hs h id' ob' hd'
  · rw [hcore]
    intro b l h
    by_cases e : b = id
    · subst e; exact .inr ⟨r, hr, insertS_self _ _, ob, hd⟩
    · rw [Ren.set_other _ _ e] at h
      rcases hI.dom b l h with h | ⟨s, hs, h1, h2⟩
      · exact .inl h
      · exact .inr ⟨s, hs, by unfold insertS; rw [h1]; rfl, h2⟩

/-- the store at which an operation that turns it ran -/
theorem pre_eq (hS : Setup P call all A0 t0 R) {S : Nat → Bool} (hc : Closed all S) {r : Rec} {R0 R1 : List Rec} (hr : r ∈ R) (e : R = R1 ++ r :: R0) (hv : Valid P call all A0 t0 R0) (hi : r.i = R0.length) (ha : isAct r) (hSi : S r.i = false)
    {o : Oper} (ho : all[r.i]? = some o) (hrd : readyFor all S r.i) :
    lS R S = lastE R0 ∧ viewE (befAll [] all) A0 R0 (lastE R0) (bef (befAll [] all) r.i) = viewE (befAll [] all) A0 R (lS R S) (bef (befAll [] all) r.i) := by
  have hp := hS.valid.sorted
  have hR1 : ∀ s ∈ R1, r.i < s.i := fun s hs => by
    rw [e, List.pairwise_append] at hp
    exact hp.2.2 s hs r (by simp)
  have hR0 : ∀ s ∈ R0, s.i < r.i := fun s hs => by rw [hi]; exact hv.lt hs
  have hact0 : ∀ s ∈ R0, isAct s → S s.i = true := fun s hs h =>
    hc.ready hS.facts ho hrd _ (chain_bef hS.facts hS.valid hS.chain hr (by rw [e]; simp [hs]) ha h (hR0 s hs))
  have hact1 : ∀ s ∈ R1, isAct s → S s.i = false := fun s hs h => by
    cases hss : S s.i with
    | false => rfl
    | true =>
      have := hc _ _ hss (chain_bef hS.facts hS.valid hS.chain (by rw [e]; simp [hs]) hr h ha (hR1 s hs))
      rw [hSi] at this; simp at this
  have h1 : lS R S = lastE R0 := by
    unfold lS
    rw [e, List.filter_append, lastE_append]
    · have hneg : ¬ (S r.i = true) := by rw [hSi]; simp
      rw [List.filter_cons, if_neg hneg]
      have : R0 = R0.filter (fun _ => true) := (List.filter_eq_self.2 fun _ _ => rfl).symm
      conv => rhs; rw [this]
      exact lastE_congr R0 fun s hs h => hact0 s hs h
    · intro s hs h
      rw [List.mem_filter] at hs
      rw [hact1 s hs.1 h] at hs
      exact absurd hs.2 (by simp)
  refine ⟨h1, ?_⟩
  rw [h1]
  unfold viewE
  have h2 : postE A0 R (lastE R0) = postE A0 R0 (lastE R0) := by
    cases hl : lastE R0 with
    | none => rfl
    | some k =>
      obtain ⟨y, hy, h3, ⟨B, h4⟩, _⟩ := lastE_some hv.sorted hl
      simp only [postE]
      rw [postOf_eq (fun s hs he => hS.valid.inj hs (by rw [e]; simp [hy]) (by rw [he, h3])) (by rw [e]; simp [hy]) h3 h4, postOf_eq (fun s hs he => hv.inj hs hy (by rw [he, h3])) hy h3 h4]
  rw [h2]
  conv => rhs; rw [e, show R1 ++ r :: R0 = (R1 ++ [r]) ++ R0 by simp]
  refine (commit_skip (R1 ++ [r]) R0 fun s hs => ?_).symm
  have hge : r.i ≤ s.i := by
    rcases List.mem_append.1 hs with h | h
    · exact Nat.le_of_lt (hR1 s h)
    · simp at h; rw [h]; exact Nat.le_refl _
  cases hb : bef (befAll [] all) r.i s.i with
  | false => rfl
  | true => have := bef_lt hS.facts hb; omega

/-- an operation that turns the store -/
theorem Inv.acted (hS : Setup P call all A0 t0 R) (hs0 : Sim ρ0 A0 base w0) {S : Nat → Bool} {a : Act} {w : World} {ρ : Ren} (hI : Inv all A0 t0 R N d0 base ρ0 w0 S a w ρ) (hc : Closed all S) {r : Rec} {o : Oper} {R0 R1 : List Rec} (hr : r ∈ R) (e : R = R1 ++ r :: R0)
    (hv : Valid P call all A0 t0 R0) (hi : r.i = R0.length) (ho : all[r.i]? = some o) (hSi : S r.i = false) (hrd : readyFor all S r.i) (hdst : ∀ d, o.dst = some d → d < N) {B : St} (hd : r.did = .act B) (hnx : nxAt A0 R0 ≤ r.nx) (hB : r.nx = B.next) :
    Goes base ρ0 A0 w0 (ρ.res (nxAt A0 R0)) ((viewE (befAll [] all) A0 R0 (lastE R0) (bef (befAll [] all) r.i)).at (nxAt A0 R0)) w ∧
    ∀ ρ2 v' w', Goes base (ρ.res (nxAt A0 R0)) ((viewE (befAll [] all) A0 R0 (lastE R0) (bef (befAll [] all) r.i)).at (nxAt A0 R0)) w ρ2 B w' → VR ρ2 r.v v' →
      ∃ ρ', Inv all A0 t0 R N d0 base ρ0 w0 (insertS S r.i) (a.put o.dst v') w' ρ' := by
  have ha : isAct r := ⟨B, hd⟩
  obtain ⟨hlS, hpre⟩ := pre_eq hS hc hr e hv hi ha hSi ho hrd
  have hp := hS.valid.sorted
  have hR1 : ∀ s ∈ R1, r.i < s.i := fun s hs => by
    rw [e, List.pairwise_append] at hp
    exact hp.2.2 s hs r (by simp)
  have hin0 : ∀ s ∈ R, s.i < r.i → s ∈ R0 := fun s hs hlt => by
    rw [e] at hs
    rcases List.mem_append.1 hs with h | h
    · have := hR1 s h; omega
    · rcases List.mem_cons.1 h with h | h
      · rw [h] at hlt; omega
      · exact h
  have hcn : (coreOf A0 R S).next ≤ nxAt A0 R0 := by
    rcases hS.last S with ⟨_, h2, _⟩ | ⟨y, hy, h1, h2, h3, h4, h5⟩
    · rw [h2]; exact hv.nx_base
    · rw [← h4]
      refine hv.nx_head (hin0 y hy ?_)
      rw [hlS] at h1
      obtain ⟨z, hz, h6, _⟩ := lastE_some hv.sorted h1
      rw [← h6, hi]; exact hv.lt hz
  have hbefR0 : ∀ s ∈ R, bef (befAll [] all) r.i s.i = true → s ∈ R0 := fun s hs h => hin0 s hs (bef_lt hS.facts h)
  have hview := hI.view hS hs0 (bef (befAll [] all) r.i) (fun s hs id ob _ h => hc.ready hS.facts ho hrd _ h) (nxAt A0 R0) hcn (fun s hs id ob _ h _ => hv.nx_head (hbefR0 s hs h))
  rw [← hpre] at hview
  refine ⟨hview, fun ρ2 v' w' hg hvr => ?_⟩
  -- the new naming
  have hmake : ∀ s ∈ R, S s.i = true → ∀ id ob, s.did = .make id ob → id < nxAt A0 R0 ∨ B.next ≤ id := by
    intro s hs hss id ob hm
    rcases Nat.lt_trichotomy s.i r.i with h | h | h
    · have := hv.nx_head (hin0 s hs h)
      have := (hS.make_id hs hm).2
      left; omega
    · rw [h, hSi] at hss; simp at hss
    · have := hS.make_lt hr hs hm h
      right; omega
  have hlow : ∀ b, b < nxAt A0 R0 → ρ2 b = ρ b := fun b hb => by
    have := hg.ext b hb
    rw [Ren.res_of hb] at this
    exact this
  have hρ2 : ∀ b l, ρ2 b = some l → b < B.next := hg.sim.dom
  let ρ' : Ren := fun b => if b < B.next then ρ2 b else ρ b
  have hle : ρ.le ρ' := by
    intro b l h
    show (if b < B.next then ρ2 b else ρ b) = some l
    split
    · rename_i hb
      by_cases hb0 : b < nxAt A0 R0
      · rw [hlow b hb0]; exact h
      · rcases hI.dom b l h with h1 | ⟨s, hs, h1, ob, h2⟩
        · omega
        · rcases hmake s hs h1 b ob h2 with h3 | h3 <;> omega
    · exact h
  have hres : ρ'.res B.next = ρ2 := by
    funext b
    unfold Ren.res
    by_cases hb : b < B.next
    · rw [if_pos hb]; show (if b < B.next then ρ2 b else ρ b) = ρ2 b; rw [if_pos hb]
    · rw [if_neg hb]
      cases h : ρ2 b with
      | none => rfl
      | some l => exact absurd (hρ2 b l h) hb
  have hl' : lS R (insertS S r.i) = some r.i := by
    have hact : ∀ s ∈ R, isAct s → S s.i = true → s.i < r.i := by
      intro s hs h hss
      rcases Nat.lt_trichotomy s.i r.i with h1 | h1 | h1
      · exact h1
      · rw [h1, hSi] at hss; simp at hss
      · have := hc _ _ hss (chain_bef hS.facts hS.valid hS.chain hs hr h ha h1)
        rw [hSi] at this; simp at this
    rcases hS.last (insertS S r.i) with ⟨_, _, h3⟩ | ⟨y, hy, h1, h2, h3, _, h5⟩
    · have := h3 r hr ha
      rw [insertS_self] at this; simp at this
    · have h6 := h5 r hr ha (insertS_self _ _)
      rw [h1]
      by_cases hyr : y.i = r.i
      · rw [hyr]
      · rw [insertS_other hyr] at h2
        have := hact y hy ⟨_, h3⟩ h2
        omega
  have hcore' : coreOf A0 R (insertS S r.i) = B := by
    simp only [coreOf, hl', postE]
    exact postOf_eq (fun s hs he => hS.valid.inj hs hr he) hr rfl hd
  have hold : ∀ s ∈ R, insertS S r.i s.i = true → ∀ id ob, s.did = .make id ob → bef (befAll [] all) r.i s.i = false → S s.i = true ∧ befE (befAll [] all) (lS R S) s.i = false := by
    intro s hs h id ob hm hb
    have hne : s.i ≠ r.i := fun e' => by
      have := hS.valid.inj hs hr e'
      subst this
      rw [hd] at hm; simp at hm
    rw [insertS_other hne] at h
    refine ⟨h, ?_⟩
    cases hl : lS R S with
    | none => rfl
    | some k =>
      cases hk : bef (befAll [] all) k s.i with
      | false => exact hk
      | true =>
        exfalso
        rw [hlS] at hl
        obtain ⟨z, hz, h6, h7, _⟩ := lastE_some hv.sorted hl
        have h8 := chain_bef hS.facts hS.valid hS.chain hr (by rw [e]; simp [hz]) ha h7 (by rw [hi]; exact hv.lt hz)
        rw [h6] at h8
        rw [bef_trans hS.facts h8 hk] at hb
        simp at hb
  have hnimg : ∀ s ∈ R, S s.i = true → ∀ id ob, s.did = .make id ob → befE (befAll [] all) (lS R S) s.i = false → bef (befAll [] all) r.i s.i = false → ∀ c cb, ρ id = some (locOf ob cb) → w.heap[cb]? = some c → ¬ Img (ρ.res (coreOf A0 R S).next) (coreOf A0 R S) cb →
      ¬ Img (ρ.res (nxAt A0 R0)) ((viewE (befAll [] all) A0 R0 (lastE R0) (bef (befAll [] all) r.i)).at (nxAt A0 R0)) cb := by
    rintro s hs hss id ob hm hbe hb c cb hρ hw hni ⟨x, ox, lx, hx, hmx, hrx, rfl⟩
    have hdx : ox ≠ .dead := by intro e'; subst e'; simp [AObj.mine] at hmx
    rw [hpre] at hx
    rcases commit_get hx with ⟨u, hu, hsel, hmu⟩ | ⟨hcx, _⟩
    · simp only [Bool.and_eq_true, Bool.not_eq_true'] at hsel
      have hus := hc.ready hS.facts ho hrd _ hsel.1
      have hne : s.i ≠ u.i := fun e' => by rw [e', hsel.1] at hb; simp at hb
      exact hI.newsApart s hs u hu hss hus id ob x ox hm hmu hbe hsel.2 hne _ _ hρ (ρ.res_le _ _ _ hrx) (by rw [locOf_cb])
    · obtain ⟨l', h1, _⟩ := hI.core.sim.rel.obj hcx hdx
      have := ρ.res_mono hcn _ _ h1
      rw [hrx] at this; simp at this; subst this
      exact hni ⟨x, ox, lx, hcx, hmx, h1, rfl⟩
  refine ⟨ρ', ?_, ?_, tm_insert hS hI hc hr ho hSi hdst hle (by rw [hB, hres]; exact hvr), ?_, ?_, ?_, ?_, ?_⟩
  · rw [← hI.size]; cases o.dst <;> simp [Act.put]
  · rw [← hI.defers]; cases o.dst <;> rfl
  · rw [hcore', hres]; exact hview.trans hg
  · rw [hcore', hl', hres]
    intro s hs h id ob hm hb
    obtain ⟨h1, h2⟩ := hold s hs h id ob hm hb
    obtain ⟨c, cb, h3, h4, h5, h6, h7⟩ := hI.news s hs h1 id ob hm h2
    have hn := hnimg s hs h1 id ob hm h2 hb c cb h3 h5 h7
    have hlt := (Array.getElem?_eq_some_iff.1 h5).1
    exact ⟨c, cb, hle _ _ h3, h4.mono (Ren.res_le_res hle _), by rw [hg.kept.block cb hlt hn]; exact h5, h6, fun hk => hn (hg.img cb hlt hk)⟩
  · rw [hl']
    intro s hs u hu h1 h2 id1 ob1 id2 ob2 d1 d2 b1 b2 hne l1 l2 e1 e2
    obtain ⟨p1, p2⟩ := hold s hs h1 id1 ob1 d1 b1
    obtain ⟨q1, q2⟩ := hold u hu h2 id2 ob2 d2 b2
    obtain ⟨_, cb, p3, _⟩ := hI.news s hs p1 id1 ob1 d1 p2
    obtain ⟨_, cb', q3, _⟩ := hI.news u hu q1 id2 ob2 d2 q2
    rw [hle _ _ p3] at e1
    rw [hle _ _ q3] at e2
    simp at e1 e2
    subst e1 e2
    exact hI.newsApart s hs u hu p1 q1 id1 ob1 id2 ob2 d1 d2 p2 q2 hne _ _ p3 q3
  · intro s hs h id ob hm
    have hne : s.i ≠ r.i := fun e' => by rw [e', insertS_self] at h; simp at h
    rw [insertS_other hne] at h
    have h0 := hI.unborn s hs h id ob hm
    show (if id < B.next then ρ2 id else ρ id) = none
    split
    · rename_i hb
      rcases Nat.lt_or_ge s.i r.i with h1 | h1
      · have := hv.nx_head (hin0 s hs h1)
        have := (hS.make_id hs hm).2
        rw [hlow id (by omega)]; exact h0
      · have := hS.make_lt hr hs hm (by omega)
        omega
    · exact h0
  · rw [hcore']
    intro b l h
    have h : (if b < B.next then ρ2 b else ρ b) = some l := h
    split at h
    · exact .inl ‹_›
    · rename_i hb
      rcases hI.dom b l h with h1 | ⟨s, hs, h1, h2⟩
      · omega
      · exact .inr ⟨s, hs, by unfold insertS; rw [h1]; rfl, h2⟩
end
end
end Go.Abs
