/-
  Regions whose effects stand in one order with each other and with all that looks.
-/
import Derived.Test.YtcfijkmjblcenaaGreatDoorAbsDraw5
namespace Go.Abs
noncomputable section
open Go
variable {P : Program} {call : CallF} {all : List Oper} {A0 : St}

theorem ordRow_spec {b : List Nat} {i : Nat} : ∀ (ys : List Oper) (k : Nat), ordRow P b i ys k = true → ∀ (j : Nat) (y : Oper), ys[j]? = some y → i ≠ k + j → kindC (compile P y.op) ≠ 0 → bef b i (k + j) = true ∨ bef b (k + j) i = true
  | [], k, _, j, y, hy, _, _ => by simp at hy
  | y0 :: ys, k, h, 0, y, hy, hne, hk => by
    simp at hy
    subst hy
    simp only [ordRow, Bool.and_eq_true, Bool.or_eq_true] at h
    rcases h.1 with ((h1 | h1) | h1) | h1
    · exact absurd (Nat.eq_of_beq_eq_true h1) hne
    · exact absurd (Nat.eq_of_beq_eq_true h1) hk
    · exact .inl h1
    · exact .inr h1
  | y0 :: ys, k, h, j + 1, y, hy, hne, hk => by
    simp only [ordRow, Bool.and_eq_true] at h
    have := ordRow_spec ys (Nat.succ k) h.2 j y (by simpa using hy) (by rw [Nat.succ_add]; exact hne) hk
    rwa [Nat.succ_add] at this
theorem ordFrom_spec {b : List Nat} : ∀ (os : List Oper) (k : Nat), ordFrom P b all os k = true → ∀ (j : Nat) (o : Oper), os[j]? = some o → kindC (compile P o.op) = 3 → ordRow P b (k + j) all 0 = true
  | [], k, _, j, o, ho, _ => by simp at ho
  | o0 :: os, k, h, 0, o, ho, hk => by
    simp at ho
    subst ho
    simp only [ordFrom, Bool.and_eq_true, Bool.or_eq_true, Bool.not_eq_true'] at h
    rcases h.1 with h1 | h1
    · rw [hk] at h1; simp at h1
    · exact h1
  | o0 :: os, k, h, j + 1, o, ho, hk => by
    simp only [ordFrom, Bool.and_eq_true] at h
    have := ordFrom_spec os (Nat.succ k) h.2 j o (by simpa using ho) hk
    rwa [Nat.succ_add] at this

/-- what the text asks -/
structure OrdFacts (P : Program) (all : List Oper) : Prop where
  reg : RegionFacts P all
  nomake : ∀ (i : Nat) (o : Oper), all[i]? = some o → kindC (compile P o.op) ≠ 2
  order : ∀ (i j : Nat) (o y : Oper), all[i]? = some o → all[j]? = some y → kindC (compile P o.op) = 3 → kindC (compile P y.op) ≠ 0 → i ≠ j → bef (befAll [] all) i j = true ∨ bef (befAll [] all) j i = true
theorem ordFacts (h : orderedV P all = true) : regionOk P all = true ∧ OrdFacts P all := by
  simp only [orderedV, Bool.and_eq_true] at h
  obtain ⟨⟨h1, h2⟩, h3⟩ := h
  refine ⟨h1, regionOk_facts h1, fun i o ho => ?_, fun i j o y ho hy hk hk' hne => ?_⟩
  · have := List.all_eq_true.1 h2 o (List.mem_of_getElem? ho)
    intro e
    rw [e] at this
    simp at this
  · have h4 := ordFrom_spec all 0 h3 i o ho hk
    rw [Nat.zero_add] at h4
    have := ordRow_spec all 0 h4 j y hy (by rw [Nat.zero_add]; exact hne) hk'
    rwa [Nat.zero_add] at this

/-- what is kept on the way: R holds the records of the operations ahead of i; A is the store behind them -/
structure OrdInv (P : Program) (all : List Oper) (A0 : St) (i : Nat) (R : List Rec) (A : St) : Prop where
  post : postE A0 R (lastE R) = A
  nx : nxAt A0 R = A.next
  below : ∀ s ∈ R, s.i < i
  nomake : ∀ s ∈ R, ∀ id o, s.did ≠ .make id o
  kind : ∀ s ∈ R, ∃ o, all[s.i]? = some o ∧ (isAct s → kindC (compile P o.op) = 3) ∧ ∀ f vs, s.did = .read f vs → kindC (compile P o.op) = 1
  last : match lastE R with
    | none => ∀ s ∈ R, ¬ isAct s
    | some y => (∃ s ∈ R, isAct s ∧ s.i = y) ∧ ∀ s ∈ R, isAct s → s.i ≤ y
  reads : ∀ s ∈ R, ∀ f vs, s.did = .read f vs → ∃ e, f (postE A0 R e) vs = some s.v ∧ (postE A0 R e).next = s.nx ∧
    match e with
    | none => ∀ x ∈ R, isAct x → s.i < x.i
    | some y => y < s.i ∧ (∃ x ∈ R, isAct x ∧ x.i = y) ∧ ∀ x ∈ R, isAct x → x.i < s.i → x.i ≤ y
  chain : chainOk (befAll [] all) R = true

theorem postE_cons {r : Rec} {R : List Rec} {e : Option Nat} (h : ∀ y, e = some y → r.i ≠ y) : postE A0 (r :: R) e = postE A0 R e := by
  cases e with
  | none => rfl
  | some y =>
    have hne := h y rfl
    simp only [postE, postOf]
    split
    · have : Nat.beq r.i y = false := by
        cases hb : Nat.beq r.i y with
        | false => rfl
        | true => exact absurd (Nat.eq_of_beq_eq_true hb) hne
      rw [this, cond_false]
    · rfl

theorem viewE_nomake {b : List Nat} {R : List Rec} (h : ∀ s ∈ R, ∀ id o, s.did ≠ .make id o) (e : Option Nat) (sel : Nat → Bool) : viewE b A0 R e sel = postE A0 R e := by
  have key : ∀ (R : List Rec), (∀ s ∈ R, ∀ id o, s.did ≠ .make id o) → ∀ sel A, commit sel A R = A := by
    intro R
    induction R with
    | nil => intro _ sel A; rfl
    | cons r R ih =>
      intro h sel A
      have ih := ih (fun s hs => h s (by simp [hs])) sel A
      simp only [commit]
      split
      · rename_i id o hd; exact absurd hd (h r (by simp) id o)
      · exact ih
  exact key R h _ _

/-- one operation that turns nothing -/
theorem OrdInv.plain {i : Nat} {R : List Rec} {A : St} (h : OrdInv P all A0 i R A) {r : Rec} {o : Oper} (hi : r.i = i) (hn : r.nx = A.next) (ho : all[i]? = some o) (hd : r.did = .val ∨ ∃ f vs, r.did = .read f vs ∧ f A vs = some r.v ∧ kindC (compile P o.op) = 1) :
    OrdInv P all A0 (i + 1) (r :: R) A := by
  have hna : ¬ isAct r := by rintro ⟨B, hB⟩; rcases hd with h1 | ⟨f, vs, h1, _⟩ <;> rw [h1] at hB <;> simp at hB
  have hnm : ∀ id o, r.did ≠ .make id o := by intro id o e; rcases hd with h1 | ⟨f, vs, h1, _⟩ <;> rw [h1] at e <;> simp at e
  have hl : lastE (r :: R) = lastE R := by rcases hd with h1 | ⟨f, vs, h1, _⟩ <;> simp [lastE, h1]
  have hlast := h.last
  have hne : ∀ y, lastE R = some y → r.i ≠ y := by
    intro y e
    rw [e] at hlast
    obtain ⟨⟨s, hs, _, h2⟩, _⟩ := hlast
    have := h.below s hs
    omega
  refine ⟨by rw [hl, postE_cons hne]; exact h.post, hn, fun s hs => ?_, fun s hs => ?_, fun s hs => ?_, ?_, fun s hs f vs hf => ?_, ?_⟩
  · rcases List.mem_cons.1 hs with rfl | hs
    · omega
    · have := h.below s hs; omega
  · rcases List.mem_cons.1 hs with rfl | hs
    · exact hnm
    · exact h.nomake s hs
  · rcases List.mem_cons.1 hs with rfl | hs
    · refine ⟨o, by rw [hi]; exact ho, fun ha => absurd ha hna, fun f vs hf => ?_⟩
      rcases hd with h1 | ⟨f', vs', h1, _, h3⟩
      · rw [h1] at hf; simp at hf
      · exact h3
    · exact h.kind s hs
  · rw [hl]
    cases hle : lastE R with
    | none =>
      rw [hle] at hlast
      intro s hs
      rcases List.mem_cons.1 hs with rfl | hs
      · exact hna
      · exact hlast s hs
    | some y =>
      rw [hle] at hlast
      obtain ⟨⟨s, hs, h1, h2⟩, h3⟩ := hlast
      exact ⟨⟨s, by simp [hs], h1, h2⟩, fun x hx hax => by
        rcases List.mem_cons.1 hx with rfl | hx
        · exact absurd hax hna
        · exact h3 x hx hax⟩
  · rcases List.mem_cons.1 hs with rfl | hs
    · rcases hd with h1 | ⟨f', vs', h1, h2, _⟩
      · rw [h1] at hf; simp at hf
      · rw [h1] at hf
        simp at hf
        obtain ⟨rfl, rfl⟩ := hf
        refine ⟨lastE R, by rw [postE_cons hne, h.post]; exact h2, by rw [postE_cons hne, h.post, hn], ?_⟩
        cases hle : lastE R with
        | none =>
          rw [hle] at hlast
          intro x hx hax
          rcases List.mem_cons.1 hx with rfl | hx
          · exact absurd hax hna
          · exact absurd hax (hlast x hx)
        | some y =>
          rw [hle] at hlast
          obtain ⟨⟨x, hx, h4, h5⟩, h6⟩ := hlast
          refine ⟨by have := h.below x hx; omega, ⟨x, by simp [hx], h4, h5⟩, fun z hz haz _ => ?_⟩
          rcases List.mem_cons.1 hz with rfl | hz
          · exact absurd haz hna
          · exact h6 z hz haz
    · obtain ⟨e, h1, h2, h3⟩ := h.reads s hs f vs hf
      have hs' := h.below s hs
      have hne' : ∀ y, e = some y → r.i ≠ y := by
        intro y he
        subst he
        have := h3.1
        omega
      refine ⟨e, by rw [postE_cons hne']; exact h1, by rw [postE_cons hne']; exact h2, ?_⟩
      cases e with
      | none =>
        intro x hx hax
        rcases List.mem_cons.1 hx with rfl | hx
        · exact absurd hax hna
        · exact h3 x hx hax
      | some y =>
        obtain ⟨h4, ⟨x, hx, h5, h6⟩, h7⟩ := h3
        refine ⟨h4, ⟨x, by simp [hx], h5, h6⟩, fun z hz haz => ?_⟩
        rcases List.mem_cons.1 hz with rfl | hz
        · exact absurd haz hna
        · exact h7 z hz haz
  · have := h.chain
    rcases hd with h1 | ⟨f, vs, h1, _⟩ <;> simp [chainOk, h1, this]

/-- one operation that turns the store -/
theorem OrdInv.act {i : Nat} {R : List Rec} {A B : St} (hf : OrdFacts P all) (h : OrdInv P all A0 i R A) {r : Rec} {o : Oper} (hi : r.i = i) (hn : r.nx = B.next) (ho : all[i]? = some o) (hd : r.did = .act B) (hk : kindC (compile P o.op) = 3) :
    OrdInv P all A0 (i + 1) (r :: R) B := by
  have ha : isAct r := ⟨B, hd⟩
  have hl : lastE (r :: R) = some r.i := by simp [lastE, hd]
  refine ⟨by rw [hl]; simp only [postE, postOf, hd]; rw [show Nat.beq r.i r.i = true from by simp, cond_true], hn, fun s hs => ?_, fun s hs => ?_, fun s hs => ?_, ?_, fun s hs f vs hfr => ?_, ?_⟩
  · rcases List.mem_cons.1 hs with rfl | hs
    · omega
    · have := h.below s hs; omega
  · rcases List.mem_cons.1 hs with rfl | hs
    · intro id o e; rw [hd] at e; simp at e
    · exact h.nomake s hs
  · rcases List.mem_cons.1 hs with rfl | hs
    · exact ⟨o, by rw [hi]; exact ho, fun _ => hk, fun f vs e => by rw [hd] at e; simp at e⟩
    · exact h.kind s hs
  · rw [hl]
    refine ⟨⟨r, by simp, ha, rfl⟩, fun s hs _ => ?_⟩
    rcases List.mem_cons.1 hs with rfl | hs
    · exact Nat.le_refl _
    · have := h.below s hs; omega
  · rcases List.mem_cons.1 hs with rfl | hs
    · rw [hd] at hfr; simp at hfr
    · obtain ⟨e, h1, h2, h3⟩ := h.reads s hs f vs hfr
      have hs' := h.below s hs
      have hne' : ∀ y, e = some y → r.i ≠ y := by
        intro y he
        subst he
        have := h3.1
        omega
      refine ⟨e, by rw [postE_cons hne']; exact h1, by rw [postE_cons hne']; exact h2, ?_⟩
      cases e with
      | none =>
        intro x hx hax
        rcases List.mem_cons.1 hx with rfl | hx
        · omega
        · exact h3 x hx hax
      | some y =>
        obtain ⟨h4, ⟨x, hx, h5, h6⟩, h7⟩ := h3
        refine ⟨h4, ⟨x, by simp [hx], h5, h6⟩, fun z hz haz hlt => ?_⟩
        rcases List.mem_cons.1 hz with rfl | hz
        · omega
        · exact h7 z hz haz hlt
  · have hc := h.chain
    have hlast := h.last
    simp only [chainOk, hd, Bool.and_eq_true]
    refine ⟨?_, hc⟩
    cases hle : lastE R with
    | none => rfl
    | some y =>
      rw [hle] at hlast
      obtain ⟨⟨s, hs, h1, h2⟩, _⟩ := hlast
      obtain ⟨os, h3, h4, _⟩ := h.kind s hs
      have hlt := h.below s hs
      subst h2
      rw [← hi] at ho
      rcases hf.order r.i s.i o os ho h3 hk (by rw [h4 h1]; simp) (by omega) with h5 | h5
      · exact h5
      · have := bef_lt hf.reg h5; omega

theorem chkV_some {A B : St} {r : Option (Tm × St)} {q : Tm × St} (h : chkV A B r = some q) : Nat.ble A.next B.next = true ∧ r = some q := by
  unfold chkV at h
  cases hb : Nat.ble A.next B.next with
  | false => rw [hb] at h; exact absurd h (by simp)
  | true => rw [hb] at h; exact ⟨rfl, h⟩

theorem ord_trace (hf : OrdFacts P all) : ∀ (os : List Oper) (i : Nat) (R : List Rec) (t t' : Tm) (A B : St), all.drop i = os → OrdInv P all A0 i R A → ordV P call all os t A = some (t', B) →
    ∃ R', traceV P call (befAll [] all) all A0 os i R t = some (R', t') ∧ OrdInv P all A0 all.length R' B
  | [], i, R, t, t', A, B, hd, hI, h => by
    simp only [ordV_nil, Option.some.injEq, Prod.mk.injEq] at h
    obtain ⟨rfl, rfl⟩ := h
    have hlen : all.length ≤ i := List.drop_eq_nil_iff.1 hd
    refine ⟨R, rfl, ⟨hI.post, hI.nx, fun s hs => ?_, hI.nomake, hI.kind, hI.last, hI.reads, hI.chain⟩⟩
    obtain ⟨o, h1, _⟩ := hI.kind s hs
    exact (List.getElem?_eq_some_iff.1 h1).1
  | o :: os, i, R, t, t', A, B, hd, hI, h => by
    have ho : all[i]? = some o := by
      have : (all.drop i)[0]? = some o := by rw [hd]; rfl
      rw [List.getElem?_drop] at this
      simpa using this
    have hd' : all.drop (i + 1) = os := by rw [← List.drop_drop, hd]; rfl
    simp only [ordV_cons] at h
    obtain ⟨wd, hwd, h⟩ := Option.bind_eq_some_iff.1 h
    have hview : ∀ sel, (viewE (befAll [] all) A0 R (lastE R) sel).at A.next = A := by
      intro sel
      rw [viewE_nomake hI.nomake, hI.post]
      rfl
    have hview' : ∀ sel, viewE (befAll [] all) A0 R (lastE R) sel = A := by
      intro sel
      rw [viewE_nomake hI.nomake, hI.post]
    have step : ∀ (r : Rec) (C : St), recV P call (befAll [] all) all A0 R i t o = some r → OrdInv P all A0 (i + 1) (r :: R) C → ordV P call all os (putT t o.dst r.v) C = some (t', B) →
        ∃ R', traceV P call (befAll [] all) all A0 (o :: os) i R t = some (R', t') ∧ OrdInv P all A0 all.length R' B := by
      intro r C h1 h2 h3
      obtain ⟨R', h4, h5⟩ := ord_trace hf os (i + 1) (r :: R) _ t' C B hd' h2 h3
      exact ⟨R', by simp only [traceV, h1, Option.bind_some]; exact h4, h5⟩
    cases wd with
    | false =>
      rw [cond_false] at h
      obtain ⟨_, h⟩ := chkV_some h
      exact step ⟨i, undef, nxAt A0 R, .val⟩ A (by simp [recV, hwd]) (hI.plain rfl hI.nx ho (.inl rfl)) h
    | true =>
      rw [cond_true] at h
      obtain ⟨⟨v, C⟩, h1, h2⟩ := Option.bind_eq_some_iff.1 h
      obtain ⟨hble, h2⟩ := chkV_some h2
      have hble : Nat.ble A.next C.next = true := hble
      cases hc : compile P o.op with
      | pure f xs =>
        rw [hc] at h1
        simp only [insV] at h1
        obtain ⟨u, hu, he⟩ := Option.map_eq_some_iff.1 h1
        simp at he
        obtain ⟨rfl, rfl⟩ := he
        exact step ⟨i, u, nxAt A0 R, .val⟩ A (by simp [recV, hwd, hc, recIns, hu]) (hI.plain rfl hI.nx ho (.inl rfl)) h2
      | read f xs =>
        rw [hc] at h1
        simp only [insV] at h1
        obtain ⟨u, hu, he⟩ := Option.map_eq_some_iff.1 h1
        simp at he
        obtain ⟨rfl, rfl⟩ := he
        exact step ⟨i, u, nxAt A0 R, .read f (xs.map (evA t))⟩ A (by simp [recV, hwd, hc, recIns, hview', hu]) (hI.plain rfl hI.nx ho (.inr ⟨_, _, rfl, hu, by rw [hc]; rfl⟩)) h2
      | make f xs => exact absurd (by rw [hc]; rfl) (hf.nomake i o ho)
      | act f xs =>
        rw [hc] at h1
        simp only [insV] at h1
        exact step ⟨i, v, C.next, .act C⟩ C (by simp [recV, hwd, hc, recIns, hview, h1, hI.nx, hble]) (hI.act hf rfl rfl ho rfl (by rw [hc]; rfl)) h2
      | call f xs =>
        rw [hc] at h1
        simp only [insV] at h1
        obtain ⟨p, hp, h1⟩ := Option.bind_eq_some_iff.1 h1
        exact step ⟨i, v, C.next, .act C⟩ C (by simp [recV, hwd, hc, recIns, hview, hp, h1, hI.nx, hble]) (hI.act hf rfl rfl ho rfl (by rw [hc]; rfl)) h2
      | bad => exact absurd (by rw [hc]; rfl) (hf.nomake i o ho)

theorem mayE_spec {b : List Nat} {i : Nat} {e : Option Nat} : ∀ {R : List Rec}, mayE b i e R = true → ∀ r ∈ R, isAct r → match e with
    | some e => (bef b i r.i = true → r.i ≤ e) ∧ (bef b r.i i = true → e < r.i)
    | none => bef b i r.i = false
  | [], _, r, hr, _ => by simp at hr
  | x :: R, h, r, hr, ha => by
    simp only [mayE, Bool.and_eq_true] at h
    rcases List.mem_cons.1 hr with rfl | hr
    · obtain ⟨B, hB⟩ := ha
      have h1 := h.1
      rw [hB] at h1
      cases e with
      | none => simpa using h1
      | some e =>
        simp only [Bool.and_eq_true, Bool.or_eq_true, Bool.not_eq_true'] at h1
        obtain ⟨h2, h3⟩ := h1
        refine ⟨fun hb => ?_, fun hb => ?_⟩
        · rcases h2 with h2 | h2
          · rw [hb] at h2; simp at h2
          · exact Nat.le_of_ble_eq_true h2
        · rcases h3 with h3 | h3
          · rw [hb] at h3; simp at h3
          · rw [Nat.blt_eq] at h3; exact h3
    · exact mayE_spec h.2 r hr ha
theorem effects_of : ∀ {R : List Rec} {e : Option Nat}, e ∈ effects R → e = none ∨ ∃ r ∈ R, isAct r ∧ e = some r.i
  | [], e, h => by simp [effects] at h; exact .inl h
  | x :: R, e, h => by
    simp only [effects] at h
    split at h
    · rename_i B hB
      rcases List.mem_cons.1 h with rfl | h
      · exact .inr ⟨x, by simp, ⟨B, hB⟩, rfl⟩
      · rcases effects_of h with h | ⟨r, hr, h1, h2⟩
        · exact .inl h
        · exact .inr ⟨r, by simp [hr], h1, h2⟩
    · rcases effects_of h with h | ⟨r, hr, h1, h2⟩
      · exact .inl h
      · exact .inr ⟨r, by simp [hr], h1, h2⟩

/-- the one effect that a reading may see as the last is the one ahead of it -/
theorem ord_one (hf : OrdFacts P all) {R : List Rec} {B : St} (hI : OrdInv P all A0 all.length R B) {r : Rec} (hr : r ∈ R) {f : St → List Value → Option Value} {vs : List Value} (hd : r.did = .read f vs) {e : Option Nat} (he : e ∈ effects R) (hm : mayE (befAll [] all) r.i e R = true) :
    f (postE A0 R e) vs = some r.v ∧ (postE A0 R e).next = r.nx := by
  obtain ⟨e', h1, h2, h3⟩ := hI.reads r hr f vs hd
  obtain ⟨o, ho, _, hk⟩ := hI.kind r hr
  have hk := hk f vs hd
  have hsp := mayE_spec hm
  have hne : ∀ x ∈ R, isAct x → x.i ≠ r.i := by
    intro x hx hax e2
    obtain ⟨ox, hox, hkx, _⟩ := hI.kind x hx
    rw [e2, ho] at hox
    simp at hox; subst hox
    rw [hkx hax] at hk
    simp at hk
  have hord : ∀ x ∈ R, isAct x → (x.i < r.i → bef (befAll [] all) r.i x.i = true) ∧ (r.i < x.i → bef (befAll [] all) x.i r.i = true) := by
    intro x hx hax
    obtain ⟨ox, hox, hkx, _⟩ := hI.kind x hx
    have h4 := hf.order x.i r.i ox o hox ho (hkx hax) (by rw [hk]; simp) (hne x hx hax)
    refine ⟨fun hlt => ?_, fun hlt => ?_⟩
    · rcases h4 with h4 | h4
      · have := bef_lt hf.reg h4; omega
      · exact h4
    · rcases h4 with h4 | h4
      · exact h4
      · have := bef_lt hf.reg h4; omega
  have hee : e = e' := by
    rcases effects_of he with rfl | ⟨x, hx, hax, rfl⟩
    · cases e' with
      | none => rfl
      | some y =>
        obtain ⟨h4, ⟨x, hx, h5, h6⟩, _⟩ := h3
        have h7 := hsp x hx h5
        have h8 := (hord x hx h5).1 (by omega)
        simp only at h7
        rw [h7] at h8
        simp at h8
    · have hxr : x.i < r.i := by
        have h5 := hne x hx hax
        rcases Nat.lt_or_ge x.i r.i with h6 | h6
        · exact h6
        · have h7 := (hsp x hx hax).2 ((hord x hx hax).2 (by omega))
          omega
      cases e' with
      | none => have := h3 x hx hax; omega
      | some y =>
        obtain ⟨h4, ⟨z, hz, h5, h6⟩, h7⟩ := h3
        have h8 := h7 x hx hax hxr
        have h9 := (hsp z hz h5).1 ((hord z hz h5).1 (by omega))
        have : x.i = y := by omega
        rw [this]
  rw [hee]
  exact ⟨h1, h2⟩

theorem ordered_sound {rd : Option Nat} (hcall : CallOk P call) (hm : P.follows .mixedOrders = true) {id : Nat} {N base : Nat} (hdN : all.all (dstOk N) = true) {t t' : Tm} {A B : St} {ρ : Go.Abs.Ren} {a : Act} {w : World} {Q : Exit → Act → World → Prop}
    (hov : orderedV P all = true) (h : ordV P call all all t A = some (t', B)) (ht : TR ρ t N a) (hs : Sim ρ A base w) (hq : ∀ ρ' a' w', TR ρ' t' N a' → a'.defers = a.defers → Goes base ρ A w ρ' B w' → Q .normal a' w') : (Code.region id ⟨all⟩ true).wpIn (Fr rd) 0 P Q a w := by
  obtain ⟨hok, hf⟩ := ordFacts hov
  obtain ⟨R, htr, hI⟩ := ord_trace (A0 := A) hf all 0 [] t t' A B (by simp) ⟨rfl, rfl, fun s hs => by simp at hs, fun s hs => by simp at hs, fun s hs => by simp at hs, fun s hs => by simp at hs, fun s hs => by simp at hs, rfl⟩ h
  refine drawn_core hcall hm hdN hok htr hI.chain (fun r hr f vs hd => ⟨.inr ⟨hI.nomake, fun e he hme => Nat.le_of_eq (ord_one hf hI hr hd he hme).2⟩, fun e he hme => ?_⟩) ht hs fun ρ' a' w' ht' hdf hg => ?_
  · rw [viewE_nomake hI.nomake]
    exact (ord_one hf hI hr hd he hme).1
  · rw [viewE_nomake hI.nomake, hI.post, hI.nx] at hg
    exact hq ρ' a' w' ht' hdf hg
end
end Go.Abs
