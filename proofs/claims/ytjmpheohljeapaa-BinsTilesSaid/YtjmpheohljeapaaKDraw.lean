/-
  Regions of the machine K that draw their order.
-/
import Derived.Test.YtjmpheohljeapaaKCode
namespace Go.K
open Go Go.Abs
variable {P : Program} {E : Env}

theorem meetsK_spec {cfg : Cfg} {all : List Oper} {b : List Nat} {i : Nat} {y : Oper} : ∀ (xs : List Oper) (k : Nat), meetsK P cfg all b i y xs k = true → ∀ (j : Nat) (x : Oper), xs[j]? = some x → k + j < i → meetK P cfg all x y = true → bef b i (k + j) = true
  | [], k, _, j, x, hx, _, _ => by simp at hx
  | x0 :: xs, k, h, 0, x, hx, hlt, hc => by
    simp at hx
    subst hx
    simp only [meetsK, Bool.and_eq_true, Bool.or_eq_true, Bool.not_eq_true'] at h
    rcases h.1 with (h1 | h1) | h1
    · have := Nat.le_of_ble_eq_true h1; omega
    · rw [hc] at h1; simp at h1
    · exact h1
  | x0 :: xs, k, h, j + 1, x, hx, hlt, hc => by
    simp only [meetsK, Bool.and_eq_true] at h
    have := meetsK_spec xs (k + 1) h.2 j x (by simpa using hx) (by omega) hc
    rwa [show k + 1 + j = k + (j + 1) by omega] at this
theorem ordFromK_spec {cfg : Cfg} {all : List Oper} {b : List Nat} : ∀ (os : List Oper) (k : Nat), ordFromK P cfg all b os k = true → ∀ (i : Nat) (o : Oper), os[i]? = some o → meetsK P cfg all b (k + i) o all 0 = true
  | [], k, _, i, o, ho => by simp at ho
  | o0 :: os, k, h, 0, o, ho => by
    simp at ho
    subst ho
    simp only [ordFromK, Bool.and_eq_true] at h
    exact h.1
  | o0 :: os, k, h, i + 1, o, ho => by
    simp only [ordFromK, Bool.and_eq_true] at h
    have := ordFromK_spec os (k + 1) h.2 i o (by simpa using ho)
    rwa [show k + 1 + i = k + (i + 1) by omega] at this
structure OrdK (P : Program) (cfg : Cfg) (all : List Oper) : Prop where
  reg : RegionFacts P all
  kind : ∀ o ∈ all, kindK (kcomp P cfg o.op) ≤ 3
  ord : ∀ i j x y, all[i]? = some y → all[j]? = some x → j < i → meetK P cfg all x y = true → bef (befAll [] all) i j = true
theorem ordK_facts {cfg : Cfg} {all : List Oper} (h : ordK P cfg all = true) : OrdK P cfg all := by
  unfold ordK at h
  simp only [Bool.and_eq_true] at h
  refine ⟨regionOk_facts h.1.1, fun o ho => Nat.le_of_ble_eq_true (List.all_eq_true.1 h.1.2 o ho), fun i j x y hy hx hlt hm => ?_⟩
  have := ordFromK_spec all 0 h.2 i y hy
  rw [Nat.zero_add] at this
  have := meetsK_spec all 0 this j x hx (by omega) hm
  rwa [Nat.zero_add] at this
theorem no_call_of_kind {cfg : Cfg} {o : Oper} (h : kindK (kcomp P cfg o.op) ≤ 3) : ∀ f args, kcomp P cfg o.op ≠ .call f args := by
  intro f args e
  rw [e] at h
  simp [kindK] at h

theorem meet_clash {cfg : Cfg} {all : List Oper} {x y : Oper} (h : clashK P cfg all x y = true) : meetK P cfg all x y = true := by unfold meetK; rw [h]; rfl
theorem hits_of {d : Tmp} {l : List Tmp} (h : d ∈ l) : hits (some d) l = true := by
  simp only [hits, List.any_eq_true]
  exact ⟨d, h, by simp⟩
theorem opTmps_mem {x : Tmp} : ∀ {xs : List Operand}, Operand.tmp x ∈ xs → x ∈ opTmps xs
  | [], h => by simp at h
  | y :: ys, h => by
    rcases List.mem_cons.1 h with h | h
    · subst h; simp [opTmps]
    · have := opTmps_mem h
      cases y <;> simp [opTmps, this]

section
variable {cfg : Cfg} {all : List Oper} {L : List Out} {t0 : KTm} {A0 : KSt}
/-- a temporary that a ready operation looks at is what it was in the order of the text -/
theorem ready_tmp (hf : OrdK P cfg all) {S : Nat → Bool} (hc : Closed all S) {i : Nat} {o : Oper} (ho : all[i]? = some o) (hSi : S i = false) (hrd : readyFor all S i) {y : Tmp} (hy : y ∈ looksK P cfg all o) :
    (tmS S all L 0 t0).get y = (tmS (fun j => Nat.blt j i) all L 0 t0).get y := by
  refine tmS_get rfl fun j q hq hd => ?_
  rw [Nat.zero_add]
  rcases Nat.lt_trichotomy j i with h | h | h
  · have : bef (befAll [] all) i j = true := hf.ord i j q o ho hq h (meet_clash (by
      unfold clashK
      rw [hd, hits_of hy]
      rfl))
    rw [hc.ready hf.reg ho hrd j this]
    symm; rw [Nat.blt_eq]; exact h
  · subst h
    rw [hSi]
    symm
    cases hb : Nat.blt j j with
    | false => rfl
    | true => rw [Nat.blt_eq] at hb; omega
  · have hb : bef (befAll [] all) j i = true := hf.ord j i o q hq ho h (meet_clash (by
      unfold clashK
      rw [hd, hits_of hy]
      simp))
    have : S j = false := by
      cases hs : S j with
      | false => rfl
      | true => have := hc j i hs hb; rw [hSi] at this; simp at this
    rw [this]
    symm
    cases hbb : Nat.blt j i with
    | false => rfl
    | true => rw [Nat.blt_eq] at hbb; omega
/-- the store that a ready operation finds is what it was in the order of the text -/
theorem ready_store (hf : OrdK P cfg all) {S : Nat → Bool} (hc : Closed all S) {i : Nat} {o : Oper} (ho : all[i]? = some o) (hSi : S i = false) (hrd : readyFor all S i) (hk : kindK (kcomp P cfg o.op) ≠ 0) :
    stS P cfg S all L 0 A0 = stS P cfg (fun j => Nat.blt j i) all L 0 A0 := by
  refine stS_eq fun j q x hq hx ht => ?_
  rw [Nat.zero_add]
  have h3 : Nat.ble 3 (kindK (kcomp P cfg q.op)) = true := by unfold turns at ht; simp only [Bool.and_eq_true] at ht; exact ht.2
  have hk' : Nat.beq (kindK (kcomp P cfg o.op)) 0 = false := by
    cases hb : Nat.beq (kindK (kcomp P cfg o.op)) 0 with
    | false => rfl
    | true => exact absurd (Nat.eq_of_beq_eq_true hb) hk
  rcases Nat.lt_trichotomy j i with h | h | h
  · have : bef (befAll [] all) i j = true := hf.ord i j q o ho hq h (by unfold meetK; rw [h3, hk']; simp)
    rw [hc.ready hf.reg ho hrd j this]
    symm; rw [Nat.blt_eq]; exact h
  · subst h
    rw [hSi]
    symm
    cases hb : Nat.blt j j with
    | false => rfl
    | true => rw [Nat.blt_eq] at hb; omega
  · have hb : bef (befAll [] all) j i = true := hf.ord j i o q hq ho h (by unfold meetK; rw [h3, hk']; simp)
    have : S j = false := by
      cases hs : S j with
      | false => rfl
      | true => have := hc j i hs hb; rw [hSi] at this; simp at this
    rw [this]
    symm
    cases hbb : Nat.blt j i with
    | false => rfl
    | true => rw [Nat.blt_eq] at hbb; omega
/-- what the operation writes, and the others -/
theorem put_tmp (hf : OrdK P cfg all) {S : Nat → Bool} (hc : Closed all S) {i : Nat} {o : Oper} {x : Out} (ho : all[i]? = some o) (hx : L[i]? = some x) (hSi : S i = false) (y : Tmp) :
    (tmS (insertS S i) all L 0 t0).get y = (putK (tmS S all L 0 t0) o.dst x.2.1).get y := by
  rw [putK_get]
  by_cases hd : o.dst = some y
  · rw [if_pos hd]
    have := tmS_put (S := S) (y := y) (os := all) (L := L) (k := 0) (i := i) (t := t0) ho hx hd (fun j q hq hqd hlt => by
      rw [Nat.zero_add]
      have hb : bef (befAll [] all) j i = true := hf.ord j i o q hq ho hlt (meet_clash (by
        unfold clashK
        rw [hqd, hd]
        simp [sameDst]))
      cases hs : S j with
      | false => rfl
      | true => have := hc j i hs hb; rw [hSi] at this; simp at this)
    rw [Nat.zero_add] at this
    exact this
  · rw [if_neg hd]
    refine tmS_get rfl fun j q hq hqd => ?_
    rw [Nat.zero_add]
    have hne : j ≠ i := by
      intro e
      subst e
      rw [ho] at hq
      simp at hq
      subst hq
      exact hd hqd
    unfold insertS
    have : Nat.beq j i = false := by
      cases hb : Nat.beq j i with
      | false => rfl
      | true => exact absurd (Nat.eq_of_beq_eq_true hb) hne
    rw [this, Bool.or_false]
theorem put_store_same {S : Nat → Bool} {i : Nat} {o : Oper} {x : Out} (ho : all[i]? = some o) (hx : L[i]? = some x) (ht : turns P cfg o x = false) : stS P cfg (insertS S i) all L 0 A0 = stS P cfg S all L 0 A0 := by
  refine stS_eq fun j q y hq hy hty => ?_
  rw [Nat.zero_add]
  have hne : j ≠ i := by
    intro e
    subst e
    rw [ho] at hq; rw [hx] at hy
    simp at hq hy
    subst hq hy
    rw [ht] at hty; simp at hty
  unfold insertS
  have : Nat.beq j i = false := by
    cases hb : Nat.beq j i with
    | false => rfl
    | true => exact absurd (Nat.eq_of_beq_eq_true hb) hne
  rw [this, Bool.or_false]
theorem put_store (hf : OrdK P cfg all) {S : Nat → Bool} (hc : Closed all S) {i : Nat} {o : Oper} {x : Out} (ho : all[i]? = some o) (hx : L[i]? = some x) (hSi : S i = false) (hrd : readyFor all S i) (ht : turns P cfg o x = true) :
    stS P cfg (insertS S i) all L 0 A0 = x.2.2 := by
  have h3 : Nat.ble 3 (kindK (kcomp P cfg o.op)) = true := by unfold turns at ht; simp only [Bool.and_eq_true] at ht; exact ht.2
  have hk : kindK (kcomp P cfg o.op) ≠ 0 := by have := Nat.le_of_ble_eq_true h3; omega
  have h1 : stS P cfg (insertS S i) all L 0 A0 = stS P cfg (fun j => Nat.blt j (i + 1)) all L 0 A0 := by
    refine stS_eq fun j q y hq hy hty => ?_
    rw [Nat.zero_add]
    have hq3 : Nat.ble 3 (kindK (kcomp P cfg q.op)) = true := by unfold turns at hty; simp only [Bool.and_eq_true] at hty; exact hty.2
    have hk' : Nat.beq (kindK (kcomp P cfg q.op)) 0 = false := by
      cases hb : Nat.beq (kindK (kcomp P cfg q.op)) 0 with
      | false => rfl
      | true => have := Nat.eq_of_beq_eq_true hb; have := Nat.le_of_ble_eq_true hq3; omega
    have hk2 : Nat.beq (kindK (kcomp P cfg o.op)) 0 = false := by
      cases hb : Nat.beq (kindK (kcomp P cfg o.op)) 0 with
      | false => rfl
      | true => exact absurd (Nat.eq_of_beq_eq_true hb) hk
    rcases Nat.lt_trichotomy j i with h | h | h
    · have : bef (befAll [] all) i j = true := hf.ord i j q o ho hq h (by unfold meetK; rw [hq3, hk2]; simp)
      have := hc.ready hf.reg ho hrd j this
      unfold insertS
      rw [this, Bool.true_or]
      symm; rw [Nat.blt_eq]; omega
    · subst h
      have : insertS S j j = true := by simp [insertS]
      rw [this]
      symm; rw [Nat.blt_eq]; omega
    · have hb : bef (befAll [] all) j i = true := hf.ord j i o q hq ho h (by unfold meetK; rw [hq3, hk2]; simp)
      have : S j = false := by
        cases hs : S j with
        | false => rfl
        | true => have := hc j i hs hb; rw [hSi] at this; simp at this
      unfold insertS
      have hne : Nat.beq j i = false := by
        cases hb : Nat.beq j i with
        | false => rfl
        | true => have := Nat.eq_of_beq_eq_true hb; omega
      rw [this, hne]
      symm
      cases hbb : Nat.blt j (i + 1) with
      | false => rfl
      | true => rw [Nat.blt_eq] at hbb; omega
  rw [h1]
  have key : ∀ (os : List Oper) (L : List Out) (k i : Nat) (A : KSt) (o : Oper) (x : Out), os[i]? = some o → L[i]? = some x → turns P cfg o x = true → stS P cfg (fun j => Nat.blt j (k + i + 1)) os L k A = x.2.2 := by
    intro os
    induction os with
    | nil => intro L k i A o x ho; simp at ho
    | cons q os ih =>
      intro L k i A o x ho hx ht
      cases L with
      | nil => simp at hx
      | cons u L =>
        simp only [stS]
        have hlt : Nat.blt k (k + i + 1) = true := by rw [Nat.blt_eq]; omega
        rw [hlt, Bool.true_and]
        cases i with
        | zero =>
          simp at ho hx
          subst ho hx
          rw [ht, cond_true]
          have : ∀ (os : List Oper) (L : List Out) (m : Nat) (A : KSt), k + 1 ≤ m → stS P cfg (fun j => Nat.blt j (k + 0 + 1)) os L m A = A := by
            intro os
            induction os with
            | nil => intro L m A _; cases L <;> rfl
            | cons q os ih =>
              intro L m A hm
              cases L with
              | nil => rfl
              | cons u L =>
                simp only [stS]
                have : Nat.blt m (k + 0 + 1) = false := by
                  cases hb : Nat.blt m (k + 0 + 1) with
                  | false => rfl
                  | true => rw [Nat.blt_eq] at hb; omega
                rw [this, Bool.false_and, cond_false]
                exact ih L _ A (by omega)
          exact this os L (k + 1) _ (Nat.le_refl _)
        | succ i =>
          have := ih L (k + 1) i (cond (turns P cfg q u) u.2.2 A) o x (by simpa using ho) (by simpa using hx) ht
          rwa [show k + 1 + i + 1 = k + (i + 1) + 1 by omega] at this
  have := key all L 0 i A0 o x ho hx ht
  rwa [Nat.zero_add] at this
end

theorem guardTmp_mem {all : List Oper} {o : Oper} {j : Nat} {want : Bool} {d : Tmp} (hg : o.guard = some (j, want)) (hd : (all[j]?).bind (·.dst) = some d) : d ∈ guardTmp all o := by
  unfold guardTmp
  rw [hg]
  simp [hd]
theorem want_sound {all : List Oper} {o : Oper} {t t1 : KTm} {wd : Bool} {N : Nat} {ρ : Ren} {a : Act} (ht : TKR P E ρ t N a) (hl : ∀ y ∈ guardTmp all o, t1.get y = t.get y) (h : WantIn all o t1 wd) : Region.wanted o (yielded ⟨all⟩ a.tmps) = wd := by
  rcases h with ⟨hg, rfl⟩ | ⟨j, want, d, hg, hd, h⟩
  · unfold Region.wanted
    rw [hg]
  · have hsame := hl d (guardTmp_mem hg hd)
    have hval := ht.val d
    unfold Region.wanted
    rw [hg]
    simp only
    unfold yielded
    have e : (⟨all⟩ : Array Oper)[j]? = all[j]? := by simp
    rw [e, hd]
    simp only [Option.bind_some]
    rcases h with ⟨b, h1, rfl⟩ | ⟨l, h1, rfl⟩
    · rw [← hsame, h1] at hval
      have hcv := hval.bool_inv
      cases hc : a.tmps[d]? with
      | none => simp [Array.getD_eq_getD_getElem?, hc, undef] at hcv
      | some u =>
        have : u = .bool b := by rw [← hcv]; simp [Array.getD_eq_getD_getElem?, hc]
        subst this
        rfl
    · rw [← hsame, h1] at hval
      obtain ⟨u, h2, h3⟩ := hval
      obtain ⟨m, rfl, _⟩ := h2.tup_inv
      obtain ⟨m', h4, _⟩ := h3.tuple_inv
      cases hc : a.tmps[d]? with
      | none => rfl
      | some u =>
        have : u = .tuple m' := by rw [← h4]; simp [Array.getD_eq_getD_getElem?, hc]
        subst this
        rfl
theorem ev_tmps {t t1 : KTm} {N : Nat} {ρ : Ren} {a : Act} (ht : TKR P E ρ t N a) {x : Operand} (h : ∀ y, x = .tmp y → t1.get y = t.get y) : VC P E ρ (evK t1 x) (a.eval x) := by
  have := ht.ev x
  cases x with
  | tmp y => simp only [evK] at this ⊢; rw [h y rfl]; exact this
  | const v => exact this
  | global g => exact this
  | func f => exact this
theorem dir_any {cfg : Cfg} {o : Oper} {t : KTm} {A A1 A' : KSt} {v : KV} (h : Gives (dirK (kcomp P cfg o.op) t A) (v, A1)) (hk : kindK (kcomp P cfg o.op) = 0) : Gives (dirK (kcomp P cfg o.op) t A') (v, A') := by
  generalize kcomp P cfg o.op = ins at h hk
  cases ins with
  | pure f xs => obtain ⟨u, h1, h2⟩ := Gives.map h; simp at h2; obtain ⟨rfl, _⟩ := h2; exact h1.mk_map
  | read f xs => simp [kindK] at hk
  | act f xs => simp [kindK] at hk
  | look f xs => obtain ⟨u, h1, h2⟩ := Gives.map h; simp at h2; obtain ⟨rfl, _⟩ := h2; exact h1.mk_map
  | pcall g f xs => obtain ⟨u, h1, h2⟩ := Gives.map h; simp at h2; obtain ⟨rfl, _⟩ := h2; exact h1.mk_map
  | call f xs => exact h.elim
  | bad => exact h.elim
theorem tmS_none {S : Nat → Bool} {N : Nat} : ∀ {os : List Oper} {L : List Out} {k : Nat} {t : KTm}, os.all (dstOk N) = true → (∀ y, N ≤ y → t.get y = none) → ∀ y, N ≤ y → (tmS S os L k t).get y = none
  | [], L, k, t, _, h, y, hy => by cases L <;> exact h y hy
  | o :: os, [], k, t, _, h, y, hy => h y hy
  | o :: os, x :: L, k, t, hd, h, y, hy => by
    simp only [List.all_cons, Bool.and_eq_true] at hd
    simp only [tmS]
    refine tmS_none hd.2 (fun z hz => ?_) y hy
    cases S k with
    | false => exact h z hz
    | true =>
      rw [cond_true, putK_get, if_neg]
      · exact h z hz
      · intro e
        have := hd.1
        unfold dstOk at this
        rw [e] at this
        simp only at this
        rw [Nat.blt_eq] at this
        omega
theorem stS_false {cfg : Cfg} {S : Nat → Bool} (h : ∀ i, S i = false) : ∀ {os : List Oper} {L : List Out} {k : Nat} {A : KSt}, stS P cfg S os L k A = A
  | [], L, k, A => by cases L <;> rfl
  | o :: os, [], k, A => rfl
  | o :: os, x :: L, k, A => by simp only [stS]; rw [h, Bool.false_and, cond_false]; exact stS_false h
theorem tmS_false {S : Nat → Bool} (h : ∀ i, S i = false) : ∀ {os : List Oper} {L : List Out} {k : Nat} {t : KTm}, tmS S os L k t = t
  | [], L, k, A => by cases L <;> rfl
  | o :: os, [], k, A => rfl
  | o :: os, x :: L, k, A => by simp only [tmS]; rw [h, cond_false]; exact tmS_false h
theorem drawn_soundK {R : Type} {cfg : Cfg} {icall : ICall R} (hpc : PcOk P cfg.pc) (hm : P.follows .mixedOrders = true) {id : Nat} {all : List Oper} {N base : Nat} (hdN : all.all (dstOk N) = true) {k : KTm → KSt → Option R} {r : R} {t : KTm} {A : KSt} {B : St} {ρ : Ren} {a : Act} {w : World} {Q : Exit → Act → World → Prop}
    (hord : ordK P cfg all = true) (h : opsK P cfg icall all k all t A = some r) (ht : TKR P E ρ t N a) (hj : KJ P E A B ρ base w)
    (hq : ∀ t' E' A' B' ρ' a' w', k t' A' = some r → TKR P E' ρ' t' N a' → a'.defers = a.defers → Ev P base E A B ρ w E' A' B' ρ' w' → Q .normal a' w') : (Code.region id ⟨all⟩ true).wp P Q a w := by
  have hf := ordK_facts hord
  obtain ⟨L, tn, An, hrun, hk⟩ := run_of (fun o ho f args => no_call_of_kind (hf.kind o ho) f args) h
  obtain ⟨hlen, htn, hAn, hat⟩ := hrun.at
  have hdrew : Ev P base E A B ρ w E A B ρ w.drew := ⟨hj.k, Goes.drew hj.s, Env.le_refl _, Nat.le_refl _, fun _ _ _ => rfl, fun _ _ e => .inl e, fun _ _ e => .inl e, fun _ _ e => .inl ⟨_, e⟩, fun _ _ _ => rfl⟩
  refine wp_region_any hm ?_
  show wpAny P .any ⟨all⟩ Q all.length (Array.replicate all.length false) a w.drew
  have hnone : ∀ i, (Array.replicate all.length false).getD i false = false := by
    intro i
    rw [Array.getD_eq_getD_getElem?, Array.getElem?_replicate]
    split <;> rfl
  let Inv : (Nat → Bool) → Act → World → Prop := fun S a' w' => ∃ E' B' ρ', a'.defers = a.defers ∧ Ev P base E A B ρ w.drew E' (stS P cfg S all L 0 A) B' ρ' w' ∧ TKR P E' ρ' (tmS S all L 0 t) N a'
  refine any_of_inv hf.reg Inv ?_ ?_ ?_ all.length _ a w.drew (by simp) ?_ (fun i j hi _ => by
      have h2 : (Array.replicate all.length false).getD i false = true := hi
      rw [hnone] at h2; simp at h2) ⟨E, B, ρ, rfl, ?_, ?_⟩
  · -- only the operations that are there count
    rintro S S' a' w' hSS ⟨E', B', ρ', h1, h2, h3⟩
    have e1 : stS P cfg S all L 0 A = stS P cfg S' all L 0 A := stS_eq fun i o x ho _ _ => by rw [Nat.zero_add]; exact hSS i (List.getElem?_eq_some_iff.1 ho).1
    refine ⟨E', B', ρ', h1, by rw [← e1]; exact h2, h3.same fun y => ?_⟩
    exact tmS_get rfl fun i o ho _ => by rw [Nat.zero_add]; exact (hSS i (List.getElem?_eq_some_iff.1 ho).1).symm
  · -- one more
    rintro S a' w' i o ⟨E', B', ρ', h1, h2, h3⟩ hc ho hSi hrd _
    have hi : i < L.length := by rw [hlen]; exact (List.getElem?_eq_some_iff.1 ho).1
    have hx : L[i]? = some L[i] := List.getElem?_eq_getElem hi
    obtain ⟨t1, ht1, hw, hyes, hno⟩ := hat i o L[i] ho hx
    have hlook : ∀ y ∈ looksK P cfg all o, t1.get y = (tmS S all L 0 t).get y := fun y hy => by rw [ht1 y, ready_tmp hf hc ho hSi hrd hy]
    have hwant := want_sound h3 (fun y hy => hlook y (by unfold looksK; exact List.mem_append_left _ hy)) hw
    have hdst : ∀ d, o.dst = some d → d < N := by
      intro d ed
      have := List.all_eq_true.1 hdN o (List.mem_of_getElem? ho)
      unfold dstOk at this
      rw [ed] at this
      simp only at this
      rw [Nat.blt_eq] at this
      exact this
    have hoA : (⟨all⟩ : Array Oper)[i]? = some o := by simpa using ho
    unfold wpOp
    rw [hoA]
    simp only [hwant]
    cases hx1 : L[i].1 with
    | false =>
      simp only [Bool.false_eq_true, if_false]
      have hv := hno hx1
      refine ⟨E', B', ρ', by rw [put_defers]; exact h1, ?_, ?_⟩
      · rw [put_store_same ho hx (by unfold turns; rw [hx1]; rfl)]
        exact h2
      · refine (h3.put hdst VC.undef).same fun y => ?_
        rw [put_tmp hf hc ho hx hSi y, hv]
    | true =>
      simp only [if_true]
      refine .inl ?_
      have hg := hyes hx1
      have hgS : ∃ A1, Gives (dirK (kcomp P cfg o.op) t1 (stS P cfg S all L 0 A)) (L[i].2.1, A1) ∧ stS P cfg (insertS S i) all L 0 A = A1 := by
        by_cases hk0 : kindK (kcomp P cfg o.op) = 0
        · refine ⟨_, dir_any hg hk0, put_store_same ho hx ?_⟩
          unfold turns
          rw [hk0, show Nat.ble 3 0 = false from rfl, Bool.and_false]
        · rw [ready_store (L := L) (A0 := A) hf hc ho hSi hrd hk0]
          refine ⟨_, hg, ?_⟩
          cases htn : turns P cfg o L[i] with
          | true => exact put_store hf hc ho hx hSi hrd htn
          | false =>
            have h4 := dir_store hg (by simpa [turns, hx1] using htn)
            rw [put_store_same ho hx htn, ready_store (L := L) (A0 := A) hf hc ho hSi hrd hk0, h4]
      obtain ⟨A1, hg1, hA1⟩ := hgS
      refine dir_sound hpc hg1 (fun x hxm => ev_tmps h3 fun y e => hlook y ?_) h2.kj fun E'' B'' ρ'' v' w'' h4 h5 => ?_
      · unfold looksK
        subst e
        exact List.mem_append_right _ (opTmps_mem hxm)
      · refine ⟨E'', B'', ρ'', by rw [put_defers]; exact h1, ?_, ?_⟩
        · rw [hA1]; exact h2.trans h5
        · refine ((h3.mono h5.le (h5.goes.le h2.goes.sim)).put hdst h4).same fun y => ?_
          rw [put_tmp hf hc ho hx hSi y]
  · -- the end
    rintro S a' w' hall ⟨E', B', ρ', h1, h2, h3⟩
    have e1 : stS P cfg S all L 0 A = An := by rw [hAn]; exact stS_eq fun i o x ho _ _ => by rw [Nat.zero_add]; exact hall i (List.getElem?_eq_some_iff.1 ho).1
    rw [e1] at h2
    refine hq tn E' An B' ρ' a' w' hk (h3.same fun y => ?_) h1 (hdrew.trans h2)
    rw [htn y]
    exact tmS_get rfl fun i o ho _ => by rw [Nat.zero_add]; exact (hall i (List.getElem?_eq_some_iff.1 ho).1).symm
  · simp
  · rw [stS_false hnone]
    exact .refl hj.k hdrew.goes.sim
  · refine ht.same fun y => ?_
    rw [tmS_false hnone]
end Go.K
