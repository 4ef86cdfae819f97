/-
  Loops that are told whole: the rounds are the loop's.
-/
import Derived.Test.YtadjalkkhkkdiaaKLoop2
namespace Go.K
open Go Go.Abs
variable {P : Program} {E : Env}

theorem normC_good {c : CK} {v : KV} (h : kindOk c v = true) : normC c v = v := by
  unfold normC
  split
  · simp [kindOk] at h
  · rename_i t t' m n es acc
    cases m <;> simp [kindOk] at h
    subst h
    rw [Nat.beq_refl, cond_true]
  · rw [h]; rfl
theorem normCD_good {d : CD} {v : KV} (h : goodCD d v = true) : normCD d v = v := by
  cases d with
  | k c => exact normC_good h
  | lit w =>
    show cond (litOk w v) w .unk = v
    have h : litOk w v = true := h
    rw [h, cond_true, litOk_eq h]
theorem normCDs_good : ∀ {ds : List CD} {vs : List KV}, goodCDs ds vs = true → normCDs ds vs = vs ∧ vs.length = ds.length
  | [], [], _ => ⟨rfl, rfl⟩
  | [], _ :: _, h => by simp [goodCDs] at h
  | _ :: _, [], h => by simp [goodCDs] at h
  | d :: ds, v :: vs, h => by
    simp only [goodCDs, Bool.and_eq_true] at h
    obtain ⟨h1, h2⟩ := normCDs_good h.2
    exact ⟨by rw [normCDs, normCD_good h.1, h1], by simp [h2]⟩
theorem goodVD_known {d : VD} {u : Option KV} (h : goodVD d (normVD d (u.getD .unk)) = true) : ∃ v, u = some v := by
  cases u with
  | some v => exact ⟨v, rfl⟩
  | none =>
    exfalso
    have e : ∀ d : CD, goodCD d .unk = false := by
      intro d
      cases d with
      | k c => cases c <;> rfl
      | lit w => cases w <;> first | rfl | (rename_i f a b; cases f <;> cases a <;> cases b <;> rfl)
    have e1 : normVD d .unk = .unk := by
      unfold normVD
      simp only
      cases d.agg with
      | true => rfl
      | false =>
        rw [cond_false]
        split
        · rename_i c _
          cases c with
          | k c => cases c <;> rfl
          | lit w =>
            show cond (litOk w .unk) w .unk = .unk
            have : litOk w .unk = false := e (.lit w)
            rw [this]; rfl
        · rfl
    simp only [Option.getD_none, e1] at h
    simp only [goodVD, Bool.and_eq_true] at h
    obtain ⟨d, _, h2⟩ := goodCDs_one h.2
    rw [e d] at h2
    simp at h2

structure Slots (P : Program) (E : Env) (ρ : Ren) (S : LSpec) (bs : List Nat) (vs : List KV) (N : Nat) (a : Act) : Prop where
  size : a.tmps.size = N
  v : ∀ (i : Nat) p v, S.vals[i]? = some p → vs[i]? = some v → p.1 < N ∧ VC P E ρ v (a.tmps.getD p.1 undef)
  p : ∀ q ∈ S.ptrs, q.1 < N ∧ ∃ b, bs[q.2.1]? = some b ∧ VC P E ρ (.ptr b q.2.2) (a.tmps.getD q.1 undef)
theorem ofPairs_get : ∀ {l : List (Nat × KV)} {i : Nat} {v : KV}, (ofPairs l).get i = some v → (i, v) ∈ l
  | [], i, v, h => by simp [ofPairs] at h
  | p :: ps, i, v, h => by
    rw [ofPairs, Trie.get_set] at h
    split at h
    · rename_i e
      simp at h; subst h e
      simp
    · exact List.mem_cons_of_mem _ (ofPairs_get h)
theorem TKR.ofPairs {ρ : Ren} {l : List (Nat × KV)} {N : Nat} {a : Act} (hs : a.tmps.size = N) (h : ∀ q ∈ l, q.1 < N ∧ VC P E ρ q.2 (a.tmps.getD q.1 undef)) : TKR P E ρ (K.ofPairs l) N a := by
  refine ⟨hs, fun i => ?_, fun i hi => ?_⟩
  · cases hg : (K.ofPairs l).get i with
    | none => exact .unk
    | some v => exact (h _ (ofPairs_get hg)).2
  · cases hg : (K.ofPairs l).get i with
    | none => rfl
    | some v => have := (h _ (ofPairs_get hg)).1; exact absurd hi (Nat.not_le_of_lt this)
theorem zipV_mem : ∀ {ps : List (Tmp × VD)} {vs : List KV} {q : Nat × KV}, q ∈ zipV ps vs → ∃ (i : Nat) (p : Tmp × VD), ps[i]? = some p ∧ vs[i]? = some q.2 ∧ q.1 = p.1
  | [], _, _, h => by simp [zipV] at h
  | _ :: _, [], _, h => by simp [zipV] at h
  | p :: ps, v :: vs, q, h => by
    simp only [zipV, List.mem_cons] at h
    rcases h with rfl | h
    · exact ⟨0, p, rfl, rfl, rfl⟩
    · obtain ⟨i, p', h1, h2, h3⟩ := zipV_mem h
      exact ⟨i + 1, p', by simpa using h1, by simpa using h2, h3⟩
theorem ptrPairs_mem {bs : List Nat} : ∀ {ps : List (Tmp × Nat × Nat)} {q : Nat × KV}, q ∈ ptrPairs bs ps → ∃ p ∈ ps, q = (p.1, .ptr (bs.getD p.2.1 0) p.2.2)
  | [], _, h => by simp [ptrPairs] at h
  | p :: ps, q, h => by
    simp only [ptrPairs, List.mem_cons] at h
    rcases h with rfl | h
    · exact ⟨p, by simp, rfl⟩
    · obtain ⟨p', h1, h2⟩ := ptrPairs_mem h
      exact ⟨p', List.mem_cons_of_mem _ h1, h2⟩
theorem Slots.tkr {ρ : Ren} {S : LSpec} {bs : List Nat} {vs : List KV} {N : Nat} {a : Act} (h : Slots P E ρ S bs vs N a) : TKR P E ρ (S.tm bs vs) N a := by
  refine TKR.ofPairs h.size fun q hq => ?_
  rcases List.mem_append.1 hq with hq | hq
  · obtain ⟨i, p, h1, h2, h3⟩ := zipV_mem hq
    rw [h3]
    exact h.v i p q.2 h1 h2
  · obtain ⟨p, h1, rfl⟩ := ptrPairs_mem hq
    obtain ⟨h2, b, h3, h4⟩ := h.p p h1
    refine ⟨h2, ?_⟩
    simp only [List.getD_eq_getElem?_getD, h3, Option.getD_some]
    exact h4
theorem grabV_get {t : KTm} : ∀ {ps : List (Tmp × VD)} {i : Nat} {p : Tmp × VD} {v : KV}, ps[i]? = some p → (grabV t ps)[i]? = some v → v = normVD p.2 ((t.get p.1).getD .unk)
  | [], _, _, _, h, _ => by simp at h
  | p :: ps, 0, p', v, h, k => by simp at h; subst h; simp [grabV] at k; exact k.symm
  | p :: ps, i + 1, p', v, h, k => by simp at h; simp [grabV] at k; exact grabV_get h k
theorem goodVDs_get : ∀ {ps : List (Tmp × VD)} {vs : List KV} {i : Nat} {p : Tmp × VD} {v : KV}, goodVDs ps vs = true → ps[i]? = some p → vs[i]? = some v → goodVD p.2 v = true
  | [], _, _, _, _, _, h, _ => by simp at h
  | _ :: _, [], _, _, _, _, _, h => by simp at h
  | p :: ps, v :: vs, 0, p', v', hg, h, k => by
    simp at h k; subst h k
    simp only [goodVDs, Bool.and_eq_true] at hg
    exact hg.1
  | p :: ps, v :: vs, i + 1, p', v', hg, h, k => by
    simp at h k
    simp only [goodVDs, Bool.and_eq_true] at hg
    exact goodVDs_get hg.2 h k
theorem goodVDs_length : ∀ {ps : List (Tmp × VD)} {vs : List KV}, goodVDs ps vs = true → vs.length = ps.length
  | [], [], _ => rfl
  | [], _ :: _, h => by simp [goodVDs] at h
  | _ :: _, [], h => by simp [goodVDs] at h
  | p :: ps, v :: vs, h => by
    simp only [goodVDs, Bool.and_eq_true] at h
    simp [goodVDs_length h.2]
theorem ptrsOk_mem {t : KTm} {bs : List Nat} : ∀ {ps : List (Tmp × Nat × Nat)}, ptrsOk t bs ps = true → ∀ q ∈ ps, ∃ b, t.get q.1 = some (.ptr b q.2.2) ∧ bs[q.2.1]? = some b
  | [], _, q, hq => by simp at hq
  | p :: ps, h, q, hq => by
    simp only [ptrsOk, Bool.and_eq_true] at h
    rcases List.mem_cons.1 hq with rfl | hq
    · have h1 := h.1
      unfold ptrOk at h1
      split at h1
      · rename_i b o b' e1 e2
        simp only [Bool.and_eq_true] at h1
        have := Nat.eq_of_beq_eq_true h1.1
        have := Nat.eq_of_beq_eq_true h1.2
        subst_vars
        exact ⟨_, e1, e2⟩
      · simp at h1
    · exact ptrsOk_mem h.2 q hq
theorem Slots.ofGrab {ρ : Ren} {S : LSpec} {t : KTm} {A : KSt} {N : Nat} {a : Act} {q : List Nat × List KV × List (List KV)} (ht : TKR P E ρ t N a) (h : S.grab t A = some q) :
    Slots P E ρ S q.1 q.2.1 N a ∧ RowsIn A S.rows q.1 q.2.2 ∧ nodupK q.1 = true ∧ goodVDs S.vals q.2.1 = true := by
  unfold LSpec.grab at h
  obtain ⟨q0, h0, h⟩ := Option.bind_eq_some_iff.1 h
  cases hc : (nodupK q0.1 && ptrsOk t q0.1 S.ptrs && goodVDs S.vals (grabV t S.vals)) with
  | false => rw [hc] at h; simp at h
  | true =>
    rw [hc, cond_true] at h
    simp at h
    subst h
    simp only [Bool.and_eq_true] at hc
    refine ⟨⟨ht.size, fun i p v hp hv => ?_, fun p hp => ?_⟩, grabR_ok h0, hc.1.1, hc.2⟩
    · have hg := goodVDs_get hc.2 hp hv
      have hv' := grabV_get hp hv
      subst hv'
      obtain ⟨v, hv⟩ := goodVD_known hg
      refine ⟨?_, ?_⟩
      · by_cases hN : N ≤ p.1
        · rw [ht.none _ hN] at hv; simp at hv
        · exact Nat.lt_of_not_le hN
      · obtain ⟨u, h1, h2⟩ := ht.val p.1
        exact ⟨u, h1.nVD, h2⟩
    · obtain ⟨b, h1, h2⟩ := ptrsOk_mem hc.1.2 p hp
      refine ⟨?_, b, h2, ?_⟩
      · by_cases hN : N ≤ p.1
        · rw [ht.none _ hN] at h1; simp at h1
        · exact Nat.lt_of_not_le hN
      · have := ht.val p.1
        rw [h1] at this
        exact this
theorem upto_get : ∀ (n : Nat) (l : List Nat) (k : Nat), (upto n l)[k]? = if k < n then some k else l[k - n]?
  | 0, l, k => by simp [upto]
  | n + 1, l, k => by
    rw [upto, upto_get n]
    by_cases h : k < n
    · rw [if_pos h, if_pos (by omega)]
    · rw [if_neg h]
      by_cases h2 : k = n
      · subst h2
        rw [if_pos (by omega)]
        simp
      · rw [if_neg (by omega), show k - n = (k - (n + 1)) + 1 by omega]
        simp
theorem ids_get (S : LSpec) (k : Nat) (h : k < S.rows.length) : S.ids[k]? = some k := by rw [LSpec.ids, upto_get, if_pos h]
theorem ids_inv {S : LSpec} {k b : Nat} (h : S.ids[k]? = some b) : b = k ∧ k < S.rows.length := by
  rw [LSpec.ids, upto_get] at h
  split at h
  · rename_i h1; simp at h; exact ⟨h.symm, h1⟩
  · simp at h
theorem sameIds_ok : ∀ {a b : List Nat}, sameIds a b = true → a = b
  | [], [], _ => rfl
  | [], _ :: _, h => by simp [sameIds] at h
  | _ :: _, [], h => by simp [sameIds] at h
  | x :: a, y :: b, h => by
    simp only [sameIds, Bool.and_eq_true] at h
    rw [Nat.eq_of_beq_eq_true h.1, sameIds_ok h.2]
theorem Slots.sub {ρ : Ren} {S : LSpec} {bs : List Nat} {vs : List KV} {N : Nat} {a : Act} (h : Slots P E ρ S bs vs N a) (hg : goodVDs S.vals vs = true) (hl : bs.length = S.rows.length) : Slots P (E.sub bs) ρ S S.ids vs N a := by
  refine ⟨h.size, fun i p v hp hv => ?_, fun q hq => ?_⟩
  · obtain ⟨h1, u, h2, h3⟩ := h.v i p v hp hv
    exact ⟨h1, u, VK.gVD (E := E) (E0 := E.sub bs) rfl h2 (goodVDs_get hg hp hv), h3⟩
  · obtain ⟨h1, b, h2, u, h3, h4⟩ := h.p q hq
    have hk : q.2.1 < S.rows.length := by rw [← hl]; exact (List.getElem?_eq_some_iff.1 h2).1
    refine ⟨h1, q.2.1, ids_get S _ hk, u, ?_, h4⟩
    obtain ⟨x, h5, rfl⟩ := h3.ptr_inv
    exact .mkPtr (by simp [Env.sub, h2, h5])
theorem Slots.up {ρ : Ren} {S : LSpec} {bs : List Nat} {vs : List KV} {N : Nat} {a : Act} {E1 : Env} (h : Slots P E1 ρ S S.ids vs N a) (hg : goodVDs S.vals vs = true) (hl : bs.length = S.rows.length) (hle : (E.sub bs).le E1) (hκ : ∀ (k b : Nat), bs[k]? = some b → ∃ x, E.κ b = some x) : Slots P { E with z := E1.z } ρ S bs vs N a := by
  refine ⟨h.size, fun i p v hp hv => ?_, fun q hq => ?_⟩
  · obtain ⟨h1, u, h2, h3⟩ := h.v i p v hp hv
    exact ⟨h1, u, VK.gVD (E := E1) (E0 := { E with z := E1.z }) rfl h2 (goodVDs_get hg hp hv), h3⟩
  · obtain ⟨h1, b, h2, u, h3, h4⟩ := h.p q hq
    obtain ⟨rfl, hk⟩ := ids_inv h2
    have hk' : q.2.1 < bs.length := by rw [hl]; exact hk
    refine ⟨h1, bs[q.2.1], List.getElem?_eq_getElem hk', u, ?_, h4⟩
    obtain ⟨x, h5, rfl⟩ := h3.ptr_inv
    obtain ⟨x', h6⟩ := hκ _ _ (List.getElem?_eq_getElem hk')
    have := hle.κ q.2.1 x' (by simp [Env.sub, List.getElem?_eq_getElem hk', h6])
    rw [h5] at this
    simp at this
    subst this
    exact .mkPtr h6

theorem KSim.same {A A' : KSt} {B : St} (h : KSim P E A B) (hg : ∀ b, A'.get b = A.get b) (hn : A'.next = A.next) : KSim P E A' B where
  row b cs esz hb := h.row b cs esz (hg b ▸ hb)
  fam b top sz hb := h.fam b top sz (hg b ▸ hb)
  z := h.z
  apart := h.apart
  inj := h.inj
  famInj := h.famInj
  dom b x e := hn ▸ h.dom b x e
  domφ b g e := hn ▸ h.domφ b g e
  live b o hb := hn ▸ h.live b o (hg b ▸ hb)
  old := h.old
  oldz := h.oldz
  oldφ := h.oldφ
  fresh := h.fresh
  mem := h.mem
theorem Ev.same {base : Nat} {A A1 A2 : KSt} {B B1 : St} {ρ ρ1 : Ren} {w w1 : World} {E1 : Env} (h : Ev P base E A B ρ w E1 A1 B1 ρ1 w1) (hg : ∀ b, A2.get b = A1.get b) (hn : A2.next = A1.next) : Ev P base E A B ρ w E1 A2 B1 ρ1 w1 :=
  ⟨h.sim.same hg hn, h.goes, h.le, hn ▸ h.next, h.keep, h.new, h.newZ, h.newF, h.keepF⟩
theorem RowsIn.back {A : KSt} {S : LSpec} {bs : List Nat} {rs rs' : List (List KV)} (h : RowsIn A S.rows bs rs) (hn : nodupK bs = true) (hl : rs'.length = S.rows.length) (hg : ∀ (k : Nat) p, S.rows[k]? = some p → ∃ r, rs'[k]? = some r ∧ goodCDs p.2.1 r = true) : RowsIn (S.back bs rs' A) S.rows bs rs' := by
  refine ⟨h.lenb, hl, fun k p hp => ?_⟩
  obtain ⟨b, _, _, h1, _⟩ := h.has k p hp
  obtain ⟨r, h2, h3⟩ := hg k p hp
  obtain ⟨h4, h5⟩ := normCDs_good h3
  exact ⟨b, r, r, h1, h2, back_at hn h1 hp h2, h4.symm, h5, h3⟩
theorem RowsIn.good {A : KSt} {ps : List (Tmp × List CD × Nat)} {bs : List Nat} {rs : List (List KV)} (h : RowsIn A ps bs rs) : ∀ (k : Nat) p, ps[k]? = some p → ∃ r, rs[k]? = some r ∧ goodCDs p.2.1 r = true := fun k p hp => by
  obtain ⟨b, r, cs, _, h2, _, _, _, h6⟩ := h.has k p hp
  exact ⟨r, h2, h6⟩
theorem back_back {S : LSpec} {bs : List Nat} {rs rs' : List (List KV)} {A : KSt} (hn : nodupK bs = true) (hl : bs.length = S.rows.length) (hl' : rs'.length = S.rows.length) (b : Nat) : (S.back bs rs' A).get b = (S.back bs rs' (S.back bs rs A)).get b := by
  by_cases hb : b ∈ bs
  · obtain ⟨k, hk⟩ := List.getElem?_of_mem hb
    have h1 : k < S.rows.length := by rw [← hl]; exact (List.getElem?_eq_some_iff.1 hk).1
    have e1 := List.getElem?_eq_getElem h1
    have e2 := List.getElem?_eq_getElem (show k < rs'.length by rw [hl']; exact h1)
    exact (back_at hn hk e1 e2).trans (back_at hn hk e1 e2).symm
  · exact (back_other hb).trans ((back_other hb).trans (back_other hb)).symm

section
variable {cfg : Cfg} {L n : Nat} {f : FuncId} {S : LSpec} {root body : Code} {p N : Nat}
theorem round_run (hP : P.funcs.toList.all funcOk = true) (hm : P.follows .mixedOrders = true) (hpc : PcOk P cfg.pc) (hlp : LpAll P cfg) {fn : Func} (hf : P.funcs[f]? = some fn) (hb : fn.body = some root) (hs : Sub root p (.loop body)) (hc : codeOk N body = true)
    {bs : List Nat} {vs vs' : List KV} {rs rs' : List (List KV)} {e : AExit} (hr : roundK P cfg L n f p body S vs rs = some (e, vs', rs')) {A : KSt} {B : St} {ρ : Ren} {base : Nat} {a : Act} {w : World} {Q : Exit → Act → World → Prop}
    (hrow : RowsIn A S.rows bs rs) (hn : nodupK bs = true) (hg : goodVDs S.vals vs = true) (ht : Slots P E ρ S bs vs N a) (hj : KJ P E A B ρ base w)
    (hq : ∀ E' B' ρ' a' w', Slots P E' ρ' S bs vs' N a' → a'.defers = a.defers → Ev P base E A B ρ w E' (S.back bs rs' A) B' ρ' w' → RowsIn (S.back bs rs' A) S.rows bs rs' → goodVDs S.vals vs' = true → Q e.out a' w') : body.wp P Q a w := by
  have hic := icall_soundK (R := AExit × List KV × List (List KV)) hP hm hpc hlp L n
  have hsl := ht.sub hg hrow.lenb
  refine code_soundK hpc hic hm (hlp f fn root hf hb) body (2 * p) hs.loop hc _ _ _ _ (E.sub bs) B ρ base a w Q hr hsl.tkr ⟨hj.k.sub hrow hn, hj.s⟩ fun e' t' E1 A1 B1 ρ1 a1 w1 h1 h2 h3 h4 => ?_
  split at h1
  · rename_i q hgr
    obtain ⟨h5, h6, h7, h8⟩ := Slots.ofGrab h2 hgr
    cases hi : sameIds q.1 S.ids with
    | false => rw [hi] at h1; exact absurd h1 (by simp)
    | true =>
      rw [hi] at h1
      have h1 : some (e', q.2.1, q.2.2) = some (e, vs', rs') := h1
      simp only [Option.some.injEq, Prod.mk.injEq] at h1
      obtain ⟨rfl, rfl, rfl⟩ := h1
      have hqi := sameIds_ok hi
      rw [hqi] at h5 h6
      refine hq { E with z := E1.z } B1 ρ1 a1 w1 (h5.up h8 hrow.lenb h4.le fun k b hb => ?_) h3 (Ev.sub hj.k hrow hn h4 h6 (ids_get S)) (hrow.back hn h6.lenr h6.good) h8
      obtain ⟨_, _, _, x, _, _, _, _, _, _, _, hx, _⟩ := hrow.kap hj.k hb
      exact ⟨x, hx⟩
  · simp at h1
theorem iter_run (hP : P.funcs.toList.all funcOk = true) (hm : P.follows .mixedOrders = true) (hpc : PcOk P cfg.pc) (hlp : LpAll P cfg) {fn : Func} (hf : P.funcs[f]? = some fn) (hb : fn.body = some root) (hs : Sub root p (.loop body)) (hc : codeOk N body = true)
    {bs : List Nat} (hn : nodupK bs = true) {e : AExit} {vs' : List KV} {rs' : List (List KV)} : ∀ (m : Nat) {vs : List KV} {rs : List (List KV)}, iterK (roundK P cfg L n f p body S) m vs rs = some (e, vs', rs') → ∀ {E : Env} {A : KSt} {B : St} {ρ : Ren} {base : Nat} {a : Act} {w : World} {Q : Exit → Act → World → Prop},
    RowsIn A S.rows bs rs → goodVDs S.vals vs = true → Slots P E ρ S bs vs N a → KJ P E A B ρ base w →
    (∀ E' B' ρ' a' w', Slots P E' ρ' S bs vs' N a' → a'.defers = a.defers → Ev P base E A B ρ w E' (S.back bs rs' A) B' ρ' w' → RowsIn (S.back bs rs' A) S.rows bs rs' → Q e.out a' w') → Code.rounds P body Q m a w
  | 0, vs, rs, h, E, A, B, ρ, base, a, w, Q, hrow, hg, ht, hj, hq => by simp [iterK] at h
  | m + 1, vs, rs, h, E, A, B, ρ, base, a, w, Q, hrow, hg, ht, hj, hq => by
    unfold iterK at h
    split at h
    · rename_i e1 vs1 rs1 hr
      rw [rounds_succ]
      refine round_run hP hm hpc hlp hf hb hs hc hr hrow hn hg ht hj fun E' B' ρ' a' w' h1 h2 h3 h4 h5 => ?_
      have fin : isNormal e1 = false → some (e1, vs1, rs1) = some (e, vs', rs') → Q e1.out a' w' := by
        intro _ h
        simp only [Option.some.injEq, Prod.mk.injEq] at h
        obtain ⟨rfl, rfl, rfl⟩ := h
        exact hq E' B' ρ' a' w' h1 h2 h3 h4
      cases e1 with
      | normal =>
        have h : iterK (roundK P cfg L n f p body S) m vs1 rs1 = some (e, vs', rs') := h
        refine iter_run hP hm hpc hlp hf hb hs hc hn m h h4 h5 h1 h3.kj fun E'' B'' ρ'' a'' w'' q1 q2 q3 q4 => ?_
        refine hq E'' B'' ρ'' a'' w'' q1 (q2.trans h2) ((h3.trans q3).same (fun b => ?_) ?_) (hrow.back hn q4.lenr q4.good)
        · have hl : rs'.length = S.rows.length := q4.lenr
          exact back_back hn hrow.lenb hl b
        · exact (back_next _ _ _ _).trans ((back_next _ _ _ _).trans (back_next _ _ _ _)).symm
      | exit id => exact fin rfl h
      | goto l => exact fin rfl h
      | ret => exact fin rfl h
    · simp at h
theorem tell_run {R : Type} {bs : List Nat} {A : KSt} {k : KE R} {r : R} : ∀ (x : LTell), (x.tell S bs A).run k = some r → ∃ e vs' rs', x.ev = some (e, vs', rs') ∧ k e (S.tm bs vs') (S.back bs rs' A) = some r
  | .no, h => absurd h (by simp [LTell.tell, Tell.run])
  | .out e vs rs, h => ⟨e, vs, rs, rfl, h⟩
  | .br c x y, h => by
    have h : Bool.rec (motive := fun _ => Option R) ((y.tell S bs A).run k) ((x.tell S bs A).run k) c = some r := h
    cases c with
    | true => exact tell_run x h
    | false => exact tell_run y h
/-- a loop, by its rounds -/
theorem loop_told (hP : P.funcs.toList.all funcOk = true) (hm : P.follows .mixedOrders = true) (hpc : PcOk P cfg.pc) (hlp : LpAll P cfg) {fn : Func} (hf : P.funcs[f]? = some fn) (hb : fn.body = some root) (hs : Sub root p (.loop body)) (hc : codeOk N body = true) {F : LFn}
    (hF : ∀ vs rs e vs' rs', StOk P S vs rs → (F vs rs).ev = some (e, vs', rs') → ∃ m, iterK (roundK P cfg L n f p body S) m vs rs = some (e, vs', rs')) : LoopTold P N body (mkLp S F) := by
  intro R k r t A E B ρ base a w Q h ht hj hq
  have h : (mkLp S F t A).run k = some r := h
  unfold mkLp at h
  split at h
  · rename_i q hgr
    obtain ⟨bs, vs, rs⟩ := q
    obtain ⟨h5, h6, h7, h8⟩ := Slots.ofGrab ht hgr
    obtain ⟨e, vs', rs', h9, h10⟩ := tell_run _ h
    have hok : StOk P S vs rs := by
      refine ⟨h6.lenr, h8, h6.good, fun v hv => ?_, fun r hr c hc T m n es acc e => ?_⟩
      · obtain ⟨i, hi⟩ := List.getElem?_of_mem hv
        have hlt : i < S.vals.length := by rw [← goodVDs_length h8]; exact (List.getElem?_eq_some_iff.1 hi).1
        obtain ⟨_, u, h11, _⟩ := h5.v i _ v (List.getElem?_eq_getElem hlt) hi
        exact h11.tree
      · obtain ⟨i, hi⟩ := List.getElem?_of_mem hr
        have hlt : i < bs.length := by rw [h6.lenb, ← h6.lenr]; exact (List.getElem?_eq_some_iff.1 hi).1
        obtain ⟨p, r', cs, x, cs', q1, q2, q3, q4, q5, q6, q7, q8, q9⟩ := h6.kap hj.k (List.getElem?_eq_getElem hlt)
        rw [hi] at q2; simp at q2; subst q2
        have : VKL P E r cs' := by rw [q4]; exact q9.nCDs q5
        exact (VK.mkAgg this).tree c hc T m n es acc e
    obtain ⟨m, hm'⟩ := hF vs rs e vs' rs' hok h9
    refine wp_loop_rounds m (iter_run hP hm hpc hlp hf hb hs hc h7 m hm' h6 h8 h5 hj fun E' B' ρ' a' w' q1 q2 q3 q4 => ?_)
    exact hq e _ E' _ B' ρ' a' w' h10 q1.tkr q2 q3
  · exact absurd h (by simp [Tell.run])
end

/-! ## Where a loop lies -/
def childK : Code → Bool → Option Code
  | .seq a _, false => some a
  | .seq _ b, true => some b
  | .cond _ a _, false => some a
  | .cond _ _ b, true => some b
  | .block _ a, false => some a
  | .loop a, false => some a
  | .scope a, false => some a
  | _, _ => none
def codeAt : Nat → Code → Nat → Option Code
  | 0, _, _ => none
  | n + 1, root, p => cond (Nat.ble p 1) (cond (Nat.beq p 1) (some root) none) ((codeAt n root (p / 2)).bind fun c => childK c (Nat.beq (p % 2) 1))
theorem codeAt_mono : ∀ {n : Nat} {root c : Code} {p : Nat}, codeAt n root p = some c → codeAt (n + 1) root p = some c
  | 0, _, _, _, h => by simp [codeAt] at h
  | n + 1, root, c, p, h => by
    unfold codeAt at h ⊢
    cases hp : Nat.ble p 1 with
    | true => rw [hp] at h; exact h
    | false =>
      rw [hp] at h
      simp only [cond_false] at h ⊢
      obtain ⟨d, h1, h2⟩ := Option.bind_eq_some_iff.1 h
      exact Option.bind_eq_some_iff.2 ⟨d, codeAt_mono h1, h2⟩
theorem codeAt_le {root c : Code} {p n : Nat} (h : codeAt n root p = some c) : ∀ k, codeAt (n + k) root p = some c
  | 0 => h
  | k + 1 => codeAt_mono (codeAt_le h k)
theorem Sub.pos {root c : Code} {p : Nat} (h : Sub root p c) : 1 ≤ p := by induction h <;> omega
theorem Sub.at {root c : Code} {p : Nat} (h : Sub root p c) : ∃ n, codeAt n root p = some c := by
  have left : ∀ {q n : Nat} {d : Code}, 1 ≤ q → codeAt n root q = some d → codeAt (n + 1) root (2 * q) = childK d false := by
    intro q n d hq hd
    unfold codeAt
    have : Nat.ble (2 * q) 1 = false := by
      cases hb : Nat.ble (2 * q) 1 with
      | false => rfl
      | true => have := Nat.le_of_ble_eq_true hb; omega
    rw [this, cond_false, show 2 * q / 2 = q by omega, hd, show 2 * q % 2 = 0 by omega]
    rfl
  have right : ∀ {q n : Nat} {d : Code}, 1 ≤ q → codeAt n root q = some d → codeAt (n + 1) root (2 * q + 1) = childK d true := by
    intro q n d hq hd
    unfold codeAt
    have : Nat.ble (2 * q + 1) 1 = false := by
      cases hb : Nat.ble (2 * q + 1) 1 with
      | false => rfl
      | true => have := Nat.le_of_ble_eq_true hb; omega
    rw [this, cond_false, show (2 * q + 1) / 2 = q by omega, hd, show (2 * q + 1) % 2 = 1 by omega]
    rfl
  induction h with
  | root => exact ⟨1, rfl⟩
  | seqL hs ih => obtain ⟨n, hn⟩ := ih; exact ⟨n + 1, left hs.pos hn⟩
  | seqR hs ih => obtain ⟨n, hn⟩ := ih; exact ⟨n + 1, right hs.pos hn⟩
  | condL hs ih => obtain ⟨n, hn⟩ := ih; exact ⟨n + 1, left hs.pos hn⟩
  | condR hs ih => obtain ⟨n, hn⟩ := ih; exact ⟨n + 1, right hs.pos hn⟩
  | block hs ih => obtain ⟨n, hn⟩ := ih; exact ⟨n + 1, left hs.pos hn⟩
  | loop hs ih => obtain ⟨n, hn⟩ := ih; exact ⟨n + 1, left hs.pos hn⟩
  | scope hs ih => obtain ⟨n, hn⟩ := ih; exact ⟨n + 1, left hs.pos hn⟩
theorem Sub.uniq {root c d : Code} {p n : Nat} (h : Sub root p c) (k : codeAt n root p = some d) : c = d := by
  obtain ⟨m, hm⟩ := h.at
  have h1 := codeAt_le hm n
  have h2 := codeAt_le k m
  rw [Nat.add_comm] at h1
  rw [h1] at h2
  simpa using h2
/- the loop's body at a place of a function -/
def bodyOf (P : Program) (f p : Nat) : Code :=
  match P.funcs.toList[f]? with
  | some fn => match fn.body with
    | some c => match codeAt 200 c p with
      | some (.loop b) => b
      | _ => .skip
    | none => .skip
  | none => .skip
/-- loops told whole: function, place, what is handed on, what it comes to -/
structure Lp where
  f : Nat
  p : Nat
  S : LSpec
  F : LFn
noncomputable def lpOf : List Lp → FuncId → Nat → Option (KTm → KSt → Tell)
  | [], _, _ => none
  | l :: ls, f, p => cond (Nat.beq l.f f && Nat.beq l.p p) (some (mkLp l.S l.F)) (lpOf ls f p)
/-- a loop that is told rightly -/
def Lp.Ok (P : Program) (l : Lp) : Prop := ∃ cfg L n, PcOk P cfg.pc ∧ LpAll P cfg ∧
  ∀ vs rs e vs' rs', StOk P l.S vs rs → (l.F vs rs).ev = some (e, vs', rs') → ∃ m, iterK (roundK P cfg L n l.f l.p (bodyOf P l.f l.p) l.S) m vs rs = some (e, vs', rs')
/-- is there a loop at each place? -/
def loopThere (P : Program) (f p : Nat) : Bool :=
  match P.funcs.toList[f]? with
  | some fn => match fn.body with
    | some c => match codeAt 200 c p with
      | some (.loop _) => true
      | _ => false
    | none => false
  | none => false
theorem lp_all (hP : P.funcs.toList.all funcOk = true) (hm : P.follows .mixedOrders = true) {pc : FuncId → Option (List KV → Option KV)} : ∀ {ls : List Lp}, (∀ l ∈ ls, Lp.Ok P l ∧ loopThere P l.f l.p = true) → LpAll P ⟨pc, lpOf ls⟩
  | [], _ => fun f fn c hf hb p F body h => by simp [lpOf] at h
  | l :: ls, hl => fun f fn c hf hb p F body h hs N hc => by
    have h : lpOf (l :: ls) f p = some F := h
    unfold lpOf at h
    cases hk : (Nat.beq l.f f && Nat.beq l.p p) with
    | false =>
      rw [hk] at h
      exact lp_all hP hm (pc := pc) (fun l' hl' => hl l' (List.mem_cons_of_mem _ hl')) f fn c hf hb p F body h hs N hc
    | true =>
      rw [hk] at h
      simp only [cond_true, Option.some.injEq] at h
      subst h
      simp only [Bool.and_eq_true] at hk
      have e1 := Nat.eq_of_beq_eq_true hk.1
      have e2 := Nat.eq_of_beq_eq_true hk.2
      obtain ⟨⟨cfg, L, n, hpc, hlp, hF⟩, hth⟩ := hl l (by simp)
      rw [e1, e2] at hF hth
      have hf' : P.funcs.toList[f]? = some fn := by simpa using hf
      have hbody : bodyOf P f p = body := by
        unfold loopThere at hth
        unfold bodyOf
        simp only [hf', hb] at hth ⊢
        split at hth
        · rename_i b hat
          have := hs.uniq hat
          simp at this
          exact this.symm
        · simp at hth
      rw [hbody] at hF
      exact loop_told hP hm hpc hlp hf hb hs hc hF
end Go.K
