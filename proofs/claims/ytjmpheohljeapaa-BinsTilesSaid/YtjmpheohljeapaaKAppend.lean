/-
  The machine K's append, texts made bytes; all operations.
-/
import Derived.Test.YtjmpheohljeapaaKStore2
namespace Go.K
open Go Go.Abs
variable {P : Program} {E : Env}

theorem StEv.growZ {A : KSt} {B : St} {c : List Value} {n : Nat} (h : KSim P E A B) : StEv P E A B (E.setZ B.next ⟨c, n, true, some (B.next, 0)⟩) A (B.grow B.next 0 c n) := by
  have hget : ∀ x, (B.grow B.next 0 c n).get x = if x = B.next then some (.row c n true (some (B.next, 0))) else B.get x := fun x => by simp [St.grow]
  have hmem : ∀ q, (B.grow B.next 0 c n).members q = if q = B.next then B.next :: B.members B.next else B.members q := fun q => by simp [St.grow, St.members_join]
  have hnext : (B.grow B.next 0 c n).next = B.next + 1 := rfl
  have hle : E.le (E.setZ B.next ⟨c, n, true, some (B.next, 0)⟩) := ⟨fun _ _ e => e, fun b r e => by
    have := h.oldz b r e
    simp only [Env.setZ]; rw [if_neg (by omega)]; exact e, fun _ _ e => e⟩
  generalize B.grow B.next 0 c n = B' at hget hmem hnext
  refine ⟨⟨?_, ?_, ?_, ?_, h.inj, h.famInj, h.dom, h.domφ, h.live, ?_, ?_, ?_, ?_, ?_⟩, hle, Nat.le_refl _, ?_, fun b x e => .inl e, fun b r e => by
    simp only [Env.setZ] at e
    split at e
    · exact .inr (by omega)
    · exact .inl e, fun b q e => .inl e, fun q hq hn => by rw [hmem, if_neg (by omega)]⟩
  · intro b cs0 esz0 hb
    obtain ⟨x, d, h1, h2, h3⟩ := h.row b cs0 esz0 hb
    have := h.old b x h1
    exact ⟨x, d, h1, by rw [hget, if_neg (by omega)]; exact h2, h3.mono hle⟩
  · intro b top sz0 hb
    rcases h.fam b top sz0 hb with h1 | ⟨g, h1, hp0, h2⟩
    · exact .inl h1
    · have hg := h.oldφ b g h1
      refine .inr ⟨g, h1, hp0, fun x hx d e own f k hr => ?_⟩
      rw [hmem, if_neg (by omega)] at hx
      have := h.mem g x hx
      rw [hget, if_neg (by omega)] at hr
      exact h2 x hx d e own f k hr
  · intro b r hb
    simp only [Env.setZ] at hb
    rw [hget]
    split at hb
    · rename_i e; simp at hb; subst hb; rw [if_pos e]
    · rename_i e; rw [if_neg e]; exact h.z b r hb
  · intro b x hb
    have := h.old b x hb
    simp only [Env.setZ]
    rw [if_neg (by omega)]
    exact h.apart b x hb
  · intro b x hb; have := h.old b x hb; omega
  · intro b r hb
    simp only [Env.setZ] at hb
    rw [hnext]
    split at hb
    · omega
    · have := h.oldz b r hb; omega
  · intro b g hb; have := h.oldφ b g hb; omega
  · intro g hg
    rw [hnext] at hg
    rw [hmem, if_neg (by omega)]
    exact h.fresh g (by omega)
  · intro g x hx
    rw [hnext]
    rw [hmem] at hx
    split at hx
    · rcases List.mem_cons.1 hx with hx | hx
      · omega
      · have := h.mem _ x hx; omega
    · have := h.mem g x hx; omega
  · intro x hx _; rw [hget, if_neg (by omega)]
theorem layF_u8 {t : TypeId} (hu : P.underlying t = some (.int .u8)) : layF P t = ⟨false, [.int .u8]⟩ := by
  unfold layF
  rw [lay, hu]
  rfl
theorem simStrBytes {e : TypeId} (he : isByte P e = true) : SimL P (kStrBytes e) fStrBytes := by
  intro E A B vs us v h hv hg
  unfold kStrBytes at hg
  split at hg
  · rename_i s
    obtain ⟨u, rfl, h1⟩ := hv.one_inv
    have := h1.str_inv; subst this
    have hg : KV.ts e .any s.size _ _ = v := hg
    subst hg
    have hu : P.underlying e = some (.int .u8) := by
      unfold isByte at he
      split at he
      · assumption
      · simp at he
    have hlay : layF P e = ⟨false, [.int .u8]⟩ := layF_u8 hu
    refine ⟨_, _, _, rfl, ?_, StEv.growZ h⟩
    simp only [VK]
    have hsz : szOf P e = 1 := by unfold szOf; rw [hlay]; rfl
    refine ⟨⟨by simp, fun i hi => ?_, ?_⟩, byteVals s.data.toList, ?_, some ⟨B.next, 0, none⟩, s.size, rfl, Nat.le_refl _, .inr ⟨B.next, 0, ⟨byteVals s.data.toList, 1, true, some (B.next, 0)⟩, rfl, by simp [Env.setZ], hsz.symm, ?_⟩, trivial⟩
    · have hi' : i < s.data.toList.length := by simpa using hi
      simp only [List.getD, List.getElem?_map, List.getElem?_eq_getElem hi', Option.map_some, Option.getD_some]
    · rw [hlay]
      induction s.data.toList with
      | nil => rfl
      | cons b l ih => simp [elemsOk, elemOk, kindsOk, kindOk, ih]
    · generalize E.setZ B.next _ = E'
      induction s.data.toList with
      | nil => exact .nil
      | cons b l ih => exact .cons .mkInt ih
    · rw [hsz]
      intro i x hx
      obtain ⟨b, _, rfl⟩ : ∃ b, s.data.toList[i]? = some b ∧ x = .int .u8 b.toNat := by
        simp only [byteVals, List.getElem?_map, Option.map_eq_some_iff] at hx
        obtain ⟨b, h1, h2⟩ := hx
        exact ⟨b, h1, h2.symm⟩
      refine ⟨rfl, fun k y hy => ?_⟩
      have hk : k = 0 := by
        have := (Array.getElem?_eq_some_iff.1 hy).1
        simp [Value.cells] at this
        exact this
      subst hk
      simp [Value.cells] at hy
      subst hy
      simpa using hx
  · exact hg.elim

/-- reading all elements of a tree, below -/
theorem load_flat {B : St} {b off n sz : Nat} {r : ZRow} {es' : List Value} (hr : B.get b = some (.row r.cs r.esz r.own r.kin)) (hl : Lies sz off r.cs es') (hn : es'.length = n) (hsz : 1 ≤ sz) :
    B.loadN ⟨b, off, none⟩ (n * sz) = some (flatE es') := by
  have hs : ∀ v ∈ es', v.cells.size = sz := fun v hv => by
    obtain ⟨i, hi⟩ := List.getElem?_of_mem hv
    exact (hl i v hi).1
  have hlen := flatE_length hs
  have hfl := flatE_lies hs
  have hcell : ∀ j, j < n * sz → r.cs[off + j]? = (flatE es')[j]? := by
    intro j hj
    have hi : j / sz < es'.length := by rw [hn]; exact Nat.div_lt_of_lt_mul (by rw [Nat.mul_comm]; exact hj)
    have hv : es'[j / sz]? = some es'[j / sz] := List.getElem?_eq_getElem hi
    have hk : j % sz < es'[j / sz].cells.size := by rw [hs _ (List.getElem_mem hi)]; exact Nat.mod_lt _ hsz
    have hy : es'[j / sz].cells[j % sz]? = some (es'[j / sz].cells[j % sz]) := by simp [hk]
    have h1 := (hl _ _ hv).2 _ _ hy
    have h2 := (hfl _ _ hv).2 _ _ hy
    have hj2 : j / sz * sz + j % sz = j := by rw [Nat.mul_comm]; exact Nat.div_add_mod j sz
    rw [Nat.add_assoc, hj2] at h1
    rw [Nat.zero_add, hj2] at h2
    rw [h1, h2]
  simp only [St.loadN, plainAddr, Option.isNone_none, cond_true, rowCells, hr, Option.bind_some]
  rw [hn] at hlen
  have hle : n * sz ≤ (r.cs.drop off).length := by
    cases hm : n * sz with
    | zero => omega
    | succ q =>
      have := hcell q (by omega)
      rw [List.getElem?_eq_getElem (show q < (flatE es').length by omega)] at this
      have h7 := (List.getElem?_eq_some_iff.1 this).1
      rw [List.length_drop]
      omega
  rw [dropN_eq, takeN_of hle]
  congr 1
  apply List.ext_getElem?
  intro i
  rw [List.getElem?_take]
  split
  · rename_i hi
    rw [List.getElem?_drop]
    exact hcell i hi
  · exact (List.getElem?_eq_none_iff.2 (by omega)).symm
theorem firstA_ts {T : TypeId} {m : Mk} {n : Nat} {es : List KV} {acc : Nat → KV} {u : Value} {A : KSt} {B : St} (h : KSim P E A B) (hv : VK P E (.ts T m n es acc) u) (hsz : 1 ≤ szOf P T) :
    ∃ es', VKL P E es es' ∧ lenA u = some n ∧ firstA B (szOf P T) n u = some (flatE es') ∧ (∀ v ∈ es', v.cells.size = szOf P T) ∧ es'.length = n ∧ es.length = n ∧ elemsOk (layF P T) es = true := by
  obtain ⟨ht, es', h1, a, cap, rfl, h2, h3, _⟩ := hv.ts_inv
  have hlen := ht.len
  have hl' : es'.length = n := by rw [h1.length]; exact hlen.symm
  have hs := elems_cells ht.typed h1
  refine ⟨es', h1, rfl, ?_, fun v hv => (hs v hv).1, hl', hlen.symm, ht.typed⟩
  rcases h3 with ⟨rfl, h0⟩ | ⟨b, off, r, rfl, h4, h5, h6⟩
  · have : es' = [] := List.length_eq_zero_iff.1 (by omega)
    subst this
    simp [firstA, h0, flatE]
  · exact load_flat (h.z b r h4) h6 hl' hsz

theorem TreeOk.join {T : TypeId} {n m : Nat} {es fs : List KV} {f g : Nat → KV} (h : TreeOk P T n es f) (k : TreeOk P T m fs g) : TreeOk P T (n + m) (es ++ fs) (joinAcc n f g) where
  len := by rw [List.length_append, ← h.len, ← k.len]
  acc i hi := by
    unfold joinAcc
    by_cases hn : i < n
    · have : Nat.blt i n = true := by rw [Nat.blt_eq]; exact hn
      rw [this, cond_true, h.acc i hn, List.getD_eq_getElem?_getD, List.getD_eq_getElem?_getD, List.getElem?_append_left (by rw [← h.len]; exact hn)]
    · have : Nat.blt i n = false := by
        cases hb : Nat.blt i n with
        | false => rfl
        | true => rw [Nat.blt_eq] at hb; omega
      rw [this, cond_false, k.acc (i - n) (by omega), List.getD_eq_getElem?_getD, List.getD_eq_getElem?_getD, List.getElem?_append_right (by rw [← h.len]; omega), ← h.len]
  typed := elemsOk_append h.typed k.typed
theorem TreeOk.none {T : TypeId} {g : Nat → KV} : TreeOk P T 0 [] g := ⟨rfl, fun i h => by omega, rfl⟩
theorem simAppend {e n b : Nat} (hn : szOf P e = n) (h1n : 1 ≤ n) : SimA P (kAppend e n b) (fAppend n b) := by
  intro E A A' B vs us v h hv hg
  have hsz1 : 1 ≤ szOf P e := by omega
  -- what a put gives
  have put : ∀ (E1 : Env) (A1 : KSt) (m f k : Nat) (base new : List KV) (ab an : Nat → KV) (more : Bool) (A2 : KSt) (v : KV), Gives (appPut e n b m base ab A1 f k new an more) (v, A2) →
      (more = true ∧ Nat.ble ((m + k + 512) * b) 17592186044416 = true ∧ Nat.ble (m + k) 17592186044416 = true ∧ (m = 0 ∨ 0 < k)) ∧ v = .ts e (.fam f) (m + k) (base ++ new) (joinAcc m ab an) ∧ A2 = A1.put f (.fam (m + k) n) := by
    intro E1 A1 m f k base new ab an more A2 v hp
    obtain ⟨hc, hp⟩ := Gives.chk hp
    simp only [appOk, Bool.and_eq_true] at hc
    simp only [Prod.mk.injEq] at hp
    refine ⟨⟨hc.1, hc.2.1.1, hc.2.1.2, ?_⟩, hp.1.symm, hp.2.symm⟩
    have := hc.2.2
    simp only [Bool.or_eq_true, Nat.blt_eq] at this
    exact this.symm.imp (fun h => Nat.eq_of_beq_eq_true h) id
  unfold kAppend at hg
  split at hg
  · -- nothing yet
    rename_i e' mk k new acc
    obtain ⟨u, w, rfl, h1, h2⟩ := hv.two_inv
    have := h1.nilsl_inv; subst this
    obtain ⟨he, hz0⟩ := hg.cond
    clear hg
    have := Nat.eq_of_beq_eq_true he
    subst this
    obtain ⟨⟨_, hb1, hb2, hmk0⟩, rfl, rfl⟩ := put E _ _ _ _ _ _ _ _ _ _ _ hz0
    have ht2 := h2.ts_inv.1
    obtain ⟨new', h3, h4, h5, h6, h7, h8, h9⟩ := firstA_ts h h2 hsz1
    rw [hn] at h5 h6
    have hfam := StEv.newFam n h
    have hAf : (A.new (.fam 0 n)).get A.next = some (.fam 0 n) := by simp
    have hφ : E.φ A.next = none := by
      cases hq : E.φ A.next with
      | none => rfl
      | some g => have := h.domφ _ g hq; omega
    cases k with
    | zero =>
      have hnew : new = [] := List.length_eq_zero_iff.1 h8
      have hnew' : new' = [] := List.length_eq_zero_iff.1 h7
      subst hnew hnew'
      refine ⟨.slice none 0 0, B, E, ?_, ?_, ?_⟩
      · simp only [fAppend, h4, Option.bind_some]
        rw [h5]
        rfl
      · simp only [VK]
        exact ⟨⟨rfl, fun i hi => by omega, rfl⟩, [], .nil, none, 0, rfl, Nat.le_refl _, .inl ⟨rfl, rfl⟩, rfl, .inl ⟨rfl, rfl⟩⟩
      · have e1 : (A.new (.fam 0 n)).put A.next (.fam (0 + 0) n) = (A.new (.fam 0 n)).put A.next (.fam 0 n) := rfl
        rw [e1]
        obtain ⟨s, l, nx, kp, nw, nz, nf, kf⟩ := hfam
        refine ⟨⟨fun b cs esz hb => ?_, fun b top sz0 hb => ?_, s.z, s.apart, s.inj, s.famInj.put (.inr hφ), s.dom, s.domφ, fun b o hb => ?_, s.old, s.oldz, s.oldφ, s.fresh, s.mem⟩, l, nx, kp, nw, nz, nf, kf⟩
        · rw [KSt.get_put] at hb
          split at hb
          · simp at hb
          · exact s.row b cs esz hb
        · rw [KSt.get_put] at hb
          split at hb
          · rename_i e2; simp at hb; exact .inl ⟨hb.1.symm, by rw [e2]; exact hφ⟩
          · exact s.fam b top sz0 hb
        · rw [KSt.get_put] at hb
          split at hb
          · rename_i e2; rw [e2]; exact s.live A.next _ hAf
          · exact s.live b o hb
    | succ k =>
      have hgr := StEv.grow (c := flatE new') (top := 0) (top' := k + 1) (sz := n) (g := B.next) (f := A.next) hfam.sim hAf (.inl ⟨hφ, rfl⟩) (by rw [flatE_length h6, h7]) (by omega) (by omega)
      refine ⟨.slice (some ⟨B.next, 0, none⟩) (k + 1) (k + 1), B.grow B.next 0 (flatE new') n, _, ?_, ?_, ⟨by simpa using hgr.sim, Env.le_trans hfam.le hgr.le, Nat.le_trans hfam.next hgr.next, hgr.keep, fun b x e => hgr.new b x e, hgr.newZ, hgr.newF, hgr.keepF⟩⟩
      · simp only [Nat.zero_add] at hb1 hb2
        simp only [fAppend, h4, Option.bind_some, Nat.zero_add]
        rw [show Nat.ble (k + 1) 0 = false from rfl, cond_false, hb1, hb2, h5]
        rfl
      · simp only [VK, Nat.zero_add, List.nil_append]
        have hnew' := h3.mono (Env.le_trans hfam.le hgr.le)
        have hl := flatE_lies h6
        refine ⟨by have := TreeOk.none (P := P) (T := e) (g := defAcc0) |>.join ht2; simpa using this, new', hnew', _, _, rfl, Nat.le_refl _, .inr ⟨B.next, 0, ⟨flatE new', n, true, some (B.next, 0)⟩, rfl, by simp [Env.setF, Env.setZ], hn.symm, by rw [hn]; exact hl⟩, rfl, .inr ⟨B.next, ⟨flatE new', n, true, some (B.next, 0)⟩, B.next, rfl, by simp [Env.setF, Env.setZ], rfl, by simp [Env.setF], rfl, ?_⟩⟩
        rw [hn]
        simp only
        rw [flatE_length h6, h7]
  · -- behind a literal one
    rename_i e1 m es acc1 e' mk k new acc
    obtain ⟨u, w, rfl, h1, h2⟩ := hv.two_inv
    obtain ⟨he, hz0⟩ := hg.cond
    clear hg
    simp only [Bool.and_eq_true] at he
    have := Nat.eq_of_beq_eq_true he.1
    subst this
    have := Nat.eq_of_beq_eq_true he.2
    subst this
    obtain ⟨⟨hk, hb1, hb2, hmk0⟩, rfl, rfl⟩ := put E _ _ _ _ _ _ _ _ _ _ _ hz0
    have hk : 0 < k := by rwa [Nat.blt_eq] at hk
    have ht1 := h1.ts_inv.1
    have ht2 := h2.ts_inv.1
    obtain ⟨new', h3, h4, h5, h6, h7, h8, h9⟩ := firstA_ts h h2 hsz1
    obtain ⟨old', h3b, h4b, h5b, h6b, h7b, h8b, h9b⟩ := firstA_ts h h1 hsz1
    rw [hn] at h5 h6 h5b h6b
    obtain ⟨_, old2, hr2, a, cap, rfl, hcap, hbase, hmark⟩ := h1.ts_inv
    obtain ⟨rfl, hmk⟩ := hmark
    have hfam := StEv.newFam n h
    have hAf : (A.new (.fam 0 n)).get A.next = some (.fam 0 n) := by simp
    have hφ : E.φ A.next = none := by
      cases hq : E.φ A.next with
      | none => rfl
      | some g => have := h.domφ _ g hq; omega
    have hs : ∀ v ∈ old' ++ new', v.cells.size = n := fun v hv => by
      rcases List.mem_append.1 hv with hv | hv
      · exact h6b v hv
      · exact h6 v hv
    have hlen : (flatE (old' ++ new')).length = (cap + k) * n := by rw [flatE_length hs, List.length_append, h7b, h7]
    have hgr := StEv.grow (c := flatE (old' ++ new')) (top := 0) (top' := cap + k) (sz := n) (g := B.next) (f := A.next) hfam.sim hAf (.inl ⟨hφ, rfl⟩) hlen (by omega) (by omega)
    refine ⟨.slice (some ⟨B.next, 0, none⟩) (cap + k) (cap + k), B.grow B.next 0 (flatE (old' ++ new')) n, _, ?_, ?_, ⟨hgr.sim, Env.le_trans hfam.le hgr.le, Nat.le_trans hfam.next hgr.next, hgr.keep, fun b x e => hgr.new b x e, hgr.newZ, hgr.newF, hgr.keepF⟩⟩
    · simp only [fAppend, h4, Option.bind_some]
      have hnb : Nat.ble (cap + k) cap = false := by
        cases hq : Nat.ble (cap + k) cap with
        | false => rfl
        | true => have := Nat.le_of_ble_eq_true hq; omega
      rw [hnb, cond_false, hb1, hb2]
      rcases hbase with ⟨rfl, h0⟩ | ⟨b', off, r, rfl, hz, he2, hl2⟩
      · subst h0
        have : old' = [] := List.length_eq_zero_iff.1 h7b
        subst this
        simp only [exactEnd, Bool.true_and, Bool.and_self]
        rw [show Nat.beq 0 0 = true from rfl, cond_true, h5]
        simp [appGrow]
      · obtain ⟨r2, hz2, ho, hkin, hend⟩ := hmk b' off rfl
        rw [hz] at hz2
        simp at hz2
        subst hz2
        have hrow := h.z b' r hz
        have hex : exactEnd B n cap (some ⟨b', off, none⟩) = true := by
          simp only [exactEnd, hrow, hkin]
          rw [hn] at hend
          simp [hend]
        rw [hex]
        simp only [Bool.and_self, cond_true, h5, Option.bind_some]
        simp only [firstA] at h5b
        have hesz : Nat.beq r.esz n = true := by rw [he2, hn]; simp
        simp only [appGrow, plainAddr, Option.isNone_none, cond_true, h5b, Option.bind_some, hrow, hesz, hkin, ho]
        rw [← flatE_append]
    · simp only [VK]
      have hrel := (h3b.append h3).mono (Env.le_trans hfam.le hgr.le)
      have hl := flatE_lies hs
      refine ⟨ht1.join ht2, old' ++ new', hrel, _, _, rfl, Nat.le_refl _, .inr ⟨B.next, 0, ⟨flatE (old' ++ new'), n, true, some (B.next, 0)⟩, rfl, by simp [Env.setF, Env.setZ], hn.symm, by rw [hn]; exact hl⟩, rfl, .inr ⟨B.next, ⟨flatE (old' ++ new'), n, true, some (B.next, 0)⟩, B.next, rfl, by simp [Env.setF, Env.setZ], rfl, by simp [Env.setF], rfl, ?_⟩⟩
      rw [hn]
      exact hlen
  · -- behind one that has its family
    rename_i e1 f m es acc1 e' mk k new acc
    split at hg
    · rename_i top sz' htop
      obtain ⟨u, w, rfl, h1, h2⟩ := hv.two_inv
      obtain ⟨he, hz0⟩ := hg.cond
      clear hg
      simp only [Bool.and_eq_true] at he
      have := Nat.eq_of_beq_eq_true he.1.1
      subst this
      have := Nat.eq_of_beq_eq_true he.1.2
      subst this
      have hsz' := Nat.eq_of_beq_eq_true he.2
      rw [hsz'] at htop
      obtain ⟨⟨htn, hb1, hb2, hmk0⟩, rfl, rfl⟩ := put E _ _ _ _ _ _ _ _ _ _ _ hz0
      have := Nat.eq_of_beq_eq_true htn
      subst this
      have ht1 := h1.ts_inv.1
      have ht2 := h2.ts_inv.1
      obtain ⟨new', h3, h4, h5, h6, h7, h8, h9⟩ := firstA_ts h h2 hsz1
      obtain ⟨old', h3b, h4b, h5b, h6b, h7b, h8b, h9b⟩ := firstA_ts h h1 hsz1
      rw [hn] at h5 h6 h5b h6b
      obtain ⟨_, old2, hr2, a, cap, rfl, hcap, hbase, hmark⟩ := h1.ts_inv
      obtain ⟨rfl, hmk⟩ := hmark
      have hs : ∀ v ∈ old' ++ new', v.cells.size = n := fun v hv => by
        rcases List.mem_append.1 hv with hv | hv
        · exact h6b v hv
        · exact h6 v hv
      have hlen : (flatE (old' ++ new')).length = (cap + k) * n := by rw [flatE_length hs, List.length_append, h7b, h7]
      have hrelE := h3b.append h3
      have hl := flatE_lies hs
      have fin : ∀ (E2 : Env) (x g : Nat), E.le E2 → E2.z x = some ⟨flatE (old' ++ new'), n, true, some (g, 0)⟩ → E2.φ f = some g → VK P E2 (.ts e (.fam f) (cap + k) (es ++ new) (joinAcc cap acc1 acc)) (.slice (some ⟨x, 0, none⟩) (cap + k) (cap + k)) := by
        intro E2 x g hle hzx hφx
        simp only [VK]
        refine ⟨ht1.join ht2, old' ++ new', hrelE.mono hle, _, _, rfl, Nat.le_refl _, .inr ⟨x, 0, _, rfl, hzx, hn.symm, by rw [hn]; exact hl⟩, rfl, .inr ⟨x, _, g, rfl, hzx, rfl, hφx, rfl, ?_⟩⟩
        rw [hn]
        exact hlen
      rcases hmk with ⟨rfl, rfl⟩ | ⟨b', r, g, rfl, hz, ho, hφ, hkin, hcl⟩
      · -- nothing in it yet
        have hold : es = [] := List.length_eq_zero_iff.1 h8b
        have hold' : old' = [] := List.length_eq_zero_iff.1 h7b
        subst hold hold'
        have hφ : E.φ f = none := by
          rcases h.fam f 0 n htop with ⟨_, h2'⟩ | ⟨g2, _, h2', _⟩
          · exact h2'
          · omega
        cases k with
        | zero =>
          have hnew : new = [] := List.length_eq_zero_iff.1 h8
          have hnew' : new' = [] := List.length_eq_zero_iff.1 h7
          subst hnew hnew'
          refine ⟨.slice none 0 0, B, E, ?_, ?_, ⟨⟨fun b cs esz hb => ?_, fun b top sz0 hb => ?_, h.z, h.apart, h.inj, h.famInj.put (.inr hφ), h.dom, h.domφ, fun b o hb => ?_, h.old, h.oldz, h.oldφ, h.fresh, h.mem⟩, Env.le_refl _, Nat.le_refl _, fun _ _ _ => rfl, fun _ _ e => .inl e, fun _ _ e => .inl e, fun _ _ e => .inl e, fun _ _ _ => rfl⟩⟩
          · simp only [fAppend, h4, Option.bind_some]
            rw [h5]
            rfl
          · simp only [VK]
            exact ⟨⟨rfl, fun i hi => by omega, rfl⟩, [], .nil, none, 0, rfl, Nat.le_refl _, .inl ⟨rfl, rfl⟩, rfl, .inl ⟨rfl, rfl⟩⟩
          · rw [KSt.get_put] at hb
            split at hb
            · simp at hb
            · exact h.row b cs esz hb
          · rw [KSt.get_put] at hb
            split at hb
            · rename_i e2; simp at hb; exact .inl ⟨hb.1.symm, by rw [e2]; exact hφ⟩
            · exact h.fam b top sz0 hb
          · rw [KSt.get_put] at hb
            split at hb
            · rename_i e2; rw [e2]; exact h.live f _ htop
            · exact h.live b o hb
        | succ k =>
          have hgr := StEv.grow (c := flatE ([] ++ new')) (top := 0) (top' := 0 + (k + 1)) (sz := n) (g := B.next) (f := f) h htop (.inl ⟨hφ, rfl⟩) hlen (by omega) (by omega)
          refine ⟨.slice (some ⟨B.next, 0, none⟩) (0 + (k + 1)) (0 + (k + 1)), B.grow B.next 0 (flatE ([] ++ new')) n, _, ?_, fin _ B.next B.next hgr.le (by simp [Env.setF, Env.setZ]) (by simp [Env.setF]), hgr⟩
          simp only [Nat.zero_add] at hb1 hb2
          simp only [fAppend, h4, Option.bind_some, Nat.zero_add, List.nil_append]
          rw [show Nat.ble (k + 1) 0 = false from rfl, cond_false, hb1, hb2, h5]
          rfl
      · -- where its family goes on
        have hcap0 : 0 < cap + k ∧ 0 < k := by
          rcases hmk0 with h0 | h0
          · subst h0
            rcases h.fam f 0 n htop with ⟨_, h2'⟩ | ⟨g2, _, h2', _⟩
            · rw [hφ] at h2'; simp at h2'
            · omega
          · exact ⟨by omega, h0⟩
        have hrow := h.z b' r hz
        rw [ho, hkin] at hrow
        have hesz : r.esz = n := by
          rcases hbase with ⟨h0, _⟩ | ⟨b2, off2, r2, e2, hz2, he2, _⟩
          · simp at h0
          · simp at e2
            obtain ⟨rfl, rfl⟩ := e2
            rw [hz] at hz2
            simp at hz2
            subst hz2
            rw [he2, hn]
        have hkill : B.kill B.next (0 + (0 + cap * n)) (0 + (0 + cap * n) + (flatE new').length) (B.members g) = B := by
          refine kill_none fun y hy => ?_
          rcases h.fam f cap n htop with ⟨_, h2'⟩ | ⟨g2, h2', _, h3'⟩
          · rw [hφ] at h2'; simp at h2'
          · rw [hφ] at h2'
            simp at h2'
            subst h2'
            cases hy2 : B.get y with
            | none => rfl
            | some o => cases o with
              | row cs2 e2 own2 kin2 =>
                cases kin2 with
                | none => rfl
                | some p =>
                  obtain ⟨f2, k2⟩ := p
                  obtain ⟨rfl, hle2⟩ := h3' y hy cs2 e2 own2 f2 k2 hy2
                  simp only [stale, meets, Nat.zero_add]
                  have : Nat.blt (cap * n) cs2.length = false := by
                    cases hq : Nat.blt (cap * n) cs2.length with
                    | false => rfl
                    | true => rw [Nat.blt_eq] at hq; omega
                  rw [this, Bool.false_and]
              | _ => rfl
        have hgr := StEv.grow (c := flatE (old' ++ new')) (top := cap) (top' := cap + k) (sz := n) (g := g) (f := f) h htop (.inr hφ) hlen (by omega) hcap0.1
        refine ⟨.slice (some ⟨B.next, 0, none⟩) (cap + k) (cap + k), B.grow g 0 (flatE (old' ++ new')) n, _, ?_, fin _ B.next g hgr.le (by simp [Env.setF, Env.setZ]) (by simp [Env.setF]), hgr⟩
        have hnb : Nat.ble (cap + k) cap = false := by
          cases hq : Nat.ble (cap + k) cap with
          | false => rfl
          | true => have := Nat.le_of_ble_eq_true hq; omega
        have hex : exactEnd B n cap (some ⟨b', 0, none⟩) = true := by simp only [exactEnd, hrow]
        simp only [fAppend, h4, Option.bind_some, hnb, cond_false, hb1, hb2, hex, Bool.and_self, cond_true, h5]
        simp only [firstA] at h5b
        have hbeq : Nat.beq r.esz n = true := by rw [hesz]; simp
        simp only [appGrow, plainAddr, Option.isNone_none, cond_true, h5b, Option.bind_some, hrow, hbeq, hkill, ← flatE_append]
    · exact hg.elim
  · exact hg.elim
end Go.K
