/-
  A call's beginning: what an argument reads as is a tree of the machine K.
-/
import Derived.Test.YtjmpheohljeapaaKLoop6
import Derived.OpenShut
import Derived.ChangeArms
namespace Go.K
open Go Go.Abs

/-! ## What is known of a tree that was read -/
mutual
def wfK : KV → Prop
  | .int k n => (Lit.int k n).wf = true
  | .str s => s.size ≤ maxLen
  | .ts _ _ n es _ => n ≤ maxLen ∧ wfKs es
  | .agg cs => wfKs cs
  | _ => True
def wfKs : List KV → Prop
  | [] => True
  | v :: vs => wfK v ∧ wfKs vs
end
theorem wfKs_append : ∀ {a b : List KV}, wfKs a → wfKs b → wfKs (a ++ b)
  | [], _, _, h => h
  | x :: a, b, h, k => by
    simp only [wfKs] at h
    exact ⟨h.1, wfKs_append h.2 k⟩
theorem wfKs_mem : ∀ {l : List KV}, wfKs l → ∀ v ∈ l, wfK v
  | [], _, v, h => by simp at h
  | x :: l, h, v, hv => by
    simp only [wfKs] at h
    rcases List.mem_cons.1 hv with rfl | hv
    · exact h.1
    · exact wfKs_mem h.2 v hv

/-! ## The beginning -/
structure Ini (P : Program) (W : World) (E : Env) (B : St) (ρ : Ren) : Prop where
  sim : Sim ρ B W.heap.size W
  k : KSim P E .empty B
  κ : ∀ b, E.κ b = none
  foreign : ∀ b o, B.get b = some o → o.mine = false ∧ o.kin? = none
def Env.none : Env := ⟨fun _ => .none, fun _ => .none, fun _ => .none⟩
theorem Ini.start (P : Program) (W : World) : Ini P W .none .empty (fun _ => .none) := by
  refine ⟨Sim.empty W, ⟨?_, ?_, ?_, ?_, ?_, ?_, ?_, ?_, ?_, ?_, ?_, ?_, ?_, ?_⟩, fun _ => rfl, fun b o h => by simp [St.get, St.empty] at h⟩
  · intro b cs esz h; simp [KSt.empty, KSt.get] at h
  · intro b cs esz h; simp [KSt.empty, KSt.get] at h
  · intro b r h; simp [Env.none] at h
  · intro b r h; simp [Env.none] at h
  · intro b c r h; simp [Env.none] at h
  · intro b c r _ _ _ _ _ _ h; simp [Env.none] at h
  · intro b r h; simp [Env.none] at h
  · intro b r h; simp [Env.none] at h
  · intro b o h; simp [KSt.empty, KSt.get] at h
  · intro b r h; simp [Env.none] at h
  · intro b r h; simp [Env.none] at h
  · intro b r h; simp [Env.none] at h
  · intro g _; simp [St.members, St.empty]
  · intro g x h; simp [St.members, St.empty] at h
theorem Ini.add {P : Program} {W : World} {E : Env} {B : St} {ρ : Ren} (h : Ini P W E B ρ) {cs : List Value} {l : Abs.Loc}
    (hc : ∀ (i : Nat) (v : Value), cs[i]? = some v → ∃ v', W.cell? ⟨l.cb, l.coff + i, .none⟩ = some v' ∧ VR ρ v v' ∧ scalar v = true) (hl : l.cb < W.heap.size) (hf : l.coff + cs.length ≤ l.csize) :
    Ini P W (E.setZ B.next ⟨cs, l.esz, false, .none⟩) (B.new (.row cs l.esz false .none)) (ρ.set B.next l) ∧ E.le (E.setZ B.next ⟨cs, l.esz, false, .none⟩) ∧ ρ.le (ρ.set B.next l) := by
  have hle : E.le (E.setZ B.next ⟨cs, l.esz, false, .none⟩) := ⟨fun _ _ e => e, fun b r e => by
    have := h.k.oldz b r e
    simp only [Env.setZ]; rw [if_neg (by omega)]; exact e, fun _ _ e => e⟩
  have hρ := h.sim.le_set l
  have hget : ∀ b o, (B.new (.row cs l.esz false .none)).get b = some o → (b = B.next ∧ o = .row cs l.esz false .none) ∨ (b ≠ B.next ∧ B.get b = some o) := by
    intro b o hb
    rw [St.get_new] at hb
    split at hb
    · rename_i e; simp at hb; exact .inl ⟨e, hb.symm⟩
    · rename_i e; exact .inr ⟨e, hb⟩
  have hfor : ∀ b o, (B.new (.row cs l.esz false .none)).get b = some o → o.mine = false ∧ o.kin? = .none := by
    intro b o hb
    rcases hget b o hb with ⟨_, rfl⟩ | ⟨_, hb⟩
    · exact ⟨rfl, rfl⟩
    · exact h.foreign b o hb
  refine ⟨⟨⟨⟨?_, ?_, ?_, ?_, ?_⟩, ?_, h.sim.size⟩, ?_, h.κ, hfor⟩, hle, hρ⟩
  · intro b cs0 esz own kin hb
    rcases hget b _ hb with ⟨rfl, e⟩ | ⟨hne, hb⟩
    · simp only [AObj.row.injEq] at e
      obtain ⟨rfl, rfl, rfl, rfl⟩ := e
      refine ⟨l, by simp [Ren.set], ⟨fun i v hi => ?_, fun _ => hl, fun e => by simp at e, fun e => by simp at e, hf, fun e => by simp at e, rfl, hl, fun e => by simp at e⟩⟩
      obtain ⟨v', h1, h2, h3⟩ := hc i v hi
      exact ⟨v', h1, h2.mono hρ, h3⟩
    · obtain ⟨l', h1, h2⟩ := h.sim.rel.row b cs0 esz own kin hb
      exact ⟨l', hρ _ _ h1, ⟨fun i v hi => by obtain ⟨v', q1, q2, q3⟩ := h2.cells i v hi; exact ⟨v', q1, q2.mono hρ, q3⟩, h2.foreign, h2.mine, h2.there, h2.fits, h2.ends, h2.esz, h2.lies, h2.mark⟩⟩
  · intro b es hb
    have := (hfor b _ hb).1
    simp [AObj.mine] at this
  · intro b s pos hb
    have := (hfor b _ hb).1
    simp [AObj.mine] at this
  · intro b1 b2 o1 o2 l1 l2 _ h1 _ h3
    have := (hfor b1 _ h1).1
    rw [h3] at this; simp at this
  · intro b o fam f hb hk
    have := (hfor b _ hb).2
    rw [hk] at this; simp at this
  · intro b l' hb
    rw [St.next_new]
    simp only [Ren.set] at hb
    split at hb
    · omega
    · have := h.sim.dom b l' hb; omega
  · refine ⟨?_, ?_, ?_, ?_, ?_, ?_, ?_, ?_, ?_, ?_, ?_, ?_, ?_, ?_⟩
    · intro b cs esz h; simp [KSt.empty, KSt.get] at h
    · intro b cs esz h; simp [KSt.empty, KSt.get] at h
    · intro b r hb
      simp only [Env.setZ] at hb
      split at hb
      · rename_i e
        simp at hb
        subst hb e
        simp
      · have := h.k.oldz b r hb
        rw [St.get_new, if_neg (by omega)]
        exact h.k.z b r hb
    · intro b x hb; have hb : E.κ b = some x := hb; rw [h.κ b] at hb; simp at hb
    · exact h.k.inj
    · exact h.k.famInj
    · exact h.k.dom
    · exact h.k.domφ
    · exact h.k.live
    · intro b x hb; have := h.k.old b x hb; rw [St.next_new]; omega
    · intro b r hb
      simp only [Env.setZ] at hb
      rw [St.next_new]
      split at hb
      · omega
      · have := h.k.oldz b r hb; omega
    · intro b g hb; have := h.k.oldφ b g hb; rw [St.next_new]; omega
    · intro g hg; rw [St.next_new] at hg; rw [St.members_new]; exact h.k.fresh g (by omega)
    · intro g x hx; rw [St.members_new] at hx; rw [St.next_new]; have := h.k.mem g x hx; omega

/-! ## Types that are read -/
def tileF (P : Program) : Nat → List Field → Option Nat
  | off, [] => some off
  | off, f :: fs => cond (Nat.beq f.offset off) (tileF P (off + P.cellsOf f.type) fs) .none
def entryT (P : Program) : Nat → TypeId → Bool
  | 0, _ => false
  | n + 1, t => match P.underlying t with
    | some (.int _) | some .bool | some .string => true
    | some (.slice e) => Nat.ble 1 (P.cellsOf e) && entryT P n e && (match lay P 12 e with
      | some l => Nat.beq l.ks.length (P.cellsOf e) && (l.agg || Nat.beq l.ks.length 1)
      | .none => false)
    | some (.struct fs) => fs.toList.all (fun f => entryT P n f.type) && (match tileF P 0 fs.toList with
      | some k => Nat.beq k (P.cellsOf t)
      | .none => false)
    | some (.array len e) => entryT P n e && Nat.beq (P.cellsOf t) (len * P.cellsOf e)
    | _ => false
def PosW (W : World) (cs : List Value) : Prop := ∀ a n c, Value.slice (some a) n c ∈ cs → 0 < W.heap.size
/-- read: the trees, and the beginning that has grown -/
def Got (P : Program) (W : World) (E : Env) (_ : St) (ρ : Ren) (cs : List Value) (K : List KV → Prop) : Prop :=
  ∃ E' B' ρ' ks, Ini P W E' B' ρ' ∧ E.le E' ∧ ρ.le ρ' ∧ VCL P E' ρ' ks cs ∧ wfKs ks ∧ K ks
def ReadOk {H : Type} (enc : TypeId × Value → H) (P : Program) (W : World) (n : Nat) : Prop :=
  ∀ t, entryT P n t = true → ∀ (fuel : Nat) (cs : List Value) (x : DataW H × List MemPlace) (E : Env) (B : St) (ρ : Ren), DataW.trod enc P W 0 (fun _ => true) true fuel t cs = some x → PosW W cs → Ini P W E B ρ →
    Got P W E B ρ cs fun ks => ∀ m l, lay P m t = some l → kindsOk l.ks ks = true
section
variable {H : Type} {enc : TypeId × Value → H} {P : Program} {W : World} {E : Env} {B : St} {ρ : Ren}
theorem VCL.append {E : Env} {ρ : Ren} {a b : List KV} {a' b' : List Value} (h : VCL P E ρ a a') (k : VCL P E ρ b b') : VCL P E ρ (a ++ b) (a' ++ b') := by
  obtain ⟨m, h1, h2⟩ := h
  obtain ⟨l, h3, h4⟩ := k
  exact ⟨m ++ l, h1.append h3, h2.append h4⟩
theorem VCL.mono {E E' : Env} {ρ ρ' : Ren} {a : List KV} {a' : List Value} (h : VCL P E ρ a a') (hE : E.le E') (hρ : ρ.le ρ') : VCL P E' ρ' a a' := by
  obtain ⟨m, h1, h2⟩ := h
  exact ⟨m, h1.mono hE, h2.mono hρ⟩
theorem VCL.len {E : Env} {ρ : Ren} {a : List KV} {a' : List Value} (h : VCL P E ρ a a') : a'.length = a.length := by
  obtain ⟨m, h1, h2⟩ := h
  rw [h2.length, h1.length]
theorem kindsOk_size : ∀ {ks : List CK} {vs : List KV}, kindsOk ks vs = true → vs.length = ks.length
  | [], [], _ => rfl
  | [], _ :: _, h => by simp [kindsOk] at h
  | _ :: _, [], h => by simp [kindsOk] at h
  | k :: ks, v :: vs, h => by
    simp only [kindsOk, Bool.and_eq_true] at h
    simp [kindsOk_size h.2]
theorem kindsOk_join : ∀ {ks ls : List CK} {vs us : List KV}, kindsOk ks vs = true → kindsOk ls us = true → kindsOk (ks ++ ls) (vs ++ us) = true
  | [], _, [], _, _, h => h
  | [], _, _ :: _, _, h, _ => by simp [kindsOk] at h
  | _ :: _, _, [], _, h, _ => by simp [kindsOk] at h
  | k :: ks, ls, v :: vs, us, h, h' => by
    simp only [kindsOk, Bool.and_eq_true] at h
    simp only [List.cons_append, kindsOk, Bool.and_eq_true]
    exact ⟨h.1, kindsOk_join h.2 h'⟩
theorem PosW.sub {W : World} {cs ds : List Value} (h : PosW W cs) (k : ∀ v ∈ ds, v ∈ cs) : PosW W ds := fun a n c hm => h a n c (k _ hm)
theorem piece_mem {cs : List Value} {i n : Nat} : ∀ v ∈ (cs.drop i).take n, v ∈ cs := fun _ h => List.mem_of_mem_drop (List.mem_of_mem_take h)
theorem piece_join (cs : List Value) (i m n : Nat) : (cs.drop i).take m ++ (cs.drop (i + m)).take n = (cs.drop i).take (m + n) := by
  rw [List.take_add, List.drop_drop]
theorem read_fields {n : Nat} (IH : ReadOk enc P W n) {fuel : Nat} {cs : List Value} (hp : PosW W cs) : ∀ (fs : List Field) (off k : Nat) (E : Env) (B : St) (ρ : Ren), Ini P W E B ρ → tileF P off fs = some k → k ≤ cs.length → (∀ f ∈ fs, entryT P n f.type = true) →
    (∀ f ∈ fs, ∃ x, DataW.trod enc P W 0 (fun _ => true) true fuel f.type ((cs.drop f.offset).take (P.cellsOf f.type)) = some x) →
    off ≤ k ∧ Got P W E B ρ ((cs.drop off).take (k - off)) fun ks => ∀ m l, layS (lay P m) fs off = some l → kindsOk l ks = true
  | [], off, k, E, B, ρ, hi, ht, hk, _, _ => by
    simp [tileF] at ht; subst ht
    refine ⟨Nat.le_refl _, E, B, ρ, [], hi, Env.le_refl _, Ren.le_refl _, ?_, trivial, ?_⟩
    · rw [Nat.sub_self, List.take_zero]; exact ⟨[], .nil, .nil⟩
    · intro m l h; simp [layS] at h; subst h; rfl
  | f :: fs, off, k, E, B, ρ, hi, ht, hk, he, hx => by
    unfold tileF at ht
    cases hb : Nat.beq f.offset off with
    | false => rw [hb] at ht; simp at ht
    | true =>
      rw [hb, cond_true] at ht
      have hoff := Nat.eq_of_beq_eq_true hb
      obtain ⟨x, hx1⟩ := hx f (by simp)
      obtain ⟨E1, B1, ρ1, ks1, h1, h2, h3, h4, h5, h6⟩ := IH f.type (he f (by simp)) fuel _ x E B ρ hx1 (hp.sub piece_mem) hi
      obtain ⟨hle, E2, B2, ρ2, ks2, q1, q2, q3, q4, q5, q6⟩ := read_fields IH hp fs (off + P.cellsOf f.type) k E1 B1 ρ1 h1 ht hk (fun g hg => he g (by simp [hg])) (fun g hg => hx g (by simp [hg]))
      have hlen : ks1.length = P.cellsOf f.type := by
        rw [← h4.len, List.length_take, List.length_drop, hoff]
        omega
      refine ⟨by omega, E2, B2, ρ2, ks1 ++ ks2, q1, Env.le_trans h2 q2, Ren.le_trans h3 q3, ?_, wfKs_append h5 q5, ?_⟩
      · have := (h4.mono q2 q3).append q4
        rw [hoff, piece_join] at this
        rw [show k - off = P.cellsOf f.type + (k - (off + P.cellsOf f.type)) by omega]
        exact this
      · intro m l hl
        unfold layS at hl
        rw [hb, cond_true] at hl
        obtain ⟨l1, hl1, hl⟩ := Option.bind_eq_some_iff.1 hl
        obtain ⟨l2, hl2, rfl⟩ := Option.map_eq_some_iff.1 hl
        have hk1 := h6 m l1 hl1
        have hk1' := kindsOk_size hk1
        rw [← hk1', hlen] at hl2
        exact kindsOk_join hk1 (q6 m l2 hl2)
theorem read_array {n : Nat} (IH : ReadOk enc P W n) {fuel len c : Nat} {e : TypeId} {cs : List Value} (hp : PosW W cs) (he : entryT P n e = true) (hc : P.cellsOf e = c) (hk : len * c ≤ cs.length) (hx : ∀ i, i < len → ∃ x, DataW.trod enc P W 0 (fun _ => true) true fuel e ((cs.drop (i * c)).take c) = some x) (hi : Ini P W E B ρ) : ∀ j, j ≤ len →
    Got P W E B ρ (cs.take (j * c)) fun ks => ∀ m l, lay P m e = some l → kindsOk (repeatK l.ks j) ks = true
  | 0, _ => by
    refine ⟨E, B, ρ, [], hi, Env.le_refl _, Ren.le_refl _, ?_, trivial, fun m l _ => rfl⟩
    rw [Nat.zero_mul, List.take_zero]; exact ⟨[], .nil, .nil⟩
  | j + 1, hj => by
    obtain ⟨E1, B1, ρ1, ks1, h1, h2, h3, h4, h5, h6⟩ := read_array IH hp he hc hk hx hi j (by omega)
    obtain ⟨x, hx1⟩ := hx j (by omega)
    obtain ⟨E2, B2, ρ2, ks2, q1, q2, q3, q4, q5, q6⟩ := IH e he fuel _ x E1 B1 ρ1 hx1 (hp.sub piece_mem) h1
    refine ⟨E2, B2, ρ2, ks1 ++ ks2, q1, Env.le_trans h2 q2, Ren.le_trans h3 q3, ?_, wfKs_append h5 q5, ?_⟩
    · have := (h4.mono q2 q3).append q4
      have e := piece_join cs 0 (j * c) c
      simp only [List.drop_zero, Nat.zero_add] at e
      rw [e] at this
      rw [show (j + 1) * c = j * c + c by rw [Nat.succ_mul]]
      exact this
    · intro m l hl
      have : repeatK l.ks (j + 1) = repeatK l.ks j ++ l.ks := by
        have comm : ∀ n, l.ks ++ repeatK l.ks n = repeatK l.ks n ++ l.ks := by
          intro n
          induction n with
          | zero => simp [repeatK]
          | succ n ih => simp only [repeatK, List.append_assoc]; rw [ih]
        rw [← comm]; rfl
      rw [this]
      exact kindsOk_join (h6 m l hl) (q6 m l hl)
theorem cell_at {a : Addr} {i k : Nat} {v : Value} (h : W.cell? ((a.add i).add k) = some v) : W.cell? ⟨a.block, a.off + i + k, .none⟩ = some v ∧ a.block < W.heap.size ∧ (i + k = 0 → a.spot = .none) := by
  have hb : ((a.add i).add k).block = a.block := by unfold Addr.add; split <;> split <;> rfl
  have ho : ((a.add i).add k).off = a.off + i + k := by
    unfold Addr.add
    split <;> split <;> simp_all
  have hs : ((a.add i).add k).spot = .none := by
    unfold World.cell? at h
    split at h
    · split at h
      · simp at h
      · rename_i hs; simpa using hs
    · simp at h
  have he : (a.add i).add k = ⟨a.block, a.off + i + k, .none⟩ := by
    generalize (a.add i).add k = p at hb ho hs
    obtain ⟨b, o, s⟩ := p
    simp at hb ho hs
    simp [hb, ho, hs]
  refine ⟨he ▸ h, ?_, fun e => ?_⟩
  · rw [he] at h
    unfold World.cell? at h
    split at h
    · rename_i heq
      exact (Array.getElem?_eq_some_iff.1 heq).1
    · simp at h
  · have h1 : i = 0 := by omega
    have h2 : k = 0 := by omega
    subst h1 h2
    simpa [Addr.add] using hs
theorem cells_get {a : Addr} {n : Nat} {cs : List Value} (h : W.cells? 0 a n = some cs) : cs.length = n ∧ ∀ (k : Nat) (v : Value), cs[k]? = some v → W.cell? (a.add k) = some v := by
  unfold World.cells? at h
  rw [if_pos (Nat.zero_le _)] at h
  have hl := mapM_some_length h
  simp at hl
  refine ⟨hl, fun k v hv => ?_⟩
  have hk : k < n := by rw [← hl]; exact (List.getElem?_eq_some_iff.1 hv).1
  rw [mapM_some_get h k k (by simp [hk])]
  exact hv
/-- an element -/
def mkE (agg : Bool) (m : List Value) : Value := cond agg (.agg ⟨m⟩) (m.headD .nilIface)
theorem mkE_cells {agg : Bool} {m : List Value} (hs : ∀ v ∈ m, scalar v = true) (h : agg = true ∨ m.length = 1) : (mkE agg m).cells.toList = m := by
  cases agg with
  | true => rfl
  | false =>
    rcases h with h | h
    · simp at h
    · match m, h with
      | [v], _ =>
        have := hs v (by simp)
        show v.cells.toList = [v]
        cases v <;> first | rfl | simp [scalar] at this
theorem mkV_elem {l : Lay} {ks : List KV} (h : kindsOk l.ks ks = true) (ha : l.agg = true ∨ l.ks.length = 1) : elemOk l (mkV l.agg ks) = true := by
  obtain ⟨agg, cs⟩ := l
  cases agg with
  | true => simpa [mkV, elemOk] using h
  | false =>
    simp at ha
    match cs, ha, ks, h with
    | [c], _, [v], h =>
      have hk : kindOk c v = true := by simpa [kindsOk] using h
      show elemOk ⟨false, [c]⟩ v = true
      cases v with
      | agg cs => cases c <;> simp [kindOk] at hk
      | tup cs => cases c <;> simp [kindOk] at hk
      | _ => simpa [elemOk] using h
    | [c], _, [], h => simp [kindsOk] at h
    | [c], _, _ :: _ :: _, h => simp [kindsOk] at h
theorem mkV_rel {E : Env} {ks : List KV} {m : List Value} {agg : Bool} (h : VKL P E ks m) (ha : agg = true ∨ m.length = 1) : VK P E (mkV agg ks) (mkE agg m) := by
  cases agg with
  | true => exact .mkAgg h
  | false =>
    rcases ha with ha | ha
    · simp at ha
    · match m, ha, ks, h with
      | [v], _, ks, h =>
        have hl := h.length
        match ks, hl, h with
        | [k], _, h =>
          obtain ⟨y, ys, e, h1, _⟩ := h.cons_inv
          simp at e
          rw [e.1]
          exact h1
theorem mkV_wf {ks : List KV} {agg : Bool} (h : wfKs ks) : wfK (mkV agg ks) := by
  cases agg with
  | true => exact h
  | false =>
    match ks, h with
    | [], _ => exact trivial
    | v :: vs, h => exact h.1
theorem kinds_scalar {E : Env} {ρ : Ren} : ∀ {ks : List CK} {vs : List KV} {m : List Value}, kindsOk ks vs = true → VKL P E vs m → ∀ v ∈ m, scalar v = true
  | [], [], m, _, h, v, hv => by rw [h.nil_inv] at hv; simp at hv
  | [], _ :: _, _, h, _, _, _ => by simp [kindsOk] at h
  | _ :: _, [], _, h, _, _, _ => by simp [kindsOk] at h
  | k :: ks, u :: vs, m, h, hm, v, hv => by
    simp only [kindsOk, Bool.and_eq_true] at h
    obtain ⟨y, ys, rfl, h1, h2⟩ := hm.cons_inv
    rcases List.mem_cons.1 hv with rfl | hv
    · refine h1.scalar ?_
      have := h.1
      cases u <;> first | rfl | (cases k <;> simp [kindOk] at this)
    · exact kinds_scalar (ρ := ρ) h.2 h2 v hv
/-- the elements of a slice, one behind the other -/
theorem read_elems {n : Nat} (IH : ReadOk enc P W n) {fuel len c : Nat} {e : TypeId} {l : Lay} {a : Addr} (he : entryT P n e = true) (hl : lay P 12 e = some l) (hlc : l.ks.length = c) (ha : l.agg = true ∨ l.ks.length = 1) (hc : P.cellsOf e = c) (hc1 : 1 ≤ c)
    (hx : ∀ i, i < len → ∃ x, (W.cells? 0 (a.add (i * c)) c).bind (DataW.trod enc P W 0 (fun _ => true) true fuel e) = some x) (hi : Ini P W E B ρ) : ∀ j, j ≤ len →
    ∃ E' B' ρ' es us fl, Ini P W E' B' ρ' ∧ E.le E' ∧ ρ.le ρ' ∧ es.length = j ∧ VKL P E' es us ∧ elemsOk l es = true ∧ wfKs es ∧ fl.length = j * c ∧ Lies c 0 fl us ∧
      (∀ (i : Nat) (v : Value), fl[i]? = some v → ∃ v', W.cell? ⟨a.block, a.off + i, .none⟩ = some v' ∧ VR ρ' v v' ∧ scalar v = true) ∧ (0 < j → a.block < W.heap.size ∧ a.spot = .none)
  | 0, _ => ⟨E, B, ρ, [], [], [], hi, Env.le_refl _, Ren.le_refl _, rfl, .nil, rfl, trivial, by simp, fun i x h => by simp at h, fun i v h => by simp at h, fun h => by omega⟩
  | j + 1, hj => by
    obtain ⟨E1, B1, ρ1, es, us, fl, h1, h2, h3, h4, h5, h6, h7, h8, h9, h10, h11⟩ := read_elems IH he hl hlc ha hc hc1 hx hi j (by omega)
    obtain ⟨x, hx1⟩ := hx j (by omega)
    obtain ⟨cs, hcs, hx2⟩ := Option.bind_eq_some_iff.1 hx1
    obtain ⟨hlen, hget⟩ := cells_get hcs
    have hpos : a.block < W.heap.size := by
      have h0 : 0 < cs.length := by rw [hlen]; omega
      exact (cell_at (hget 0 _ (List.getElem?_eq_getElem h0))).2.1
    obtain ⟨E2, B2, ρ2, ks, q1, q2, q3, ⟨m, q4, q4'⟩, q5, q6⟩ := IH e he fuel cs x E1 B1 ρ1 hx2 (fun _ _ _ _ => by omega) h1
    have hk := q6 12 l hl
    have hml : m.length = c := by rw [q4.length, kindsOk_size hk, hlc]
    have hag : l.agg = true ∨ m.length = 1 := by rw [hml, ← hlc]; exact ha
    have hsc := kinds_scalar (ρ := ρ) hk q4
    have hcell := mkE_cells hsc hag
    have hul : us.length = j := by rw [h5.length, h4]
    refine ⟨E2, B2, ρ2, es ++ [mkV l.agg ks], us ++ [mkE l.agg m], fl ++ m, q1, Env.le_trans h2 q2, Ren.le_trans h3 q3, by simp [h4], (h5.mono q2).append (.cons (mkV_rel q4 hag) .nil), ?_, wfKs_append h7 ⟨mkV_wf q5, trivial⟩, ?_, ?_, ?_, fun _ => ⟨hpos, ?_⟩⟩
    · have : ∀ {es : List KV}, elemsOk l es = true → elemsOk l (es ++ [mkV l.agg ks]) = true := by
        intro es
        induction es with
        | nil => intro _; simp [elemsOk, mkV_elem hk ha]
        | cons e es ih =>
          intro h
          simp only [elemsOk, Bool.and_eq_true] at h
          simp only [List.cons_append, elemsOk, Bool.and_eq_true]
          exact ⟨h.1, ih h.2⟩
      exact this h6
    · rw [List.length_append, h8, hml, Nat.succ_mul]
    · intro i y hy
      by_cases hi : i < j
      · rw [List.getElem?_append_left (by omega)] at hy
        obtain ⟨r1, r2⟩ := h9 i y hy
        refine ⟨r1, fun k z hz => ?_⟩
        have := r2 k z hz
        rw [List.getElem?_append_left (List.getElem?_eq_some_iff.1 this).1]
        exact this
      · rw [List.getElem?_append_right (by omega), hul] at hy
        have hij : i = j := by
          have := (List.getElem?_eq_some_iff.1 hy).1
          simp at this
          omega
        subst hij
        simp at hy
        subst hy
        have hsz : (mkE l.agg m).cells.size = c := by rw [← Array.length_toList, hcell, hml]
        refine ⟨hsz, fun k z hz => ?_⟩
        rw [← Array.getElem?_toList, hcell] at hz
        rw [List.getElem?_append_right (by rw [h8]; omega), h8, show 0 + i * c + k - i * c = k by omega]
        exact hz
    · intro i v hv
      by_cases hi : i < fl.length
      · rw [List.getElem?_append_left hi] at hv
        obtain ⟨v', r1, r2, r3⟩ := h10 i v hv
        exact ⟨v', r1, r2.mono q3, r3⟩
      · rw [List.getElem?_append_right (by omega)] at hv
        obtain ⟨v', r1, r2⟩ := q4'.get hv
        refine ⟨v', ?_, r2, hsc v (List.mem_of_getElem? hv)⟩
        have := (cell_at (hget _ _ r1)).1
        rw [h8] at this
        rw [h8] at hi
        rw [show a.off + i = a.off + j * c + (i - j * c) by omega]
        exact this
    · by_cases h0 : j = 0
      · subst h0
        have h0 : 0 < cs.length := by rw [hlen]; omega
        exact (cell_at (hget 0 _ (List.getElem?_eq_getElem h0))).2.2 (by omega)
      · exact (h11 (by omega)).2
theorem lies_zero {c : Nat} {fl us : List Value} (h : Lies c 0 fl us) : Lies c 0 fl us := h
theorem read_ok : ∀ n, ReadOk enc P W n
  | 0 => fun t ht => by simp [entryT] at ht
  | n + 1 => by
    have IH := read_ok n
    intro t ht fuel cs x E B ρ hx hp hi
    have hn : ∀ {m l}, lay P m t = some l → ∃ m', m = m' + 1 := by
      intro m l h
      cases m with
      | zero => simp [lay] at h
      | succ m => exact ⟨m, rfl⟩
    unfold entryT at ht
    split at ht
    · rename_i k hu
      obtain ⟨i, rfl, _, hw⟩ := DataW.trod_int hu hx
      refine ⟨E, B, ρ, [.int k i], hi, Env.le_refl _, Ren.le_refl _, ⟨_, .cons .mkInt .nil, .cons (by simp [VR]) .nil⟩, ⟨hw, trivial⟩, fun m l h => ?_⟩
      obtain ⟨m', rfl⟩ := hn h
      simp only [lay, hu, Option.some.injEq] at h
      subst h
      simp [kindsOk, kindOk]
    · rename_i hu
      obtain ⟨b, rfl, _⟩ := DataW.trod_bool hu hx
      refine ⟨E, B, ρ, [.bool b], hi, Env.le_refl _, Ren.le_refl _, ⟨_, .cons .mkBool .nil, .cons (by simp [VR]) .nil⟩, ⟨trivial, trivial⟩, fun m l h => ?_⟩
      obtain ⟨m', rfl⟩ := hn h
      simp only [lay, hu, Option.some.injEq] at h
      subst h
      simp [kindsOk, kindOk]
    · rename_i hu
      obtain ⟨s, rfl, _, hw⟩ := DataW.trod_string hu hx
      refine ⟨E, B, ρ, [.str s], hi, Env.le_refl _, Ren.le_refl _, ⟨_, .cons .mkStr .nil, .cons (by simp [VR]) .nil⟩, ⟨hw, trivial⟩, fun m l h => ?_⟩
      obtain ⟨m', rfl⟩ := hn h
      simp only [lay, hu, Option.some.injEq] at h
      subst h
      simp [kindsOk, kindOk]
    · rename_i e hu
      simp only [Bool.and_eq_true] at ht
      obtain ⟨⟨ht1, ht2⟩, ht3⟩ := ht
      have hc1 := Nat.le_of_ble_eq_true ht1
      split at ht3
      · rename_i l hl
        simp only [Bool.and_eq_true, Bool.or_eq_true] at ht3
        have hlc := Nat.eq_of_beq_eq_true ht3.1
        have hag : l.agg = true ∨ l.ks.length = 1 := ht3.2.imp id Nat.eq_of_beq_eq_true
        have hlF : layF P e = l := by simp [layF, hl]
        have hsz : szOf P e = P.cellsOf e := by rw [szOf, hlF, hlc]
        have fin : ∀ {ks : List KV} {m : Nat} {l' : Lay} {mk : Mk} {nn : Nat} {es : List KV} {acc : Nat → KV}, mk = .any → lay P m t = some l' → ks = [.ts e mk nn es acc] → kindsOk l'.ks ks = true := by
          intro ks m l' mk nn es acc hmk h hks
          obtain ⟨m', rfl⟩ := hn h
          simp only [lay, hu, Option.some.injEq] at h
          subst h hks hmk
          simp [kindsOk, kindOk]
        rcases DataW.trod_slice hu hx with ⟨rfl, _⟩ | ⟨a, len, cap, elems, rest, fu, _, rfl, _, _, hle, hcap, hel, hE, hR, _⟩
        · refine ⟨E, B, ρ, [.ts e .any 0 [] defAcc0], hi, Env.le_refl _, Ren.le_refl _, ⟨[.slice .none 0 0], .cons ?_ .nil, .cons (by simp [VR]) .nil⟩, ⟨⟨Nat.zero_le _, trivial⟩, trivial⟩, fun m l h => fin rfl h rfl⟩
          simp only [VK]
          exact ⟨⟨rfl, fun i h => by omega, rfl⟩, [], .nil, .none, 0, rfl, Nat.le_refl _, .inl ⟨rfl, rfl⟩, trivial⟩
        · have hxs : ∀ i, i < len → ∃ x, (W.cells? 0 (a.add (i * P.cellsOf e)) (P.cellsOf e)).bind (DataW.trod enc P W 0 (fun _ => true) true fu e) = some x := by
            intro i h
            rw [hE i h]
            exact ⟨_, List.getElem?_eq_getElem (by rw [hel]; exact h)⟩
          obtain ⟨E1, B1, ρ1, es, us, fl, h1, h2, h3, h4, h5, h6, h7, h8, h9, h10, h11⟩ := read_elems IH ht2 hl hlc hag rfl hc1 hxs hi len (Nat.le_refl _)
          have hsp : 0 < cap → a.block < W.heap.size ∧ a.spot = .none := by
            intro h0
            by_cases hl0 : 0 < len
            · exact h11 hl0
            · have hl0 : len = 0 := by omega
              subst hl0
              obtain ⟨hr1, hr2⟩ := hR rfl
              have hr3 := hr2 0 (by omega)
              rw [List.getElem?_eq_getElem (by rw [hr1]; omega)] at hr3
              obtain ⟨cs', hcs', _⟩ := Option.bind_eq_some_iff.1 hr3
              obtain ⟨hlen, hget⟩ := cells_get hcs'
              have h0 : 0 < cs'.length := by rw [hlen]; omega
              have := cell_at (hget 0 _ (List.getElem?_eq_getElem h0))
              exact ⟨this.2.1, this.2.2 (by omega)⟩
          have hh : 0 < W.heap.size := hp a len cap (by simp)
          have hlenes : us.length = len := by rw [h5.length, h4]
          -- where the row lies
          have hloc : ∃ lc : Abs.Loc, lc.esz = P.cellsOf e ∧ lc.cb < W.heap.size ∧ lc.coff + fl.length ≤ lc.csize ∧ (cap ≠ 0 → a = ⟨lc.cb, lc.coff, .none⟩) ∧ lc.coff + cap * lc.esz ≤ lc.csize ∧
              (∀ (i : Nat) (v : Value), fl[i]? = some v → ∃ v', W.cell? ⟨lc.cb, lc.coff + i, .none⟩ = some v' ∧ VR ρ1 v v' ∧ scalar v = true) := by
            by_cases h0 : cap = 0
            · subst h0
              have hl0 : len = 0 := by omega
              subst hl0
              refine ⟨⟨0, 0, 0, P.cellsOf e⟩, rfl, hh, by simp [h8], fun h => absurd rfl h, by simp, fun i v hv => ?_⟩
              have : fl = [] := by apply List.eq_nil_of_length_eq_zero; simp [h8]
              rw [this] at hv; simp at hv
            · obtain ⟨p1, p2⟩ := hsp (by omega)
              refine ⟨⟨a.block, a.off, a.off + cap * P.cellsOf e, P.cellsOf e⟩, rfl, p1, ?_, fun _ => ?_, Nat.le_refl _, h10⟩
              · rw [h8]; exact Nat.add_le_add_left (Nat.mul_le_mul_right _ hle) _
              · obtain ⟨b, o, s⟩ := a
                simp at p2
                simp [p2]
          obtain ⟨lc, l1, l2, l3, l4, l5, l6⟩ := hloc
          obtain ⟨i1, i2, i3⟩ := h1.add l6 l2 l3
          refine ⟨_, _, _, [.ts e .any len es (defAcc es)], i1, Env.le_trans h2 i2, Ren.le_trans h3 i3, ⟨[.slice (some ⟨B1.next, 0, .none⟩) len len], .cons ?_ .nil, .cons ?_ .nil⟩, ⟨⟨by omega, h7⟩, trivial⟩, fun m l h => fin rfl h rfl⟩
          · simp only [VK]
            refine ⟨⟨h4.symm, fun i _ => rfl, by rw [hlF]; exact h6⟩, us, h5.mono i2, some ⟨B1.next, 0, .none⟩, len, rfl, Nat.le_refl _, .inr ⟨B1.next, 0, ⟨fl, lc.esz, false, .none⟩, rfl, by simp [Env.setZ], by rw [l1, hsz], ?_⟩, trivial⟩
            rw [hsz]
            exact h9
          · simp only [VR]
            exact ⟨trivial, Nat.le_refl _, lc, a, cap, by simp [Ren.set], hle, fun h => by simpa using l4 h, by simpa using l5, rfl⟩
      · simp at ht3
    · rename_i fs hu
      simp only [Bool.and_eq_true, List.all_eq_true] at ht
      split at ht
      · rename_i k hk
        have hkc := Nat.eq_of_beq_eq_true ht.2
        obtain ⟨xs, fu, _, _, hlen, hxs, hf⟩ := DataW.trod_struct hu hx
        have hff : ∀ f ∈ fs.toList, ∃ x, DataW.trod enc P W 0 (fun _ => true) true fu f.type ((cs.drop f.offset).take (P.cellsOf f.type)) = some x := by
          intro f hm
          obtain ⟨i, hi'⟩ := List.getElem?_of_mem hm
          have hi2 : fs[i]? = some f := by simpa using hi'
          have hlt : i < xs.length := by rw [hxs]; exact (Array.getElem?_eq_some_iff.1 hi2).1
          exact ⟨xs[i], by rw [hf i f hi2]; exact List.getElem?_eq_getElem hlt⟩
        obtain ⟨_, E1, B1, ρ1, ks, h1, h2, h3, h4, h5, h6⟩ := read_fields IH hp fs.toList 0 k E B ρ hi hk (by rw [hkc, hlen]; exact Nat.le_refl _) ht.1 hff
        refine ⟨E1, B1, ρ1, ks, h1, h2, h3, ?_, h5, fun m l h => ?_⟩
        · have e : (cs.drop 0).take (k - 0) = cs := by rw [List.drop_zero, Nat.sub_zero, hkc, ← hlen, List.take_length]
          rw [e] at h4
          exact h4
        · obtain ⟨m', rfl⟩ := hn h
          simp only [lay, hu, Option.map_eq_some_iff] at h
          obtain ⟨l', hl', rfl⟩ := h
          exact h6 m' l' hl'
      · simp at ht
    · rename_i len e hu
      simp only [Bool.and_eq_true] at ht
      have hkc := Nat.eq_of_beq_eq_true ht.2
      obtain ⟨xs, fu, _, _, hlen, hxs, hf⟩ := DataW.trod_array hu hx
      have hff : ∀ i, i < len → ∃ x, DataW.trod enc P W 0 (fun _ => true) true fu e ((cs.drop (i * P.cellsOf e)).take (P.cellsOf e)) = some x := by
        intro i h
        exact ⟨xs[i], by rw [hf i h]; exact List.getElem?_eq_getElem (by rw [hxs]; exact h)⟩
      obtain ⟨E1, B1, ρ1, ks, h1, h2, h3, h4, h5, h6⟩ := read_array IH hp ht.1 rfl (by rw [hlen, hkc]; exact Nat.le_refl _) hff hi len (Nat.le_refl _)
      refine ⟨E1, B1, ρ1, ks, h1, h2, h3, ?_, h5, fun m l h => ?_⟩
      · rw [← hkc, ← hlen, List.take_length] at h4
        exact h4
      · obtain ⟨m', rfl⟩ := hn h
        simp only [lay, hu, Option.map_eq_some_iff] at h
        obtain ⟨l', hl', rfl⟩ := h
        exact h6 m' l' hl'
    · simp at ht
end
end Go.K
