/-
  '==' on structs and arrays, by their cells.
-/
import Derived.Test.YtjmpheohljeapaaKOps
namespace Go.K
open Go Go.Abs
variable {P : Program} {E : Env}

theorem pureRun_bind {α β : Type} : ∀ {s : Sem α} {f : α → Sem β} {a : α}, pureRun P s = some a → pureRun P (s >>= f) = pureRun P (f a)
  | .pure x, f, a, h => by simp [pureRun] at h; subst h; rfl
  | .program k, f, a, h => by
    have := pureRun_bind (s := k P) (f := f) (a := a) (by simpa [pureRun] using h)
    exact this
  | .mark m k, f, a, h => by
    have := pureRun_bind (s := k) (f := f) (a := a) (by simpa [pureRun] using h)
    exact this
  | .load .., _, _, h | .store .., _, _, h | .new .., _, _, h | .shape .., _, _, h | .freeze .., _, _, h | .frozen .., _, _, h | .getObj .., _, _, h
  | .setObj .., _, _, h | .choose .., _, _, h | .sys .., _, _, h | .halt .., _, _, h => by simp [pureRun] at h
theorem pureRun_forIn {α β : Type} {init stop : β} {B : α → β → Sem (ForInStep β)} {g : α → Bool} : ∀ {l : List α}, (∀ x ∈ l, pureRun P (B x init) = some (if g x = true then .yield init else .done stop)) →
    pureRun P (forIn l init B) = some (if l.all g = true then init else stop)
  | [], _ => rfl
  | x :: l, h => by
    have hx := h x (by simp)
    rw [List.forIn_cons, pureRun_bind hx]
    cases hg : g x with
    | true =>
      simp only [if_true]
      rw [pureRun_forIn fun y hy => h y (by simp [hy])]
      simp [hg]
    | false => simp [hg]; rfl
theorem pureRun_underlying {t : TypeId} {d : TypeDesc} (h : P.underlying t = some d) : pureRun P (underlying t) = some d := by
  simp [underlying, program, Bind.bind, Sem.bind, pureRun, h, Pure.pure]
theorem pureRun_typeInfo {t : TypeId} {i : TypeInfo} (h : P.info? t = some i) : pureRun P (typeInfo t) = some i := by
  simp [typeInfo, program, Bind.bind, Sem.bind, pureRun, h, Pure.pure]
theorem pureRun_pure {α : Type} (a : α) : pureRun P (pure a) = some a := rfl
theorem pureRun_sizeOf {t : TypeId} {i : TypeInfo} (h : P.info? t = some i) : pureRun P (sizeOf t) = some i.size := by
  unfold sizeOf
  rw [pureRun_bind (pureRun_typeInfo h)]
  rfl
theorem lay_agg {n : Nat} {t : TypeId} {L : Lay} (h : lay P n t = some L) : ∃ d, P.underlying t = some d ∧ L.agg = isAggD d ∧ (L.agg = false → L.ks.length = 1) := by
  cases n with
  | zero => simp [lay] at h
  | succ n =>
    simp only [lay] at h
    split at h <;> rename_i hu
    · simp at h; subst h; exact ⟨_, hu, rfl, fun _ => rfl⟩
    · simp at h; subst h; exact ⟨_, hu, rfl, fun _ => rfl⟩
    · simp at h; subst h; exact ⟨_, hu, rfl, fun _ => rfl⟩
    · simp at h; subst h; exact ⟨_, hu, rfl, fun _ => rfl⟩
    · obtain ⟨ks, _, rfl⟩ := Option.map_eq_some_iff.1 h; exact ⟨_, hu, rfl, fun h => by simp at h⟩
    · obtain ⟨ks, _, rfl⟩ := Option.map_eq_some_iff.1 h; exact ⟨_, hu, rfl, fun h => by simp at h⟩
    · rename_i d h1 h2 h3 h4 h5 h6
      simp at h; subst h
      refine ⟨_, hu, ?_, fun _ => rfl⟩
      cases d <;> first | rfl | simp_all
    · simp at h
def mkVal (agg : Bool) (l : List Value) : Value := cond agg (.agg ⟨l⟩) (l.headD undef)
theorem pureRun_part {n : Nat} {t : TypeId} {L : Lay} {i : TypeInfo} {cs : Array Value} {off : Nat} (h : lay P n t = some L) (hi : P.info? t = some i) (hs : i.size = L.ks.length) (hl : off + L.ks.length ≤ cs.size) :
    pureRun P (part t cs off) = some (mkVal L.agg ((cs.toList.drop off).take L.ks.length)) := by
  obtain ⟨d, hu, ha, h1⟩ := lay_agg h
  have hagg : pureRun P (isAgg t) = some (isAggD d) := by
    unfold isAgg
    rw [pureRun_bind (pureRun_underlying hu)]
    cases d <;> rfl
  unfold part
  rw [pureRun_bind hagg]
  cases hd : isAggD d with
  | true =>
    rw [hd] at ha
    simp only [if_true]
    rw [pureRun_bind (pureRun_sizeOf hi)]
    simp only [pureRun_pure, ha, mkVal, cond_true, hs]
    congr 2
    apply Array.ext'
    simp
  | false =>
    rw [hd] at ha
    have h1 := h1 ha
    have hlt : off < cs.size := by omega
    simp only [Bool.false_eq_true, if_false]
    rw [Array.getElem?_eq_getElem hlt]
    simp only [pureRun_pure, ha, mkVal, cond_false, h1]
    congr 1
    have : cs.toList.drop off = cs.toList[off] :: cs.toList.drop (off + 1) := List.drop_eq_getElem_cons (by simpa using hlt)
    rw [this]
    simp

theorem eqKs_length : ∀ {xs ys : List KV} {b : Bool}, eqKs xs ys = some b → xs.length = ys.length
  | [], [], _, _ => rfl
  | [], _ :: _, _, h => by simp [eqKs] at h
  | _ :: _, [], _, h => by simp [eqKs] at h
  | x :: xs, y :: ys, b, h => by
    simp only [eqKs] at h
    split at h
    · rename_i h2; simp [eqKs_length h2]
    · simp at h
theorem eqKs_split : ∀ (n : Nat) {xs ys : List KV} {b : Bool}, eqKs xs ys = some b → ∃ b1 b2, eqKs (xs.take n) (ys.take n) = some b1 ∧ eqKs (xs.drop n) (ys.drop n) = some b2 ∧ b = (b1 && b2)
  | 0, xs, ys, b, h => ⟨true, b, by simp [eqKs], by simpa using h, by simp⟩
  | n + 1, [], [], b, h => by simp [eqKs] at h; subst h; exact ⟨true, true, by simp [eqKs], by simp [eqKs], rfl⟩
  | n + 1, [], _ :: _, b, h => by simp [eqKs] at h
  | n + 1, _ :: _, [], b, h => by simp [eqKs] at h
  | n + 1, x :: xs, y :: ys, b, h => by
    simp only [eqKs] at h
    split at h
    · rename_i a c h1 h2
      simp at h
      obtain ⟨b1, b2, h3, h4, h5⟩ := eqKs_split n h2
      refine ⟨a && b1, b2, by simp [eqKs, h1, h3], by simpa using h4, ?_⟩
      rw [← h, h5, Bool.and_assoc]
    · simp at h
/-- the part of the equality that one window has -/
def winEq (xs ys : List KV) (off n : Nat) : Bool := (eqKs ((xs.drop off).take n) ((ys.drop off).take n)).getD false
theorem eqKs_win {xs ys : List KV} {b : Bool} (h : eqKs xs ys = some b) (off n : Nat) : eqKs ((xs.drop off).take n) ((ys.drop off).take n) = some (winEq xs ys off n) := by
  obtain ⟨_, _, _, h2, _⟩ := eqKs_split off h
  obtain ⟨b1, _, h3, _, _⟩ := eqKs_split n h2
  unfold winEq
  rw [h3]; rfl
theorem kindsOk_append : ∀ {a b : List CK} {xs : List KV}, kindsOk (a ++ b) xs = true → kindsOk a (xs.take a.length) = true ∧ kindsOk b (xs.drop a.length) = true
  | [], b, xs, h => by simpa [kindsOk] using h
  | c :: a, b, [], h => by simp [kindsOk] at h
  | c :: a, b, x :: xs, h => by
    simp only [List.cons_append, kindsOk, Bool.and_eq_true] at h
    obtain ⟨h1, h2⟩ := kindsOk_append h.2
    simp [kindsOk, h.1, h1, h2]
theorem kindsOk_length : ∀ {a : List CK} {xs : List KV}, kindsOk a xs = true → xs.length = a.length
  | [], [], _ => rfl
  | [], _ :: _, h => by simp [kindsOk] at h
  | _ :: _, [], h => by simp [kindsOk] at h
  | c :: a, x :: xs, h => by
    simp only [kindsOk, Bool.and_eq_true] at h
    simp [kindsOk_length h.2]
theorem layS_spec {lf : TypeId → Option Lay} {xs ys : List KV} {b : Bool} (he : eqKs xs ys = some b) : ∀ {fs : List Field} {off : Nat} {ks : List CK}, layS lf fs off = some ks → kindsOk ks (xs.drop off) = true → kindsOk ks (ys.drop off) = true → off + ks.length = xs.length →
    (∀ f ∈ fs, ∃ L, lf f.type = some L ∧ f.offset + L.ks.length ≤ xs.length ∧ kindsOk L.ks ((xs.drop f.offset).take L.ks.length) = true ∧ kindsOk L.ks ((ys.drop f.offset).take L.ks.length) = true) ∧
    eqKs (xs.drop off) (ys.drop off) = some (fs.all fun f => winEq xs ys f.offset (((lf f.type).map (·.ks.length)).getD 0))
  | [], off, ks, h, _, _, hl => by
    simp [layS] at h
    subst h
    have h1 : xs.drop off = [] := by simp at hl; simp; omega
    have h2 : ys.drop off = [] := by have := eqKs_length he; simp at hl; simp; omega
    refine ⟨by simp, ?_⟩
    rw [h1, h2]; rfl
  | f :: fs, off, ks, h, hk, hk', hl => by
    simp only [layS] at h
    obtain ⟨hoff, h⟩ := cond_some h
    have hoff := Nat.eq_of_beq_eq_true hoff
    obtain ⟨L, h1, h⟩ := Option.bind_eq_some_iff.1 h
    obtain ⟨r, h2, rfl⟩ := Option.map_eq_some_iff.1 h
    obtain ⟨k1, k2⟩ := kindsOk_append hk
    obtain ⟨k1', k2'⟩ := kindsOk_append hk'
    rw [List.drop_drop] at k2 k2'
    simp only [List.length_append] at hl
    obtain ⟨h3, h4⟩ := layS_spec he h2 k2 k2' (by omega)
    refine ⟨fun g hg => ?_, ?_⟩
    · rcases List.mem_cons.1 hg with rfl | hg
      · exact ⟨L, h1, by omega, by rw [hoff]; exact k1, by rw [hoff]; exact k1'⟩
      · exact h3 g hg
    · obtain ⟨_, _, _, h5, _⟩ := eqKs_split off he
      obtain ⟨c1, c2, h6, h7, h8⟩ := eqKs_split L.ks.length h5
      rw [List.drop_drop, List.drop_drop] at h7
      rw [h4] at h7
      simp at h7
      have h9 := eqKs_win he off L.ks.length
      rw [h6] at h9
      simp at h9
      rw [h5, h8]
      simp only [List.all_cons, h1, Option.map_some, Option.getD_some, hoff, ← h9]
      rw [← h7]
theorem repeatK_length {α : Type} (l : List α) : ∀ n, (repeatK l n).length = n * l.length
  | 0 => by simp [repeatK]
  | n + 1 => by rw [repeatK, List.length_append, repeatK_length l n, Nat.succ_mul]; omega
theorem layR_spec {xs ys : List KV} {l : List CK} : ∀ {len off : Nat} {b : Bool}, eqKs (xs.drop off) (ys.drop off) = some b → kindsOk (repeatK l len) (xs.drop off) = true → kindsOk (repeatK l len) (ys.drop off) = true →
    (∀ i, i < len → kindsOk l ((xs.drop (off + i * l.length)).take l.length) = true ∧ kindsOk l ((ys.drop (off + i * l.length)).take l.length) = true) ∧
    eqKs (xs.drop off) (ys.drop off) = some ((List.range' 0 len).all fun i => winEq xs ys (off + i * l.length) l.length)
  | 0, off, b, h, hk, hk' => by
    have h1 : xs.drop off = [] := by have := kindsOk_length hk; simp only [repeatK, List.length_nil] at this; exact List.length_eq_zero_iff.1 this
    have h2 : ys.drop off = [] := by have := kindsOk_length hk'; simp only [repeatK, List.length_nil] at this; exact List.length_eq_zero_iff.1 this
    refine ⟨fun i hi => by omega, ?_⟩
    rw [h1, h2]; rfl
  | len + 1, off, b, h, hk, hk' => by
    obtain ⟨c1, c2, h1, h2, h3⟩ := eqKs_split l.length h
    rw [List.drop_drop, List.drop_drop] at h2
    obtain ⟨k1, k2⟩ := kindsOk_append (a := l) (b := repeatK l len) hk
    obtain ⟨k1', k2'⟩ := kindsOk_append (a := l) (b := repeatK l len) hk'
    rw [List.drop_drop] at k2 k2'
    obtain ⟨h5, h4⟩ := layR_spec (len := len) (off := off + l.length) h2 k2 k2'
    refine ⟨fun i hi => ?_, ?_⟩
    · cases i with
      | zero => simpa using ⟨k1, k1'⟩
      | succ i =>
        have := h5 i (by omega)
        rwa [show off + l.length + i * l.length = off + (i + 1) * l.length by rw [Nat.succ_mul]; omega] at this
    rw [h2] at h4
    simp at h4
    have hw : winEq xs ys off l.length = c1 := by unfold winEq; rw [h1]; rfl
    rw [h, h3]
    rw [List.range'_succ]
    simp only [List.all_cons, Nat.zero_mul, Nat.add_zero, hw, Nat.zero_add]
    congr 2
    rw [h4]
    have : List.range' 1 len = (List.range' 0 len).map (1 + ·) := by rw [List.map_add_range']
    rw [this, List.all_map]
    apply congrArg (fun f => List.all (List.range' 0 len) f)
    funext i
    simp only [Function.comp]
    congr 1
    rw [Nat.add_mul]; omega

theorem eq_spec : ∀ (n d : Nat) (t : TypeId) (L : Lay) (cx cy : List KV) (xs ys : List Value) (b : Bool), eqTy P n t = true → lay P n t = some L → n ≤ d → VKL P E cx xs → VKL P E cy ys → kindsOk L.ks cx = true → kindsOk L.ks cy = true →
    eqKs cx cy = some b → pureRun P (Op.equalIn d t (mkVal L.agg xs) (mkVal L.agg ys)) = some b
  | 0, _, _, _, _, _, _, _, _, h, _, _, _, _, _, _, _ => by simp [eqTy] at h
  | n + 1, 0, _, _, _, _, _, _, _, _, _, h, _, _, _, _, _ => by omega
  | n + 1, d + 1, t, L, cx, cy, xs, ys, b, h, hL, hd, hx, hy, hkx, hky, he => by
    have hl := kindsOk_length hkx
    have hly := kindsOk_length hky
    have hlx' : xs.length = L.ks.length := by rw [hx.length, hl]
    have hly' : ys.length = L.ks.length := by rw [hy.length, hly]
    have hchild : ∀ s, eqTy P n s = true → ∃ i l, P.info? s = some i ∧ lay P n s = some l ∧ i.size = l.ks.length := by
      intro s hs
      cases n with
      | zero => simp [eqTy] at hs
      | succ n =>
        simp only [eqTy, Bool.and_eq_true] at hs
        have h1 := hs.1
        split at h1
        · rename_i i l e1 e2
          exact ⟨i, l, e1, e2, Nat.eq_of_beq_eq_true h1⟩
        · simp at h1
    have hwin : ∀ (s : TypeId) (l : Lay) (i : TypeInfo) (off : Nat), eqTy P n s = true → lay P n s = some l → P.info? s = some i → i.size = l.ks.length → off + l.ks.length ≤ cx.length →
        kindsOk l.ks ((cx.drop off).take l.ks.length) = true → kindsOk l.ks ((cy.drop off).take l.ks.length) = true →
        (do
          let u ← part s ⟨xs⟩ off
          let v ← part s ⟨ys⟩ off
          Op.equalIn d s u v : Sem Bool) = (do
          let u ← part s ⟨xs⟩ off
          let v ← part s ⟨ys⟩ off
          Op.equalIn d s u v) ∧ pureRun P (part s ⟨xs⟩ off) = some (mkVal l.agg ((xs.drop off).take l.ks.length)) ∧ pureRun P (part s ⟨ys⟩ off) = some (mkVal l.agg ((ys.drop off).take l.ks.length)) ∧
        pureRun P (Op.equalIn d s (mkVal l.agg ((xs.drop off).take l.ks.length)) (mkVal l.agg ((ys.drop off).take l.ks.length))) = some (winEq cx cy off l.ks.length) := by
      intro s l i off h1 h2 h3 h4 h5 h6 h7
      refine ⟨rfl, ?_, ?_, ?_⟩
      · exact pureRun_part h2 h3 h4 (by simp; omega)
      · exact pureRun_part h2 h3 h4 (by simp; omega)
      · exact eq_spec n d s l _ _ _ _ _ h1 h2 (by omega) ((hx.drop off).take _) ((hy.drop off).take _) h6 h7 (eqKs_win he off _)
    simp only [eqTy, Bool.and_eq_true] at h
    have h2 := h.2
    obtain ⟨dd, hu, ha, h1⟩ := lay_agg hL
    rw [hu] at h2
    unfold Op.equalIn
    rw [pureRun_bind (pureRun_underlying hu)]
    simp only [lay, hu] at hL
    have hone : ∀ c, L.ks = [c] → ∃ x y u v, cx = [x] ∧ cy = [y] ∧ xs = [u] ∧ ys = [v] ∧ VK P E x u ∧ VK P E y v ∧ eqK x y = some b ∧ kindOk c x = true ∧ kindOk c y = true := by
      intro c hc
      rw [hc] at hl hly hkx hky
      match cx, cy, hl, hly with
      | [x], [y], _, _ =>
        obtain ⟨u, rfl, h2⟩ := hx.one_inv
        obtain ⟨v, rfl, h3⟩ := hy.one_inv
        refine ⟨x, y, u, v, rfl, rfl, rfl, rfl, h2, h3, ?_, by simpa [kindsOk] using hkx, by simpa [kindsOk] using hky⟩
        simp only [eqKs] at he
        split at he
        · rename_i a c h4 h5
          simp at h5
          subst h5
          simpa [h4] using he
        · simp at he
    cases dd with
    | int k =>
      simp at hL
      subst hL
      obtain ⟨x, y, u, v, rfl, rfl, rfl, rfl, h3, h4, h5, h6, h7⟩ := hone _ rfl
      cases x <;> simp [kindOk] at h6
      cases y <;> simp [kindOk] at h7
      subst h6 h7
      have := h3.int_inv; subst this
      have := h4.int_inv; subst this
      simp [eqK] at h5
      subst h5
      simp [mkVal, pureRun_pure]
    | bool =>
      simp at hL
      subst hL
      obtain ⟨x, y, u, v, rfl, rfl, rfl, rfl, h3, h4, h5, h6, h7⟩ := hone _ rfl
      cases x <;> simp [kindOk] at h6
      cases y <;> simp [kindOk] at h7
      have := h3.bool_inv; subst this
      have := h4.bool_inv; subst this
      simp [eqK] at h5
      subst h5
      simp [mkVal, pureRun_pure]
    | string =>
      simp at hL
      subst hL
      obtain ⟨x, y, u, v, rfl, rfl, rfl, rfl, h3, h4, h5, h6, h7⟩ := hone _ rfl
      cases x <;> simp [kindOk] at h6
      cases y <;> simp [kindOk] at h7
      have := h3.str_inv; subst this
      have := h4.str_inv; subst this
      simp [eqK] at h5
      subst h5
      simp [mkVal, pureRun_pure]
    | struct fs =>
      simp only [Option.map_eq_some_iff] at hL
      obtain ⟨ks, hks, rfl⟩ := hL
      simp only [Bool.and_eq_true, Bool.not_eq_true'] at h2
      obtain ⟨h3, h4⟩ := layS_spec he hks (by simpa using hkx) (by simpa using hky) (by simpa using hl.symm)
      simp only [List.drop_zero] at h4
      rw [he] at h4
      simp only [Option.some.injEq] at h4
      simp only [mkVal, cond_true]
      rw [pureRun_bind (a := P) (by simp [program, pureRun])]
      simp only [h2.1, Bool.false_eq_true, if_false]
      rw [← Array.forIn_toList]
      rw [pureRun_bind (pureRun_forIn (g := fun f => winEq cx cy f.offset (((lay P n f.type).map (·.ks.length)).getD 0)) (stop := (some false, ())) fun f hf => ?_)]
      · rw [h4]
        cases (fs.toList.all fun f => winEq cx cy f.offset (((lay P n f.type).map (·.ks.length)).getD 0)) <;> rfl
      · have h5 := List.all_eq_true.1 h2.2 f hf
        simp only [Bool.and_eq_true, Bool.not_eq_true', beq_eq_false_iff_ne] at h5
        rw [if_pos h5.1]
        obtain ⟨l, h6, h7, h8, h9⟩ := h3 f hf
        obtain ⟨i, l', e1, e2, e3⟩ := hchild _ h5.2
        rw [h6] at e2
        simp at e2
        subst e2
        obtain ⟨_, w1, w2, w3⟩ := hwin _ l i f.offset h5.2 h6 e1 e3 h7 h8 h9
        rw [pureRun_bind w1, pureRun_bind w2, pureRun_bind w3]
        simp only [h6, Option.map_some, Option.getD_some]
        cases winEq cx cy f.offset l.ks.length <;> rfl
    | array len e =>
      simp only [Option.map_eq_some_iff] at hL
      obtain ⟨l, hl0, rfl⟩ := hL
      obtain ⟨h3, h4⟩ := layR_spec (xs := cx) (ys := cy) (l := l.ks) (len := len) (off := 0) (by simpa using he) (by simpa using hkx) (by simpa using hky)
      simp only [List.drop_zero, Nat.zero_add] at h3 h4
      rw [he] at h4
      simp only [Option.some.injEq] at h4
      obtain ⟨i, l', e1, e2, e3⟩ := hchild _ h2
      rw [hl0] at e2
      simp at e2
      subst e2
      simp only [mkVal, cond_true]
      rw [pureRun_bind (pureRun_sizeOf e1)]
      rw [Std.Legacy.Range.forIn_eq_forIn_range']
      rw [show List.range' [:len].start [:len].size [:len].step = List.range' 0 len from by simp [Std.Legacy.Range.size]]
      rw [pureRun_bind (pureRun_forIn (g := fun i => winEq cx cy (i * l.ks.length) l.ks.length) (stop := (some false, ())) fun j hj => ?_)]
      · rw [h4]
        cases ((List.range' 0 len).all fun i => winEq cx cy (i * l.ks.length) l.ks.length) <;> rfl
      · have hj' : j < len := by simpa using hj
        obtain ⟨k1, k2⟩ := h3 j hj'
        have hle : j * l.ks.length + l.ks.length ≤ cx.length := by
          rw [hl]
          simp only [repeatK_length]
          rw [← Nat.succ_mul]
          exact Nat.mul_le_mul_right _ hj'
        obtain ⟨_, w1, w2, w3⟩ := hwin _ l i (j * l.ks.length) h2 hl0 e1 e3 hle k1 k2
        rw [e3]
        rw [pureRun_bind w1, pureRun_bind w2, pureRun_bind w3]
        cases winEq cx cy (j * l.ks.length) l.ks.length <;> rfl
    | _ => simp at h2

/-! ## Numbers, texts and the rest -/
theorem kinds_flat : ∀ {ks : List CK} {cs : List KV} {l : List Value}, kindsOk ks cs = true → VKL P E cs l → (∀ t, CK.slice t ∉ ks) → flatL l = true
  | [], [], l, _, h, _ => by rw [h.nil_inv]; rfl
  | [], _ :: _, _, h, _, _ => by simp [kindsOk] at h
  | _ :: _, [], _, h, _, _ => by simp [kindsOk] at h
  | c :: ks, v :: cs, l, h, hv, hn => by
    obtain ⟨y, ys, rfl, h1, h2⟩ := hv.cons_inv
    simp only [kindsOk, Bool.and_eq_true] at h
    have := kinds_flat h.2 h2 (fun t ht => hn t (by simp [ht]))
    simp only [flatL, this, Bool.and_true]
    cases c with
    | int k => cases v <;> simp [kindOk] at h; have := h1.int_inv; subst this; rfl
    | bool => cases v <;> simp [kindOk] at h; have := h1.bool_inv; subst this; rfl
    | str => cases v <;> simp [kindOk] at h; have := h1.str_inv; subst this; rfl
    | slice t => exact absurd (by simp) (hn t)
    | other => cases v <;> simp [kindOk] at h
theorem eqTy_kinds : ∀ (n : Nat) (t : TypeId) (L : Lay), eqTy P n t = true → lay P n t = some L → ∀ u, CK.slice u ∉ L.ks
  | 0, _, _, h, _, _ => by simp [eqTy] at h
  | n + 1, t, L, h, hL, u => by
    simp only [eqTy, Bool.and_eq_true] at h
    have h2 := h.2
    obtain ⟨dd, hu, _, _⟩ := lay_agg hL
    rw [hu] at h2
    simp only [lay, hu] at hL
    cases dd with
    | int k => simp at hL; subst hL; simp
    | bool => simp at hL; subst hL; simp
    | string => simp at hL; subst hL; simp
    | struct fs =>
      simp only [Option.map_eq_some_iff] at hL
      obtain ⟨ks, hks, rfl⟩ := hL
      simp only [Bool.and_eq_true, List.all_eq_true] at h2
      have key : ∀ (l : List Field) (off : Nat) (ks : List CK), layS (lay P n) l off = some ks → (∀ f ∈ l, eqTy P n f.type = true) → CK.slice u ∉ ks := by
        intro l
        induction l with
        | nil => intro off ks h _; simp [layS] at h; subst h; simp
        | cons f l ih =>
          intro off ks h hf
          simp only [layS] at h
          obtain ⟨_, h⟩ := cond_some h
          obtain ⟨L', h5, h⟩ := Option.bind_eq_some_iff.1 h
          obtain ⟨r, h6, rfl⟩ := Option.map_eq_some_iff.1 h
          rw [List.mem_append]
          rintro (h7 | h7)
          · exact eqTy_kinds n _ _ (hf f (by simp)) h5 u h7
          · exact ih _ _ h6 (fun g hg => hf g (by simp [hg])) h7
      exact key _ _ _ hks fun f hf => (h2.2 f hf).2
    | array len e =>
      simp only [Option.map_eq_some_iff] at hL
      obtain ⟨l, hl0, rfl⟩ := hL
      have := eqTy_kinds n e l h2 hl0 u
      have key : ∀ m, CK.slice u ∉ repeatK l.ks m := by
        intro m
        induction m with
        | zero => simp [repeatK]
        | succ m ih => simp only [repeatK, List.mem_append, not_or]; exact ⟨this, ih⟩
      exact key _
    | _ => simp at h2
theorem layF_some {t : TypeId} (h : eqTy P 12 t = true) : lay P 12 t = some (layF P t) := by
  simp only [eqTy, Bool.and_eq_true] at h
  have h1 := h.1
  unfold layF
  split at h1
  · rename_i i l e1 e2; rw [e2]; rfl
  · simp at h1
theorem simOpEq {t : TypeId} {x y : KV} {b : Bool} {lit : Bool} {u v : Value} (hx : VK P E x u) (hy : VK P E y v) (h : opEq P t x y = some b) : eqFull P t lit u v = some b := by
  unfold opEq at h
  split at h
  · rename_i xs ys
    obtain ⟨hc, h⟩ := cond_some h
    simp only [Bool.and_eq_true, Bool.not_eq_true'] at hc
    obtain ⟨⟨⟨⟨ha, h1⟩, h2⟩, h3⟩, h4⟩ := hc
    obtain ⟨l, rfl, hl⟩ := hx.agg_inv
    obtain ⟨m, rfl, hm⟩ := hy.agg_inv
    have hL := layF_some h1
    have hns := eqTy_kinds 12 t _ h1 hL
    have hfx : flat (.agg ⟨l⟩) = true := kinds_flat h3 hl hns
    have hfy : flat (.agg ⟨m⟩) = true := kinds_flat h4 hm hns
    have hs := eq_spec 12 Op.maxDepth t (layF P t) xs ys l m b h1 hL (by unfold Op.maxDepth; omega) hl hm h3 h4 h
    rw [ha] at hs
    have hs : pureRun P (Op.equal t (.agg ⟨l⟩) (.agg ⟨m⟩)) = some b := hs
    unfold eqFull
    simp only [eqable, eqSure, h2, Bool.not_false, Bool.and_self, cond_true]
    unfold eqV
    split <;> simp_all
  · rename_i a c
    split at h
    · rename_i hu
      simp at h
      subst h
      have := hx.bool_inv; subst this
      have := hy.bool_inv; subst this
      have : pureRun P (Op.equal t (.bool a) (.bool c)) = some (a == c) := by
        unfold Op.equal Op.maxDepth Op.equalIn
        rw [pureRun_bind (pureRun_underlying hu)]
        rfl
      unfold eqFull
      simp only [eqable, eqSure, Bool.and_self, cond_true]
      unfold eqV
      split <;> simp_all [flat]
    · simp at h
  · split at h
    · rename_i e hu
      simp at h
      subst h
      have := hx.nilsl_inv; subst this
      have := hy.nilsl_inv; subst this
      simp [eqFull, eqable, eqSure, eqV, hu]
    · simp at h
  · rename_i T m n es acc
    split at h
    · rename_i e hu
      cases hn : Nat.beq n 0 with
      | true => rw [hn] at h; simp at h
      | false =>
        rw [hn] at h
        simp at h
        subst h
        have := hy.nilsl_inv; subst this
        obtain ⟨_, es', _, a, cap, rfl, _, hb, _⟩ := hx.ts_inv
        rcases hb with ⟨_, h0⟩ | ⟨b, off, r, rfl, _⟩
        · subst h0; simp at hn
        · simp [eqFull, eqable, eqSure, eqV, hu]
    · simp at h
  · rename_i T m n es acc
    split at h
    · rename_i e hu
      cases hn : Nat.beq n 0 with
      | true => rw [hn] at h; simp at h
      | false =>
        rw [hn] at h
        simp at h
        subst h
        have := hx.nilsl_inv; subst this
        obtain ⟨_, es', _, a, cap, rfl, _, hb, _⟩ := hy.ts_inv
        rcases hb with ⟨_, h0⟩ | ⟨b, off, r, rfl, _⟩
        · subst h0; simp at hn
        · simp [eqFull, eqable, eqSure, eqV, hu]
    · simp at h
  · split at h
    · rename_i e hu
      simp at h
      subst h
      have := hx.nilp_inv; subst this
      have := hy.nilp_inv; subst this
      simp [eqFull, eqable, eqSure, eqV, hu]
    · simp at h
  · split at h
    · rename_i e hu
      simp at h
      subst h
      have := hy.nilp_inv; subst this
      obtain ⟨x, _, rfl⟩ := hx.ptr_inv
      simp [eqFull, eqable, eqSure, eqV, hu]
    · simp at h
  · split at h
    · rename_i e hu
      simp at h
      subst h
      have := hx.nilp_inv; subst this
      obtain ⟨x, _, rfl⟩ := hy.ptr_inv
      simp [eqFull, eqable, eqSure, eqV, hu]
    · simp at h
  · simp at h
theorem simBin {op : BinOp} {t : TypeId} {lit : Bool} : SimP P (kBin P op t) (fBin P op t lit) := by
  intro E vs us w h hg
  unfold kBin at hg
  split at hg
  · rename_i j a k b
    obtain ⟨x, y, rfl, h1, h2⟩ := h.two_inv
    have := h1.int_inv; subst this
    have := h2.int_inv; subst this
    cases hs : isSh op with
    | true =>
      rw [hs, cond_true] at hg
      cases op <;> simp [isSh] at hs
      · obtain ⟨hc, rfl⟩ := Gives.chk hg
        simp only [Bool.not_eq_true', decide_eq_false_iff_not] at hc
        exact ⟨_, by simp [fBin, binOp, Op.shift, hc, pureRun_pure], .mkInt⟩
      · obtain ⟨hc, rfl⟩ := Gives.chk hg
        simp only [Bool.not_eq_true', decide_eq_false_iff_not] at hc
        exact ⟨_, by simp [fBin, binOp, Op.shift, hc, pureRun_pure], .mkInt⟩
    | false =>
      rw [hs, cond_false] at hg
      obtain ⟨hjk, hz⟩ := hg.cond
      clear hg
      simp only [decide_eq_true_eq] at hjk
      subst hjk
      cases op with
      | shl => simp [isSh] at hs
      | shr => simp [isSh] at hs
      | quo =>
        obtain ⟨hc, rfl⟩ := Gives.chk hz
        simp only [Bool.not_eq_true', decide_eq_false_iff_not] at hc
        exact ⟨_, by simp [fBin, binOp, Op.intDiv, hc, pureRun_pure], .mkInt⟩
      | rem =>
        obtain ⟨hc, rfl⟩ := Gives.chk hz
        simp only [Bool.not_eq_true', decide_eq_false_iff_not] at hc
        exact ⟨_, by simp [fBin, binOp, Op.intDiv, hc, pureRun_pure], .mkInt⟩
      | add => have hz : KV.int _ _ = w := hz; subst hz; exact ⟨_, by simp [fBin, binOp, Op.intArith, pureRun_pure], .mkInt⟩
      | sub => have hz : KV.int _ _ = w := hz; subst hz; exact ⟨_, by simp [fBin, binOp, Op.intArith, pureRun_pure], .mkInt⟩
      | mul => have hz : KV.int _ _ = w := hz; subst hz; exact ⟨_, by simp [fBin, binOp, Op.intArith, pureRun_pure], .mkInt⟩
      | and => have hz : KV.int _ _ = w := hz; subst hz; exact ⟨_, by simp [fBin, binOp, Op.intBits, pureRun_pure], .mkInt⟩
      | or => have hz : KV.int _ _ = w := hz; subst hz; exact ⟨_, by simp [fBin, binOp, Op.intBits, pureRun_pure], .mkInt⟩
      | xor => have hz : KV.int _ _ = w := hz; subst hz; exact ⟨_, by simp [fBin, binOp, Op.intBits, pureRun_pure], .mkInt⟩
      | andNot => have hz : KV.int _ _ = w := hz; subst hz; exact ⟨_, by simp [fBin, binOp, Op.intBits, pureRun_pure], .mkInt⟩
      | eql => have hz : KV.bool _ = w := hz; subst hz; exact ⟨_, by simp [fBin, binOp, Op.intCmp, pureRun_pure], .mkBool⟩
      | neq => have hz : KV.bool _ = w := hz; subst hz; exact ⟨_, by simp [fBin, binOp, Op.intCmp, pureRun_pure], .mkBool⟩
      | lss => have hz : KV.bool _ = w := hz; subst hz; exact ⟨_, by simp [fBin, binOp, Op.intCmp, pureRun_pure], .mkBool⟩
      | leq => have hz : KV.bool _ = w := hz; subst hz; exact ⟨_, by simp [fBin, binOp, Op.intCmp, pureRun_pure], .mkBool⟩
      | gtr => have hz : KV.bool _ = w := hz; subst hz; exact ⟨_, by simp [fBin, binOp, Op.intCmp, pureRun_pure], .mkBool⟩
      | geq => have hz : KV.bool _ = w := hz; subst hz; exact ⟨_, by simp [fBin, binOp, Op.intCmp, pureRun_pure], .mkBool⟩
  · rename_i a b
    obtain ⟨x, y, rfl, h1, h2⟩ := h.two_inv
    have := h1.str_inv; subst this
    have := h2.str_inv; subst this
    split at hg
    · have hg : KV.bool _ = w := hg; subst hg; exact ⟨_, by simp [fBin, binOp, Op.stringOp, pureRun_pure], .mkBool⟩
    · have hg : KV.bool _ = w := hg; subst hg; exact ⟨_, by simp [fBin, binOp, Op.stringOp, pureRun_pure], .mkBool⟩
    · have hg : KV.bool _ = w := hg; subst hg; exact ⟨_, by simp [fBin, binOp, Op.stringOp, pureRun_pure], .mkBool⟩
    · obtain ⟨hc, rfl⟩ := Gives.chk hg
      have hc := Nat.le_of_ble_eq_true hc
      have hn : ¬ (((a.size + b.size : Nat) : Int) > IntKind.i64.max) := by
        have : IntKind.i64.max = 9223372036854775807 := by decide
        rw [this]; omega
      refine ⟨.string (a ++ b), ?_, .mkStr⟩
      simp only [fBin, binOp, Op.stringOp]
      rw [if_neg hn]
      rfl
    · exact hg.elim
  · rename_i x y hn1 hn2
    obtain ⟨u, v, rfl, h1, h2⟩ := h.two_inv
    split at hg
    · rename_i b he
      have hg : KV.bool b = w := hg
      subst hg
      have := simOpEq (lit := lit) h1 h2 he
      refine ⟨.bool b, ?_, .mkBool⟩
      unfold fBin
      split
      · rename_i e; simp at e; obtain ⟨rfl, rfl⟩ := e; simp [eqFull, eqable] at this
      · rename_i e; simp at e; obtain ⟨rfl, rfl⟩ := e; simp [eqFull, eqable] at this
      · rename_i e; simp at e; obtain ⟨rfl, rfl⟩ := e; simp [this]
      · rename_i e; exact absurd rfl (e _ _)
    · rename_i b he
      have hg : KV.bool (!b) = w := hg
      subst hg
      have := simOpEq (lit := lit) h1 h2 he
      refine ⟨.bool !b, ?_, .mkBool⟩
      unfold fBin
      split
      · rename_i e; simp at e; obtain ⟨rfl, rfl⟩ := e; simp [eqFull, eqable] at this
      · rename_i e; simp at e; obtain ⟨rfl, rfl⟩ := e; simp [eqFull, eqable] at this
      · rename_i e; simp at e; obtain ⟨rfl, rfl⟩ := e; simp [this]
      · rename_i e; exact absurd rfl (e _ _)
    · exact hg.elim
  · exact hg.elim
theorem simUn {op : UnOp} : SimP P (kUn op) (fUn P op) := by
  intro E vs us w h hg
  unfold kUn at hg
  split at hg
  · rename_i b
    obtain ⟨y, rfl, h1⟩ := h.one_inv
    have := h1.bool_inv; subst this
    split at hg
    · have hg : KV.bool (!b) = w := hg
      subst hg
      exact ⟨_, by simp [fUn, Op.unary, pureRun_pure], .mkBool⟩
    · exact hg.elim
  · rename_i k n
    obtain ⟨y, rfl, h1⟩ := h.one_inv
    have := h1.int_inv; subst this
    split at hg
    · have hg : KV.int _ _ = w := hg
      subst hg
      exact ⟨.int k (k.wrap (0 - n)), by simp [fUn, Op.unary, Op.intArith, pureRun_pure], .mkInt⟩
    · have hg : KV.int _ _ = w := hg
      subst hg
      exact ⟨_, by simp [fUn, Op.unary, Op.intBits, pureRun_pure], .mkInt⟩
    · exact hg.elim
  · exact hg.elim
theorem simMinMax {mx : Bool} : SimP P (kMinMax mx) (fPure P fun vs => cond mx (Builtin.max_ #[] 0 ⟨vs⟩) (Builtin.min_ #[] 0 ⟨vs⟩)) := by
  intro E vs us w h hg
  unfold kMinMax at hg
  split at hg
  · rename_i j a k b
    obtain ⟨x, y, rfl, h1, h2⟩ := h.two_inv
    have := h1.int_inv; subst this
    have := h2.int_inv; subst this
    obtain ⟨hjk, hz⟩ := hg.cond
    clear hg
    simp only [decide_eq_true_eq] at hjk
    subst hjk
    have hz : KV.int _ _ = w := hz
    subst hz
    refine ⟨_, ?_, .mkInt⟩
    cases mx
    · simp [fPure, flatL, flat, Builtin.min_, Builtin.min2, pureRun_pure]
      omega
    · simp [fPure, flatL, flat, Builtin.max_, Builtin.max2, pureRun_pure]
      omega
  · rename_i j a k b l c
    obtain ⟨x, y, z, rfl, h1, h2, h3⟩ := h.three_inv
    have := h1.int_inv; subst this
    have := h2.int_inv; subst this
    have := h3.int_inv; subst this
    obtain ⟨hjk, hz⟩ := hg.cond
    clear hg
    simp only [Bool.and_eq_true, decide_eq_true_eq] at hjk
    obtain ⟨rfl, rfl⟩ := hjk
    have hz : KV.int _ _ = w := hz
    subst hz
    refine ⟨_, ?_, .mkInt⟩
    cases mx
    · show some (Value.int j (if c < (if b < a then b else a) then c else (if b < a then b else a))) = some (Value.int j (min (min a b) c))
      congr 2
      split <;> split at * <;> omega
    · show some (Value.int j (if c > (if b > a then b else a) then c else (if b > a then b else a))) = some (Value.int j (max (max a b) c))
      congr 2
      split <;> split at * <;> omega
  · exact hg.elim
end Go.K
