/-
  The abstract machine and the model: what an abstract value, an abstract store say of a world.
-/
import Derived.Test.YtcfijkmjblcenaaGreatDoorAbsCore
import Derived.Laws.IdiomCopy
namespace Go.Abs
open Go

/- Where an abstract block lies: the concrete block, the place of its first cell, how many cells the concrete row has, how many cells an element has. -/
structure Loc where
  cb : Nat
  coff : Nat
  csize : Nat
  esz : Nat
abbrev Ren := Nat → Option Loc

def Ren.le (ρ ρ' : Ren) : Prop := ∀ b l, ρ b = some l → ρ' b = some l
theorem Ren.le_refl (ρ : Ren) : ρ.le ρ := fun _ _ h => h
theorem Ren.le_trans {a b c : Ren} (h : a.le b) (k : b.le c) : a.le c := fun x l e => k x l (h x l e)

/-- a function; a loop over a function is found through the renaming -/
def FnR (ρ : Ren) (fn fn' : Fn) : Prop :=
  match fn with
  | .yield r => ∃ l, ρ r = some l ∧ fn' = .yield l.cb
  | fn => fn' = fn
mutual
def VR (ρ : Ren) : Value → Value → Prop
  | .bool b, v => v = .bool b
  | .int k n, v => v = .int k n
  | .float k x, v => v = .float k x
  | .complex k x y, v => v = .complex k x y
  | .string s, v => v = .string s
  | .pointer none, v => v = .pointer none
  | .pointer (some a), v => a.spot = none ∧ ∃ l, ρ a.block = some l ∧ v = .pointer (some ⟨l.cb, l.coff + a.off, none⟩)
  | .slice none n c, v => v = .slice none n c
  | .slice (some a) n c, v => a.spot = none ∧ n ≤ c ∧ ∃ l a' c', ρ a.block = some l ∧ c ≤ c' ∧ (c' ≠ 0 → a' = ⟨l.cb, l.coff + a.off, none⟩) ∧ l.coff + a.off + c' * l.esz ≤ l.csize ∧ v = .slice (some a') n c'
  | .map none, v => v = .map none
  | .map (some r), v => ∃ l, ρ r = some l ∧ v = .map (some l.cb)
  | .chan _, _ => True
  | .func fn f c, v => ∃ f' c', VRA ρ f f' ∧ VRA ρ c c' ∧ ∃ fn', FnR ρ fn fn' ∧ v = .func fn' f' c'
  | .nilFunc, v => v = .nilFunc
  | .iface t x, v => ∃ x', VR ρ x x' ∧ v = .iface t x'
  | .nilIface, v => v = .nilIface
  | .agg cs, v => ∃ cs', VRA ρ cs cs' ∧ v = .agg cs'
  | .tuple cs, v => ∃ cs', VRA ρ cs cs' ∧ v = .tuple cs'
def VRA (ρ : Ren) : Array Value → Array Value → Prop
  | ⟨l⟩, a => VRL ρ l a.toList
def VRL (ρ : Ren) : List Value → List Value → Prop
  | [], l => l = []
  | x :: xs, l => ∃ y ys, l = y :: ys ∧ VR ρ x y ∧ VRL ρ xs ys
end

theorem FnR.mono {ρ ρ' : Ren} (h : ρ.le ρ') {fn fn' : Fn} (k : FnR ρ fn fn') : FnR ρ' fn fn' := by
  cases fn with
  | yield r => obtain ⟨l, h1, h2⟩ := k; exact ⟨l, h _ _ h1, h2⟩
  | _ => exact k
theorem FnR.back {ρ ρ' : Ren} (h : ρ.le ρ') {fn u fn' : Fn} (hu : FnR ρ fn u) (k : FnR ρ' fn fn') : FnR ρ fn fn' := by
  cases fn with
  | yield r =>
    obtain ⟨l, h1, _⟩ := hu
    obtain ⟨l', h2, h3⟩ := k
    rw [h _ _ h1] at h2
    simp at h2; subst h2
    exact ⟨l, h1, h3⟩
  | _ => exact k
theorem VRA_iff {ρ : Ren} {a a' : Array Value} : VRA ρ a a' ↔ VRL ρ a.toList a'.toList := by cases a; simp [VRA]

mutual
theorem VR.mono {ρ ρ' : Ren} (h : ρ.le ρ') : ∀ {v v' : Value}, VR ρ v v' → VR ρ' v v'
  | .bool b, v, hv => by simpa [VR] using hv
  | .int k n, v, hv => by simpa [VR] using hv
  | .float k x, v, hv => by simpa [VR] using hv
  | .complex k x y, v, hv => by simpa [VR] using hv
  | .string s, v, hv => by simpa [VR] using hv
  | .pointer none, v, hv => by simpa [VR] using hv
  | .pointer (some a), v, hv => by
    simp only [VR] at hv ⊢
    obtain ⟨h1, l, h2, h3⟩ := hv
    exact ⟨h1, l, h _ _ h2, h3⟩
  | .slice none n c, v, hv => by simpa [VR] using hv
  | .slice (some a) n c, v, hv => by
    simp only [VR] at hv ⊢
    obtain ⟨h1, h0, l, a', c', h2, h3⟩ := hv
    exact ⟨h1, h0, l, a', c', h _ _ h2, h3⟩
  | .map none, v, hv => by simpa [VR] using hv
  | .map (some r), v, hv => by
    simp only [VR] at hv ⊢
    obtain ⟨l, h2, h3⟩ := hv
    exact ⟨l, h _ _ h2, h3⟩
  | .chan _, _, _ => by simp [VR]
  | .func fn f c, v, hv => by
    simp only [VR] at hv ⊢
    obtain ⟨f', c', h2, h3, fn', h4, h5⟩ := hv
    exact ⟨f', c', VRA.mono h h2, VRA.mono h h3, fn', h4.mono h, h5⟩
  | .nilFunc, v, hv => by simpa [VR] using hv
  | .iface t x, v, hv => by
    simp only [VR] at hv ⊢
    obtain ⟨x', h2, h3⟩ := hv
    exact ⟨x', VR.mono h h2, h3⟩
  | .nilIface, v, hv => by simpa [VR] using hv
  | .agg cs, v, hv => by
    simp only [VR] at hv ⊢
    obtain ⟨x', h2, h3⟩ := hv
    exact ⟨x', VRA.mono h h2, h3⟩
  | .tuple cs, v, hv => by
    simp only [VR] at hv ⊢
    obtain ⟨x', h2, h3⟩ := hv
    exact ⟨x', VRA.mono h h2, h3⟩
theorem VRA.mono {ρ ρ' : Ren} (h : ρ.le ρ') : ∀ {v v' : Array Value}, VRA ρ v v' → VRA ρ' v v'
  | ⟨l⟩, a, hv => by simp only [VRA] at hv ⊢; exact VRL.mono h hv
theorem VRL.mono {ρ ρ' : Ren} (h : ρ.le ρ') : ∀ {v v' : List Value}, VRL ρ v v' → VRL ρ' v v'
  | [], l, hv => by simpa [VRL] using hv
  | x :: xs, l, hv => by
    simp only [VRL] at hv ⊢
    obtain ⟨y, ys, e, h1, h2⟩ := hv
    exact ⟨y, ys, e, VR.mono h h1, VRL.mono h h2⟩
end

/- what is told under more is told under less, where the value names nothing more -/
mutual
theorem VR.back {ρ ρ' : Ren} (h : ρ.le ρ') : ∀ {v u v' : Value}, VR ρ v u → VR ρ' v v' → VR ρ v v'
  | .bool b, _, v, _, hv => by simpa [VR] using hv
  | .int k n, _, v, _, hv => by simpa [VR] using hv
  | .float k x, _, v, _, hv => by simpa [VR] using hv
  | .complex k x y, _, v, _, hv => by simpa [VR] using hv
  | .string s, _, v, _, hv => by simpa [VR] using hv
  | .pointer none, _, v, _, hv => by simpa [VR] using hv
  | .pointer (some a), _, v, hu, hv => by
    simp only [VR] at hu hv ⊢
    obtain ⟨_, l, h1, _⟩ := hu
    obtain ⟨h2, l', h3, h4⟩ := hv
    rw [h _ _ h1] at h3
    simp at h3; subst h3
    exact ⟨h2, l, h1, h4⟩
  | .slice none n c, _, v, _, hv => by simpa [VR] using hv
  | .slice (some a) n c, _, v, hu, hv => by
    simp only [VR] at hu hv ⊢
    obtain ⟨_, _, l, _, _, h1, _⟩ := hu
    obtain ⟨h2, h3, l', a', c', h4, h5⟩ := hv
    rw [h _ _ h1] at h4
    simp at h4; subst h4
    exact ⟨h2, h3, l, a', c', h1, h5⟩
  | .map none, _, v, _, hv => by simpa [VR] using hv
  | .map (some r), _, v, hu, hv => by
    simp only [VR] at hu hv ⊢
    obtain ⟨l, h1, _⟩ := hu
    obtain ⟨l', h3, h4⟩ := hv
    rw [h _ _ h1] at h3
    simp at h3; subst h3
    exact ⟨l, h1, h4⟩
  | .chan _, _, _, _, _ => by simp [VR]
  | .func fn f c, _, v, hu, hv => by
    simp only [VR] at hu hv ⊢
    obtain ⟨_, _, a1, a2, _, a3, _⟩ := hu
    obtain ⟨f', c', h2, h3, fn', h4, h5⟩ := hv
    exact ⟨f', c', VRA.back h a1 h2, VRA.back h a2 h3, fn', FnR.back h a3 h4, h5⟩
  | .nilFunc, _, v, _, hv => by simpa [VR] using hv
  | .iface t x, _, v, hu, hv => by
    simp only [VR] at hu hv ⊢
    obtain ⟨_, a1, _⟩ := hu
    obtain ⟨x', h2, h3⟩ := hv
    exact ⟨x', VR.back h a1 h2, h3⟩
  | .nilIface, _, v, _, hv => by simpa [VR] using hv
  | .agg cs, _, v, hu, hv => by
    simp only [VR] at hu hv ⊢
    obtain ⟨_, a1, _⟩ := hu
    obtain ⟨x', h2, h3⟩ := hv
    exact ⟨x', VRA.back h a1 h2, h3⟩
  | .tuple cs, _, v, hu, hv => by
    simp only [VR] at hu hv ⊢
    obtain ⟨_, a1, _⟩ := hu
    obtain ⟨x', h2, h3⟩ := hv
    exact ⟨x', VRA.back h a1 h2, h3⟩
theorem VRA.back {ρ ρ' : Ren} (h : ρ.le ρ') : ∀ {v u v' : Array Value}, VRA ρ v u → VRA ρ' v v' → VRA ρ v v'
  | ⟨l⟩, _, a, hu, hv => by simp only [VRA] at hu hv ⊢; exact VRL.back h hu hv
theorem VRL.back {ρ ρ' : Ren} (h : ρ.le ρ') : ∀ {v u v' : List Value}, VRL ρ v u → VRL ρ' v v' → VRL ρ v v'
  | [], _, l, _, hv => by simpa [VRL] using hv
  | x :: xs, _, l, hu, hv => by
    simp only [VRL] at hu hv ⊢
    obtain ⟨_, _, _, a1, a2⟩ := hu
    obtain ⟨y, ys, e, h1, h2⟩ := hv
    exact ⟨y, ys, e, VR.back h a1 h1, VRL.back h a2 h2⟩
end

/- what holds no address is what it is -/
mutual
theorem VR.flat_eq {ρ : Ren} : ∀ {v v' : Value}, flat v = true → VR ρ v v' → v' = v
  | .bool b, v, _, hv => by simpa [VR] using hv
  | .int k n, v, _, hv => by simpa [VR] using hv
  | .float k x, v, _, hv => by simpa [VR] using hv
  | .complex k x y, v, _, hv => by simpa [VR] using hv
  | .string s, v, _, hv => by simpa [VR] using hv
  | .pointer none, v, _, hv => by simpa [VR] using hv
  | .pointer (some a), v, hf, _ => by simp [flat] at hf
  | .slice none n c, v, _, hv => by simpa [VR] using hv
  | .slice (some a) n c, v, hf, _ => by simp [flat] at hf
  | .map none, v, _, hv => by simpa [VR] using hv
  | .map (some r), v, hf, _ => by simp [flat] at hf
  | .chan _, _, hf, _ => by simp [flat] at hf
  | .func fn f c, v, hf, _ => by simp [flat] at hf
  | .nilFunc, v, _, hv => by simpa [VR] using hv
  | .iface t x, v, hf, hv => by
    simp only [VR] at hv
    obtain ⟨x', h2, h3⟩ := hv
    rw [h3, VR.flat_eq (v := x) (by simpa [flat] using hf) h2]
  | .nilIface, v, _, hv => by simpa [VR] using hv
  | .agg cs, v, hf, hv => by
    simp only [VR] at hv
    obtain ⟨x', h2, h3⟩ := hv
    rw [h3, VRA.flat_eq (v := cs) (by simpa [flat] using hf) h2]
  | .tuple cs, v, hf, hv => by
    simp only [VR] at hv
    obtain ⟨x', h2, h3⟩ := hv
    rw [h3, VRA.flat_eq (v := cs) (by simpa [flat] using hf) h2]
theorem VRA.flat_eq {ρ : Ren} : ∀ {v v' : Array Value}, flatA v = true → VRA ρ v v' → v' = v
  | ⟨l⟩, ⟨a⟩, hf, hv => by simp only [VRA] at hv; rw [VRL.flat_eq (v := l) (by simpa [flatA] using hf) hv]
theorem VRL.flat_eq {ρ : Ren} : ∀ {v v' : List Value}, flatL v = true → VRL ρ v v' → v' = v
  | [], l, _, hv => by simpa [VRL] using hv
  | x :: xs, l, hf, hv => by
    simp only [VRL] at hv
    obtain ⟨y, ys, e, h1, h2⟩ := hv
    simp only [flatL, Bool.and_eq_true] at hf
    rw [e, VR.flat_eq hf.1 h1, VRL.flat_eq hf.2 h2]
end
mutual
theorem VR.of_flat {ρ : Ren} : ∀ {v : Value}, flat v = true → VR ρ v v
  | .bool b, _ => by simp [VR]
  | .int k n, _ => by simp [VR]
  | .float k x, _ => by simp [VR]
  | .complex k x y, _ => by simp [VR]
  | .string s, _ => by simp [VR]
  | .pointer none, _ => by simp [VR]
  | .pointer (some a), hf => by simp [flat] at hf
  | .slice none n c, _ => by simp [VR]
  | .slice (some a) n c, hf => by simp [flat] at hf
  | .map none, _ => by simp [VR]
  | .map (some r), hf => by simp [flat] at hf
  | .chan _, hf => by simp [flat] at hf
  | .func fn f c, hf => by simp [flat] at hf
  | .nilFunc, _ => by simp [VR]
  | .iface t x, hf => by
    simp only [VR]
    exact ⟨x, VR.of_flat (v := x) (by simpa [flat] using hf), rfl⟩
  | .nilIface, _ => by simp [VR]
  | .agg cs, hf => by
    simp only [VR]
    exact ⟨cs, VRA.of_flat (v := cs) (by simpa [flat] using hf), rfl⟩
  | .tuple cs, hf => by
    simp only [VR]
    exact ⟨cs, VRA.of_flat (v := cs) (by simpa [flat] using hf), rfl⟩
theorem VRA.of_flat {ρ : Ren} : ∀ {v : Array Value}, flatA v = true → VRA ρ v v
  | ⟨l⟩, hf => by simp only [VRA]; exact VRL.of_flat (v := l) (by simpa [flatA] using hf)
theorem VRL.of_flat {ρ : Ren} : ∀ {v : List Value}, flatL v = true → VRL ρ v v
  | [], _ => by simp [VRL]
  | x :: xs, hf => by
    simp only [flatL, Bool.and_eq_true] at hf
    simp only [VRL]
    exact ⟨x, xs, rfl, VR.of_flat hf.1, VRL.of_flat hf.2⟩
end

/-! ## Lists of related values -/
theorem VRL.nil {ρ : Ren} : VRL ρ [] [] := by simp [VRL]
theorem VRL.cons {ρ : Ren} {x y : Value} {xs ys : List Value} (h : VR ρ x y) (k : VRL ρ xs ys) : VRL ρ (x :: xs) (y :: ys) := by
  simp only [VRL]; exact ⟨y, ys, rfl, h, k⟩
theorem VRL.nil_inv {ρ : Ren} {l : List Value} (h : VRL ρ [] l) : l = [] := by simpa [VRL] using h
theorem VRL.cons_inv {ρ : Ren} {x : Value} {xs l : List Value} (h : VRL ρ (x :: xs) l) : ∃ y ys, l = y :: ys ∧ VR ρ x y ∧ VRL ρ xs ys := by simpa [VRL] using h
theorem VRL.length {ρ : Ren} : ∀ {l l' : List Value}, VRL ρ l l' → l'.length = l.length
  | [], l', h => by rw [h.nil_inv]
  | x :: xs, l', h => by
    obtain ⟨y, ys, rfl, _, k⟩ := h.cons_inv
    simp [VRL.length k]
theorem VRL.get {ρ : Ren} : ∀ {l l' : List Value} {i : Nat} {v : Value}, VRL ρ l l' → l[i]? = some v → ∃ v', l'[i]? = some v' ∧ VR ρ v v'
  | [], _, _, _, _, e => by simp at e
  | x :: xs, l', i, v, h, e => by
    obtain ⟨y, ys, rfl, hxy, k⟩ := h.cons_inv
    cases i with
    | zero => simp at e; subst e; exact ⟨y, rfl, hxy⟩
    | succ i => simp at e; simpa using VRL.get k e
theorem VRL.of_get {ρ : Ren} : ∀ {l l' : List Value}, l'.length = l.length → (∀ (i : Nat) (v v' : Value), l[i]? = some v → l'[i]? = some v' → VR ρ v v') → VRL ρ l l'
  | [], l', h, _ => by cases l' <;> simp_all [VRL.nil]
  | x :: xs, l', h, k => by
    cases l' with
    | nil => simp at h
    | cons y ys => exact .cons (k 0 x y rfl rfl) (VRL.of_get (by simpa using h) fun i v v' e e' => k (i + 1) v v' (by simpa using e) (by simpa using e'))
theorem VRL.append {ρ : Ren} : ∀ {a a' b b' : List Value}, VRL ρ a a' → VRL ρ b b' → VRL ρ (a ++ b) (a' ++ b')
  | [], a', b, b', h, k => by rw [h.nil_inv]; exact k
  | x :: xs, a', b, b', h, k => by
    obtain ⟨y, ys, rfl, hxy, m⟩ := h.cons_inv
    exact .cons hxy (VRL.append m k)
theorem takeN_eq : ∀ {n : Nat} {l r : List Value}, takeN n l = some r → r = l.take n ∧ n ≤ l.length
  | 0, l, r, h => by simp [takeN_zero] at h; subst h; simp
  | n + 1, [], r, h => by simp [takeN_nil] at h
  | n + 1, x :: xs, r, h => by
    simp only [takeN_cons, Option.map_eq_some_iff] at h
    obtain ⟨q, hq, rfl⟩ := h
    obtain ⟨rfl, hn⟩ := takeN_eq hq
    exact ⟨by simp, by simpa using hn⟩
theorem dropN_eq : ∀ (n : Nat) (l : List Value), dropN n l = l.drop n
  | 0, l => by simp [dropN_zero]
  | n + 1, [] => by simp [dropN_nil]
  | n + 1, x :: xs => by simp [dropN_cons, dropN_eq n xs]
theorem VRL.take {ρ : Ren} : ∀ (n : Nat) {l l' : List Value}, VRL ρ l l' → VRL ρ (l.take n) (l'.take n)
  | 0, _, _, _ => by simp [VRL.nil]
  | n + 1, [], l', h => by rw [h.nil_inv]; simp [VRL.nil]
  | n + 1, x :: xs, l', h => by
    obtain ⟨y, ys, rfl, hxy, k⟩ := h.cons_inv
    simpa using VRL.cons hxy (VRL.take n k)
theorem VRL.drop {ρ : Ren} : ∀ (n : Nat) {l l' : List Value}, VRL ρ l l' → VRL ρ (l.drop n) (l'.drop n)
  | 0, _, _, h => by simpa using h
  | n + 1, [], l', h => by rw [h.nil_inv]; simp [VRL.nil]
  | n + 1, x :: xs, l', h => by
    obtain ⟨y, ys, rfl, _, k⟩ := h.cons_inv
    simpa using VRL.drop n k
theorem writeN_spec : ∀ {n : Nat} {l vs r : List Value}, writeN n l vs = some r →
    r.length = l.length ∧ (vs ≠ [] → n + vs.length ≤ l.length) ∧ ∀ (i : Nat), r[i]? = if n ≤ i ∧ i < n + vs.length then vs[i - n]? else l[i]?
  | 0, l, [], r, h => by simp [writeN_z0] at h; subst h; simp
  | 0, [], _ :: _, r, h => by simp [writeN_z1] at h
  | 0, x :: l, v :: vs, r, h => by
    simp only [writeN_z2, Option.map_eq_some_iff] at h
    obtain ⟨q, hq, rfl⟩ := h
    obtain ⟨h1, h2, h3⟩ := writeN_spec hq
    refine ⟨by simp [h1], ?_, fun i => ?_⟩
    · intro _
      cases vs with
      | nil => simp
      | cons u us => have := h2 (by simp); simp at this ⊢; omega
    · cases i with
      | zero => simp
      | succ i => simp [h3 i]
  | n + 1, [], [], r, h => by simp [writeN_s0] at h; subst h; simp
  | n + 1, [], _ :: _, r, h => by simp [writeN_s1] at h
  | n + 1, x :: l, vs, r, h => by
    simp only [writeN_s2, Option.map_eq_some_iff] at h
    obtain ⟨q, hq, rfl⟩ := h
    obtain ⟨h1, h2, h3⟩ := writeN_spec hq
    refine ⟨by simp [h1], ?_, fun i => ?_⟩
    · intro hne
      have := h2 hne
      simp at this ⊢
      omega
    · cases i with
      | zero => simp
      | succ i =>
        simp only [List.getElem?_cons_succ, h3 i]
        by_cases hc : n ≤ i ∧ i < n + vs.length
        · rw [if_pos hc, if_pos (by omega), show i + 1 - (n + 1) = i - n by omega]
        · rw [if_neg hc, if_neg (by omega)]
theorem VRL.write {ρ : Ren} {n : Nat} {l l' vs vs' r : List Value} (h : writeN n l vs = some r) (hl : VRL ρ l l') (hv : VRL ρ vs vs') : ∃ r', writeN n l' vs' = some r' ∧ VRL ρ r r' := by
  induction n generalizing l l' vs vs' r with
  | zero =>
    induction l generalizing l' vs vs' r with
    | nil =>
      cases vs with
      | nil => simp [writeN_z0] at h; subst h; rw [hl.nil_inv, hv.nil_inv]; exact ⟨[], rfl, .nil⟩
      | cons v vs => simp [writeN_z1] at h
    | cons x l ih =>
      cases vs with
      | nil => simp [writeN_z0] at h; subst h; rw [hv.nil_inv]; exact ⟨l', writeN_z0 l', hl⟩
      | cons v vs =>
        obtain ⟨y, ys, rfl, hxy, k⟩ := hl.cons_inv
        obtain ⟨u, us, rfl, hvu, m⟩ := hv.cons_inv
        simp only [writeN_z2, Option.map_eq_some_iff] at h
        obtain ⟨q, hq, rfl⟩ := h
        obtain ⟨r', e, hr⟩ := ih hq k m
        exact ⟨u :: r', by simp [writeN_z2, e], .cons hvu hr⟩
  | succ n ih =>
    cases l with
    | nil =>
      cases vs with
      | nil => simp [writeN_s0] at h; subst h; rw [hl.nil_inv, hv.nil_inv]; exact ⟨[], rfl, .nil⟩
      | cons v vs => simp [writeN_s1] at h
    | cons x l =>
      obtain ⟨y, ys, rfl, hxy, k⟩ := hl.cons_inv
      simp only [writeN_s2, Option.map_eq_some_iff] at h
      obtain ⟨q, hq, rfl⟩ := h
      obtain ⟨r', e, hr⟩ := ih hq k hv
      exact ⟨y :: r', by simp [writeN_s2, e], .cons hxy hr⟩

theorem VR.cells {ρ : Ren} {v v' : Value} (h : VR ρ v v') (hc : ∀ r, v ≠ .chan r) : VRL ρ v.cells.toList v'.cells.toList := by
  cases v with
  | agg cs => simp only [VR] at h; obtain ⟨cs', h1, rfl⟩ := h; exact VRA_iff.1 h1
  | chan r => exact absurd rfl (hc r)
  | pointer a =>
    have h0 := h
    cases a <;> simp only [VR] at h
    · subst h; exact .cons h0 .nil
    · obtain ⟨_, l, _, rfl⟩ := h; exact .cons h0 .nil
  | slice a n c =>
    have h0 := h
    cases a <;> simp only [VR] at h
    · subst h; exact .cons h0 .nil
    · obtain ⟨_, _, l, _, _, _, _, _, _, rfl⟩ := h; exact .cons h0 .nil
  | map a =>
    have h0 := h
    cases a <;> simp only [VR] at h
    · subst h; exact .cons h0 .nil
    · obtain ⟨l, _, rfl⟩ := h; exact .cons h0 .nil
  | func fn f c => have h0 := h; simp only [VR] at h; obtain ⟨_, _, _, _, _, _, rfl⟩ := h; exact .cons h0 .nil
  | iface t x => have h0 := h; simp only [VR] at h; obtain ⟨_, _, rfl⟩ := h; exact .cons h0 .nil
  | tuple x => have h0 := h; simp only [VR] at h; obtain ⟨_, _, rfl⟩ := h; exact .cons h0 .nil
  | _ => have h0 := h; simp only [VR] at h; subst h; exact .cons h0 .nil
theorem VR.scalar {ρ : Ren} {v v' : Value} (h : VR ρ v v') (hs : scalar v = true) : v'.oneCell' = true := by
  cases v with
  | agg cs => simp [Abs.scalar] at hs
  | chan r => simp [Abs.scalar] at hs
  | tuple cs => simp [Abs.scalar] at hs
  | pointer a =>
    cases a <;> simp only [VR] at h
    · subst h; rfl
    · obtain ⟨_, l, _, rfl⟩ := h; rfl
  | slice a n c =>
    cases a <;> simp only [VR] at h
    · subst h; rfl
    · obtain ⟨_, _, l, _, _, _, _, _, _, rfl⟩ := h; rfl
  | map a =>
    cases a <;> simp only [VR] at h
    · subst h; rfl
    · obtain ⟨l, _, rfl⟩ := h; rfl
  | func fn f c => simp only [VR] at h; obtain ⟨_, _, _, _, _, _, rfl⟩ := h; rfl
  | iface t x => simp only [VR] at h; obtain ⟨_, _, rfl⟩ := h; rfl
  | _ => simp only [VR] at h; subst h; rfl

theorem pureRun_run {α : Type} {P : Program} : ∀ {s : Sem α} {a : α}, pureRun P s = some a → ∀ w, s.run P w = .ok a w
  | .pure x, a, h, w => by simp [pureRun] at h; subst h; rfl
  | .program k, a, h, w => by simp only [pureRun] at h; simp only [Sem.run]; exact pureRun_run h w
  | .mark m k, a, h, w => by simp only [pureRun] at h; simp only [Sem.run]; exact pureRun_run h w
  | .load .., _, h, _ | .store .., _, h, _ | .new .., _, h, _ | .shape .., _, h, _ | .freeze .., _, h, _ | .frozen .., _, h, _ | .getObj .., _, h, _
  | .setObj .., _, h, _ | .choose .., _, h, _ | .sys .., _, h, _ | .halt .., _, h, _ => by simp [pureRun] at h
end Go.Abs
