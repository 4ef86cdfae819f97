/-
  The machine K and the abstract machine below it: what a value, a store of K's say of the other's.
-/
import Derived.Test.YtjmpheohljeapaaKCore
namespace Go.K
open Go Go.Abs

structure ZRow where
  cs : List Value
  esz : Nat
  own : Bool
  kin : Option (Nat × Nat)
/- Which rows below are K's rows; which rows below nobody writes any more, and their cells; which families below are K's. -/
structure Env where
  κ : Nat → Option Nat
  z : Nat → Option ZRow
  φ : Nat → Option Nat
structure Env.le (E E' : Env) : Prop where
  κ : ∀ b x, E.κ b = some x → E'.κ b = some x
  z : ∀ b r, E.z b = some r → E'.z b = some r
  φ : ∀ b g, E.φ b = some g → E'.φ b = some g
theorem Env.le_refl (E : Env) : E.le E := ⟨fun _ _ h => h, fun _ _ h => h, fun _ _ h => h⟩
theorem Env.le_trans {E F G : Env} (h : E.le F) (k : F.le G) : E.le G := ⟨fun b x e => k.κ b x (h.κ b x e), fun b x e => k.z b x (h.z b x e), fun b x e => k.φ b x (h.φ b x e)⟩

/-- the elements lie in the cells, one behind the other -/
def Lies (sz off : Nat) (cs es : List Value) : Prop := ∀ (i : Nat) (x : Value), es[i]? = some x → x.cells.size = sz ∧ ∀ (k : Nat) (y : Value), x.cells[k]? = some y → cs[off + i * sz + k]? = some y
def BaseOk (E : Env) (sz : Nat) (a : Option Addr) (n : Nat) (es : List Value) : Prop :=
  (a = none ∧ n = 0) ∨ ∃ b off r, a = some ⟨b, off, none⟩ ∧ E.z b = some r ∧ r.esz = sz ∧ Lies sz off r.cs es
def MarkOk (E : Env) (sz : Nat) (a : Option Addr) (n cap : Nat) : Mk → Prop
  | .any => True
  | .exact => cap = n ∧ ∀ b off, a = some ⟨b, off, none⟩ → ∃ r, E.z b = some r ∧ r.own = true ∧ r.kin = none ∧ off + cap * sz = r.cs.length
  | .fam f => cap = n ∧ ((n = 0 ∧ a = none) ∨ ∃ b r g, a = some ⟨b, 0, none⟩ ∧ E.z b = some r ∧ r.own = true ∧ E.φ f = some g ∧ r.kin = some (g, 0) ∧ r.cs.length = n * sz)
structure TreeOk (P : Program) (T : TypeId) (n : Nat) (es : List KV) (acc : Nat → KV) : Prop where
  len : n = es.length
  acc : ∀ i, i < n → acc i = es.getD i .unk
  typed : elemsOk (layF P T) es = true
def szOf (P : Program) (T : TypeId) : Nat := (layF P T).ks.length
def TsOk (P : Program) (E : Env) (T : TypeId) (m : Mk) (n : Nat) (es' : List Value) (v : Value) : Prop :=
  ∃ a cap, v = .slice a n cap ∧ n ≤ cap ∧ BaseOk E (szOf P T) a n es' ∧ MarkOk E (szOf P T) a n cap m
structure Window (P : Program) (T Tc : TypeId) (k : Nat) : Prop where
  is : ∀ m c, (layF P Tc).ks[m]? = some c → (layF P T).ks[k + m]? = some c
def TpOk (P : Program) (E : Env) (T Tc : TypeId) (i k : Nat) (es : List KV) (es' : List Value) (v : Value) : Prop :=
  i < es.length ∧ Window P T Tc k ∧ ∃ b off r, v = .pointer (some ⟨b, off + i * szOf P T + k, none⟩) ∧ E.z b = some r ∧ Lies (szOf P T) off r.cs es'

mutual
def VK (P : Program) (E : Env) : KV → Value → Prop
  | .int k n, v => v = .int k n
  | .bool b, v => v = .bool b
  | .str s, v => v = .string s
  | .agg cs, v => ∃ l, v = .agg ⟨l⟩ ∧ VKL P E cs l
  | .tup cs, v => ∃ l, v = .tuple ⟨l⟩ ∧ VKL P E cs l
  | .ts T m n es acc, v => TreeOk P T n es acc ∧ ∃ es', VKL P E es es' ∧ TsOk P E T m n es' v
  | .tp T Tc i k es acc, v => TreeOk P T es.length es acc ∧ ∃ es', VKL P E es es' ∧ TpOk P E T Tc i k es es' v
  | .ptr b off, v => ∃ x, E.κ b = some x ∧ v = .pointer (some ⟨x, off, none⟩)
  | .sl b off n c, v => ∃ x, E.κ b = some x ∧ v = .slice (some ⟨x, off, none⟩) n c
  | .nilp, v => v = .pointer none
  | .nilsl, v => v = .slice none 0 0
  | .nilmap, v => v = .map none
  | .map b, v => ∃ x, E.κ b = some x ∧ v = .map (some x)
  | .fn f first cap, v => ∃ l m, v = .func f ⟨l⟩ ⟨m⟩ ∧ VKL P E first l ∧ VKL P E cap m
  | .nilfn, v => v = .nilFunc
  | .iface t x, v => ∃ y, v = .iface t y ∧ VK P E x y
  | .nilif, v => v = .nilIface
  | .unk, _ => True
def VKL (P : Program) (E : Env) : List KV → List Value → Prop
  | [], l => l = []
  | x :: xs, l => ∃ y ys, l = y :: ys ∧ VK P E x y ∧ VKL P E xs ys
end

variable {P : Program} {E E' : Env}
theorem MarkOk.mono (h : E.le E') {sz : Nat} {a : Option Addr} {n cap : Nat} {m : Mk} (k : MarkOk E sz a n cap m) : MarkOk E' sz a n cap m := by
  cases m with
  | any => trivial
  | exact => exact ⟨k.1, fun b off e => by obtain ⟨r, h1, h2⟩ := k.2 b off e; exact ⟨r, h.z _ _ h1, h2⟩⟩
  | fam f =>
    refine ⟨k.1, k.2.imp id ?_⟩
    rintro ⟨b, r, g, h1, h2, h3, h4, h5⟩
    exact ⟨b, r, g, h1, h.z _ _ h2, h3, h.φ _ _ h4, h5⟩
theorem BaseOk.mono (h : E.le E') {sz : Nat} {a : Option Addr} {n : Nat} {es : List Value} (k : BaseOk E sz a n es) : BaseOk E' sz a n es := by
  refine k.imp id ?_
  rintro ⟨b, off, r, h1, h2, h3⟩
  exact ⟨b, off, r, h1, h.z _ _ h2, h3⟩
theorem TsOk.mono (h : E.le E') {T : TypeId} {m : Mk} {n : Nat} {es : List Value} {v : Value} (k : TsOk P E T m n es v) : TsOk P E' T m n es v := by
  obtain ⟨a, cap, h1, h2, h3, h4⟩ := k
  exact ⟨a, cap, h1, h2, h3.mono h, h4.mono h⟩
theorem TpOk.mono (h : E.le E') {T Tc : TypeId} {i k : Nat} {es : List KV} {es' : List Value} {v : Value} (q : TpOk P E T Tc i k es es' v) : TpOk P E' T Tc i k es es' v := by
  obtain ⟨h1, h2, b, off, r, h3, h4, h5⟩ := q
  exact ⟨h1, h2, b, off, r, h3, h.z _ _ h4, h5⟩
mutual
theorem VK.mono (h : E.le E') : ∀ {v : KV} {v' : Value}, VK P E v v' → VK P E' v v'
  | .int k n, v, q => q
  | .bool b, v, q => q
  | .str s, v, q => q
  | .agg cs, v, q => by
    simp only [VK] at q ⊢
    obtain ⟨l, e, q⟩ := q
    exact ⟨l, e, VKL.mono h q⟩
  | .tup cs, v, q => by
    simp only [VK] at q ⊢
    obtain ⟨l, e, q⟩ := q
    exact ⟨l, e, VKL.mono h q⟩
  | .ts T m n es acc, v, q => by
    simp only [VK] at q ⊢
    obtain ⟨t, l, q, k⟩ := q
    exact ⟨t, l, VKL.mono h q, k.mono h⟩
  | .tp T Tc i k es acc, v, q => by
    simp only [VK] at q ⊢
    obtain ⟨t, l, q, k⟩ := q
    exact ⟨t, l, VKL.mono h q, k.mono h⟩
  | .ptr b off, v, q => by
    simp only [VK] at q ⊢
    obtain ⟨x, e, q⟩ := q
    exact ⟨x, h.κ _ _ e, q⟩
  | .sl b off n c, v, q => by
    simp only [VK] at q ⊢
    obtain ⟨x, e, q⟩ := q
    exact ⟨x, h.κ _ _ e, q⟩
  | .nilp, v, q => q
  | .nilsl, v, q => q
  | .nilmap, v, q => q
  | .map b, v, q => by
    simp only [VK] at q ⊢
    obtain ⟨x, e, q⟩ := q
    exact ⟨x, h.κ _ _ e, q⟩
  | .fn f first cap, v, q => by
    simp only [VK] at q ⊢
    obtain ⟨l, m, e, q1, q2⟩ := q
    exact ⟨l, m, e, VKL.mono h q1, VKL.mono h q2⟩
  | .nilfn, v, q => q
  | .iface t x, v, q => by
    simp only [VK] at q ⊢
    obtain ⟨y, e, q⟩ := q
    exact ⟨y, e, VK.mono h q⟩
  | .nilif, v, q => q
  | .unk, v, q => q
theorem VKL.mono (h : E.le E') : ∀ {v : List KV} {v' : List Value}, VKL P E v v' → VKL P E' v v'
  | [], _, q => q
  | x :: xs, _, q => by
    simp only [VKL] at q ⊢
    obtain ⟨y, ys, e, q1, q2⟩ := q
    exact ⟨y, ys, e, VK.mono h q1, VKL.mono h q2⟩
end

/-! ## Lists -/
theorem VKL.nil : VKL P E [] [] := by simp [VKL]
theorem VKL.cons {x : KV} {y : Value} {xs : List KV} {ys : List Value} (h : VK P E x y) (k : VKL P E xs ys) : VKL P E (x :: xs) (y :: ys) := by
  simp only [VKL]; exact ⟨y, ys, rfl, h, k⟩
theorem VKL.nil_inv {l : List Value} (h : VKL P E [] l) : l = [] := by simpa [VKL] using h
theorem VKL.cons_inv {x : KV} {xs : List KV} {l : List Value} (h : VKL P E (x :: xs) l) : ∃ y ys, l = y :: ys ∧ VK P E x y ∧ VKL P E xs ys := by simpa [VKL] using h
theorem VKL.one_inv {x : KV} {l : List Value} (h : VKL P E [x] l) : ∃ y, l = [y] ∧ VK P E x y := by
  obtain ⟨y, ys, rfl, h1, h2⟩ := h.cons_inv
  rw [h2.nil_inv]; exact ⟨y, rfl, h1⟩
theorem VKL.two_inv {x y : KV} {l : List Value} (h : VKL P E [x, y] l) : ∃ x' y', l = [x', y'] ∧ VK P E x x' ∧ VK P E y y' := by
  obtain ⟨a, ys, rfl, h1, h2⟩ := h.cons_inv
  obtain ⟨b, rfl, h3⟩ := h2.one_inv
  exact ⟨a, b, rfl, h1, h3⟩
theorem VKL.three_inv {x y u : KV} {l : List Value} (h : VKL P E [x, y, u] l) : ∃ x' y' u', l = [x', y', u'] ∧ VK P E x x' ∧ VK P E y y' ∧ VK P E u u' := by
  obtain ⟨a, ys, rfl, h1, h2⟩ := h.cons_inv
  obtain ⟨b, c, rfl, h3, h4⟩ := h2.two_inv
  exact ⟨a, b, c, rfl, h1, h3, h4⟩
theorem VKL.length : ∀ {l : List KV} {l' : List Value}, VKL P E l l' → l'.length = l.length
  | [], l', h => by rw [h.nil_inv]; rfl
  | x :: xs, l', h => by
    obtain ⟨y, ys, rfl, _, k⟩ := h.cons_inv
    simp [VKL.length k]
theorem VKL.get : ∀ {l : List KV} {l' : List Value} {i : Nat} {v : KV}, VKL P E l l' → l[i]? = some v → ∃ v', l'[i]? = some v' ∧ VK P E v v'
  | [], _, _, _, _, e => by simp at e
  | x :: xs, l', i, v, h, e => by
    obtain ⟨y, ys, rfl, hxy, k⟩ := h.cons_inv
    cases i with
    | zero => simp at e; subst e; exact ⟨y, rfl, hxy⟩
    | succ i => simp at e; simpa using VKL.get k e
theorem VKL.append : ∀ {a : List KV} {a' : List Value} {b : List KV} {b' : List Value}, VKL P E a a' → VKL P E b b' → VKL P E (a ++ b) (a' ++ b')
  | [], a', b, b', h, k => by rw [h.nil_inv]; exact k
  | x :: xs, a', b, b', h, k => by
    obtain ⟨y, ys, rfl, hxy, m⟩ := h.cons_inv
    exact .cons hxy (VKL.append m k)
theorem VKL.take : ∀ (n : Nat) {l : List KV} {l' : List Value}, VKL P E l l' → VKL P E (l.take n) (l'.take n)
  | 0, _, _, _ => by simp [VKL.nil]
  | n + 1, [], l', h => by rw [h.nil_inv]; simp [VKL.nil]
  | n + 1, x :: xs, l', h => by
    obtain ⟨y, ys, rfl, hxy, k⟩ := h.cons_inv
    simpa using VKL.cons hxy (VKL.take n k)
theorem VKL.drop : ∀ (n : Nat) {l : List KV} {l' : List Value}, VKL P E l l' → VKL P E (l.drop n) (l'.drop n)
  | 0, _, _, h => by simpa using h
  | n + 1, [], l', h => by rw [h.nil_inv]; simp [VKL.nil]
  | n + 1, x :: xs, l', h => by
    obtain ⟨y, ys, rfl, _, k⟩ := h.cons_inv
    simpa using VKL.drop n k
theorem takeK_eq {α : Type} : ∀ {n : Nat} {l r : List α}, takeK n l = some r → r = l.take n ∧ n ≤ l.length
  | 0, l, r, h => by simp [takeK] at h; subst h; simp
  | n + 1, [], r, h => by simp [takeK] at h
  | n + 1, x :: xs, r, h => by
    simp only [takeK, Option.map_eq_some_iff] at h
    obtain ⟨q, hq, rfl⟩ := h
    obtain ⟨rfl, hn⟩ := takeK_eq hq
    exact ⟨by simp, by simpa using hn⟩
theorem takeK_of {α : Type} : ∀ {n : Nat} {l : List α}, n ≤ l.length → takeK n l = some (l.take n)
  | 0, l, _ => rfl
  | n + 1, [], h => by simp at h
  | n + 1, x :: xs, h => by simp [takeK, takeK_of (n := n) (l := xs) (by simpa using h)]
theorem dropK_eq {α : Type} : ∀ (n : Nat) (l : List α), dropK n l = l.drop n
  | 0, l => rfl
  | n + 1, [] => rfl
  | n + 1, x :: xs => by simp [dropK, dropK_eq n xs]
theorem takeN_of : ∀ {n : Nat} {l : List Value}, n ≤ l.length → takeN n l = some (l.take n)
  | 0, l, _ => rfl
  | n + 1, [], h => by simp at h
  | n + 1, x :: xs, h => by rw [takeN_cons, takeN_of (n := n) (l := xs) (by simpa using h)]; rfl
/-- taking and dropping, on both sides -/
theorem VKL.takeK {n k : Nat} {l r : List KV} {l' : List Value} (h : VKL P E l l') (e : takeK n (dropK k l) = some r) : ∃ r', takeN n (dropN k l') = some r' ∧ VKL P E r r' ∧ r' = (l'.drop k).take n := by
  obtain ⟨rfl, hn⟩ := takeK_eq e
  rw [dropK_eq] at hn ⊢
  have hl := h.length
  rw [dropN_eq]
  refine ⟨_, takeN_of ?_, (h.drop k).take n, rfl⟩
  simp only [List.length_drop] at hn ⊢
  omega
theorem VKL.writeK : ∀ {n : Nat} {l : List KV} {l' : List Value} {vs r : List KV} {vs' : List Value}, writeK n l vs = some r → VKL P E l l' → VKL P E vs vs' → ∃ r', writeN n l' vs' = some r' ∧ VKL P E r r'
  | 0, l, l', [], r, vs', h, hl, hv => by simp [K.writeK] at h; subst h; rw [hv.nil_inv]; exact ⟨l', writeN_z0 l', hl⟩
  | 0, [], l', _ :: _, r, vs', h, hl, hv => by simp [K.writeK] at h
  | 0, x :: l, l', v :: vs, r, vs', h, hl, hv => by
    obtain ⟨y, ys, rfl, _, k⟩ := hl.cons_inv
    obtain ⟨u, us, rfl, h1, h2⟩ := hv.cons_inv
    simp only [K.writeK, Option.map_eq_some_iff] at h
    obtain ⟨q, hq, rfl⟩ := h
    obtain ⟨r', e, hr⟩ := VKL.writeK hq k h2
    exact ⟨u :: r', by simp [writeN_z2, e], .cons h1 hr⟩
  | n + 1, [], l', [], r, vs', h, hl, hv => by simp [K.writeK] at h; subst h; rw [hl.nil_inv, hv.nil_inv]; exact ⟨[], rfl, .nil⟩
  | n + 1, [], l', _ :: _, r, vs', h, hl, hv => by simp [K.writeK] at h
  | n + 1, x :: l, l', vs, r, vs', h, hl, hv => by
    obtain ⟨y, ys, rfl, h1, k⟩ := hl.cons_inv
    simp only [K.writeK, Option.map_eq_some_iff] at h
    obtain ⟨q, hq, rfl⟩ := h
    obtain ⟨r', e, hr⟩ := VKL.writeK hq k hv
    exact ⟨y :: r', by simp [writeN_s2, e], .cons h1 hr⟩
theorem VKL.of_get : ∀ {l : List KV} {l' : List Value}, l'.length = l.length → (∀ (i : Nat) (v : KV) (v' : Value), l[i]? = some v → l'[i]? = some v' → VK P E v v') → VKL P E l l'
  | [], l', h, _ => by cases l' <;> simp_all [VKL.nil]
  | x :: xs, l', h, k => by
    cases l' with
    | nil => simp at h
    | cons y ys => exact .cons (k 0 x y rfl rfl) (VKL.of_get (by simpa using h) fun i v v' e e' => k (i + 1) v v' (by simpa using e) (by simpa using e'))

/-! ## Inversions -/
theorem VK.int_inv {k : IntKind} {n : Int} {v : Value} (h : VK P E (.int k n) v) : v = .int k n := by simpa [VK] using h
theorem VK.bool_inv {b : Bool} {v : Value} (h : VK P E (.bool b) v) : v = .bool b := by simpa [VK] using h
theorem VK.str_inv {s : ByteArray} {v : Value} (h : VK P E (.str s) v) : v = .string s := by simpa [VK] using h
theorem VK.agg_inv {cs : List KV} {v : Value} (h : VK P E (.agg cs) v) : ∃ l, v = .agg ⟨l⟩ ∧ VKL P E cs l := by simpa [VK] using h
theorem VK.tup_inv {cs : List KV} {v : Value} (h : VK P E (.tup cs) v) : ∃ l, v = .tuple ⟨l⟩ ∧ VKL P E cs l := by simpa [VK] using h
theorem VK.ptr_inv {b off : Nat} {v : Value} (h : VK P E (.ptr b off) v) : ∃ x, E.κ b = some x ∧ v = .pointer (some ⟨x, off, none⟩) := by simpa [VK] using h
theorem VK.sl_inv {b off n c : Nat} {v : Value} (h : VK P E (.sl b off n c) v) : ∃ x, E.κ b = some x ∧ v = .slice (some ⟨x, off, none⟩) n c := by simpa [VK] using h
theorem VK.fn_inv {f : Fn} {a b : List KV} {v : Value} (h : VK P E (.fn f a b) v) : ∃ l m, v = .func f ⟨l⟩ ⟨m⟩ ∧ VKL P E a l ∧ VKL P E b m := by simpa [VK] using h
theorem VK.ts_inv {T : TypeId} {m : Mk} {n : Nat} {es : List KV} {acc : Nat → KV} {v : Value} (h : VK P E (.ts T m n es acc) v) : TreeOk P T n es acc ∧ ∃ es', VKL P E es es' ∧ TsOk P E T m n es' v := by simpa [VK] using h
theorem VK.tp_inv {T Tc : TypeId} {i k : Nat} {es : List KV} {acc : Nat → KV} {v : Value} (h : VK P E (.tp T Tc i k es acc) v) : TreeOk P T es.length es acc ∧ ∃ es', VKL P E es es' ∧ TpOk P E T Tc i k es es' v := by simpa [VK] using h
theorem VK.nilsl_inv {v : Value} (h : VK P E .nilsl v) : v = .slice none 0 0 := by simpa [VK] using h
theorem VK.nilp_inv {v : Value} (h : VK P E .nilp v) : v = .pointer none := by simpa [VK] using h
theorem VK.mkInt {k : IntKind} {n : Int} : VK P E (.int k n) (.int k n) := by simp [VK]
theorem VK.mkBool {b : Bool} : VK P E (.bool b) (.bool b) := by simp [VK]
theorem VK.mkStr {s : ByteArray} : VK P E (.str s) (.string s) := by simp [VK]
theorem VK.mkAgg {cs : List KV} {l : List Value} (h : VKL P E cs l) : VK P E (.agg cs) (.agg ⟨l⟩) := by simp only [VK]; exact ⟨l, rfl, h⟩
theorem VK.mkTup {cs : List KV} {l : List Value} (h : VKL P E cs l) : VK P E (.tup cs) (.tuple ⟨l⟩) := by simp only [VK]; exact ⟨l, rfl, h⟩
theorem VK.mkPtr {b x off : Nat} (h : E.κ b = some x) : VK P E (.ptr b off) (.pointer (some ⟨x, off, none⟩)) := by simp only [VK]; exact ⟨x, h, rfl⟩
theorem VK.mkSl {b x off n c : Nat} (h : E.κ b = some x) : VK P E (.sl b off n c) (.slice (some ⟨x, off, none⟩) n c) := by simp only [VK]; exact ⟨x, h, rfl⟩
theorem VK.mkFn {f : Fn} {a b : List KV} {l m : List Value} (h : VKL P E a l) (k : VKL P E b m) : VK P E (.fn f a b) (.func f ⟨l⟩ ⟨m⟩) := by simp only [VK]; exact ⟨l, m, rfl, h, k⟩
theorem VK.undef : VK P E undefK undef := VK.mkTup .nil
theorem VK.mkUnk {v : Value} : VK P E .unk v := by simp [VK]

/-- the cells -/
theorem VK.cells {v : KV} {v' : Value} (h : VK P E v v') (hu : knownK v = true) : VKL P E v.cells v'.cells.toList := by
  cases v with
  | agg cs => obtain ⟨l, rfl, q⟩ := h.agg_inv; exact q
  | int k n => have := h.int_inv; subst this; exact .cons h .nil
  | bool b => have := h.bool_inv; subst this; exact .cons h .nil
  | str b => have := h.str_inv; subst this; exact .cons h .nil
  | tup cs => have q := h; obtain ⟨l, rfl, _⟩ := h.tup_inv; exact .cons q .nil
  | ts T m n es acc => have q := h; obtain ⟨_, _, _, a, cap, rfl, _⟩ := h.ts_inv; exact .cons q .nil
  | tp T Tc i k es acc => have q := h; obtain ⟨_, _, _, _, _, b, off, r, rfl, _⟩ := h.tp_inv; exact .cons q .nil
  | ptr b off => have q := h; obtain ⟨x, _, rfl⟩ := h.ptr_inv; exact .cons q .nil
  | sl b off n c => have q := h; obtain ⟨x, _, rfl⟩ := h.sl_inv; exact .cons q .nil
  | nilp => have q := h; simp only [VK] at h; subst h; exact .cons q .nil
  | nilsl => have q := h; simp only [VK] at h; subst h; exact .cons q .nil
  | nilmap => have q := h; simp only [VK] at h; subst h; exact .cons q .nil
  | map b => have q := h; simp only [VK] at h; obtain ⟨x, _, rfl⟩ := h; exact .cons q .nil
  | fn f a b => have q := h; obtain ⟨l, m, rfl, _⟩ := h.fn_inv; exact .cons q .nil
  | nilfn => have q := h; simp only [VK] at h; subst h; exact .cons q .nil
  | iface t x => have q := h; simp only [VK] at h; obtain ⟨y, rfl, _⟩ := h; exact .cons q .nil
  | nilif => have q := h; simp only [VK] at h; subst h; exact .cons q .nil
  | unk => simp [knownK] at hu
theorem VK.scalar {v : KV} {v' : Value} (h : VK P E v v') (ho : one v = true) : Abs.scalar v' = true := by
  cases v with
  | agg cs => simp [one] at ho
  | tup cs => simp [one] at ho
  | unk => simp [one] at ho
  | int k n => have := h.int_inv; subst this; rfl
  | bool b => have := h.bool_inv; subst this; rfl
  | str b => have := h.str_inv; subst this; rfl
  | ts T m n es acc => obtain ⟨_, _, _, a, cap, rfl, _⟩ := h.ts_inv; rfl
  | tp T Tc i k es acc => obtain ⟨_, _, _, _, _, b, off, r, rfl, _⟩ := h.tp_inv; rfl
  | ptr b off => obtain ⟨x, _, rfl⟩ := h.ptr_inv; rfl
  | sl b off n c => obtain ⟨x, _, rfl⟩ := h.sl_inv; rfl
  | nilp => simp only [VK] at h; subst h; rfl
  | nilsl => simp only [VK] at h; subst h; rfl
  | nilmap => simp only [VK] at h; subst h; rfl
  | map b => simp only [VK] at h; obtain ⟨x, _, rfl⟩ := h; rfl
  | fn f a b => obtain ⟨l, m, rfl, _⟩ := h.fn_inv; rfl
  | nilfn => simp only [VK] at h; subst h; rfl
  | iface t x => simp only [VK] at h; obtain ⟨y, rfl, _⟩ := h; rfl
  | nilif => simp only [VK] at h; subst h; rfl
theorem oneAll_mem : ∀ {l : List KV}, oneAll l = true → ∀ v ∈ l, one v = true
  | [], _, v, h => by simp at h
  | x :: xs, h, v, hv => by
    simp only [oneAll, Bool.and_eq_true] at h
    rcases List.mem_cons.1 hv with rfl | hv
    · exact h.1
    · exact oneAll_mem h.2 v hv
theorem VKL.scalar : ∀ {l : List KV} {l' : List Value}, VKL P E l l' → oneAll l = true → ∀ v ∈ l', Abs.scalar v = true
  | [], l', h, _, v, hv => by rw [h.nil_inv] at hv; simp at hv
  | x :: xs, l', h, ho, v, hv => by
    obtain ⟨y, ys, rfl, h1, h2⟩ := h.cons_inv
    simp only [oneAll, Bool.and_eq_true] at ho
    rcases List.mem_cons.1 hv with rfl | hv
    · exact h1.scalar ho.1
    · exact VKL.scalar h2 ho.2 v hv
theorem oneAll_known {v : KV} (h : oneAll v.cells = true) : knownK v = true := by
  cases v <;> first | rfl | simp [KV.cells, oneAll, one] at h

mutual
theorem VK.ofV : ∀ (v : Value), VK P E (ofV v) v
  | .bool b => by simp [K.ofV, VK]
  | .int k n => by simp [K.ofV, VK]
  | .string s => by simp [K.ofV, VK]
  | .pointer none => by simp [K.ofV, VK]
  | .pointer (some a) => by simp [K.ofV, VK]
  | .slice none 0 0 => by simp [K.ofV, VK]
  | .slice none 0 (n + 1) => by simp [K.ofV, VK]
  | .slice none (n + 1) c => by simp [K.ofV, VK]
  | .slice (some a) n c => by simp [K.ofV, VK]
  | .map none => by simp [K.ofV, VK]
  | .map (some r) => by simp [K.ofV, VK]
  | .nilFunc => by simp [K.ofV, VK]
  | .nilIface => by simp [K.ofV, VK]
  | .agg cs => by
    obtain ⟨l⟩ := cs
    simp only [K.ofV, ofA]
    exact .mkAgg (VKL.ofL l)
  | .tuple cs => by
    obtain ⟨l⟩ := cs
    simp only [K.ofV, ofA]
    exact .mkTup (VKL.ofL l)
  | .float _ _ => by simp [K.ofV, VK]
  | .complex _ _ _ => by simp [K.ofV, VK]
  | .chan _ => by simp [K.ofV, VK]
  | .func _ _ _ => by simp [K.ofV, VK]
  | .iface _ _ => by simp [K.ofV, VK]
theorem VKL.ofL : ∀ (l : List Value), VKL P E (ofL l) l
  | [] => .nil
  | v :: vs => .cons (VK.ofV v) (VKL.ofL vs)
end
theorem ofV_cells {z : Value} (h : oneAll (ofV z).cells = true) : VKL P E (ofV z).cells z.cells.toList := (VK.ofV z).cells (oneAll_known h)

/-! ## Stores -/
/-- families that may go on are different ones -/
def FamInj (E : Env) (A : KSt) : Prop := ∀ b c g tb sb tc sc, A.get b = some (.fam tb sb) → A.get c = some (.fam tc sc) → E.φ b = some g → E.φ c = some g → b = c
structure KSim (P : Program) (E : Env) (A : KSt) (B : St) : Prop where
  row : ∀ b cs esz, A.get b = some (.row cs esz) → ∃ x cs', E.κ b = some x ∧ B.get x = some (.row cs' esz true none) ∧ VKL P E cs cs'
  fam : ∀ b top sz, A.get b = some (.fam top sz) → (top = 0 ∧ E.φ b = none) ∨ ∃ g, E.φ b = some g ∧ 0 < top ∧ ∀ x ∈ B.members g, ∀ cs e own f k, B.get x = some (.row cs e own (some (f, k))) → k = 0 ∧ cs.length ≤ top * sz
  z : ∀ b r, E.z b = some r → B.get b = some (.row r.cs r.esz r.own r.kin)
  apart : ∀ b x, E.κ b = some x → E.z x = none
  inj : ∀ b c x, E.κ b = some x → E.κ c = some x → b = c
  famInj : FamInj E A
  dom : ∀ b x, E.κ b = some x → b < A.next
  domφ : ∀ b g, E.φ b = some g → b < A.next
  live : ∀ b o, A.get b = some o → b < A.next
  old : ∀ b x, E.κ b = some x → x < B.next
  oldz : ∀ b r, E.z b = some r → b < B.next
  oldφ : ∀ b g, E.φ b = some g → g < B.next
  fresh : ∀ g, B.next ≤ g → B.members g = []
  mem : ∀ g x, x ∈ B.members g → x < B.next
/-- from one state on to another -/
structure Ev (P : Program) (base : Nat) (E : Env) (A : KSt) (B : St) (ρ : Ren) (w : World) (E' : Env) (A' : KSt) (B' : St) (ρ' : Ren) (w' : World) : Prop where
  sim : KSim P E' A' B'
  goes : Goes base ρ B w ρ' B' w'
  le : E.le E'
  next : A.next ≤ A'.next
  keep : ∀ x, x < B.next → (∀ b, E.κ b ≠ some x) → B'.get x = B.get x
  new : ∀ b x, E'.κ b = some x → E.κ b = some x ∨ B.next ≤ x
  newZ : ∀ b r, E'.z b = some r → E.z b = some r ∨ B.next ≤ b
  newF : ∀ b g, E'.φ b = some g → (∃ c, E.φ c = some g) ∨ B.next ≤ g
  keepF : ∀ g, g < B.next → (∀ b, E.φ b ≠ some g) → B'.members g = B.members g
theorem Ev.refl {base : Nat} {A : KSt} {B : St} {ρ : Ren} {w : World} (h : KSim P E A B) (s : Sim ρ B base w) : Ev P base E A B ρ w E A B ρ w :=
  ⟨h, .refl s, Env.le_refl _, Nat.le_refl _, fun _ _ _ => rfl, fun _ _ h => .inl h, fun _ _ h => .inl h, fun _ _ h => .inl ⟨_, h⟩, fun _ _ _ => rfl⟩
theorem Ev.trans {base : Nat} {E1 E2 E3 : Env} {A1 A2 A3 : KSt} {B1 B2 B3 : St} {ρ1 ρ2 ρ3 : Ren} {w1 w2 w3 : World} (h : Ev P base E1 A1 B1 ρ1 w1 E2 A2 B2 ρ2 w2) (k : Ev P base E2 A2 B2 ρ2 w2 E3 A3 B3 ρ3 w3) :
    Ev P base E1 A1 B1 ρ1 w1 E3 A3 B3 ρ3 w3 where
  sim := k.sim
  goes := h.goes.trans k.goes
  le := Env.le_trans h.le k.le
  next := Nat.le_trans h.next k.next
  keep x hx hn := by
    refine (k.keep x (Nat.lt_of_lt_of_le hx h.goes.next) fun b e => ?_).trans (h.keep x hx hn)
    rcases h.new b x e with e | e
    · exact hn b e
    · omega
  new b x e := by
    rcases k.new b x e with e | e
    · rcases h.new b x e with e | e
      · exact .inl e
      · exact .inr e
    · have := h.goes.next; exact .inr (by omega)
  newZ b r e := by
    rcases k.newZ b r e with e | e
    · exact h.newZ b r e
    · have := h.goes.next; exact .inr (by omega)
  newF b g e := by
    rcases k.newF b g e with ⟨c, e⟩ | e
    · exact h.newF c g e
    · have := h.goes.next; exact .inr (by omega)
  keepF g hg hn := by
    refine (k.keepF g (Nat.lt_of_lt_of_le hg h.goes.next) fun b e => ?_).trans (h.keepF g hg hn)
    rcases h.newF b g e with ⟨c, e⟩ | e
    · exact hn c e
    · omega
@[simp] theorem KSt.get_put (A : KSt) (b : Nat) (o : KObj) (x : Nat) : (A.put b o).get x = if x = b then some o else A.get x := by simp [KSt.put, KSt.get, Trie.get_set]
@[simp] theorem KSt.get_new (A : KSt) (o : KObj) (x : Nat) : (A.new o).get x = if x = A.next then some o else A.get x := by simp [KSt.new, KSt.get, Trie.get_set]
@[simp] theorem KSt.next_put (A : KSt) (b : Nat) (o : KObj) : (A.put b o).next = A.next := rfl
@[simp] theorem KSt.next_new (A : KSt) (o : KObj) : (A.new o).next = A.next + 1 := rfl

theorem FamInj.put {A : KSt} (h : FamInj E A) {b : Nat} {o : KObj} (ho : (∀ t s, o ≠ .fam t s) ∨ E.φ b = none) : FamInj E (A.put b o) := by
  intro x y g tx sx ty sy hx hy ex ey
  have key : ∀ {z t s}, (A.put b o).get z = some (.fam t s) → E.φ z = some g → A.get z = some (.fam t s) := by
    intro z t s hz ez
    rw [KSt.get_put] at hz
    split at hz
    · rename_i e
      simp at hz
      rcases ho with ho | ho
      · exact absurd hz (ho t s)
      · rw [e, ho] at ez; simp at ez
    · exact hz
  exact h x y g tx sx ty sy (key hx ex) (key hy ey) ex ey
theorem FamInj.new {A : KSt} (h : FamInj E A) {o : KObj} (ho : (∀ t s, o ≠ .fam t s) ∨ E.φ A.next = none) : FamInj E (A.new o) := by
  intro x y g tx sx ty sy hx hy ex ey
  have key : ∀ {z t s}, (A.new o).get z = some (.fam t s) → E.φ z = some g → A.get z = some (.fam t s) := by
    intro z t s hz ez
    rw [KSt.get_new] at hz
    split at hz
    · rename_i e
      simp at hz
      rcases ho with ho | ho
      · exact absurd hz (ho t s)
      · rw [e, ho] at ez; simp at ez
    · exact hz
  exact h x y g tx sx ty sy (key hx ex) (key hy ey) ex ey
/-- both stores, and the world -/
structure KJ (P : Program) (E : Env) (A : KSt) (B : St) (ρ : Ren) (base : Nat) (w : World) : Prop where
  k : KSim P E A B
  s : Sim ρ B base w
theorem Ev.kj {base : Nat} {E1 E2 : Env} {A1 A2 : KSt} {B1 B2 : St} {ρ1 ρ2 : Ren} {w1 w2 : World} (h : Ev P base E1 A1 B1 ρ1 w1 E2 A2 B2 ρ2 w2) : KJ P E2 A2 B2 ρ2 base w2 := ⟨h.sim, h.goes.sim⟩
/-- a value of K's and the model's -/
def VC (P : Program) (E : Env) (ρ : Ren) (v : KV) (v' : Value) : Prop := ∃ u, VK P E v u ∧ VR ρ u v'
theorem VC.mono {ρ ρ' : Ren} {v : KV} {v' : Value} (h : VC P E ρ v v') (k : E.le E') (m : ρ.le ρ') : VC P E' ρ' v v' := by
  obtain ⟨u, h1, h2⟩ := h
  exact ⟨u, h1.mono k, h2.mono m⟩
theorem VC.unk {ρ : Ren} {v' : Value} : VC P E ρ .unk v' := ⟨.chan none, .mkUnk, by simp [VR]⟩
theorem VC.undef {ρ : Ren} : VC P E ρ undefK undef := ⟨_, .undef, VR.undef⟩
end Go.K
