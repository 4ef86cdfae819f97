/-
  Plain data: rounds of loops, numbers that fit.
-/
import Derived.Test.YtjmpheohljeapaaKTyped
namespace Go.K
open Go Go.Abs
theorem Stp.go_rule {X : Type} {step : X → Stp X} {I : Nat → X → Prop} {Q : AExit → X → Prop} {n : Nat}
    (h : ∀ j x, j ≤ n → I j x → (∃ x', step x = .next x' ∧ j < n ∧ I (j + 1) x') ∨ ∃ e x', step x = .out e x' ∧ isNormal e = false ∧ Q e x') :
    ∀ (r j : Nat) (x : X), j + r = n → I j x → ∀ N, r < N → ∃ e x', Stp.go step N x = .out e x' ∧ Q e x'
  | r, j, x, hj, hI, 0, hN => by omega
  | r, j, x, hj, hI, N + 1, hN => by
    rcases h j x (by omega) hI with ⟨x', h1, h2, h3⟩ | ⟨e, x', h1, h2, h3⟩
    · obtain ⟨r', rfl⟩ : ∃ r', r = r' + 1 := ⟨r - 1, by omega⟩
      obtain ⟨e, y, h4, h5⟩ := Stp.go_rule h r' (j + 1) x' (by omega) h3 N (by omega)
      exact ⟨e, y, by simp only [Stp.go, h1, h4], h5⟩
    · exact ⟨e, x', by simp only [Stp.go, h1, h2, cond_false], h3⟩
/-- a loop of at most n rounds: what holds at its head, what holds behind it -/
theorem goN_rule {X : Type} {step : X → Stp X} (I : Nat → X → Prop) (Q : AExit → X → Prop) (n : Nat) (hn : n < bigN)
    (h : ∀ j x, j ≤ n → I j x → (∃ x', step x = .next x' ∧ j < n ∧ I (j + 1) x') ∨ ∃ e x', step x = .out e x' ∧ isNormal e = false ∧ Q e x') {x : X} (h0 : I 0 x) :
    ∃ e x', goN step x = .out e x' ∧ Q e x' := Stp.go_rule h n 0 x (by omega) h0 bigN hn
theorem Stp.by_out {X : Type} (e : AExit) (x : X) (e' : AExit) : (Stp.out e x).by e' = sameExit e e' := rfl
theorem Stp.st_out {X : Type} [Inhabited X] (e : AExit) (x : X) : (Stp.out e x).st = x := rfl
theorem w64_id {n : Int} (h : -9223372036854775808 ≤ n) (h' : n < 9223372036854775808) : w64 n = n := by
  show IntKind.wrap .i64 n = n
  unfold IntKind.wrap
  by_cases hn : 0 ≤ n
  · have h1 : n % (2 ^ IntKind.i64.bits : Int) = n := Int.emod_eq_of_lt hn (by show n < 18446744073709551616; omega)
    simp only [h1]
    rw [if_neg]
    intro hc
    simp only [Bool.and_eq_true, decide_eq_true_eq] at hc
    have : n ≥ 9223372036854775808 := hc.2
    omega
  · have h1 : n % (2 ^ IntKind.i64.bits : Int) = n + 18446744073709551616 := by
      show n % 18446744073709551616 = n + 18446744073709551616
      omega
    simp only [h1]
    rw [if_pos]
    · show n + 18446744073709551616 - 18446744073709551616 = n
      omega
    · simp only [Bool.and_eq_true, decide_eq_true_eq]
      refine ⟨rfl, ?_⟩
      show n + 18446744073709551616 ≥ 9223372036854775808
      omega
theorem w64_mod (n : Int) : w64 n = (n + 9223372036854775808) % 18446744073709551616 - 9223372036854775808 := by
  show IntKind.wrap .i64 n = _
  unfold IntKind.wrap
  have hb : (2 ^ IntKind.i64.bits : Int) = 18446744073709551616 := rfl
  have hc : (2 ^ (IntKind.i64.bits - 1) : Int) = 9223372036854775808 := rfl
  simp only [hb, hc]
  have hs : IntKind.i64.signed = true := rfl
  simp only [hs, Bool.true_and, decide_eq_true_eq]
  split <;> omega
theorem appOk_small {b n m : Nat} (hb : b ≤ 1000000) (hn : n ≤ 1000000) (hm : m ≤ 1000000) (h : 0 < m ∨ n = 0) : appOk b n m = true := by
  unfold appOk
  simp only [Bool.and_eq_true, Bool.or_eq_true]
  refine ⟨⟨Nat.ble_eq_true_of_le ?_, Nat.ble_eq_true_of_le (by omega)⟩, ?_⟩
  · calc (n + m + 512) * b ≤ 2000512 * 1000000 := Nat.mul_le_mul (by omega) hb
      _ ≤ 17592186044416 := by decide
  · rcases h with h | h
    · exact .inl (by rw [Nat.blt_eq]; exact h)
    · exact .inr (by subst h; rfl)
@[simp] theorem topOk_self (n : Nat) : topOk n n = true := Nat.beq_refl n
theorem Sl.push_n {α : Type} [Inhabited α] (s : Sl α) (v : α) : (s.push v).n = s.n + 1 := rfl
theorem Sl.push_old {α : Type} [Inhabited α] {s : Sl α} {v : α} {i : Nat} (h : i < s.n) : (s.push v).get i = s.get i := by
  have : Nat.blt i s.n = true := by rw [Nat.blt_eq]; exact h
  simp only [Sl.push, this, cond_true]
theorem Sl.push_new {α : Type} [Inhabited α] {s : Sl α} {v : α} : (s.push v).get s.n = v := by
  have : Nat.blt s.n s.n = false := by
    cases h : Nat.blt s.n s.n with
    | false => rfl
    | true => rw [Nat.blt_eq] at h; omega
  simp only [Sl.push, this, cond_false, Nat.beq_refl, cond_true]
theorem Sl.join_n {α : Type} (s t : Sl α) : (s.join t).n = s.n + t.n := rfl
theorem Sl.join_left {α : Type} {s t : Sl α} {i : Nat} (h : i < s.n) : (s.join t).get i = s.get i := by
  have : Nat.blt i s.n = true := by rw [Nat.blt_eq]; exact h
  simp only [Sl.join, this, cond_true]
theorem Sl.join_right {α : Type} {s t : Sl α} {i : Nat} (h : s.n ≤ i) : (s.join t).get i = t.get (i - s.n) := by
  have : Nat.blt i s.n = false := by
    cases h' : Nat.blt i s.n with
    | false => rfl
    | true => rw [Nat.blt_eq] at h'; omega
  simp only [Sl.join, this, cond_false]
/-- two slices of the same length with the same elements -/
def Sl.Eqv {α : Type} (s t : Sl α) : Prop := s.n = t.n ∧ ∀ i, i < s.n → s.get i = t.get i
end Go.K
