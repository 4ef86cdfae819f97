/-
  A region that draws its order: what has been done of it, and each next operation.
-/
import Derived.Test.YtcfijkmjblcenaaGreatDoorAbsDraw
namespace Go.Abs
noncomputable section
open Go

/-! ## The record of the text's own run -/
def dstOf (all : List Oper) (i : Nat) : Option Tmp := (all[i]?).bind (·.dst)
def textT (all : List Oper) (t0 : Tm) : List Rec → Tm
  | [] => t0
  | r :: R => putT (textT all t0 R) (dstOf all r.i) r.v
def Valid (P : Program) (call : CallF) (all : List Oper) (A0 : St) (t0 : Tm) : List Rec → Prop
  | [] => True
  | r :: R => Valid P call all A0 t0 R ∧ r.i = R.length ∧ ∃ o, all[R.length]? = some o ∧ recV P call (befAll [] all) all A0 R R.length (textT all t0 R) o = some r

theorem recIns_i {call : CallF} {b : List Nat} {A0 : St} {R : List Rec} {i : Nat} {t : Tm} {ins : Ins} {r : Rec} (h : recIns call b A0 R i t ins = some r) : r.i = i := by
  cases ins with
  | pure f xs => simp only [recIns] at h; obtain ⟨v, _, rfl⟩ := Option.map_eq_some_iff.1 h; rfl
  | read f xs => simp only [recIns] at h; obtain ⟨v, _, rfl⟩ := Option.map_eq_some_iff.1 h; rfl
  | make f xs => simp only [recIns] at h; obtain ⟨v, _, rfl⟩ := Option.map_eq_some_iff.1 h; rfl
  | act f xs =>
    simp only [recIns] at h
    obtain ⟨v, _, h⟩ := Option.bind_eq_some_iff.1 h
    cases hb : Nat.ble (nxAt A0 R) v.2.next <;> rw [hb] at h <;> simp at h
    subst h; rfl
  | call f xs =>
    simp only [recIns] at h
    obtain ⟨p, _, h⟩ := Option.bind_eq_some_iff.1 h
    obtain ⟨v, _, h⟩ := Option.bind_eq_some_iff.1 h
    cases hb : Nat.ble (nxAt A0 R) v.2.next <;> rw [hb] at h <;> simp at h
    subst h; rfl
  | bad => simp [recIns] at h
theorem recV_i {P : Program} {call : CallF} {b : List Nat} {all : List Oper} {A0 : St} {R : List Rec} {i : Nat} {t : Tm} {o : Oper} {r : Rec} (h : recV P call b all A0 R i t o = some r) : r.i = i := by
  unfold recV at h
  obtain ⟨wd, _, h⟩ := Option.bind_eq_some_iff.1 h
  cases wd with
  | true => exact recIns_i h
  | false => simp at h; subst h; rfl
theorem trace_valid {P : Program} {call : CallF} {all : List Oper} {A0 : St} {t0 : Tm} : ∀ (os : List Oper) (R R' : List Rec) (t' : Tm), all.drop R.length = os → Valid P call all A0 t0 R →
    traceV P call (befAll [] all) all A0 os R.length R (textT all t0 R) = some (R', t') → Valid P call all A0 t0 R' ∧ t' = textT all t0 R' ∧ R'.length = R.length + os.length
  | [], R, R', t', _, hv, h => by
    simp only [traceV, Option.some.injEq, Prod.mk.injEq] at h
    obtain ⟨rfl, rfl⟩ := h
    exact ⟨hv, rfl, by simp⟩
  | o :: os, R, R', t', hd, hv, h => by
    simp only [traceV] at h
    obtain ⟨r, hr, h⟩ := Option.bind_eq_some_iff.1 h
    have ho : all[R.length]? = some o := by
      have : (all.drop R.length)[0]? = some o := by rw [hd]; rfl
      rw [List.getElem?_drop] at this
      simpa using this
    have hi := recV_i hr
    have hd' : all.drop (R.length + 1) = os := by rw [← List.drop_drop, hd]; rfl
    have := trace_valid os (r :: R) R' t' (by simpa using hd') ⟨hv, hi, o, ho, hr⟩ (by
      have e : textT all t0 (r :: R) = putT (textT all t0 R) o.dst r.v := by simp [textT, dstOf, hi, ho]
      rw [e]
      exact h)
    refine ⟨this.1, this.2.1, ?_⟩
    rw [this.2.2]
    simp
    omega

/-- the record of operation j, and the records ahead of it -/
theorem Valid.at {P : Program} {call : CallF} {all : List Oper} {A0 : St} {t0 : Tm} : ∀ {R : List Rec} {r : Rec}, Valid P call all A0 t0 R → r ∈ R →
    ∃ R0 R1, R = R1 ++ r :: R0 ∧ Valid P call all A0 t0 R0 ∧ r.i = R0.length ∧ ∃ o, all[r.i]? = some o ∧ recV P call (befAll [] all) all A0 R0 r.i (textT all t0 R0) o = some r
  | [], r, _, h => by simp at h
  | x :: R, r, hv, h => by
    obtain ⟨h1, h2, o, h3, h4⟩ := hv
    rcases List.mem_cons.1 h with rfl | h
    · exact ⟨R, [], rfl, h1, h2, o, by rw [h2]; exact h3, by rw [h2]; exact h4⟩
    · obtain ⟨R0, R1, e, h5, h6, h7⟩ := Valid.at h1 h
      exact ⟨R0, x :: R1, by rw [e]; rfl, h5, h6, h7⟩
theorem Valid.lt {P : Program} {call : CallF} {all : List Oper} {A0 : St} {t0 : Tm} {R : List Rec} (hv : Valid P call all A0 t0 R) : ∀ {r : Rec}, r ∈ R → r.i < R.length := by
  intro r hr
  obtain ⟨R0, R1, e, _, h, _⟩ := hv.at hr
  rw [e, h]
  simp
  omega
theorem Valid.get {P : Program} {call : CallF} {all : List Oper} {A0 : St} {t0 : Tm} : ∀ {R : List Rec}, Valid P call all A0 t0 R → ∀ {i : Nat}, i < R.length → ∃ r ∈ R, r.i = i
  | [], _, i, h => by simp at h
  | x :: R, hv, i, h => by
    obtain ⟨h1, h2, _⟩ := hv
    by_cases e : i = R.length
    · exact ⟨x, by simp, by rw [h2, e]⟩
    · obtain ⟨r, hr, he⟩ := Valid.get h1 (i := i) (by simp at h; omega)
      exact ⟨r, by simp [hr], he⟩
theorem Valid.inj {P : Program} {call : CallF} {all : List Oper} {A0 : St} {t0 : Tm} : ∀ {R : List Rec}, Valid P call all A0 t0 R → ∀ {r s : Rec}, r ∈ R → s ∈ R → r.i = s.i → r = s
  | [], _, r, s, h, _, _ => by simp at h
  | x :: R, hv, r, s, hr, hs, e => by
    obtain ⟨h1, h2, _⟩ := hv
    rcases List.mem_cons.1 hr with hr | hr1
    · rcases List.mem_cons.1 hs with hs | hs1
      · rw [hr, hs]
      · have := Valid.lt h1 hs1; rw [hr] at e; omega
    · rcases List.mem_cons.1 hs with hs | hs1
      · have := Valid.lt h1 hr1; rw [hs] at e; omega
      · exact Valid.inj h1 hr1 hs1 e

/-- the numbers of blocks rise -/
theorem recV_nx {P : Program} {call : CallF} {b : List Nat} {all : List Oper} {A0 : St} {R : List Rec} {i : Nat} {t : Tm} {o : Oper} {r : Rec} (h : recV P call b all A0 R i t o = some r) :
    nxAt A0 R ≤ r.nx ∧ (∀ id ob, r.did = .make id ob → id = nxAt A0 R ∧ r.nx = id + 1) ∧ (∀ B, r.did = .act B → r.nx = B.next) ∧ ((∀ B, r.did ≠ .act B) → (∀ id ob, r.did ≠ .make id ob) → r.nx = nxAt A0 R) := by
  unfold recV at h
  obtain ⟨wd, _, h⟩ := Option.bind_eq_some_iff.1 h
  cases wd with
  | false => simp at h; subst h; simp
  | true =>
    rw [cond_true] at h
    generalize compile P o.op = ins at h
    cases ins with
    | pure f xs => simp only [recIns] at h; obtain ⟨v, _, rfl⟩ := Option.map_eq_some_iff.1 h; simp
    | read f xs => simp only [recIns] at h; obtain ⟨v, _, rfl⟩ := Option.map_eq_some_iff.1 h; simp
    | make f xs => simp only [recIns] at h; obtain ⟨v, _, rfl⟩ := Option.map_eq_some_iff.1 h; simp
    | act f xs =>
      simp only [recIns] at h
      obtain ⟨v, _, h⟩ := Option.bind_eq_some_iff.1 h
      cases hb : Nat.ble (nxAt A0 R) v.2.next <;> rw [hb] at h <;> simp at h
      subst h
      simpa using Nat.le_of_ble_eq_true hb
    | call f xs =>
      simp only [recIns] at h
      obtain ⟨p, _, h⟩ := Option.bind_eq_some_iff.1 h
      obtain ⟨v, _, h⟩ := Option.bind_eq_some_iff.1 h
      cases hb : Nat.ble (nxAt A0 R) v.2.next <;> rw [hb] at h <;> simp at h
      subst h
      simpa using Nat.le_of_ble_eq_true hb
    | bad => simp [recIns] at h
theorem Valid.nx_base {P : Program} {call : CallF} {all : List Oper} {A0 : St} {t0 : Tm} : ∀ {R : List Rec}, Valid P call all A0 t0 R → A0.next ≤ nxAt A0 R
  | [], _ => Nat.le_refl _
  | x :: R, hv => by
    obtain ⟨h1, h2, o, h3, h4⟩ := hv
    have := (recV_nx h4).1
    exact Nat.le_trans (Valid.nx_base h1) this
theorem Valid.nx_head {P : Program} {call : CallF} {all : List Oper} {A0 : St} {t0 : Tm} : ∀ {R : List Rec}, Valid P call all A0 t0 R → ∀ {r : Rec}, r ∈ R → r.nx ≤ nxAt A0 R
  | [], _, r, h => by simp at h
  | x :: R, hv, r, hr => by
    obtain ⟨h1, h2, o, h3, h4⟩ := hv
    rcases List.mem_cons.1 hr with rfl | hr
    · exact Nat.le_refl _
    · exact Nat.le_trans (Valid.nx_head h1 hr) (recV_nx h4).1
/-- what is ahead in the text has smaller numbers -/
theorem Valid.order {P : Program} {call : CallF} {all : List Oper} {A0 : St} {t0 : Tm} {R : List Rec} (hv : Valid P call all A0 t0 R) {r s : Rec} (hr : r ∈ R) (hs : s ∈ R) (hlt : r.i < s.i) :
    ∃ R0, (∃ o, recV P call (befAll [] all) all A0 R0 s.i (textT all t0 R0) o = some s) ∧ r.nx ≤ nxAt A0 R0 := by
  obtain ⟨R0, R1, e, h5, h6, o, h7, h8⟩ := hv.at hs
  refine ⟨R0, ⟨o, h8⟩, ?_⟩
  have hm : r ∈ R0 := by
    obtain ⟨r', hr', he'⟩ := h5.get (i := r.i) (by omega)
    have : r = r' := hv.inj hr (by rw [e]; simp [hr']) he'.symm
    rw [this]; exact hr'
  exact h5.nx_head hm
end
end Go.Abs
