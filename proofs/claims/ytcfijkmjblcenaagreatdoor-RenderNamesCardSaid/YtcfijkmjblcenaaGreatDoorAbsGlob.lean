/-
  Package-level variables that hold numbers: from what a row says of them to the cells that the abstract machine begins with.
-/
import Derived.Test.YtcfijkmjblcenaaGreatDoorAbsCode
import Derived.FnData
import Derived.ChangeArms
import Derived.OpenShut
import GoSem.ClaimJoined
namespace Go.Abs
open Go

/-- pieces that lie one behind the other -/
def joinCells (P : Program) (r : TypeId → DataW Unit → Option (List Value)) : List (Nat × TypeId) → List (DataW Unit) → Nat → Option (List Value)
  | [], [], _ => some []
  | (off, t) :: ps, d :: ds, o => cond (Nat.beq off o) ((r t d).bind fun l => cond (Nat.beq l.length (P.cellsOf t)) ((joinCells P r ps ds (o + l.length)).map (l ++ ·)) none) none
  | _, _, _ => none
/-- the cells that a datum of numbers spells at a type -/
def datCells (P : Program) : Nat → TypeId → DataW Unit → Option (List Value)
  | 0, _, _ => none
  | n + 1, t, d =>
    match P.underlying t, d with
    | some (.int _), .lit (.int k z) => some [.int k z]
    | some (.struct fs), .agg ds => (joinCells P (datCells P n) (fs.toList.map fun f => (f.offset, f.type)) ds 0).bind fun l => cond (Nat.beq l.length (P.cellsOf t)) (some l) none
    | some (.array m e), .agg ds => (joinCells P (datCells P n) ((List.range m).map fun i => (i * P.cellsOf e, e)) ds 0).bind fun l => cond (Nat.beq l.length (P.cellsOf t)) (some l) none
    | _, _ => none

theorem joinCells_spec {P : Program} {r : TypeId → DataW Unit → Option (List Value)} {cs : List Value} : ∀ (ps : List (Nat × TypeId)) (ds : List (DataW Unit)) (o : Nat) (L : List Value), joinCells P r ps ds o = some L →
    (∀ (i : Nat) (off : Nat) (t : TypeId) (d : DataW Unit) (l : List Value), ps[i]? = some (off, t) → ds[i]? = some d → r t d = some l → (cs.drop off).take (P.cellsOf t) = l) → (cs.drop o).take L.length = L
  | [], [], o, L, h, _ => by simp [joinCells] at h; subst h; simp
  | [], _ :: _, o, L, h, _ => by simp [joinCells] at h
  | _ :: _, [], o, L, h, _ => by simp [joinCells] at h
  | (off, t) :: ps, d :: ds, o, L, h, hk => by
    simp only [joinCells] at h
    cases h1 : Nat.beq off o with
    | false => rw [h1] at h; simp at h
    | true =>
      rw [h1, cond_true] at h
      have := Nat.eq_of_beq_eq_true h1
      subst this
      obtain ⟨l, h2, h⟩ := Option.bind_eq_some_iff.1 h
      cases h3 : Nat.beq l.length (P.cellsOf t) with
      | false => rw [h3] at h; simp at h
      | true =>
        rw [h3, cond_true] at h
        have h3 := Nat.eq_of_beq_eq_true h3
        obtain ⟨L', h4, rfl⟩ := Option.map_eq_some_iff.1 h
        have h5 := hk 0 off t d l rfl rfl h2
        have h6 := joinCells_spec ps ds _ L' h4 (fun i off t d l a b c => hk (i + 1) off t d l a b c)
        rw [List.length_append, List.take_add, List.drop_drop, h3, h5, ← h3, h6]

theorem datCells_spec {P : Program} {w : World} {enc : TypeId × Value → Unit} {base : Nat} {sp : Nat → Bool} {held : Bool} : ∀ (n : Nat) (t : TypeId) (d : DataW Unit) (cs l : List Value) (fuel : Nat) (p : List MemPlace),
    DataW.trod enc P w base sp held fuel t cs = some (d, p) → datCells P n t d = some l → cs = l
  | 0, _, _, _, _, _, _, _, h => by simp [datCells] at h
  | n + 1, t, d, cs, l, fuel, p, ht, h => by
    have fin : ∀ {ps : List (Nat × TypeId)} {ds : List (DataW Unit)}, ((joinCells P (datCells P n) ps ds 0).bind fun l => cond (Nat.beq l.length (P.cellsOf t)) (some l) none) = some l → cs.length = P.cellsOf t →
        (∀ (i : Nat) (off : Nat) (t : TypeId) (d : DataW Unit) (l : List Value), ps[i]? = some (off, t) → ds[i]? = some d → datCells P n t d = some l → (cs.drop off).take (P.cellsOf t) = l) → cs = l := by
      intro ps ds h hl hk
      obtain ⟨L, h1, h2⟩ := Option.bind_eq_some_iff.1 h
      cases h3 : Nat.beq L.length (P.cellsOf t) with
      | false => rw [h3] at h2; simp at h2
      | true =>
        rw [h3, cond_true] at h2
        simp at h2; subst h2
        have h4 := joinCells_spec ps ds 0 L h1 hk
        rw [Nat.eq_of_beq_eq_true h3, ← hl] at h4
        simpa using h4
    unfold datCells at h
    split at h
    · rename_i k k' z hu
      simp at h
      obtain ⟨m, rfl, e, _⟩ := DataW.trod_int hu ht
      simp at e
      obtain ⟨⟨rfl, rfl⟩, _⟩ := e
      exact h
    · rename_i fs ds hu
      obtain ⟨xs, m, rfl, e, hl, hn, hx⟩ := DataW.trod_struct hu ht
      simp at e
      obtain ⟨rfl, rfl⟩ := e
      refine fin h hl fun i off t' d' l' h1 h2 h3 => ?_
      rw [List.getElem?_map] at h1 h2
      obtain ⟨f, h4, h5⟩ := Option.map_eq_some_iff.1 h1
      obtain ⟨x, h6, h7⟩ := Option.map_eq_some_iff.1 h2
      simp at h5
      obtain ⟨rfl, rfl⟩ := h5
      subst h7
      have h8 := hx i f (by simpa using h4)
      rw [h6] at h8
      exact datCells_spec n _ _ _ _ m x.2 h8 h3
    · rename_i m e ds hu
      obtain ⟨xs, m', rfl, e, hl, hn, hx⟩ := DataW.trod_array hu ht
      simp at e
      obtain ⟨rfl, rfl⟩ := e
      refine fin h hl fun i off t' d' l' h1 h2 h3 => ?_
      rw [List.getElem?_map] at h1 h2
      obtain ⟨f, h4, h5⟩ := Option.map_eq_some_iff.1 h1
      obtain ⟨x, h6, h7⟩ := Option.map_eq_some_iff.1 h2
      simp at h5
      obtain ⟨rfl, rfl⟩ := h5
      subst h7
      obtain ⟨h9, h10⟩ := List.getElem?_eq_some_iff.1 h4
      simp at h9 h10
      subst h10
      have h8 := hx i h9
      rw [h6] at h8
      exact datCells_spec n _ _ _ _ m' x.2 h8 h3
    · simp at h

/-- what the machine begins with, of a row's list -/
def globsOf (P : Program) : List (String × DataW Unit) → Option (List (Nat × List Value))
  | [] => some []
  | (n, d) :: laid => (P.globalNamed n).bind fun g => ((P.globals[g]?).map (·.type)).bind fun t => (datCells P 8 t d).bind fun cs => (globsOf P laid).map fun r => (g, cs) :: r
theorem globsOf_spec {P : Program} {w : World} : ∀ (laid : List (String × DataW Unit)) (ps : List MemPlace) (r : List (Nat × List Value)), DataW.LaidVars P w laid ps → globsOf P laid = some r →
    ∀ x ∈ r, x.1 < w.heap.size ∧ ∀ i, w.cell? ⟨x.1, i, none⟩ = x.2[i]?
  | [], _, r, _, h => by simp [globsOf] at h; subst h; simp
  | (n, d) :: laid, ps, r, hl, h => by
    obtain ⟨g, t, cs, fuel, p, q, h1, h2, h3, h4, h5, _⟩ := hl
    simp only [globsOf, h1, Option.bind_some] at h
    obtain ⟨t', h6, h⟩ := Option.bind_eq_some_iff.1 h
    rw [h2] at h6
    simp at h6; subst h6
    obtain ⟨cs', h7, h⟩ := Option.bind_eq_some_iff.1 h
    obtain ⟨r', h8, rfl⟩ := Option.map_eq_some_iff.1 h
    have h9 := datCells_spec 8 t d _ _ fuel p h4 h7
    intro x hx
    rcases List.mem_cons.1 hx with rfl | hx
    · refine ⟨?_, fun i => ?_⟩
      · simp only [World.var?, h1, Option.bind_some] at h3
        split at h3
        · rename_i e; exact (Array.getElem?_eq_some_iff.1 e).1
        · simp at h3
      · rw [World.var?_cell h1 h3 i]
        simp only
        rw [← h9]; simp
    · exact globsOf_spec laid q r' h5 h8 x hx
def globOk (gl : List (Nat × List Value × Nat)) : Bool := gl.all fun x => Nat.blt x.1 gB && x.2.1.all fun v => flat v && scalar v
theorem globIn_of_laid {P : Program} {w : World} {laid : List (String × DataW Unit)} {gl : List (Nat × List Value × Nat)} (h : laidMetH P laid w) (hh : laid.filter (fun x => x.2.handleName?.isSome) = []) (hg : globsOf P laid = some (gl.map fun x => (x.1, x.2.1))) (hk : globOk gl = true) : GlobIn w gl := by
  unfold laidMetH at h
  rw [hh] at h
  obtain ⟨ps, h1, _⟩ := h
  intro x hx
  have h2 := globsOf_spec laid ps _ h1 hg (x.1, x.2.1) (List.mem_map.2 ⟨x, hx, rfl⟩)
  have h3 := List.all_eq_true.1 hk x hx
  simp only [Bool.and_eq_true] at h3
  exact ⟨Nat.le_of_ble_eq_true h3.1, h2.1, h3.2, fun i v hi => by rw [h2.2]; exact hi⟩
end Go.Abs
