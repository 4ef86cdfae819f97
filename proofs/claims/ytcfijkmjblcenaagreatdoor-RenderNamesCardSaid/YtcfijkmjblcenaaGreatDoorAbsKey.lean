/-
  A path's text (two rows of small numbers put into one string) told whole: from the run of its body (shown for a program) to what the abstract machine says of it.
-/
import Derived.Test.YtcfijkmjblcenaaGreatDoorAbsCode
namespace Go.Abs
noncomputable section
open Go

/-! ## The text -/
def dd (i : Nat) : List UInt8 := if i < 10 then [UInt8.ofNat (48 + i)] else [UInt8.ofNat (48 + i / 10), UInt8.ofNat (48 + i % 10)]
def piece (s g : Nat) (k : Option Nat) : List UInt8 := dd s ++ [46] ++ dd g ++ [32] ++ (match k with | some k => dd k ++ [32] | none => [])
def upto (S G : Nat → Nat) (K : Nat → Option Nat) : Nat → List UInt8
  | 0 => []
  | n + 1 => upto S G K n ++ piece (S n) (G n) (K n)

/-- the run of a path's text -/
structure KeyRuns (P : Program) (f : FuncId) : Prop where
  fn : ∃ fn, P.funcs[f]? = some fn ∧ fn.body.isSome = true ∧ (fn.name == "runtime.NumGoroutine") = false
  run : ∀ (bn on n cn : Nat) (ak : Option Addr) (k ck : Nat) (S G K : Nat → Nat) (w : World), n ≤ 1000 → bn < w.heap.size →
    (∀ i, i < n → w.cell? ⟨bn, on + i * 2, none⟩ = some (.int .i64 (S i))) → (∀ i, i < n → w.cell? ⟨bn, on + i * 2 + 1, none⟩ = some (.int .i64 (G i))) →
    (∀ i, i < k → ∃ bk ok, ak = some ⟨bk, ok, none⟩ ∧ bk < w.heap.size ∧ w.cell? ⟨bk, ok + i, none⟩ = some (.int .i64 (K i))) →
    (∀ i, i < n → S i < 100 ∧ G i < 100) → (∀ i, i < k → K i < 100) →
    Calls P f #[.agg #[.slice (some ⟨bn, on, none⟩) n cn, .slice ak k ck]] w fun e w' => e = .returned (.string ⟨(upto S G (fun i => if i < k then some (K i) else none) n).toArray⟩) ∧ RowKit.Below w.heap.size w w'

def nat99 : Value → Option Nat
  | .int .i64 (.ofNat n) => cond (Nat.blt n 100) (some n) none
  | _ => none
def natsOf : List Value → Option (List Nat)
  | [] => some []
  | v :: vs => (nat99 v).bind fun n => (natsOf vs).map (n :: ·)
def cellsAt (A : St) (a : Addr) (m : Nat) : Option (List Nat) :=
  match A.get a.block with
  | some (.row cs _ _ _) => (takeN m (dropN a.off cs)).bind natsOf
  | _ => none
def kidsAt (A : St) : Option Addr → Nat → Option (List Nat)
  | _, 0 => some []
  | some a, k + 1 => cellsAt A a (k + 1)
  | none, _ + 1 => none
def fKey (A : St) (args : List Value) : Option (Value × St) :=
  match args with
  | [.agg ⟨[.slice (some a) n _, .slice ak k _]⟩] => cond (Nat.blt 0 n && Nat.ble n 1000) ((cellsAt A a (n * 2)).bind fun ns => (kidsAt A ak k).bind fun ks =>
      some (.string ⟨(upto (fun i => ns.getD (i * 2) 0) (fun i => ns.getD (i * 2 + 1) 0) (fun i => if i < k then some (ks.getD i 0) else none) n).toArray⟩, A)) none
  | _ => none
def keyTold (g : FuncId) (rest : Told) : Told := fun f => cond (Nat.beq f g) (some fun args A => fKey A args) (rest f)

/-! ## What is told is true -/
theorem nat99_eq {v : Value} {n : Nat} (h : nat99 v = some n) : v = .int .i64 n ∧ n < 100 := by
  unfold nat99 at h
  split at h
  · rename_i m
    cases hb : Nat.blt m 100 with
    | true =>
      rw [hb] at h
      simp at h
      subst h
      exact ⟨rfl, by simpa [Nat.blt_eq] using hb⟩
    | false => rw [hb] at h; simp at h
  · simp at h
theorem natsOf_get : ∀ {l : List Value} {ns : List Nat}, natsOf l = some ns → ns.length = l.length ∧ ∀ i, i < l.length → l[i]? = some (.int .i64 (ns.getD i 0)) ∧ ns.getD i 0 < 100
  | [], ns, h => by simp [natsOf] at h; subst h; simp
  | v :: l, ns, h => by
    simp only [natsOf] at h
    obtain ⟨n, h1, h⟩ := Option.bind_eq_some_iff.1 h
    obtain ⟨r, h2, rfl⟩ := Option.map_eq_some_iff.1 h
    obtain ⟨h3, h4⟩ := natsOf_get h2
    obtain ⟨rfl, h5⟩ := nat99_eq h1
    refine ⟨by simp [h3], fun i hi => ?_⟩
    cases i with
    | zero => exact ⟨by simp, by simpa using h5⟩
    | succ i =>
      have := h4 i (by simpa using hi)
      exact ⟨by simpa using this.1, by simpa using this.2⟩
/-- the relation where nothing that lay has turned -/
theorem Sim.below {ρ : Ren} {A : St} {base : Nat} {w w' : World} (h : Sim ρ A base w) (hb : RowKit.Below w.heap.size w w') : Sim ρ A base w' := by
  refine ⟨⟨fun b cs esz own kin hg => ?_, fun b es hg => ?_, fun b s pos hg => ?_, fun b st e t ps c d hg => ?_, h.rel.apart, h.rel.listed⟩, h.dom, Nat.le_trans h.size hb.size, h.glob⟩
  · obtain ⟨l, e, r⟩ := h.rel.row b cs esz own kin hg
    have hc : ∀ j, w'.cell? ⟨l.cb, j, none⟩ = w.cell? ⟨l.cb, j, none⟩ := fun j => hb.cell (p := ⟨l.cb, j, none⟩) r.lies
    have hf : ∀ j, w'.frozen? ⟨l.cb, j, none⟩ = w.frozen? ⟨l.cb, j, none⟩ := fun j => hb.frozen (p := ⟨l.cb, j, none⟩) r.lies
    exact ⟨l, e, fun i v hi => by rw [hc]; exact r.cells i v hi, r.foreign, r.mine, fun ho j hj => by rw [hc, hf]; exact r.there ho j hj, r.fits, r.ends, r.esz, Nat.lt_of_lt_of_le r.lies hb.size, fun ho h1 j => by rw [hf]; exact r.mark ho h1 j⟩
  · obtain ⟨l, e, r⟩ := h.rel.map b es hg
    obtain ⟨es', c, h1, h2⟩ := r.lies
    have hlt : l.cb < w.heap.size := (Array.getElem?_eq_some_iff.1 h1).1
    exact ⟨l, e, r.mine, es', c, (hb.block l.cb hlt).trans h1, h2⟩
  · obtain ⟨l, e, r⟩ := h.rel.iter b s pos hg
    obtain ⟨h0, h1⟩ := r.lies
    have hlt : l.cb < w.heap.size := (Array.getElem?_eq_some_iff.1 h1).1
    exact ⟨l, e, r.mine, h0, (hb.block l.cb hlt).trans h1⟩
  · obtain ⟨l, h1, r⟩ := h.rel.loop b st e t ps c d hg
    obtain ⟨fn, tmps, D, N, h2, h3⟩ := r.lies
    have hlt : l.cb < w.heap.size := (Array.getElem?_eq_some_iff.1 h2).1
    exact ⟨l, h1, r.mine, fn, tmps, D, N, (hb.block l.cb hlt).trans h2, h3⟩
theorem Goes.below {ρ : Ren} {A : St} {base : Nat} {w w' : World} (h : Sim ρ A base w) (hb : RowKit.Below w.heap.size w w') : Goes base ρ A w ρ A w' :=
  ⟨h.below hb, fun _ _ => rfl, ⟨hb.os, hb.tape, hb.output, hb.size, fun k hk _ => hb.block k hk⟩, Nat.le_refl _, Nat.le_refl _, fun _ _ _ => rfl, fun _ _ h => h⟩
/-- a slice's numbers lie in the world -/
theorem cellsAt_sound {ρ : Ren} {A : St} {base : Nat} {w : World} {a : Addr} {n c m : Nat} {ns : List Nat} {y : Value} (hs : Sim ρ A base w) (hv : VR ρ (.slice (some a) n c) y) (hc0 : 0 < c) (h : cellsAt A a m = some ns) :
    ∃ b o c', y = .slice (some ⟨b, o, none⟩) n c' ∧ b < w.heap.size ∧ ∀ i, i < m → w.cell? ⟨b, o + i, none⟩ = some (.int .i64 (ns.getD i 0)) ∧ ns.getD i 0 < 100 := by
  simp only [VR] at hv
  obtain ⟨_, _, l, a', c', hl, hcc, ha, _, rfl⟩ := hv
  have ha := ha (by omega)
  subst ha
  unfold cellsAt at h
  split at h
  · rename_i cs esz own kin hg
    obtain ⟨l', hl', ok⟩ := hs.rel.row _ _ _ _ _ hg
    rw [hl] at hl'
    simp at hl'
    subst hl'
    obtain ⟨xs, h1, h2⟩ := Option.bind_eq_some_iff.1 h
    rw [dropN_eq] at h1
    obtain ⟨rfl, hlen⟩ := takeN_eq h1
    obtain ⟨h3, h4⟩ := natsOf_get h2
    refine ⟨_, _, _, rfl, ok.lies, fun i hi => ?_⟩
    have hxl : ((cs.drop a.off).take m).length = m := by rw [List.length_take]; omega
    obtain ⟨h5, h6⟩ := h4 i (by rw [hxl]; exact hi)
    rw [List.getElem?_take, if_pos hi, List.getElem?_drop] at h5
    obtain ⟨v', h7, h8, _⟩ := ok.cells _ _ h5
    have := h8.int_inv
    subst this
    rw [Nat.add_assoc]
    exact ⟨h7, h6⟩
  · simp at h
theorem key_sound {P : Program} {f : FuncId} (H : KeyRuns P f) {args args' : List Value} {A B : St} {v : Value} {ρ : Ren} {base : Nat} {w : World}
    (h : fKey A args = some (v, B)) (ha : VRL ρ args args') (hs : Sim ρ A base w) : Calls P f args'.toArray w fun ex w' => ∃ ρ' v', ex = .returned v' ∧ VR ρ' v v' ∧ Goes base ρ A w ρ' B w' := by
  unfold fKey at h
  split at h
  · rename_i a n c ak k ck
    obtain ⟨g', r1, rfl, hgv, ha1⟩ := ha.cons_inv
    have := ha1.nil_inv
    subst this
    obtain ⟨cs', rfl, hcs⟩ := hgv.agg_inv
    obtain ⟨cl⟩ := cs'
    obtain ⟨y1, r2, e1, hy1, hcs⟩ := hcs.cons_inv
    obtain ⟨y2, r3, e2, hy2, hcs⟩ := hcs.cons_inv
    have := hcs.nil_inv
    subst this
    subst e2
    have e1 : cl = [y1, y2] := e1
    subst e1
    cases hb : (Nat.blt 0 n && Nat.ble n 1000) with
    | false => rw [hb] at h; simp at h
    | true =>
      rw [hb, cond_true] at h
      obtain ⟨hn0, hn1⟩ := Bool.and_eq_true_iff.1 hb
      have hn0 : 0 < n := by simpa [Nat.blt_eq] using hn0
      have hn1 := Nat.le_of_ble_eq_true hn1
      obtain ⟨ns, h1, h⟩ := Option.bind_eq_some_iff.1 h
      obtain ⟨ks, h2, h⟩ := Option.bind_eq_some_iff.1 h
      simp only [Option.some.injEq, Prod.mk.injEq] at h
      obtain ⟨rfl, rfl⟩ := h
      have hnc : n ≤ c := by simp only [VR] at hy1; exact hy1.2.1
      obtain ⟨bn, on, cn, rfl, hlt, hcells⟩ := cellsAt_sound hs hy1 (by omega) h1
      obtain ⟨ak', ck', rfl⟩ := len_slice hy2
      have hK : ∀ i, i < k → (∃ bk ok, ak' = some ⟨bk, ok, none⟩ ∧ bk < w.heap.size ∧ w.cell? ⟨bk, ok + i, none⟩ = some (.int .i64 (ks.getD i 0))) ∧ ks.getD i 0 < 100 := by
        intro i hi
        cases k with
        | zero => omega
        | succ k =>
          cases ak with
          | none => simp [kidsAt] at h2
          | some b =>
            have hkc : k + 1 ≤ ck := by simp only [VR] at hy2; exact hy2.2.1
            obtain ⟨bk, ok, c2, e, hlt2, hc2⟩ := cellsAt_sound hs hy2 (by omega) h2
            simp at e
            obtain ⟨rfl, rfl⟩ := e
            exact ⟨⟨bk, ok, rfl, hlt2, (hc2 i hi).1⟩, (hc2 i hi).2⟩
      refine (H.run bn on n cn ak' k ck' (fun i => ns.getD (i * 2) 0) (fun i => ns.getD (i * 2 + 1) 0) (fun i => ks.getD i 0) w hn1 hlt (fun i hi => (hcells (i * 2) (by omega)).1) (fun i hi => by
        rw [Nat.add_assoc]; exact (hcells (i * 2 + 1) (by omega)).1) (fun i hi => (hK i hi).1) (fun i hi => ⟨(hcells (i * 2) (by omega)).2, (hcells (i * 2 + 1) (by omega)).2⟩) (fun i hi => (hK i hi).2)).mono ?_
      rintro ex w' ⟨rfl, hbl⟩
      exact ⟨ρ, _, rfl, by simp [VR], Goes.below hs hbl⟩
  · simp at h
theorem key_told {P : Program} {f : FuncId} (H : KeyRuns P f) {rest : Told} (hr : ToldOk P rest) : ToldOk P (keyTold f rest) := by
  intro g fn hS args A v B hg
  simp only [keyTold] at hS
  cases hb : Nat.beq g f with
  | false => rw [hb] at hS; exact hr g fn hS args A v B hg
  | true =>
    rw [hb] at hS
    have := Nat.eq_of_beq_eq_true hb
    subst this
    simp at hS
    subst hS
    exact ⟨H.fn, fun ρ args' base w hv hs => key_sound H hg hv hs⟩
end
end Go.Abs
