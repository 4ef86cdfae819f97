/-
  Plain data behind the machine's values: slices as lengths with elements; functions and loops over them, told.
-/
import Derived.Test.YtjmpheohljeapaaKClosed
import Derived.KernelRfl
namespace Go.K
open Go Go.Abs

/-- a slice that nobody writes: its length, its elements -/
structure Sl (α : Type) where
  n : Nat
  get : Nat → α
instance {α : Type} [Inhabited α] : Inhabited (Sl α) := ⟨⟨0, fun _ => default⟩⟩
def kSl {α : Type} (T : TypeId) (k : α → KV) (s : Sl α) : KV := .ts T .any s.n ((List.range s.n).map fun i => k (s.get i)) (fun i => k (s.get i))
def slK {α : Type} (p : KV → α) (n : Nat) (acc : Nat → KV) : Sl α := ⟨n, fun i => p (acc i)⟩
def pSl {α : Type} (p : KV → α) (v : KV) : Sl α := slK p (lenOf v) (accOf v)
def kI (k : IntKind) (n : Int) : KV := .int k n
def kB (b : Bool) : KV := .bool b
def kS (s : ByteArray) : KV := .str s
abbrev w64 (n : Int) : Int := IntKind.wrap .i64 n
abbrev w8 (n : Int) : Int := IntKind.wrap .u8 n
abbrev w16 (n : Int) : Int := IntKind.wrap .u16 n
abbrev wu64 (n : Int) : Int := IntKind.wrap .u64 n
/-- one more behind -/
def Sl.push {α : Type} [Inhabited α] (s : Sl α) (v : α) : Sl α := ⟨s.n + 1, fun i => cond (Nat.blt i s.n) (s.get i) (cond (Nat.beq i s.n) v default)⟩
/-- one behind the other -/
def Sl.join {α : Type} (s t : Sl α) : Sl α := ⟨s.n + t.n, fun i => cond (Nat.blt i s.n) (s.get i) (t.get (i - s.n))⟩
theorem slK_push {α : Type} [Inhabited α] {p : KV → α} {k : α → KV} (h : ∀ x, p (k x) = x) (hd : p .unk = default) (s : Sl α) (v : α) : slK p (s.n + 1) (joinAcc s.n (fun i => k (s.get i)) (defAcc [k v])) = s.push v := by
  unfold slK Sl.push
  congr 1
  funext i
  unfold joinAcc
  cases hb : Nat.blt i s.n with
  | true => exact h _
  | false =>
    have hi : s.n ≤ i := by
      cases Nat.lt_or_ge i s.n with
      | inl h => rw [← Nat.blt_eq, hb] at h; simp at h
      | inr h => exact h
    rw [cond_false, cond_false]
    cases hq : Nat.beq i s.n with
    | true =>
      have := Nat.eq_of_beq_eq_true hq
      subst this
      rw [Nat.sub_self, cond_true]
      exact h v
    | false =>
      have hne : i ≠ s.n := fun e => by rw [e, Nat.beq_refl] at hq; simp at hq
      rw [cond_false]
      obtain ⟨j, hj⟩ : ∃ j, i - s.n = j + 1 := ⟨i - s.n - 1, by omega⟩
      rw [hj]
      exact hd
theorem slK_join {α : Type} {p : KV → α} {k : α → KV} (h : ∀ x, p (k x) = x) (s t : Sl α) : slK p (s.n + t.n) (joinAcc s.n (fun i => k (s.get i)) (fun i => k (t.get i))) = s.join t := by
  unfold slK Sl.join
  congr 1
  funext i
  unfold joinAcc
  cases Nat.blt i s.n <;> exact h _
theorem push_Int (s : Sl Int) (v : Int) : s.push v = slK intOf (s.n + 1) (joinAcc s.n (fun i => kI .i64 (s.get i)) (defAcc [kI .i64 v])) := (slK_push (fun _ => rfl) rfl s v).symm
theorem join_Int (s t : Sl Int) : s.join t = slK intOf (s.n + t.n) (joinAcc s.n (fun i => kI .i64 (s.get i)) (fun i => kI .i64 (t.get i))) := (slK_join (fun _ => rfl) s t).symm
theorem push_Bool (s : Sl Bool) (v : Bool) : s.push v = slK boolOf (s.n + 1) (joinAcc s.n (fun i => kB (s.get i)) (defAcc [kB v])) := (slK_push (fun _ => rfl) rfl s v).symm
theorem join_Bool (s t : Sl Bool) : s.join t = slK boolOf (s.n + t.n) (joinAcc s.n (fun i => kB (s.get i)) (fun i => kB (t.get i))) := (slK_join (fun _ => rfl) s t).symm
theorem map_cond {α β : Type} (f : α → β) (c : Bool) (a b : Option α) : Option.map f (cond c a b) = cond c (Option.map f a) (Option.map f b) := by cases c <;> rfl

/-! ## Lists of what is told -/
def PcsOk (P : Program) (ps : List (Nat × (List KV → KR KV))) : Prop := ∀ p ∈ ps, PureOk P p.1 p.2
theorem PcsOk.nil {P : Program} : PcsOk P [] := fun p hp => by simp at hp
theorem PcsOk.cons {P : Program} {g : Nat} {F : List KV → KR KV} {ps : List (Nat × (List KV → KR KV))} (h : PureOk P g F) (t : PcsOk P ps) : PcsOk P ((g, F) :: ps) := fun p hp => by
  rcases List.mem_cons.1 hp with rfl | hp
  · exact h
  · exact t p hp
theorem PcsOk.append {P : Program} {ps qs : List (Nat × (List KV → KR KV))} (h : PcsOk P ps) (t : PcsOk P qs) : PcsOk P (ps ++ qs) := fun p hp => (List.mem_append.1 hp).elim (h p) (t p)
theorem PcsOk.pc {P : Program} {ps : List (Nat × (List KV → KR KV))} (h : PcsOk P ps) : PcOk P (pcOf ps) := pc_all h
def LpsOk (P : Program) (ls : List Lp) : Prop := ∀ l ∈ ls, l.Ok P ∧ loopThere P l.f l.p = true
theorem LpsOk.nil {P : Program} : LpsOk P [] := fun p hp => by simp at hp
theorem LpsOk.cons {P : Program} {l : Lp} {ls : List Lp} (h : l.Ok P) (h' : loopThere P l.f l.p = true) (t : LpsOk P ls) : LpsOk P (l :: ls) := fun p hp => by
  rcases List.mem_cons.1 hp with rfl | hp
  · exact ⟨h, h'⟩
  · exact t p hp
noncomputable def cfgOf (P : Program) (ps : List (Nat × (List KV → KR KV))) (ls : List Lp) : Cfg := ⟨pcOf ps, lpOf P ls⟩
/-- a function over plain data -/
noncomputable def typedF {R : Type} [Inhabited R] (k : R → KV) (r : List KV → Option R) : List KV → KR KV := fun as => .chk (r as).isSome (k ((r as).getD default))
theorem pure_typed {P : Program} {R : Type} [Inhabited R] {k : R → KV} {r : List KV → Option R} {g : FuncId} (hP : P.funcs.toList.all funcOk = true) (hm : P.follows .mixedOrders = true) {ps : List (Nat × (List KV → KR KV))} {ls : List Lp} (hpc : PcsOk P ps) (hlp : LpsOk P ls) {L n : Nat}
    (h : ∀ w, pureK P (cfgOf P ps ls) L n g (formA P (paramsOf P g) w 0) = (r (formA P (paramsOf P g) w 0)).map k) : PureOk P g (guardF P g (typedF k r)) :=
  pure_of (cfg := cfgOf P ps ls) hP hm hpc.pc (lp_all hP hm hlp) fun w v hv => by
    obtain ⟨h1, h2⟩ := Gives.chk hv
    rw [h w]
    cases hr : r (formA P (paramsOf P g) w 0) with
    | none => rw [hr] at h1; simp at h1
    | some x => rw [hr] at h2; rw [← h2]; rfl
theorem loop_typed {P : Program} {l : Lp} {X : Type} [Inhabited X] (hP : P.funcs.toList.all funcOk = true) (hm : P.follows .mixedOrders = true) {ps : List (Nat × (List KV → KR KV))} {ls : List Lp} (hpc : PcsOk P ps) (hlp : LpsOk P ls) {L n : Nat} {step : X → Stp X} {ev : X → List KV} {er : X → List (List KV)} {es : List AExit} {pa : List KV → List (List KV) → X}
    (hF : l.F = fun vs rs => tellBy ev er (goN step (pa vs rs)) es) (hst : ∀ wv wr, ev (pa (formVs P l.S.vals wv 0) (formRs P l.S.rows wr 0)) = formVs P l.S.vals wv 0 ∧ er (pa (formVs P l.S.vals wv 0) (formRs P l.S.rows wr 0)) = formRs P l.S.rows wr 0)
    (hrd : ∀ x, roundK P (cfgOf P ps ls) L n l.f l.p (bodyOf P l.f l.p) l.S (ev x) (er x) = Stp.enc ev er (step x)) : l.Ok P :=
  loop_ok (cfg := cfgOf P ps ls) hpc.pc (lp_all hP hm hlp) (fun _ _ => by rw [hF]) hst hrd
theorem funcs_ok {P : Program} (h : P.funcs.toList.all funcOk = true) : P.funcs.toList.all funcOk = true := h
end Go.K
