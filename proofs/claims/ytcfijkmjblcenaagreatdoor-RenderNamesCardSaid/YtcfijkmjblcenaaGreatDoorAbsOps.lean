/-
  The abstract machine's operations do what the model's do.
-/
import Derived.Test.YtcfijkmjblcenaaGreatDoorAbsSim
namespace Go.Abs
open Go

def locOf (o : AObj) (cb : Nat) : Loc :=
  match o with
  | .row cs esz _ _ => ⟨cb, 0, cs.length, esz⟩
  | _ => ⟨cb, 0, 0, 0⟩

/-- a new block and the concrete one -/
def NewOk (ρ : Ren) (o : AObj) (c : Obj) : Prop :=
  match o with
  | .row cs _ true none => ∃ a T, c = .cells a T ∧ VRL ρ cs a.toList ∧ ∀ v ∈ cs, scalar v = true
  | .map [] => c = .map #[] 0
  | .iter s 0 => c = .stringIter ⟨⟨s⟩⟩ 0
  | _ => False

theorem NewOk.goes {ρ : Ren} {A : St} {base : Nat} {w : World} {o : AObj} {c : Obj} (hs : Sim ρ A base w) (h : NewOk ρ o c) :
    Goes base ρ A w (ρ.set A.next (locOf o w.heap.size)) (A.new o) (w.alloc c) := by
  have hnew : (w.alloc c).heap[w.heap.size]? = some c := (MapKept.heap_alloc w c).1
  unfold NewOk at h
  split at h
  · rename_i cs esz
    obtain ⟨a, T, rfl, h1, h2⟩ := h
    exact newRow_sound T hs h1 h2
  · subst h
    refine new_sound (o := .map []) hs (fun x => by simp) (fun f x h => by simpa using h) (fun fam f h => by simp [AObj.kin?] at h) (by simp) (by simp) (fun x hx _ => by simp; omega) rfl ?_
    exact ⟨hs.size, #[], 0, hnew, rfl⟩
  · rename_i s
    subst h
    refine new_sound (o := .iter s 0) hs (fun x => by simp) (fun f x h => by simpa using h) (fun fam f h => by simp [AObj.kin?] at h) (by simp) (by simp) (fun x hx _ => by simp; omega) rfl ?_
    exact ⟨hs.size, rfl, hnew⟩
  · exact h.elim

/-- the operands' values are related -/
def EvOn (ρ : Ren) (ev ev' : Operand → Value) (xs : List Operand) : Prop := ∀ x ∈ xs, VR ρ (ev x) (ev' x)
theorem EvOn.map {ρ : Ren} {ev ev' : Operand → Value} : ∀ {xs : List Operand}, EvOn ρ ev ev' xs → VRL ρ (xs.map ev) (xs.map ev')
  | [], _ => .nil
  | x :: xs, h => .cons (h x (by simp)) (EvOn.map fun y hy => h y (by simp [hy]))
theorem EvOn.left {ρ : Ren} {ev ev' : Operand → Value} {xs ys : List Operand} (h : EvOn ρ ev ev' (xs ++ ys)) : EvOn ρ ev ev' xs := fun x hx => h x (by simp [hx])
theorem EvOn.right {ρ : Ren} {ev ev' : Operand → Value} {xs ys : List Operand} (h : EvOn ρ ev ev' (xs ++ ys)) : EvOn ρ ev ev' ys := fun x hx => h x (by simp [hx])
theorem EvOn.tail {ρ : Ren} {ev ev' : Operand → Value} {x : Operand} {ys : List Operand} (h : EvOn ρ ev ev' (x :: ys)) : EvOn ρ ev ev' ys := fun y hy => h y (by simp [hy])

def IsVal (v' : Value) : Next → Prop
  | .value v => v = v'
  | .skip => v' = undef
  | _ => False

/-- what an operation must do -/
def InsOk (P : Program) (o : Oper) : Ins → Prop
  | .pure f xs => ∀ (ρ : Ren) (ev ev' : Operand → Value) (v : Value), EvOn ρ ev ev' xs → f (xs.map ev) = some v → ∃ v', VR ρ v v' ∧ ∀ w, (execOp ev' o).run P w = .ok (.value v') w
  | .read f xs => ∀ (ρ : Ren) (A : St) (base : Nat) (w : World) (ev ev' : Operand → Value) (v : Value), Rel ρ A.get A.members base w → EvOn ρ ev ev' xs → f A (xs.map ev) = some v →
      ∃ v', VR ρ v v' ∧ (execOp ev' o).run P w = .ok (.value v') w
  | .make f xs => ∀ (ρ : Ren) (ev ev' : Operand → Value) (obj : AObj) (mk : Nat → Value), EvOn ρ ev ev' xs → f (xs.map ev) = some (obj, mk) →
      ∃ (c : Obj) (mk' : Nat → Value), NewOk ρ obj c ∧ (∀ w, (execOp ev' o).run P w = .ok (.value (mk' w.heap.size)) (w.alloc c)) ∧ ∀ (ρ' : Ren) (n cb : Nat), ρ' n = some (locOf obj cb) → VR ρ' (mk n) (mk' cb)
  | .act f xs => ∀ (ρ : Ren) (A B : St) (base : Nat) (w : World) (ev ev' : Operand → Value) (v : Value), Sim ρ A base w → EvOn ρ ev ev' xs → f A (xs.map ev) = some (v, B) →
      ∃ ρ' v' nx w', (execOp ev' o).run P w = .ok nx w' ∧ IsVal v' nx ∧ VR ρ' v v' ∧ Goes base ρ A w ρ' B w'
  | .call f args => (∀ (ρ : Ren) (ev ev' : Operand → Value) (l : Nat), EvOn ρ ev ev' (f :: args) → ev f = .func (.yield l) ⟨[]⟩ ⟨[]⟩ →
      ∃ loc vs', ρ l = some loc ∧ VRL ρ (args.map ev) vs' ∧ ∀ w, (execOp ev' o).run P w = (Instr.yield loc.cb vs'.toArray).run P w) ∧
    ∀ (ρ : Ren) (ev ev' : Operand → Value) (g : FuncId) (vs : List Value), EvOn ρ ev ev' (f :: args) → Nat.blt g yB = true → calleeVal (args.map ev) (ev f) = some (g, vs) →
      (∃ fn, P.funcs[g]? = some fn ∧ fn.body.isSome = true ∧ (fn.name == "runtime.NumGoroutine") = false) → ∃ vs', VRL ρ vs vs' ∧ ∀ w, (execOp ev' o).run P w = .ok (.enter g vs'.toArray) w
  | .bad => True

section
variable {P : Program} {o : Oper}

theorem one {α : Type} {f : List Value → Option α} {xs : List Value} {r : α} (h : f xs = some r) (h0 : f [] = none) (h2 : ∀ a b l, f (a :: b :: l) = none) : ∃ x, xs = [x] := by
  cases xs with
  | nil => rw [h0] at h; simp at h
  | cons a l =>
    cases l with
    | nil => exact ⟨a, rfl⟩
    | cons b l => rw [h2] at h; simp at h

theorem ok_move {x : Operand} (ho : o.op = .move x) : InsOk P o (.pure fMove [x]) := by
  intro ρ ev ev' v he hf
  simp [fMove] at hf
  exact ⟨ev' x, hf ▸ he x (by simp), fun w => by simp [execOp, ho]⟩
theorem ok_assign {x : Operand} (ho : o.op = .assign x) : InsOk P o (.pure fMove [x]) := by
  intro ρ ev ev' v he hf
  simp [fMove] at hf
  exact ⟨ev' x, hf ▸ he x (by simp), fun w => by simp [execOp, ho]⟩
theorem VR.bool_inv {ρ : Ren} {b : Bool} {v : Value} (h : VR ρ (.bool b) v) : v = .bool b := by simpa [VR] using h
theorem VR.int_inv {ρ : Ren} {k : IntKind} {n : Int} {v : Value} (h : VR ρ (.int k n) v) : v = .int k n := by simpa [VR] using h
theorem VR.string_inv {ρ : Ren} {s : ByteArray} {v : Value} (h : VR ρ (.string s) v) : v = .string s := by simpa [VR] using h
theorem VR.agg_inv {ρ : Ren} {cs : Array Value} {v : Value} (h : VR ρ (.agg cs) v) : ∃ cs', v = .agg cs' ∧ VRL ρ cs.toList cs'.toList := by
  simp only [VR] at h; obtain ⟨c, h1, rfl⟩ := h; exact ⟨c, rfl, VRA_iff.1 h1⟩
theorem VR.tuple_inv {ρ : Ren} {cs : Array Value} {v : Value} (h : VR ρ (.tuple cs) v) : ∃ cs', v = .tuple cs' ∧ VRL ρ cs.toList cs'.toList := by
  simp only [VR] at h; obtain ⟨c, h1, rfl⟩ := h; exact ⟨c, rfl, VRA_iff.1 h1⟩
theorem VR.func_inv {ρ : Ren} {fn : Fn} {f c : Array Value} {v : Value} (h : VR ρ (.func fn f c) v) : ∃ f' c' fn', v = .func fn' f' c' ∧ VRL ρ f.toList f'.toList ∧ VRL ρ c.toList c'.toList ∧ FnR ρ fn fn' := by
  simp only [VR] at h; obtain ⟨f', c', h1, h2, fn', h3, rfl⟩ := h; exact ⟨f', c', fn', rfl, VRA_iff.1 h1, VRA_iff.1 h2, h3⟩
theorem VR.slice_inv {ρ : Ren} {a : Addr} {n c : Nat} {v : Value} (h : VR ρ (.slice (some a) n c) v) :
    a.spot = none ∧ n ≤ c ∧ ∃ l a' c', ρ a.block = some l ∧ c ≤ c' ∧ (c' ≠ 0 → a' = ⟨l.cb, l.coff + a.off, none⟩) ∧ l.coff + a.off + c' * l.esz ≤ l.csize ∧ v = .slice (some a') n c' := by simpa only [VR] using h
theorem VR.slice_nil_inv {ρ : Ren} {n c : Nat} {v : Value} (h : VR ρ (.slice none n c) v) : v = .slice none n c := by simpa [VR] using h
theorem VR.mkAgg {ρ : Ren} {l l' : List Value} (h : VRL ρ l l') : VR ρ (.agg ⟨l⟩) (.agg ⟨l'⟩) := by simp only [VR]; exact ⟨⟨l'⟩, VRA_iff.2 h, rfl⟩
theorem VR.mkTuple {ρ : Ren} {l l' : List Value} (h : VRL ρ l l') : VR ρ (.tuple ⟨l⟩) (.tuple ⟨l'⟩) := by simp only [VR]; exact ⟨⟨l'⟩, VRA_iff.2 h, rfl⟩
theorem VR.mkFunc {ρ : Ren} (fn : Fn) (hn : FnR ρ fn fn) {l l' m m' : List Value} (h : VRL ρ l l') (k : VRL ρ m m') : VR ρ (.func fn ⟨l⟩ ⟨m⟩) (.func fn ⟨l'⟩ ⟨m'⟩) := by simp only [VR]; exact ⟨⟨l'⟩, ⟨m'⟩, VRA_iff.2 h, VRA_iff.2 k, fn, hn, rfl⟩
theorem VR.mkPtr {ρ : Ren} {a : Addr} {l : Loc} (h : a.spot = none) (k : ρ a.block = some l) : VR ρ (.pointer (some a)) (.pointer (some ⟨l.cb, l.coff + a.off, none⟩)) := by simp only [VR]; exact ⟨h, l, k, rfl⟩

theorem ok_pick {c a b : Operand} (ho : o.op = .pick c a b) : InsOk P o (.pure fPick [c, a, b]) := by
  intro ρ ev ev' v he hf
  simp only [List.map, fPick] at hf
  split at hf
  · rename_i t x y e
    simp at e hf
    obtain ⟨e1, rfl, rfl⟩ := e
    have hc := he c (by simp)
    rw [e1] at hc
    have hc := hc.bool_inv
    subst hf
    refine ⟨cond t (ev' a) (ev' b), by cases t <;> simp [he a (by simp), he b (by simp)], fun w => ?_⟩
    cases t <;> simp [execOp, ho, hc, asBool]
  · simp at hf

theorem run_info {t : TypeId} {i : TypeInfo} (h : P.info? t = some i) (w : World) : (typeInfo t).run P w = .ok i w := by
  unfold typeInfo; simp [h]
theorem run_zero {t : TypeId} {z : Value} (h : zero? P t = some z) (w : World) : (zeroValue t).run P w = .ok z w := by
  unfold zero? at h
  obtain ⟨i, h1, h2⟩ := Option.bind_eq_some_iff.1 h
  unfold zeroValue; simp [run_info h1, h2]
theorem run_size {t : TypeId} {n : Nat} (h : size? P t = some n) (w : World) : (sizeOf t).run P w = .ok n w := by
  unfold size? at h
  obtain ⟨i, h1, h2⟩ := Option.map_eq_some_iff.1 h
  unfold sizeOf; simp [run_info h1, h2]
theorem run_under {t : TypeId} {d : TypeDesc} (h : P.underlying t = some d) (w : World) : (underlying t).run P w = .ok d w := by
  unfold underlying; simp [h]
theorem run_isAgg' {t : TypeId} {b : Bool} (h : agg? P t = some b) (w : World) : (isAgg t).run P w = .ok b w := by
  unfold agg? at h
  obtain ⟨d, h1, h2⟩ := Option.map_eq_some_iff.1 h
  unfold isAgg
  rw [Sem.run_bind, run_under h1, Result.andThen_ok]
  subst h2
  cases d <;> rfl

/- a variable's cells are scalars: asked of the value when the block is made -/
theorem ok_alloc {t : TypeId} (ho : o.op = .alloc t) : InsOk P o (.make (fAlloc P t) []) := by
  intro ρ ev ev' obj mk he hf
  simp only [fAlloc, Option.bind_eq_some_iff] at hf
  obtain ⟨z, hz, hf⟩ := hf
  cases hfl : (flat z && z.cells.toList.all scalar) with
  | false => rw [hfl] at hf; simp at hf
  | true =>
    rw [hfl, cond_true] at hf
    simp only [Option.some.injEq, Prod.mk.injEq] at hf
    obtain ⟨rfl, rfl⟩ := hf
    obtain ⟨hz1, hz2⟩ := Bool.and_eq_true_iff.1 hfl
    rw [List.all_eq_true] at hz2
    have hr : VR ρ z z := VR.of_flat hz1
    refine ⟨.cells z.cells t, fun n => .pointer (some ⟨n, 0, none⟩), ⟨z.cells, t, rfl, hr.cells (fun r e => by subst e; simp [flat] at hz1), hz2⟩, fun w => ?_, fun ρ' n cb h => ?_⟩
    · simp [execOp, ho, Instr.alloc, run_zero hz, newVar, newRow]
    · exact VR.mkPtr (a := ⟨n, 0, none⟩) rfl h
theorem ok_box {t : TypeId} {x : Operand} (ho : o.op = .box t x) : InsOk P o (.make (fBox (eszOf P t)) [x]) := by
  intro ρ ev ev' obj mk he hf
  simp only [List.map, fBox] at hf
  cases hfl : (ev x).cells.toList.all scalar with
  | false => rw [hfl] at hf; simp at hf
  | true =>
    rw [hfl, cond_true] at hf
    simp only [Option.some.injEq, Prod.mk.injEq] at hf
    obtain ⟨rfl, rfl⟩ := hf
    have hz2 := hfl
    rw [List.all_eq_true] at hz2
    refine ⟨.cells (ev' x).cells t, fun n => .pointer (some ⟨n, 0, none⟩), ⟨_, t, rfl, (he x (by simp)).cells (fun r e => by rw [e] at hfl; simp [Value.cells, scalar] at hfl), hz2⟩, fun w => ?_, fun ρ' n cb h => ?_⟩
    · simp [execOp, ho, Instr.box, newVar, newRow]
    · exact VR.mkPtr (a := ⟨n, 0, none⟩) rfl h

theorem loadAt_sound {ρ : Ren} {A : St} {base : Nat} {w : World} {t : TypeId} {x x' v : Value} (hs : Rel ρ A.get A.members base w) (hx : VR ρ x x') (hf : loadAt P t A x = some v) :
    ∃ a, x' = .pointer (some a) ∧ ∃ v', VR ρ v v' ∧ (loadVar t a).run P w = .ok v' w := by
  unfold loadAt at hf
  split at hf
  · rename_i a
    obtain ⟨hsp, l, hl, rfl⟩ := hx.ptr_inv
    refine ⟨_, rfl, ?_⟩
    split at hf
    · rename_i hag
      obtain ⟨n, hn, hf⟩ := Option.bind_eq_some_iff.1 hf
      obtain ⟨cs, hcs, rfl⟩ := Option.map_eq_some_iff.1 hf
      obtain ⟨cs', h1, _, _, h3⟩ := loadN_sound (P := P) hs hcs hl
      refine ⟨.agg ⟨cs'⟩, VR.mkAgg h1, ?_⟩
      unfold loadVar
      simp [run_isAgg' hag, run_size hn, h3]
    · rename_i hag
      obtain ⟨cs, hcs, hf⟩ := Option.bind_eq_some_iff.1 hf
      obtain ⟨cs', h1, hlen, _, h3⟩ := loadN_sound (P := P) hs hcs hl
      cases cs with
      | nil => simp at hf
      | cons c cs =>
        simp at hf; subst hf
        obtain ⟨y, ys, rfl, h4, h5⟩ := h1.cons_inv
        refine ⟨y, h4, ?_⟩
        have hys : ys = [] := by have := h5.length; simp at hlen; subst hlen; simpa using this
        subst hys
        have h0 : (load ⟨l.cb, l.coff + a.off, none⟩).run P w = .ok y w := by
          simp only [loadCells, loadCellsFrom, addr_add_mid, Nat.add_zero, Sem.run_bind, run_load] at h3 ⊢
          cases hc : w.cell? ⟨l.cb, l.coff + a.off, none⟩ with
          | some u => rw [hc] at h3; simp at h3 ⊢; exact h3
          | none =>
            rw [hc] at h3
            simp only at h3 ⊢
            cases hff : w.farLoad P ⟨l.cb, l.coff + a.off, none⟩ (Mode.plain == Mode.atomic) with
            | ok p => rw [hff] at h3; simp at h3 ⊢; exact h3
            | error e => rw [hff] at h3; simp at h3
        unfold loadVar
        simp only [Sem.run_bind, run_isAgg' hag, Result.andThen_ok]
        exact h0
    · simp at hf
  · simp at hf
theorem ok_load {t : TypeId} {a : Operand} (ho : o.op = .load t a) : InsOk P o (.read (fLoad P t) [a]) := by
  intro ρ A base w ev ev' v hs he hf
  simp only [List.map, fLoad] at hf
  obtain ⟨ad, h1, v', h2, h3⟩ := loadAt_sound hs (he a (by simp)) hf
  refine ⟨v', h2, ?_⟩
  simp [execOp, ho, Instr.loadAt, Instr.sureAddr, h1, h3]
theorem storeAt_sound {ρ : Ren} {A B : St} {base : Nat} {w : World} {t : TypeId} {x x' v v' : Value} (hs : Sim ρ A base w) (hx : VR ρ x x') (hv : VR ρ v v') (hf : storeAt P t A x v = some B) :
    ∃ a, x' = .pointer (some a) ∧ ∃ w', (storeVar t a v').run P w = .ok () w' ∧ Goes base ρ A w ρ B w' := by
  unfold storeAt at hf
  split at hf
  · rename_i a
    obtain ⟨hsp, l, hl, rfl⟩ := hx.ptr_inv
    refine ⟨_, rfl, ?_⟩
    cases hd : decide (some v.cells.size = size? P t) with
    | false => rw [hd] at hf; simp at hf
    | true =>
      rw [hd, cond_true] at hf
      have hsz := of_decide_eq_true hd
      have hch : ∀ r, v ≠ .chan r := fun r e => by subst e; simp [Value.cells, St.storeN, scalar] at hf
      have hvc := hv.cells hch
      obtain ⟨w', h1, h2⟩ := storeN_sound (P := P) hs hf hl hvc
      refine ⟨w', ?_, h2⟩
      unfold storeVar
      have hlen : v'.cells.size = v.cells.size := hvc.length
      simp [run_size hsz.symm, hlen, h1]
  · simp at hf
theorem ok_store {t : TypeId} {a x : Operand} (ho : o.op = .store t a x) : InsOk P o (.act (fStore P t) [a, x]) := by
  intro ρ A B base w ev ev' v hs he hf
  simp only [List.map, fStore] at hf
  obtain ⟨B', hB, hf⟩ := Option.map_eq_some_iff.1 hf
  simp at hf
  obtain ⟨rfl, rfl⟩ := hf
  obtain ⟨ad, h1, w', h2, h3⟩ := storeAt_sound hs (he a (by simp)) (he x (by simp)) hB
  refine ⟨ρ, undef, .skip, w', ?_, rfl, VR.of_flat (by simp [undef, flat, flatA, flatL]), h3⟩
  simp [execOp, ho, Instr.storeAt, Instr.sureAddr, h1, h2]
theorem ok_nilCheck {x : Operand} (ho : o.op = .nilCheck x) : InsOk P o (.pure fNilCheck [x]) := by
  intro ρ ev ev' v he hf
  simp only [List.map, fNilCheck] at hf
  have hx := he x (by simp)
  split at hf
  · rename_i a e
    simp at e hf
    rw [e] at hx
    obtain ⟨_, l, _, h⟩ := hx.ptr_inv
    subst hf
    refine ⟨_, hx, fun w => ?_⟩
    simp [execOp, ho, h]
  · rename_i f first cap e
    simp at e hf
    rw [e] at hx
    obtain ⟨f', c', fn', h, _, _, hfn⟩ := hx.func_inv
    have hfn : fn' = .func f := hfn
    subst hfn
    subst hf
    refine ⟨_, hx, fun w => ?_⟩
    simp [execOp, ho, h]
  · simp at hf
theorem ok_un {op : UnOp} {t : TypeId} {x : Operand} (ho : o.op = .unOp op t x) : InsOk P o (.pure (fUn P op) [x]) := by
  intro ρ ev ev' v he hf
  simp only [List.map, fUn] at hf
  have hx := he x (by simp)
  have flatU : ∀ y u : Value, (y = .bool (y matches .bool true) ∨ ∃ k n, y = .int k n) → pureRun P (Op.unary op y) = some u → flat u = true := by
    intro y u hy hu
    have h := pureRun_run hu default
    rcases hy with hy | ⟨k, n, rfl⟩
    · rw [hy] at h
      cases op <;> simp [Op.unary] at h
      subst h; rfl
    · cases op <;> simp [Op.unary, Op.intArith, Op.intBits] at h <;> (subst h; rfl)
  split at hf
  · rename_i b e
    simp at e
    rw [e] at hx
    have hx := hx.bool_inv
    refine ⟨v, VR.of_flat (flatU _ _ (.inl (by cases b <;> rfl)) hf), fun w => ?_⟩
    simp [execOp, ho, hx, pureRun_run hf w]
  · rename_i k n e
    simp at e
    rw [e] at hx
    have hx := hx.int_inv
    refine ⟨v, VR.of_flat (flatU _ _ (.inr ⟨k, n, rfl⟩) hf), fun w => ?_⟩
    simp [execOp, ho, hx, pureRun_run hf w]
  · simp at hf
theorem ok_convert {src dst : TypeId} {x : Operand} (ho : o.op = .convert src dst x) : InsOk P o (.pure (fConvert P src dst) [x]) := by
  intro ρ ev ev' v he hf
  simp only [List.map, fConvert] at hf
  have hx := he x (by simp)
  split at hf
  · rename_i k n e
    simp at e
    rw [e] at hx
    have hx := hx.int_inv
    split at hf
    · rename_i k' hu
      have h := pureRun_run hf default
      have hfl : flat v = true := by
        unfold convert at h
        rw [Sem.run_bind] at h
        cases hs : (underlying src).run P default with
        | halt x w => rw [hs] at h; simp at h
        | ok d w =>
          rw [hs, Result.andThen_ok, Sem.run_bind, run_under hu, Result.andThen_ok] at h
          have : ∀ w, (Conv.intToInt k' n).run P w = .ok v w → flat v = true := fun w e => by
            simp [Conv.intToInt] at e; rw [← e]; rfl
          cases d <;> simp only at h <;> first | exact this _ h | (simp [Conv.intToInt] at h; rw [← h.1]; rfl)
      refine ⟨v, VR.of_flat hfl, fun w => ?_⟩
      simp [execOp, ho, hx, pureRun_run hf w]
    · simp at hf
  · simp at hf
theorem evmap_toArray (ev : Operand → Value) (xs : Array Operand) : (xs.map ev) = ⟨xs.toList.map ev⟩ := by cases xs; simp
theorem ok_makeFunc {fn : Fn} {first cap : Array Operand} (ho : o.op = .makeFunc fn first cap) : InsOk P o (cond (notYield fn) (.pure (fMakeFunc fn first.size) (first.toList ++ cap.toList)) .bad) := by
  cases hny : notYield fn with
  | false => trivial
  | true =>
  rw [cond_true]
  intro ρ ev ev' v he hf
  simp only [fMakeFunc] at hf
  obtain ⟨l, h1, rfl⟩ := Option.map_eq_some_iff.1 hf
  obtain ⟨rfl, _⟩ := takeN_eq h1
  rw [dropN_eq]
  refine ⟨.func fn (first.map ev') (cap.map ev'), ?_, fun w => by simp [execOp, ho, Instr.makeFunc]⟩
  rw [evmap_toArray, evmap_toArray]
  have e1 : ((first.toList ++ cap.toList).map ev).take first.size = first.toList.map ev := by
    rw [List.map_append, List.take_left' (by simp)]
  have e2 : ((first.toList ++ cap.toList).map ev).drop first.size = cap.toList.map ev := by
    rw [List.map_append, List.drop_left' (by simp)]
  rw [e1, e2]
  exact VR.mkFunc fn (by cases fn <;> first | rfl | simp [notYield] at hny) he.left.map he.right.map

theorem addTo_sound {ρ : Ren} {a : Addr} {n : Nat} {v : Value} {l : Loc} (hl : ρ a.block = some l) (h : addTo a n = some v) : VR ρ v (.pointer (some ⟨l.cb, l.coff + a.off + n, none⟩)) := by
  simp only [addTo] at h
  cases hp : plainAddr a with
  | false => rw [hp] at h; simp at h
  | true =>
    rw [hp] at h
    simp at h
    subst h
    have := VR.mkPtr (ρ := ρ) (a := ⟨a.block, a.off + n, none⟩) (l := l) rfl hl
    simpa [Nat.add_assoc] using this
theorem struct_field {s : TypeId} {f : Nat} {fd : Field} (h : insOfStruct P s f = some fd) : ∃ fields, P.underlying s = some (.struct fields) ∧ fields[f]? = some fd := by
  unfold insOfStruct at h
  split at h
  · rename_i fields e; exact ⟨fields, e, by simpa using h⟩
  · simp at h
theorem ok_fieldAddr {s : TypeId} {x : Operand} {f : Nat} (ho : o.op = .fieldAddr s x f) : InsOk P o (insFieldAddr P s x f) := by
  unfold insFieldAddr
  split
  · rename_i fd h
    split
    · rename_i n hn
      intro ρ ev ev' v he hf
      obtain ⟨fields, hu, hfd⟩ := struct_field h
      simp only [List.map, fFieldAddr] at hf
      have hx := he x (by simp)
      split at hf
      · rename_i a e
        simp at e
        rw [e] at hx
        obtain ⟨hsp, l, hl, h'⟩ := hx.ptr_inv
        refine ⟨_, addTo_sound hl hf, fun w => ?_⟩
        have hfp : (fieldPlace ⟨l.cb, l.coff + a.off, none⟩ fd).run P w = .ok ⟨l.cb, l.coff + a.off + fd.offset, none⟩ w := by
          unfold fieldPlace
          simp [run_size hn, addr_add_mid]
        simp [execOp, ho, Instr.fieldAt, run_under hu, hfd, h', Instr.sureAddr, hfp]
      · simp at hf
    · trivial
  · trivial
theorem partOf_sound {ρ : Ren} {t : TypeId} {cs : List Value} {cs' : Array Value} {off : Nat} {v : Value} (hc : VRL ρ cs cs'.toList) (h : partOf P t cs off = some v) :
    ∃ v', VR ρ v v' ∧ ∀ w, (part t cs' off).run P w = .ok v' w := by
  unfold partOf at h
  split at h
  · rename_i hag
    obtain ⟨n, hn, h⟩ := Option.bind_eq_some_iff.1 h
    obtain ⟨l, hl, rfl⟩ := Option.map_eq_some_iff.1 h
    rw [dropN_eq] at hl
    obtain ⟨rfl, hlen⟩ := takeN_eq hl
    refine ⟨.agg ⟨(cs'.toList.drop off).take n⟩, VR.mkAgg ((hc.drop off).take n), fun w => ?_⟩
    unfold part
    simp only [Sem.run_bind, run_isAgg' hag, Result.andThen_ok, if_true, run_size hn, Sem.run_pure]
    congr 2
    apply Array.ext'
    simp [Array.toList_extract, List.extract_eq_take_drop, show off + n - off = n by omega]
  · rename_i hag
    rw [dropN_eq, List.head?_drop] at h
    obtain ⟨v', h1, h2⟩ := hc.get h
    refine ⟨v', h2, fun w => ?_⟩
    unfold part
    have h3 : cs'[off]? = some v' := by simpa using h1
    simp [run_isAgg' hag, h3]
  · simp at h
theorem ok_field {t : TypeId} {x : Operand} {f : Nat} (ho : o.op = .field t x f) : InsOk P o (insField P t x f) := by
  unfold insField
  split
  · rename_i fd h
    intro ρ ev ev' v he hf
    obtain ⟨fields, hu, hfd⟩ := struct_field h
    simp only [List.map, fField] at hf
    have hx := he x (by simp)
    split at hf
    · rename_i cs e
      simp at e
      rw [e] at hx
      obtain ⟨cs', h', hc⟩ := hx.agg_inv
      obtain ⟨v', h1, h2⟩ := partOf_sound hc hf
      refine ⟨v', h1, fun w => ?_⟩
      simp [execOp, ho, Instr.field, run_under hu, hfd, h', asAgg, h2]
    · simp at hf
  · trivial
theorem inBounds_eq {i : Int} {len n : Nat} (h : inBounds i len = some n) : i = n ∧ n < len := by
  unfold inBounds at h
  cases i with
  | ofNat m =>
    simp only at h
    cases hb : Nat.blt m len with
    | false => rw [hb] at h; simp at h
    | true =>
      rw [hb] at h
      simp at h; subst h
      exact ⟨rfl, by rw [Nat.blt_eq] at hb; exact hb⟩
  | negSucc m => simp at h
theorem ok_indexAddr {t : TypeId} {x ix : Operand} (ho : o.op = .indexAddr t x ix) : InsOk P o (insIndexAddr P t x ix) := by
  unfold insIndexAddr
  split
  · rename_i len e hu
    split
    · rename_i n hn
      intro ρ ev ev' v he hf
      simp only [List.map, fIndexArr] at hf
      have hx := he x (by simp)
      have hi := he ix (by simp)
      split at hf
      · rename_i a k i e'
        simp at e'
        obtain ⟨e1, e2⟩ := e'
        rw [e1] at hx
        rw [e2] at hi
        obtain ⟨hsp, l, hl, h'⟩ := hx.ptr_inv
        have hi := hi.int_inv
        obtain ⟨j, hj, hg⟩ := Option.bind_eq_some_iff.1 hf
        obtain ⟨rfl, hlt⟩ := inBounds_eq hj
        refine ⟨_, addTo_sound hl hg, fun w => ?_⟩
        simp [execOp, ho, Instr.indexAt, run_under hu, h', hi, Instr.sureAddr, asIntOf, hlt, run_size hn, addr_add_mid]
      · simp at hf
    · trivial
  · rename_i e hu
    split
    · rename_i n hn
      intro ρ ev ev' v he hf
      simp only [List.map, fIndexSl] at hf
      have hx := he x (by simp)
      have hi := he ix (by simp)
      split at hf
      · rename_i a len c k i e'
        simp at e'
        obtain ⟨e1, e2⟩ := e'
        rw [e1] at hx
        rw [e2] at hi
        obtain ⟨hsp, hnc, l, a', c', hl, hcc, ha', hfit, h'⟩ := hx.slice_inv
        have hi := hi.int_inv
        obtain ⟨j, hj, hg⟩ := Option.bind_eq_some_iff.1 hf
        obtain ⟨rfl, hlt⟩ := inBounds_eq hj
        refine ⟨_, addTo_sound hl hg, fun w => ?_⟩
        have := ha' (by omega)
        subst this
        simp [execOp, ho, Instr.indexAt, run_under hu, h', hi, asIntOf, hlt, run_size hn, addr_add_mid]
      · simp at hf
    · trivial
  · trivial
theorem ok_index {t : TypeId} {x ix : Operand} (ho : o.op = .index t x ix) : InsOk P o (insIndex P t x ix) := by
  unfold insIndex
  split
  · rename_i len e hu
    split
    · rename_i n hn
      intro ρ ev ev' v he hf
      simp only [List.map, fIndexAgg] at hf
      have hx := he x (by simp)
      have hi := he ix (by simp)
      split at hf
      · rename_i cs k i e'
        simp at e'
        obtain ⟨e1, e2⟩ := e'
        rw [e1] at hx
        rw [e2] at hi
        obtain ⟨cs', h', hc⟩ := hx.agg_inv
        have hi := hi.int_inv
        obtain ⟨j, hj, hg⟩ := Option.bind_eq_some_iff.1 hf
        obtain ⟨rfl, hlt⟩ := inBounds_eq hj
        obtain ⟨v', h1, h2⟩ := partOf_sound hc hg
        refine ⟨v', h1, fun w => ?_⟩
        simp [execOp, ho, Instr.index, run_under hu, h', hi, asIntOf, hlt, run_size hn, h2]
      · simp at hf
    · trivial
  · rename_i hu
    intro ρ ev ev' v he hf
    simp only [List.map, fIndexStr] at hf
    have hx := he x (by simp)
    have hi := he ix (by simp)
    split at hf
    · rename_i s k i e'
      simp at e'
      obtain ⟨e1, e2⟩ := e'
      rw [e1] at hx
      rw [e2] at hi
      have hx := hx.string_inv
      have hi := hi.int_inv
      obtain ⟨j, hj, hg⟩ := Option.bind_eq_some_iff.1 hf
      obtain ⟨rfl, hlt⟩ := inBounds_eq hj
      obtain ⟨b, hb, rfl⟩ := Option.map_eq_some_iff.1 hg
      refine ⟨_, VR.of_flat rfl, fun w => ?_⟩
      have hsb : s[j]? = some b := by
        rw [← hb]
        simp only [getElem?_def]
        have h1 : j < s.data.toList.length := by simpa using hlt
        rw [dif_pos hlt, dif_pos h1]
        rfl
      simp [execOp, ho, Instr.index, run_under hu, hx, hi, asIntOf, hsb]
    · simp at hf
  · trivial
theorem ok_extract {x : Operand} {i : Nat} (ho : o.op = .extract x i) : InsOk P o (.pure (fExtract i) [x]) := by
  intro ρ ev ev' v he hf
  simp only [List.map, fExtract] at hf
  have hx := he x (by simp)
  split at hf
  · rename_i vs e
    simp at e
    rw [e] at hx
    obtain ⟨vs', h', hc⟩ := hx.tuple_inv
    obtain ⟨v', h1, h2⟩ := hc.get hf
    refine ⟨v', h2, fun w => ?_⟩
    have h3 : vs'[i]? = some v' := by simpa using h1
    simp [execOp, ho, Instr.extract, h', h3]
  · simp at hf

theorem Addr_isSome_map (b : Option Addr) (f : Addr → Addr) : (b.map f).isNone = b.isNone := by cases b <;> rfl
theorem equal_of {t : TypeId} {x y : Value} {b : Bool} {w : World} (h : ∀ d, (Op.equalIn (d + 1) t x y).run P w = .ok b w) : (Op.equal t x y).run P w = .ok b w := h 9999
/-- 'x == y' of related values is what it is of the abstract ones -/
theorem eqV_sound {ρ : Ren} {t : TypeId} {x y x' y' : Value} {b : Bool} (hx : VR ρ x x') (hy : VR ρ y y') (h : eqV P t x y = some b) : ∀ w, (Op.equal t x' y').run P w = .ok b w := by
  have flatC : cond (flat x && flat y) (pureRun P (Op.equal t x y)) none = some b → ∀ w, (Op.equal t x' y').run P w = .ok b w := by
    intro h w
    cases hf : (flat x && flat y) with
    | false => rw [hf] at h; simp at h
    | true =>
      rw [hf, cond_true] at h
      simp only [Bool.and_eq_true] at hf
      rw [hx.flat_eq hf.1, hy.flat_eq hf.2]
      exact pureRun_run h w
  intro w
  unfold eqV at h
  split at h
  · rename_i e c hu
    have hx : x' = .pointer none := by simpa [VR] using hx
    cases c with
    | none =>
      have hy : y' = .pointer none := by simpa [VR] using hy
      subst hx hy; simp at h; subst h
      exact equal_of fun d => by simp [Op.equalIn, run_under hu]
    | some a =>
      obtain ⟨_, l, _, hy⟩ := hy.ptr_inv
      subst hx hy; simp at h; subst h
      exact equal_of fun d => by simp [Op.equalIn, run_under hu]
  · rename_i e a hu
    obtain ⟨_, l, _, hx⟩ := hx.ptr_inv
    have hy : y' = .pointer none := by simpa [VR] using hy
    subst hx hy; simp at h; subst h
    exact equal_of fun d => by simp [Op.equalIn, run_under hu]
  · rename_i e n c a n' c' hu
    have hx := hx.slice_nil_inv
    cases a with
    | none =>
      have hy := hy.slice_nil_inv
      subst hx hy; simp at h; subst h
      exact equal_of fun d => by simp [Op.equalIn, run_under hu]
    | some a =>
      obtain ⟨_, _, l, a', c2, _, _, _, _, hy⟩ := hy.slice_inv
      subst hx hy; simp at h; subst h
      exact equal_of fun d => by simp [Op.equalIn, run_under hu]
  · rename_i e a n c n' c' hu
    obtain ⟨_, _, l, a', c2, _, _, _, _, hx⟩ := hx.slice_inv
    have hy := hy.slice_nil_inv
    subst hx hy; simp at h; subst h
    exact equal_of fun d => by simp [Op.equalIn, run_under hu]
  · rename_i k e a hu
    have hx : x' = .map none := by simpa [VR] using hx
    cases a with
    | none =>
      have hy : y' = .map none := by simpa [VR] using hy
      subst hx hy; simp at h; subst h
      exact equal_of fun d => by simp [Op.equalIn, run_under hu]
    | some a =>
      have hy : ∃ l, ρ a = some l ∧ y' = .map (some l.cb) := by simpa only [VR] using hy
      obtain ⟨l, _, hy⟩ := hy
      subst hx hy; simp at h; subst h
      exact equal_of fun d => by simp [Op.equalIn, run_under hu]
  · rename_i k e a hu
    have hx : ∃ l, ρ a = some l ∧ x' = .map (some l.cb) := by simpa only [VR] using hx
    obtain ⟨l, _, hx⟩ := hx
    have hy : y' = .map none := by simpa [VR] using hy
    subst hx hy; simp at h; subst h
    exact equal_of fun d => by simp [Op.equalIn, run_under hu]
  · rename_i hu
    have hx : x' = .nilFunc := by simpa [VR] using hx
    have hy : y' = .nilFunc := by simpa [VR] using hy
    subst hx hy; simp at h; subst h
    exact equal_of fun d => by simp [Op.equalIn, run_under hu]
  · rename_i hu
    have hx : x' = .nilFunc := by simpa [VR] using hx
    obtain ⟨f', c', _, hy, _, _, _⟩ := hy.func_inv
    subst hx hy; simp at h; subst h
    exact equal_of fun d => by simp [Op.equalIn, run_under hu]
  · rename_i hu
    obtain ⟨f', c', _, hx, _, _, _⟩ := hx.func_inv
    have hy : y' = .nilFunc := by simpa [VR] using hy
    subst hx hy; simp at h; subst h
    exact equal_of fun d => by simp [Op.equalIn, run_under hu]
  · exact flatC h w

theorem int_flat {op : BinOp} {t : TypeId} {j k : IntKind} {a b : Int} {v : Value} (h : pureRun P (binOp op t (.int j a) (.int k b)) = some v) : flat v = true := by
  have h := pureRun_run h default
  cases op <;> simp only [binOp, Op.shift] at h <;> (repeat' split at h) <;>
    first
    | (simp [Op.intArith, Op.intBits, Op.intCmp] at h; subst h; rfl)
    | (simp only [Op.intDiv] at h; split at h <;> first | (simp at h; subst h; rfl) | (simp [runtimePanic, program, Sem.run] at h))
    | (simp at h; subst h; rfl)
    | (simp [runtimePanic, program, Sem.run] at h)
    | (simp at h)
theorem string_flat {op : BinOp} {t : TypeId} {a b : ByteArray} {v : Value} (h : pureRun P (binOp op t (.string a) (.string b)) = some v) : flat v = true := by
  have h := pureRun_run h default
  cases op <;> simp only [binOp, Op.stringOp] at h <;> (repeat' split at h) <;>
    first
    | (simp at h; subst h; rfl)
    | (simp at h)
theorem guard_int (op : BinOp) (t : TypeId) (x y : Operand) (j k : IntKind) (a b : Int) (w : World) : (eqGuard op t x y (.int j a) (.int k b)).run P w = .ok () w := by
  unfold eqGuard
  cases op <;> simp
theorem guard_string (op : BinOp) (t : TypeId) (x y : Operand) (a b : ByteArray) (w : World) : (eqGuard op t x y (.string a) (.string b)).run P w = .ok () w := by
  unfold eqGuard
  cases op <;> simp
end
end Go.Abs
