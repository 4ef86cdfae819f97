/-
  A long run cut in pieces, inside calls and loops.
-/
import Derived.Test.YtcfijkmjblcenaaGreatDoorAbsCut
namespace Go.Abs
noncomputable section
open Go
variable (P : Program) (S : Told) (L : Nat)

/-- the operations of a region, one after the other -/
theorem opsV_append (call : CallF) (all : List Oper) : ∀ (xs ys : List Oper) (t : Tm) (A : St) (t' : Tm) (A' : St), opsV P call all xs t A = some (t', A') → opsV P call all (xs ++ ys) t A = opsV P call all ys t' A'
  | [], ys, t, A, t', A', h => by
    rw [opsV_nil] at h
    simp at h
    obtain ⟨rfl, rfl⟩ := h
    rfl
  | o :: xs, ys, t, A, t', A', h => by
    rw [List.cons_append, opsV_cons]
    rw [opsV_cons] at h
    obtain ⟨wd, h1, h⟩ := Option.bind_eq_some_iff.1 h
    rw [h1, Option.bind_some]
    cases wd with
    | false => exact opsV_append call all xs ys _ _ _ _ h
    | true =>
      rw [cond_true] at h ⊢
      obtain ⟨p, h2, h⟩ := Option.bind_eq_some_iff.1 h
      rw [h2, Option.bind_some]
      exact opsV_append call all xs ys _ _ _ _ h
/-- a call among the operations -/
theorem opsV_call (call : CallF) (all : List Oper) {o : Oper} {f : Operand} {args : List Operand} {t : Tm} {A B : St} {g : FuncId} {vs : List Value} {v : Value} (hg : o.guard = none) (hc : compile P o.op = .call f args) (hv : calleeVal (args.map (evA t)) (evA t f) = some (g, vs)) (hr : call g vs A = some (v, B)) :
    opsV P call all [o] t A = some (putT t o.dst v, B) := by
  rw [opsV_cons]
  have hw : wantedA all t o.guard = some true := by rw [hg]; rfl
  rw [hw, Option.bind_some, cond_true]
  have hi : insV call t A (compile P o.op) = some (v, B) := by
    rw [hc]
    show (calleeVal (args.map (evA t)) (evA t f)).bind (fun p => call p.1 p.2 A) = _
    rw [hv, Option.bind_some]
    exact hr
  rw [hi, Option.bind_some]
  rfl
theorem region_of_ops (call : CallF) {id : Nat} {ops : Array Oper} {t t' : Tm} {A A' : St} (h : opsV P call ops.toList ops.toList t A = some (t', A')) : codeV P call L (.region id ops false) t A = some (.normal, t', A') := by
  rw [codeV_ops, h]; rfl
/-- rounds of a loop -/
theorem loop_next (call : CallF) {c : Code} {t t' : Tm} {A A' : St} {n : Nat} {r : Ran} (h : codeV P call L c t A = some (.normal, t', A')) (k : loopV (codeV P call L c) n t' A' = r) : loopV (codeV P call L c) (n + 1) t A = r := by
  rw [loopV_succ, h]; exact k
theorem loop_out (call : CallF) {c : Code} {t t' : Tm} {A A' : St} {n id : Nat} (h : codeV P call L c t A = some (.exit id, t', A')) : loopV (codeV P call L c) (n + 1) t A = some (.exit id, t', A') := by
  rw [loopV_succ, h]; rfl
theorem block_of_loop (call : CallF) {c : Code} {id : Nat} {t t' : Tm} {A A' : St} (h : loopV (codeV P call L c) L t A = some (.exit id, t', A')) : codeV P call L (.block id (.loop c)) t A = some (.normal, t', A') := by
  rw [codeV_block, codeV_loop, h]
  simp
/-- what is left of a piece of code from any state -/
def LeftG (call : CallF) (all : List Code) (t0 : Tm) (A0 : St) (l : List Code) (t : Tm) (A : St) : Prop := runS P L call all t0 A0 = runS P L call l t A
theorem LeftG.start (call : CallF) (all : List Code) (t0 : Tm) (A0 : St) : LeftG P L call all t0 A0 all t0 A0 := rfl
theorem LeftG.step {call : CallF} {all : List Code} {t0 : Tm} {A0 : St} {k j : Nat} {t t' : Tm} {A A' : St} (h : LeftG P L call all t0 A0 (all.drop k) t A) (hr : runS P L call ((all.drop k).take j) t A = some (.normal, t', A')) : LeftG P L call all t0 A0 (all.drop (k + j)) t' A' := by
  unfold LeftG at h ⊢
  rw [h]
  have : all.drop k = (all.drop k).take j ++ all.drop (k + j) := by rw [← List.drop_drop, List.take_append_drop]
  conv => lhs; rw [this]
  rw [runS_append, hr]
  rfl
def endOf (fn : Func) (A : St) (r : Ran) : Option (Value × St) :=
  match r with
  | some (.ret, t, B) => endV P fn A t B
  | some (.normal, t, B) => endV P fn A t B
  | _ => none
/-- a call, by its body's pieces -/
theorem call_of_left {n : Nat} {f : FuncId} {fn : Func} {c : Code} {args : List Value} {A : St} {l : List Code} {t : Tm} {B : St} {r : Value × St} (hy : Nat.blt f yB = true) (hS : S f = none) (hf : P.funcs.toList[f]? = some fn) (hb : fn.body = some c)
    (h : LeftG P L (callV P S L n) (spineOf c) (argTmps args 0 .leaf) A.enter l t B) (hr : endOf P fn A (runS P L (callV P S L n) l t B) = some r) : callV P S L (n + 1) f args A = some r := by
  rw [callV_succ, hy, cond_true, hS]
  simp only [hf, hb, Option.bind_some]
  rw [bodyV_eq]
  show (match codeV P (callV P S L n) L c (argTmps args 0 .leaf) A.enter with
    | some (.exit _, _, _) => none
    | some (.goto _, _, _) => none
    | some (_, t, B) => (resultsA P B t fn.results.toList).map fun vs => (packResults vs, A.leave B (packResults vs))
    | none => none) = some r
  rw [← runS_spine, h]
  unfold endOf at hr
  split at hr
  · rename_i t B he; rw [he]; exact hr
  · rename_i t B he; rw [he]; exact hr
  · simp at hr
end
end Go.Abs
