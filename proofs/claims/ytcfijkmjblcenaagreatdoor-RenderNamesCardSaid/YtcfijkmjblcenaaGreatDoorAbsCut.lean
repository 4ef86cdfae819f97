/-
  A long run cut in pieces: what the machine says of a chain of code is what it says of its pieces, one after the other.
-/
import Derived.Test.YtcfijkmjblcenaaGreatDoorAbsCode
namespace Go.Abs
noncomputable section
open Go
/-- short words for states' texts -/
def zI (n : Nat) : Value := .int .i64 (.ofNat n)
def zN (n : Nat) : Value := .int .i64 (.negSucc n)
def zB (n : Nat) : Value := .int .u8 (.ofNat n)
def zR (l : List Value) (n : Nat) : Option AObj := some (.row l n true none)
def zO (l : List Value) (n : Nat) : AObj := .row l n true none
/-- a store by what differs from an earlier one -/
def updH (l : List (Nat × AObj)) (h : Trie AObj) : Trie AObj := List.rec (motive := fun _ => Trie AObj → Trie AObj) (fun h => h) (fun p _ ih h => ih (h.set p.2 p.1)) l h
def St.upd (A : St) (l : List (Nat × AObj)) (next low : Nat) (fams : Trie (List Nat)) : St := { heap := updH l A.heap, next := next, low := low, fams := fams }
variable (P : Program) (S : Told) (L n : Nat)

def spineOf : Code → List Code
  | .seq a b => spineOf a ++ spineOf b
  | c => [c]
def runS (call : CallF) : List Code → Tm → St → Ran
  | [], t, A => some (.normal, t, A)
  | c :: cs, t, A => andThenV (codeV P call L c t A) (runS call cs)
theorem andThenV_assoc (r : Ran) (f g : Tm → St → Ran) : andThenV (andThenV r f) g = andThenV r fun t A => andThenV (f t A) g := by
  cases r with
  | none => rfl
  | some p => obtain ⟨e, t, A⟩ := p; cases e <;> rfl
theorem andThenV_done (r : Ran) : andThenV r (fun t A => some (.normal, t, A)) = r := by
  cases r with
  | none => rfl
  | some p => obtain ⟨e, t, A⟩ := p; cases e <;> rfl
theorem runS_append (call : CallF) : ∀ (l m : List Code) (t : Tm) (A : St), runS P L call (l ++ m) t A = andThenV (runS P L call l t A) (runS P L call m)
  | [], m, t, A => rfl
  | c :: l, m, t, A => by
    show andThenV (codeV P call L c t A) (runS P L call (l ++ m)) = andThenV (andThenV (codeV P call L c t A) (runS P L call l)) (runS P L call m)
    rw [andThenV_assoc]
    congr 1
    funext t A
    exact runS_append call l m t A
theorem runS_one (call : CallF) (c : Code) (t : Tm) (A : St) : runS P L call [c] t A = codeV P call L c t A := andThenV_done _
theorem runS_spine (call : CallF) : ∀ (c : Code) (t : Tm) (A : St), runS P L call (spineOf c) t A = codeV P call L c t A
  | .seq a b, t, A => by
    rw [spineOf, runS_append, runS_spine call a, codeV_seq]
    congr 1
    funext t A
    exact runS_spine call b t A
  | .skip, t, A => runS_one P L call _ t A
  | .region _ _ _, t, A => runS_one P L call _ t A
  | .cond _ _ _, t, A => runS_one P L call _ t A
  | .block _ _, t, A => runS_one P L call _ t A
  | .loop _, t, A => runS_one P L call _ t A
  | .rangeFunc _ _ _ _, t, A => runS_one P L call _ t A
  | .exit _, t, A => runS_one P L call _ t A
  | .scope _, t, A => runS_one P L call _ t A
  | .label _, t, A => runS_one P L call _ t A
  | .goto _, t, A => runS_one P L call _ t A
  | .ret, t, A => runS_one P L call _ t A
  | .refuse _, t, A => runS_one P L call _ t A

/-- what is left of a run -/
def Left (call : CallF) (A0 : St) (all : List Code) (l : List Code) (t : Tm) (A : St) : Prop := runS P L call all .leaf A0.enter = runS P L call l t A
theorem Left.start (call : CallF) (A0 : St) (all : List Code) : Left P L call A0 all all .leaf A0.enter := rfl
theorem Left.step {call : CallF} {A0 : St} {all : List Code} {k j : Nat} {t t' : Tm} {A A' : St} (h : Left P L call A0 all (all.drop k) t A) (hr : runS P L call ((all.drop k).take j) t A = some (.normal, t', A')) : Left P L call A0 all (all.drop (k + j)) t' A' := by
  unfold Left at h ⊢
  rw [h]
  have : all.drop k = (all.drop k).take j ++ all.drop (k + j) := by rw [← List.drop_drop, List.take_append_drop]
  conv => lhs; rw [this]
  rw [runS_append, hr]
  rfl
def saysEnd (fn : Func) (A0 : St) (r : Ran) : Bool :=
  match r with
  | some (.ret, t, B) => saysTrue (endV P fn A0 t B)
  | some (.normal, t, B) => saysTrue (endV P fn A0 t B)
  | _ => false
theorem says_of_left {A0 : St} {f : FuncId} {fn : Func} {c : Code} {l : List Code} {t : Tm} {A : St} (hy : Nat.blt f yB = true) (hS : S f = none) (hf : P.funcs.toList[f]? = some fn) (hb : fn.body = some c)
    (h : Left P L (callV P S L n) A0 (spineOf c) l t A) (hr : saysEnd P fn A0 (runS P L (callV P S L n) l t A) = true) : saysTrue (callV P S L (n + 1) f [] A0) = true := by
  rw [callV_succ, hy, cond_true, hS]
  simp only [hf, hb, Option.bind_some]
  rw [bodyV_eq]
  show saysTrue (match codeV P (callV P S L n) L c .leaf A0.enter with
    | some (.exit _, _, _) => none
    | some (.goto _, _, _) => none
    | some (_, t, B) => (resultsA P B t fn.results.toList).map fun vs => (packResults vs, A0.leave B (packResults vs))
    | none => none) = true
  rw [← runS_spine, h]
  unfold saysEnd at hr
  split at hr
  · rename_i t B he; rw [he]; exact hr
  · rename_i t B he; rw [he]; exact hr
  · simp at hr
end
end Go.Abs
