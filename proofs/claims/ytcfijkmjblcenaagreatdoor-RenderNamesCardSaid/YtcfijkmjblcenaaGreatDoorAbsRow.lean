/-
  The row's last step, where of the world behind the call it is known that nothing below its beginning has turned.
-/
import Derived.Below
import Derived.ChangeSame
import Derived.ProofKit
namespace Go.Abs
open Go.RowKit Go.WideShapes Go.ChangeShapes

theorem post_below {H : Type} {enc : TypeId × Value → H} {P : Program} {f : Func} {s : ChangeSpec} {apart fresh handsOn again : Bool} {W W' : World} {args : Array Value} {v : Value} {ds gs : List (DataW H)} {before pa pv : List MemPlace}
    (whole : DataW.Whole enc P f.params.toList s.vars apart W args.toList ds gs before) (below : Below W.heap.size W W') (places : before = pa ++ pv)
    (res : ∀ (b : Nat) (sp : Nat → Bool) (hd : Bool), DataW.TrodAll enc P W' b sp hd f.resultTypes.toList (v.resultList f.resultTypes.size) (s.fn H (ds ++ gs)).results [])
    (arg : ∀ sp : Nat → Bool, (∀ p ∈ before, sp p.block = true) → DataW.TrodAll enc P W' 0 sp true f.params.toList args.toList (s.fn H (ds ++ gs)).args pa)
    (var : ∀ sp : Nat → Bool, (∀ p ∈ before, sp p.block = true) → DataW.TrodVars enc P W' sp s.vars (s.fn H (ds ++ gs)).vars pv)
    (wide : ∀ (j : Nat) (t : TypeId) (r : Value), f.resultTypes[j]? = some t → (v.resultList f.resultTypes.size)[j]? = some r → Value.okWide P W' .any 0 t r) :
    s.post enc P f apart fresh handsOn again W args v W' := by
  have lt : ∀ p ∈ before, p.block < W.heap.size := fun p hp => whole.lt p hp
  have old : ∀ p ∈ before, (fun b => decide (b < W.heap.size)) p.block = true := fun p hp => by simpa using lt p hp
  refine ⟨ds, gs, before, [], pa, pv, whole, res _ _ _, arg _ old, var _ old, World.keptBut_mono (fun p hp => ⟨hp, ?_⟩) (below.frame (· ∈ before)), fun _ => ?_⟩
  · rw [places, List.mem_append] at hp; exact Or.inr hp
  · obtain ⟨_, _, _, _, _, fz, nd⟩ := whole
    refine ⟨wide, _, _, ([] ++ pa) ++ pv, ⟨[] ++ pa, pv, trodAll_append (arg _ (fun _ _ => rfl)) (res _ _ _), var _ (fun _ _ => rfl), rfl, fun b off hp => ?_, fun ha => ?_⟩, fun p hp _ => ?_⟩
    · have here : MemPlace.cell b off ∈ before := by rw [places]; simpa using hp
      rw [below.frozen (lt _ here)]
      exact fz b off here
    · have := nd ha
      rw [places] at this
      simpa using this
    · rw [places]; simpa using hp
end Go.Abs
