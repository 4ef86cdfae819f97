/-
  Functions without arguments, told by the abstract machine's own run.
-/
import Derived.Test.YtjmpheohljeapaaKLaw
namespace Go.K
open Go Go.Abs
variable {P : Program} {E : Env}
/-- behind a call that turned nothing that was there -/
theorem Goes.below {base : Nat} {ρ : Ren} {B : St} {w w' : World} (hs : Sim ρ B base w) (h : RowKit.Below w.heap.size w w') : Goes base ρ B w ρ B w' := by
  refine ⟨⟨.of_obj (fun b o hg hd => ?_) hs.rel.apart hs.rel.listed, hs.dom, Nat.le_trans hs.size h.size⟩, fun _ _ => rfl, ⟨h.os, h.tape, h.output, h.size, fun k hk _ => h.block k hk⟩, Nat.le_refl _, Nat.le_refl _, fun _ _ _ => rfl, fun _ _ hk => hk⟩
  obtain ⟨l, e, ok⟩ := hs.rel.obj hg hd
  exact ⟨l, e, ok.keep (Ren.le_refl _) (h.block _ (ok.lt hd)) h.size⟩
theorem pure_below {g : FuncId} {F : List KV → KR KV} (hc : Callable P g)
    (h : ∀ args v (E : Env) (A : KSt) (B : St) (ρ : Ren) (base : Nat) (w : World) (args' : List Value), Gives (F (normArgs P (paramsOf P g) args)) v → args.length = (paramsOf P g).length → VCL P E ρ args args' → KJ P E A B ρ base w →
      Calls P g args'.toArray w fun e w' => ∃ v', e = .returned v' ∧ VC P E ρ v v' ∧ RowKit.Below w.heap.size w w') : PureOk P g F :=
  fun args v hF hlen => ⟨hc, fun E A B ρ base w args' hv hj => (h args v E A B ρ base w args' hF hlen hv hj).mono fun e w' ⟨v', h1, h2, h3⟩ =>
    ⟨v', E, B, ρ, h1, h2, ⟨hj.k, Goes.below hj.s h3, Env.le_refl _, Nat.le_refl _, fun _ _ _ => rfl, fun _ _ h => .inl h, fun _ _ h => .inl h, fun _ _ h => .inl ⟨_, h⟩, fun _ _ _ => rfl⟩⟩⟩
theorem pure_closed {g : FuncId} (hP : P.funcs.toList.all funcOk = true) (hm : P.follows .mixedOrders = true) {L n : Nat} (hp : paramsOf P g = []) (h : saysTrue (callV P noneTold L n g [] St.empty) = true) : PureOk P g fun _ => .ok (.bool true) := by
  have hcall : Callable P g := by
    unfold saysTrue at h
    split at h
    · rename_i b B hc
      exact (call_sound (noneTold_ok P) hP hm L n _ _ _ _ _ hc).1
    · simp at h
  refine pure_below hcall fun args v E A B ρ base w args' hF hlen hv hj => ?_
  rw [hp] at hlen
  have : args = [] := List.length_eq_zero_iff.1 (by simpa using hlen)
  subst this
  obtain ⟨m, h1, h2⟩ := hv
  rw [h1.nil_inv] at h2
  rw [h2.nil_inv]
  have hF : KV.bool true = v := hF
  subst hF
  exact (closed_law (noneTold_ok P) hP hm h w).mono fun e w' ⟨h1, h2⟩ => ⟨_, h1, ⟨_, .mkBool, by simp [VR]⟩, h2⟩
end Go.K
