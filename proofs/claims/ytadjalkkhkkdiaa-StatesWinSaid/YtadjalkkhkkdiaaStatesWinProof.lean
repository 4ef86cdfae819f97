/-
  The law StatesWin holds: the call returns true (shown by the machine K's own run of the code over open terms, whose every answer is shown to be the model's; and by plain data). No conditions.
-/
import Derived.Test.YtadjalkkhkkdiaaRows
import Derived.Test.YtadjalkkhkkdiaaStatesU
import Derived.Test.YtadjalkkhkkdiaaKRow
import Derived.WalkKit
import Derived.ProofKit
import Derived.OpenShut
namespace Go.Proofs.Ytadjalkkhkkdiaa.statesWin
open Go.ChangeShapes Go.WideShapes Go.ChangeAt Go.RowKit

theorem own : ownKnob Try.prog.godebug = none := by kernel_rfl
theorem laid : laidOutB Try.prog = true := by kernel_rfl
theorem reads : Try.f6.params.toList.all (fun t => Try.prog.readableRec t && Nat.blt t Try.prog.types.size) = true := by kernel_rfl
theorem types : Try.f6.params.toList.all (K.paramT Try.prog) = true := by kernel_rfl
theorem params : Try.f6.params.toList = [48] := by kernel_rfl
theorem results : Try.f6.resultTypes = #[4] := by kernel_rfl

set_option maxRecDepth 100000 in
theorem lifted (os : Os) (started : os.Started) (H : Type) (enc : TypeId × Value → H) :
    ReturnsInHanded {} Try.checked os 6 .any (Rows.statesWinSpec.pre6 enc Try.prog Try.f6 Rows.statesWinRow.domain false) (Rows.statesWinSpec.post enc Try.prog Try.f6 false true false false) := by
  refine returnsInHanded_of_change (C := Try.checked) own started (by kernel_rfl) Try.func6
    (ChangeSpec.witness6 (enc := enc) (C := Try.checked) false ⟨#[], #[.slice none 0 0], []⟩ 8 (by kernel_rfl) (by kernel_rfl) (by kernel_rfl) (by kernel_rfl)) ?_
  intro W base args ds gs before hval hW _ _
  have hW' := hW
  obtain ⟨p, q, hA, hV, _, _, _⟩ := hW
  have hA : DataW.TrodAll enc Try.prog W 0 (fun _ => true) true Try.f6.params.toList args.toList ds p := hA
  have walk := K.law_ok (f := 6) st.funcs st.mixed st.cfgZ_pc st.cfgZ_lp types (by rw [params]; exact st.law6) hA (fun j t v h1 h2 => hval j t v (by simpa using h1) (by simpa using h2))
  refine walk.mono fun e W' ⟨he, hg⟩ => ?_
  subst he
  have hlen := K.trodAll_len hA
  rw [params] at hlen
  obtain ⟨d1, rfl⟩ := st.list_one hlen
  exact ⟨_, rfl, K.row_done laid reads rfl rfl rfl rfl results Try.underlying4 hW' hg⟩

theorem over : Rows.statesWinRow.holds Try.pinned (OpenSpec.ofChange Rows.statesWinSpec) :=
  OpenClaim.holds_of_wide 6 Try.f6 rfl rfl rfl rfl rfl rfl rfl ⟨rfl, rfl, rfl, rfl, rfl⟩ rfl rfl rfl rfl rfl (by kernel_rfl) Try.func6 (by kernel_rfl)
    (of_decide_eq_true (by kernel_rfl)) (by unfold Func.isWrapper; first | (rw [if_pos (by decide +kernel)]; kernel_rfl) | (rw [if_neg (by decide +kernel)]; exact ⟨rfl, rfl⟩))
    (fun os started H enc _ => lifted os started H enc)

theorem proved : Rows.StatesWinSaid :=
  over
end Go.Proofs.Ytadjalkkhkkdiaa.statesWin
