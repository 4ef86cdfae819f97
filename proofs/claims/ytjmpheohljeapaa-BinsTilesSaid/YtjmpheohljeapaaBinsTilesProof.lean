/-
  The law BinsTiles holds: the call returns true (shown by the machine K's own run of the code over open terms, whose every answer is shown to be the model's; and by plain data). No conditions.
-/
import Derived.Test.YtjmpheohljeapaaRows
import Derived.Test.YtjmpheohljeapaaBinsTilesP
import Derived.Test.YtjmpheohljeapaaKRow
import Derived.WalkKit
import Derived.ProofKit
import Derived.OpenShut
namespace Go.Proofs.Ytjmpheohljeapaa.binsTiles
open Go.ChangeShapes Go.WideShapes Go.ChangeAt Go.RowKit

theorem said : ∀ ars, K.argsOk Try.prog [3, 3, 3, 3] ars = true → K.wfKs ars → K.deepKs Try.prog ars → K.pureK Try.prog (K.cfgOf Try.prog b.ps_l28_BinsTiles b.ls_l28_BinsTiles) 9 9 4 (K.normArgs Try.prog [3, 3, 3, 3] ars) = some (.bool true) := fun ars h _ _ => by
  rw [K.args_good 0 (w := fun i => ars.getD i .unk) h (fun i _ => by rw [Nat.zero_add]), b.form_l28_BinsTiles, b.run_l28_BinsTiles, b.bins_law]
  rfl
theorem own : ownKnob Try.prog.godebug = none := by kernel_rfl
theorem laid : laidOutB Try.prog = true := by kernel_rfl
theorem reads : Try.f4.params.toList.all (fun t => Try.prog.readableRec t && Nat.blt t Try.prog.types.size) = true := by kernel_rfl
theorem types : Try.f4.params.toList.all (K.paramT Try.prog) = true := by kernel_rfl
theorem params : Try.f4.params.toList = [3, 3, 3, 3] := by kernel_rfl
theorem results : Try.f4.resultTypes = #[4] := by kernel_rfl

set_option maxRecDepth 100000 in
theorem lifted (os : Os) (started : os.Started) (H : Type) (enc : TypeId × Value → H) :
    ReturnsInHanded {} Try.checked os 4 .any (Rows.binsTilesSpec.pre6 enc Try.prog Try.f4 Rows.binsTilesRow.domain false) (Rows.binsTilesSpec.post enc Try.prog Try.f4 false true false false) := by
  refine returnsInHanded_of_change (C := Try.checked) own started (by kernel_rfl) Try.func4
    (ChangeSpec.witness6 (enc := enc) (C := Try.checked) false ⟨#[], #[(Abs.zero? Try.prog 3).getD default, (Abs.zero? Try.prog 3).getD default, (Abs.zero? Try.prog 3).getD default, (Abs.zero? Try.prog 3).getD default], []⟩ 8 (by kernel_rfl) (by kernel_rfl) (by kernel_rfl) (by kernel_rfl)) ?_
  intro W base args ds gs before hval hW _ _
  have hW' := hW
  obtain ⟨p, q, hA, hV, _, _, _⟩ := hW
  have hA : DataW.TrodAll enc Try.prog W 0 (fun _ => true) true Try.f4.params.toList args.toList ds p := hA
  have walk := K.law_ok (f := 4) b.funcs b.mixed b.psok_l28_BinsTiles.pc (K.lp_all b.funcs b.mixed b.lsok_l28_BinsTiles) types (by rw [params]; exact said) hA (fun j t v h1 h2 => hval j t v (by simpa using h1) (by simpa using h2))
  refine walk.mono fun e W' ⟨he, hg⟩ => ?_
  subst he
  have hlen0 := K.trodAll_len hA
  have hlen0 : ds.length = 4 := by rw [params] at hlen0; exact hlen0
  obtain ⟨d0, ds0, rfl⟩ := K.len_cons hlen0
  have hlen1 := Nat.succ.inj hlen0
  obtain ⟨d1, ds1, rfl⟩ := K.len_cons hlen1
  have hlen2 := Nat.succ.inj hlen1
  obtain ⟨d2, ds2, rfl⟩ := K.len_cons hlen2
  have hlen3 := Nat.succ.inj hlen2
  obtain ⟨d3, ds3, rfl⟩ := K.len_cons hlen3
  have hlen4 := Nat.succ.inj hlen3
  obtain rfl := List.length_eq_zero_iff.1 hlen4
  exact ⟨_, rfl, K.row_done laid reads rfl rfl rfl rfl results Try.underlying4 hW' hg⟩

theorem over : Rows.binsTilesRow.holds Try.pinned (OpenSpec.ofChange Rows.binsTilesSpec) :=
  OpenClaim.holds_of_wide 4 Try.f4 rfl rfl rfl rfl rfl rfl rfl ⟨rfl, rfl, rfl, rfl, rfl⟩ rfl rfl rfl rfl rfl (by kernel_rfl) Try.func4 (by kernel_rfl)
    (of_decide_eq_true (by kernel_rfl)) (by unfold Func.isWrapper; first | (rw [if_pos (by decide +kernel)]; kernel_rfl) | (rw [if_neg (by decide +kernel)]; exact ⟨rfl, rfl⟩))
    (fun os started H enc _ => lifted os started H enc)

theorem proved : Rows.BinsTilesSaid :=
  over
end Go.Proofs.Ytjmpheohljeapaa.binsTiles
