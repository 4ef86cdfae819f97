/-
  The law ImageColors holds: the call returns true (shown by the machine K's own run of the code over open terms, whose every answer is shown to be the model's; and by plain data). No conditions.
-/
import Derived.Test.YtahhdndhkgbcjaaRows
import Derived.Test.YtahhdndhkgbcjaaKp
import Derived.WalkKit
import Derived.ProofKit
import Derived.OpenShut
namespace Go.Proofs.Ytahhdndhkgbcjaa.imageColors
open Go.ChangeShapes Go.WideShapes Go.ChangeAt Go.RowKit
theorem said:∀ ars,K.ox Try.prog [25,53,37,3,3] ars=true→K.Gg ars→K.H6 Try.prog ars→K.dp Try.prog (K.bu Try.prog b.wu b.wx (fun _=>false)) 9 9 4 (K.normArgs Try.prog [25,53,37,3,3] ars)=some (.bool true):=fun ars h _ _=>by
 rw [K.Y8 0 (w:=fun i=>ars.getD i .aw) h (fun i _=>by rw [Nat.zero_add]),b.JG,b.LG,b.Ps]
 rfl
theorem own:ownKnob Try.prog.godebug=none:=by kernel_rfl
theorem laid:laidOutB Try.prog=true:=by kernel_rfl
theorem reads:Try.f4.params.toList.all (fun t=>Try.prog.readableRec t&&Nat.blt t Try.prog.types.size)=true:=by kernel_rfl
theorem types:Try.f4.params.toList.all (K.QB Try.prog)=true:=by kernel_rfl
theorem params:Try.f4.params.toList = [25,53,37,3,3]:=by kernel_rfl
theorem results:Try.f4.resultTypes = #[4]:=by kernel_rfl
set_option maxRecDepth 100000 in
theorem lifted (os:Os) (started:os.Started) (H:Type) (enc:TypeId×Value→H) :
  ReturnsInHanded {} Try.checked os 4 .any (Rows.imageColorsSpec.pre6 enc Try.prog Try.f4 Rows.imageColorsRow.domain false) (Rows.imageColorsSpec.post enc Try.prog Try.f4 false true false false):=by
 refine returnsInHanded_of_change (C:=Try.checked) own started (by kernel_rfl) Try.func4
  (ChangeSpec.witness6 (enc:=enc) (C:=Try.checked) false ⟨#[],#[(aE.pK Try.prog 25).getD default,(aE.pK Try.prog 53).getD default,(aE.pK Try.prog 37).getD default,(aE.pK Try.prog 3).getD default,(aE.pK Try.prog 3).getD default],[]⟩ 8 (by kernel_rfl) (by kernel_rfl) (by kernel_rfl) (by kernel_rfl)) ?_
 intro W base args ds gs before wI hW _ _
 have hW':=hW
 obtain ⟨p,q,hA,hV,_,_,_⟩:=hW
 have hA:DataW.TrodAll enc Try.prog W 0 (fun _=>true) true Try.f4.params.toList args.toList ds p:=hA
 have walk:=K.akH (f:=4) b.funcs b.mixed b.JE.pc (K.L8 b.funcs b.mixed K.abD.none b.JF) types (by rw [params]; exact said) hA (fun j t v h1 h2=>wI j t v (by simpa using h1) (by simpa using h2))
 refine walk.mono fun e W' ⟨he,hg⟩=>?_
 subst he
 have aaA:=K.Ss hA
 have aaA:ds.length=5:=by rw [params] at aaA; exact aaA
 obtain ⟨d0,ds0,rfl⟩:=K.G7 aaA
 have akg:=Nat.succ.inj aaA
 obtain ⟨d1,ds1,rfl⟩:=K.G7 akg
 have akh:=Nat.succ.inj akg
 obtain ⟨d2,ds2,rfl⟩:=K.G7 akh
 have aki:=Nat.succ.inj akh
 obtain ⟨d3,ds3,rfl⟩:=K.G7 aki
 have akj:=Nat.succ.inj aki
 obtain ⟨d4,ds4,rfl⟩:=K.G7 akj
 have alQ:=Nat.succ.inj akj
 obtain rfl:=List.length_eq_zero_iff.1 alQ
 exact ⟨_,rfl,K.ait laid reads rfl rfl rfl rfl results Try.underlying4 hW' hg⟩
theorem amG:Rows.imageColorsRow.holds Try.pinned (OpenSpec.ofChange Rows.imageColorsSpec):=
 OpenClaim.holds_of_wide 4 Try.f4 rfl rfl rfl rfl rfl rfl rfl ⟨rfl,rfl,rfl,rfl,rfl⟩ rfl rfl rfl rfl rfl (by kernel_rfl) Try.func4 (by kernel_rfl)
  (of_decide_eq_true (by kernel_rfl)) (by unfold Func.isWrapper; first | (rw [if_pos (by decide +kernel)]; kernel_rfl) | (rw [if_neg (by decide +kernel)]; exact ⟨rfl,rfl⟩))
  (fun os started H enc _=>lifted os started H enc)
theorem proved:Rows.ImageColorsSaid:=
 amG
end Go.Proofs.Ytahhdndhkgbcjaa.imageColors
