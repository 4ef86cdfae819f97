/-
  The law ImageWins holds: the call returns true (shown by the machine K's own run of the code over open terms, whose every answer is shown to be the model's; and by plain data). No conditions.
-/
import Derived.Test.YtahhdndhkgbcjaaRows
import Derived.Test.YtahhdndhkgbcjaaKp
import Derived.WalkKit
import Derived.ProofKit
import Derived.OpenShut
namespace Go.Proofs.Ytahhdndhkgbcjaa.imageWins
open Go.ChangeShapes Go.WideShapes Go.ChangeAt Go.RowKit
theorem said:∀ ars,K.ot Try.prog [25,53,37,3,3] ars=true→K.Gi ars→K.Ia Try.prog ars→K.dn Try.prog (K.bp Try.prog b.zr b.zt (fun _=>false)) 9 9 7 (K.normArgs Try.prog [25,53,37,3,3] ars)=some (.bool true):=fun ars h _ _=>by
 rw [K.Zr 0 (w:=fun i=>ars.getD i .ax) h (fun i _=>by rw [Nat.zero_add]),b.MV,b.PC,b.U5]
 rfl
theorem own:ownKnob Try.prog.godebug=none:=by kernel_rfl
theorem laid:laidOutB Try.prog=true:=by kernel_rfl
theorem reads:Try.f7.params.toList.all (fun t=>Try.prog.readableRec t&&Nat.blt t Try.prog.types.size)=true:=by kernel_rfl
theorem types:Try.f7.params.toList.all (K.QM Try.prog)=true:=by kernel_rfl
theorem params:Try.f7.params.toList = [25,53,37,3,3]:=by kernel_rfl
theorem results:Try.f7.resultTypes = #[4]:=by kernel_rfl
set_option maxRecDepth 100000 in
theorem lifted (os:Os) (started:os.Started) (H:Type) (enc:TypeId×Value→H) :
  ReturnsInHanded {} Try.checked os 7 .any (Rows.imageWinsSpec.pre6 enc Try.prog Try.f7 Rows.imageWinsRow.domain false) (Rows.imageWinsSpec.post enc Try.prog Try.f7 false true false false):=by
 refine returnsInHanded_of_change (C:=Try.checked) own started (by kernel_rfl) Try.func7
  (ChangeSpec.witness6 (enc:=enc) (C:=Try.checked) false ⟨#[],#[(aG.pQ Try.prog 25).getD default,(aG.pQ Try.prog 53).getD default,(aG.pQ Try.prog 37).getD default,(aG.pQ Try.prog 3).getD default,(aG.pQ Try.prog 3).getD default],[]⟩ 8 (by kernel_rfl) (by kernel_rfl) (by kernel_rfl) (by kernel_rfl)) ?_
 intro W base args ds gs before wC hW _ _
 have hW':=hW
 obtain ⟨p,q,hA,hV,_,_,_⟩:=hW
 have hA:DataW.TrodAll enc Try.prog W 0 (fun _=>true) true Try.f7.params.toList args.toList ds p:=hA
 have walk:=K.ak1 (f:=7) b.funcs b.mixed b.MT.pc (K.L9 b.funcs b.mixed K.abT.none b.MU) types (by rw [params]; exact said) hA (fun j t v h1 h2=>wC j t v (by simpa using h1) (by simpa using h2))
 refine walk.mono fun e W' ⟨he,hg⟩=>?_
 subst he
 have aaR:=K.SH hA
 have aaR:ds.length=5:=by rw [params] at aaR; exact aaR
 obtain ⟨d0,ds0,rfl⟩:=K.Hb aaR
 have akA:=Nat.succ.inj aaR
 obtain ⟨d1,ds1,rfl⟩:=K.Hb akA
 have akB:=Nat.succ.inj akA
 obtain ⟨d2,ds2,rfl⟩:=K.Hb akB
 have akC:=Nat.succ.inj akB
 obtain ⟨d3,ds3,rfl⟩:=K.Hb akC
 have akD:=Nat.succ.inj akC
 obtain ⟨d4,ds4,rfl⟩:=K.Hb akD
 have ama:=Nat.succ.inj akD
 obtain rfl:=List.length_eq_zero_iff.1 ama
 exact ⟨_,rfl,K.aiN laid reads rfl rfl rfl rfl results Try.underlying4 hW' hg⟩
theorem am0:Rows.imageWinsRow.holds Try.pinned (OpenSpec.ofChange Rows.imageWinsSpec):=
 OpenClaim.holds_of_wide 7 Try.f7 rfl rfl rfl rfl rfl rfl rfl ⟨rfl,rfl,rfl,rfl,rfl⟩ rfl rfl rfl rfl rfl (by kernel_rfl) Try.func7 (by kernel_rfl)
  (of_decide_eq_true (by kernel_rfl)) (by unfold Func.isWrapper; first | (rw [if_pos (by decide +kernel)]; kernel_rfl) | (rw [if_neg (by decide +kernel)]; exact ⟨rfl,rfl⟩))
  (fun os started H enc _=>lifted os started H enc)
theorem proved:Rows.ImageWinsSaid:=
 am0
end Go.Proofs.Ytahhdndhkgbcjaa.imageWins
