/-
  The law ImageLeaves holds: the call returns true (shown by the machine K's own run of the code over open terms, whose every answer is shown to be the model's; and by plain data). No conditions.
-/
import Derived.Test.YtahhdndhkgbcjaaRows
import Derived.Test.YtahhdndhkgbcjaaKp
import Derived.WalkKit
import Derived.ProofKit
import Derived.OpenShut
namespace Go.Proofs.Ytahhdndhkgbcjaa.imageLeaves
open Go.ChangeShapes Go.WideShapes Go.ChangeAt Go.RowKit
theorem said:∀ ars,K.oI Try.prog [25,53,37,3,3,3] ars=true→K.GL ars→K.IM Try.prog ars→K.dm Try.prog (K.bo Try.prog b.wG b.wH (fun q=>Nat.beq q 58||Nat.beq q 2000021)) 9 9 5 (K.normArgs Try.prog [25,53,37,3,3,3] ars)=some (.bool true):=fun ars h _ _=>by
 rw [K.ZY 0 (w:=fun i=>ars.getD i .aw) h (fun i _=>by rw [Nat.zero_add]),b.Kk,b.Mo,b.Qo]
 rfl
theorem own:ownKnob Try.prog.godebug=none:=by kernel_rfl
theorem laid:laidOutB Try.prog=true:=by kernel_rfl
theorem reads:Try.f5.params.toList.all (fun t=>Try.prog.readableRec t&&Nat.blt t Try.prog.types.size)=true:=by kernel_rfl
theorem types:Try.f5.params.toList.all (K.Rs Try.prog)=true:=by kernel_rfl
theorem params:Try.f5.params.toList = [25,53,37,3,3,3]:=by kernel_rfl
theorem results:Try.f5.resultTypes = #[4]:=by kernel_rfl
set_option maxRecDepth 100000 in
theorem lifted (os:Os) (started:os.Started) (H:Type) (enc:TypeId×Value→H) :
  ReturnsInHanded {} Try.checked os 5 .any (Rows.imageLeavesSpec.pre6 enc Try.prog Try.f5 Rows.imageLeavesRow.domain false) (Rows.imageLeavesSpec.post enc Try.prog Try.f5 false true false false):=by
 refine returnsInHanded_of_change (C:=Try.checked) own started (by kernel_rfl) Try.func5
  (ChangeSpec.witness6 (enc:=enc) (C:=Try.checked) false ⟨#[],#[(aE.pb Try.prog 25).getD default,(aE.pb Try.prog 53).getD default,(aE.pb Try.prog 37).getD default,(aE.pb Try.prog 3).getD default,(aE.pb Try.prog 3).getD default,(aE.pb Try.prog 3).getD default],[]⟩ 8 (by kernel_rfl) (by kernel_rfl) (by kernel_rfl) (by kernel_rfl)) ?_
 intro W base args ds gs before wS hW _ _
 have hW':=hW
 obtain ⟨p,q,hA,hV,_,_,_⟩:=hW
 have hA:DataW.TrodAll enc Try.prog W 0 (fun _=>true) true Try.f5.params.toList args.toList ds p:=hA
 have walk:=K.alI (f:=5) b.funcs b.mixed b.Ki.pc (K.MN b.funcs b.mixed K.acv.none b.Kj) types (by rw [params]; exact said) hA (fun j t v h1 h2=>wS j t v (by simpa using h1) (by simpa using h2))
 refine walk.mono fun e W' ⟨he,hg⟩=>?_
 subst he
 have abo:=K.Tr hA
 have abo:ds.length=6:=by rw [params] at abo; exact abo
 obtain ⟨d0,ds0,rfl⟩:=K.C3 abo
 have ale:=Nat.succ.inj abo
 obtain ⟨d1,ds1,rfl⟩:=K.C3 ale
 have alf:=Nat.succ.inj ale
 obtain ⟨d2,ds2,rfl⟩:=K.C3 alf
 have alg:=Nat.succ.inj alf
 obtain ⟨d3,ds3,rfl⟩:=K.C3 alg
 have alh:=Nat.succ.inj alg
 obtain ⟨d4,ds4,rfl⟩:=K.C3 alh
 have ali:=Nat.succ.inj alh
 obtain ⟨d5,ds5,rfl⟩:=K.C3 ali
 have amT:=Nat.succ.inj ali
 obtain rfl:=List.length_eq_zero_iff.1 amT
 exact ⟨_,rfl,K.ajo laid reads rfl rfl rfl rfl results Try.underlying4 hW' hg⟩
theorem anO:Rows.imageLeavesRow.holds Try.pinned (OpenSpec.ofChange Rows.imageLeavesSpec):=
 OpenClaim.holds_of_wide 5 Try.f5 rfl rfl rfl rfl rfl rfl rfl ⟨rfl,rfl,rfl,rfl,rfl⟩ rfl rfl rfl rfl rfl (by kernel_rfl) Try.func5 (by kernel_rfl)
  (of_decide_eq_true (by kernel_rfl)) (by unfold Func.isWrapper; first | (rw [if_pos (by decide +kernel)]; kernel_rfl) | (rw [if_neg (by decide +kernel)]; exact ⟨rfl,rfl⟩))
  (fun os started H enc _=>lifted os started H enc)
theorem proved:Rows.ImageLeavesSaid:=
 anO
end Go.Proofs.Ytahhdndhkgbcjaa.imageLeaves
