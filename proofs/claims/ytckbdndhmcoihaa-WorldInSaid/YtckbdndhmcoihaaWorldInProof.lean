/-
  The law WorldIn holds: the call returns true (shown by the machine K's own run of the code over open terms, whose every answer is shown to be the model's; and by plain data). No conditions.
-/
import Derived.Test.YtckbdndhmcoihaaRows
import Derived.Test.YtckbdndhmcoihaaKq
import Derived.WalkKit
import Derived.ProofKit
import Derived.OpenShut
namespace Go.Proofs.Ytckbdndhmcoihaa.worldIn
open Go.ChangeShapes Go.WideShapes Go.ChangeAt Go.RowKit
theorem said:∀ ars,K.mc Try.prog [34] ars=true->K.Ew Try.prog ars->K.BX Try.prog ars->K.EN Try.prog (K.ra Try.prog b.Hi b.Hj (fun q=>Nat.beq q 3)) 9 9 5 (K.normArgs Try.prog [34] ars)=some (.bool true):=fun ars h hw hd=>by
 rw [K.ab0 0 (w:=fun i=>ars.getD i .bh) h (fun i _=>by rw [bd]),b.WM,b.Yw,sc.acY _ (sc.ajJ 0 rfl h hw hd)];rfl
theorem own:ownKnob Try.prog.godebug=none:=by kernel_rfl
theorem laid:laidOutB Try.prog=true:=by kernel_rfl
theorem reads:Try.f5.params.toList.all (fun t=>Try.prog.readableRec t&&Nat.blt t Try.prog.types.size)=true:=by kernel_rfl
theorem types:Try.f5.params.toList.all (K.VT Try.prog)=true:=by kernel_rfl
theorem params:Try.f5.params.toList = [34]:=by kernel_rfl
theorem results:Try.f5.resultTypes = #[4]:=by kernel_rfl
set_option maxRecDepth 100000 in
theorem lifted (os:Os) (started:os.Started) (H:Type) (enc:TypeId×Value->H) :
  ReturnsInHanded {} Try.checked os 5 .any (Rows.worldInSpec.pre6 enc Try.prog Try.f5 Rows.worldInRow.domain false) (Rows.worldInSpec.post enc Try.prog Try.f5 false true false false):=by
 refine returnsInHanded_of_change_sized (C:=Try.checked) own started (by kernel_rfl) Try.func5
  (ChangeSpec.witness6 (enc:=enc) (C:=Try.checked) false ⟨#[],#[(aG.yp Try.prog 34).getD default],[]⟩ 8 (by kernel_rfl) (by kernel_rfl) (by kernel_rfl) (by kernel_rfl)) ?_
 intro W base args ds gs before Bo hW _ dT _;have hW':=hW;obtain ⟨p,q,hA,hV,_,_,_⟩:=hW;have hA:DataW.TrodAll enc Try.prog W 0 (fun _=>true) true Try.f5.params.toList args.toList ds p:=hA;have walk:=K.aok (f:=5) b.funcs b.mixed b.WK.pc (K.RC b.funcs b.mixed K.adS.none b.WL) types (by rw [params]; exact said) hA (K.ahc dT) (fun j t v h1 h2=>Bo j t v (by simpa using h1) (by simpa using h2));refine walk.mono fun e W' ⟨he,hg⟩=>?_;subst he;have ac0:=K.WN hA;have ac0:ds.length=1:=by rw [params] at ac0; exact ac0
 obtain ⟨d0,ds0,rfl⟩:=K.al8 ac0;have ap6:=Nat.succ.inj ac0;obtain rfl:=qR.1 ap6;exact ⟨_,rfl,K.al9 laid reads rfl rfl rfl rfl results Try.underlying4 hW' hg⟩
theorem arB:Rows.worldInRow.holds Try.pinned (OpenSpec.ofChange Rows.worldInSpec):=
 OpenClaim.holds_of_wide 5 Try.f5 rfl rfl rfl rfl rfl rfl rfl ⟨rfl,rfl,rfl,rfl,rfl⟩ rfl rfl rfl rfl rfl (by kernel_rfl) Try.func5 (by kernel_rfl)
  (Q7 (by kernel_rfl)) (by unfold Func.isWrapper; first | (rw [aD (by decide +kernel)]; kernel_rfl) | (rw [aa (by decide +kernel)]; exact ⟨rfl,rfl⟩))
  (fun os started H enc _=>lifted os started H enc)
theorem proved:Rows.WorldInSaid:=
 arB
end Go.Proofs.Ytckbdndhmcoihaa.worldIn
