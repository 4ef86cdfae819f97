/-
  The law WorldLevels holds: the call returns true (shown by the machine K's own run of the code over open terms, whose every answer is shown to be the model's; and by plain data). No conditions.
-/
import Derived.Test.YtckbdndhmcoihaaRows
import Derived.Test.YtckbdndhmcoihaaKp
import Derived.WalkKit
import Derived.ProofKit
import Derived.OpenShut
namespace Go.Proofs.Ytckbdndhmcoihaa.worldLevels
open Go.ChangeShapes Go.WideShapes Go.ChangeAt Go.RowKit
theorem said:∀ ars,K.lV Try.prog [34,36] ars=true->K.D0 Try.prog ars->K.Bm Try.prog ars->K.CV Try.prog (K.pw Try.prog b.Av b.Aw (fun q=>Nat.beq q 3)) 9 9 3 (K.normArgs Try.prog [34,36] ars)=some (.bool true):=fun ars h hw hd=>by
 rw [K.aa5 0 (w:=fun i=>ars.getD i .bf) h (fun i _=>by rw [ba]),b.OC,b.Qd,sc.Tw _ _ (sc.aiV 0 rfl h hw hd)];rfl
theorem own:ownKnob Try.prog.godebug=none:=by kernel_rfl
theorem laid:laidOutB Try.prog=true:=by kernel_rfl
theorem reads:Try.f3.params.toList.all (fun t=>Try.prog.readableRec t&&Nat.blt t Try.prog.types.size)=true:=by kernel_rfl
theorem types:Try.f3.params.toList.all (K.UL Try.prog)=true:=by kernel_rfl
theorem params:Try.f3.params.toList = [34,36]:=by kernel_rfl
theorem results:Try.f3.resultTypes = #[4]:=by kernel_rfl
set_option maxRecDepth 100000 in
theorem lifted (os:Os) (started:os.Started) (H:Type) (enc:TypeId×Value->H) :
  ReturnsInHanded {} Try.checked os 3 .any (Rows.worldLevelsSpec.pre6 enc Try.prog Try.f3 Rows.worldLevelsRow.domain false) (Rows.worldLevelsSpec.post enc Try.prog Try.f3 false true false false):=by
 refine returnsInHanded_of_change_sized (C:=Try.checked) own started (by kernel_rfl) Try.func3
  (ChangeSpec.witness6 (enc:=enc) (C:=Try.checked) false ⟨#[],#[(aG.wx Try.prog 34).getD default,(aG.wx Try.prog 36).getD default],[]⟩ 8 (by kernel_rfl) (by kernel_rfl) (by kernel_rfl) (by kernel_rfl)) ?_
 intro W base args ds gs before AK hW _ dS _;have hW':=hW;obtain ⟨p,q,hA,hV,_,_,_⟩:=hW;have hA:DataW.TrodAll enc Try.prog W 0 (fun _=>true) true Try.f3.params.toList args.toList ds p:=hA;have walk:=K.anw (f:=3) b.funcs b.mixed b.OA.pc (K.QK b.funcs b.mixed K.ac0.none b.OB) types (by rw [params]; exact said) hA (K.agm dS) (fun j t v h1 h2=>AK j t v (by simpa using h1) (by simpa using h2));refine walk.mono fun e W' ⟨he,hg⟩=>?_;subst he;have ab8:=K.Vx hA;have ab8:ds.length=2:=by rw [params] at ab8; exact ab8
 obtain ⟨d0,ds0,rfl⟩:=K.adE ab8;have anb:=Nat.succ.inj ab8;obtain ⟨d1,ds1,rfl⟩:=K.adE anb;have amJ:=Nat.succ.inj anb;obtain rfl:=qL.1 amJ;exact ⟨_,rfl,K.alj laid reads rfl rfl rfl rfl results Try.underlying4 hW' hg⟩
theorem aqJ:Rows.worldLevelsRow.holds Try.pinned (OpenSpec.ofChange Rows.worldLevelsSpec):=
 OpenClaim.holds_of_wide 3 Try.f3 rfl rfl rfl rfl rfl rfl rfl ⟨rfl,rfl,rfl,rfl,rfl⟩ rfl rfl rfl rfl rfl (by kernel_rfl) Try.func3 (by kernel_rfl)
  (Qh (by kernel_rfl)) (by unfold Func.isWrapper; first | (rw [aE (by decide +kernel)]; kernel_rfl) | (rw [aa (by decide +kernel)]; exact ⟨rfl,rfl⟩))
  (fun os started H enc _=>lifted os started H enc)
theorem proved:Rows.WorldLevelsSaid:=
 aqJ
end Go.Proofs.Ytckbdndhmcoihaa.worldLevels
