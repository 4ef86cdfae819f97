/-
  The law WorldMat holds: the call returns true (shown by the machine K's own run of the code over open terms, whose every answer is shown to be the model's; and by plain data). No conditions.
-/
import Derived.Test.YtckbdndhmcoihaaGreatRows
import Derived.Test.YtckbdndhmcoihaaGreatJp
import Derived.Test.YtckbdndhmcoihaaGreatKp
import Derived.WalkKit
import Derived.ProofKit
import Derived.OpenShut
namespace Go.Proofs.YtckbdndhmcoihaaGreat.worldMat
open Go.ChangeShapes Go.WideShapes Go.ChangeAt Go.RowKit
theorem said:∀ ars,K.ma Tryz.prog [34,38] ars=true->K.Da ars->K.zg Tryz.prog ars->K.cD Tryz.prog (K.bp Tryz.prog b.E6 b.E7 (fun q=>Nat.beq q 3)) 9 9 3 (K.normArgs Tryz.prog [34,38] ars)=some (.bool true):=fun ars h hw hd=>by
 rw [K.agI 0 (w:=fun i=>ars.getD i .ao) h (fun i _=>by rw [bM]),b.Xf,b.aac,sc.aeN _ _ (sc.aqE 0 rfl h hw hd)];rfl
theorem own:ownKnob Tryz.prog.godebug=none:=by kernel_rfl
theorem laid:laidOutB Tryz.prog=true:=by kernel_rfl
theorem reads:Tryz.f3.params.toList.all (fun t=>Tryz.prog.readableRec t&&Nat.blt t Tryz.prog.types.size)=true:=by kernel_rfl
theorem types:Tryz.f3.params.toList.all (K.SZ Tryz.prog)=true:=by kernel_rfl
theorem params:Tryz.f3.params.toList = [34,38]:=by kernel_rfl
theorem results:Tryz.f3.resultTypes = #[4]:=by kernel_rfl
set_option maxRecDepth 100000 in
theorem lifted (os:Os) (started:os.Started) (H:Type) (enc:TypeId×Value->H) :
  ReturnsInHanded {} Tryz.checked os 3 .any (Rows.worldMatSpec.pre6 enc Tryz.prog Tryz.f3 Rows.worldMatRow.domain false) (Rows.worldMatSpec.post enc Tryz.prog Tryz.f3 false true false false):=by
 refine returnsInHanded_of_change (C:=Tryz.checked) own started (by kernel_rfl) Tryz.func3
  (ChangeSpec.witness6 (enc:=enc) (C:=Tryz.checked) false ⟨#[],#[(aB.vN Tryz.prog 34).getD default,(aB.vN Tryz.prog 38).getD default],[]⟩ 8 (by kernel_rfl) (by kernel_rfl) (by kernel_rfl) (by kernel_rfl)) ?_
 intro W base args ds gs before A7 hW _ _;have hW':=hW;obtain ⟨p,q,hA,hV,_,_,_⟩:=hW;have hA:DataW.TrodAll enc Tryz.prog W 0 (fun _=>true) true Tryz.f3.params.toList args.toList ds p:=hA;have walk:=K.auD (f:=3) b.funcs b.mixed b.Xd.pc (K.ae8 b.funcs b.mixed K.akC.none b.Xe) types (by rw [params]; exact said) hA (fun j t v h1 h2=>A7 j t v (by simpa using h1) (by simpa using h2));refine walk.mono fun e W' ⟨he,hg⟩=>?_;subst he;have aiR:=K.aaj hA;have aiR:ds.length=2:=by rw [params] at aiR; exact aiR
 obtain ⟨d0,ds0,rfl⟩:=K.ak7 aiR;have aui:=Nat.succ.inj aiR;obtain ⟨d1,ds1,rfl⟩:=K.ak7 aui;have at6:=Nat.succ.inj aui;obtain rfl:=pR.1 at6;exact ⟨_,rfl,K.asR laid reads rfl rfl rfl rfl results Tryz.underlying4 hW' hg⟩
theorem aw7:Rows.worldMatRow.holds Tryz.pinned (OpenSpec.ofChange Rows.worldMatSpec):=
 OpenClaim.holds_of_wide 3 Tryz.f3 rfl rfl rfl rfl rfl rfl rfl ⟨rfl,rfl,rfl,rfl,rfl⟩ rfl rfl rfl rfl rfl (by kernel_rfl) Tryz.func3 (by kernel_rfl)
  (Sy (by kernel_rfl)) (by unfold Func.isWrapper; first | (rw [aY (by decide +kernel)]; kernel_rfl) | (rw [av (by decide +kernel)]; exact ⟨rfl,rfl⟩))
  (fun os started H enc _=>lifted os started H enc)
theorem proved:Rows.WorldMatSaid:=
 aw7
end Go.Proofs.YtckbdndhmcoihaaGreat.worldMat
