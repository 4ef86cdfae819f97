/-
  The law PathsRight holds: the call returns true (shown by the machine K's own run of the code over open terms, whose every answer is shown to be the model's; and by plain data). No conditions.
-/
import Derived.Test.YtckbdndhmcoihaaGreatRows
import Derived.Test.YtckbdndhmcoihaaGreatJp
import Derived.Test.YtckbdndhmcoihaaGreatKp
import Derived.WalkKit
import Derived.ProofKit
import Derived.OpenShut
namespace Go.Proofs.YtckbdndhmcoihaaGreat.pathsRight
open Go.ChangeShapes Go.WideShapes Go.ChangeAt Go.RowKit
theorem said:∀ ars,K.jQ Tryz.prog [34] ars=true->K.xD Tryz.prog ars->K.uB Tryz.prog ars->K.x8 Tryz.prog (K.mA Tryz.prog b.vp b.vq) 9 9 7 (K.normArgs Tryz.prog [34] ars)=some (.bool true):=fun ars h hw hd=>by
 rw [K.VZ 0 (w:=fun i=>ars.getD i .bz) h (fun i _=>by rw [bG]),b.JI,b.Lc,sc.Qj _ (sc.ae1 0 rfl h hw hd)];rfl
theorem own:ownKnob Tryz.prog.godebug=none:=by kernel_rfl
theorem laid:laidOutB Tryz.prog=true:=by kernel_rfl
theorem reads:Tryz.f7.params.toList.all (fun t=>Tryz.prog.readableRec t&&Nat.blt t Tryz.prog.types.size)=true:=by kernel_rfl
theorem types:Tryz.f7.params.toList.all (K.PB Tryz.prog)=true:=by kernel_rfl
theorem params:Tryz.f7.params.toList = [34]:=by kernel_rfl
theorem results:Tryz.f7.resultTypes = #[4]:=by kernel_rfl
set_option maxRecDepth 100000 in
theorem lifted (os:Os) (started:os.Started) (H:Type) (enc:TypeId×Value->H) :
  ReturnsInHanded {} Tryz.checked os 7 .any (Rows.pathsRightSpec.pre6 enc Tryz.prog Tryz.f7 Rows.pathsRightRow.domain false) (Rows.pathsRightSpec.post enc Tryz.prog Tryz.f7 false true false false):=by
 refine returnsInHanded_of_change_sized (C:=Tryz.checked) own started (by kernel_rfl) Tryz.func7
  (ChangeSpec.witness6 (enc:=enc) (C:=Tryz.checked) false ⟨#[],#[(az.uK Tryz.prog 34).getD default],[]⟩ 8 (by kernel_rfl) (by kernel_rfl) (by kernel_rfl) (by kernel_rfl)) ?_
 intro W base args ds gs before tX hW _ cT _;have hW':=hW;obtain ⟨p,q,hA,hV,_,_,_⟩:=hW;have hA:DataW.TrodAll enc Tryz.prog W 0 (fun _=>true) true Tryz.f7.params.toList args.toList ds p:=hA;have walk:=K.akW (f:=7) b.funcs b.mixed b.JG.pc (K.Kw b.funcs b.mixed K.Yf.none b.JH) types (by rw [params]; exact said) hA (K.acs cT) (fun j t v h1 h2=>tX j t v (by simpa using h1) (by simpa using h2));refine walk.mono fun e W' ⟨he,hg⟩=>?_;subst he;have WT:=K.Qk hA;have WT:ds.length=1:=by rw [params] at WT; exact WT
 obtain ⟨d0,ds0,rfl⟩:=K.ahZ WT;have am2:=Nat.succ.inj WT;obtain rfl:=lE.1 am2;exact ⟨_,rfl,K.ah0 laid reads rfl rfl rfl rfl results Tryz.underlying4 hW' hg⟩
theorem aou:Rows.pathsRightRow.holds Tryz.pinned (OpenSpec.ofChange Rows.pathsRightSpec):=
 OpenClaim.holds_of_wide 7 Tryz.f7 rfl rfl rfl rfl rfl rfl rfl ⟨rfl,rfl,rfl,rfl,rfl⟩ rfl rfl rfl rfl rfl (by kernel_rfl) Tryz.func7 (by kernel_rfl)
  (JS (by kernel_rfl)) (by unfold Func.isWrapper; first | (rw [ax (by decide +kernel)]; kernel_rfl) | (rw [ae (by decide +kernel)]; exact ⟨rfl,rfl⟩))
  (fun os started H enc _=>lifted os started H enc)
theorem proved:Rows.PathsRightSaid:=
 aou
end Go.Proofs.YtckbdndhmcoihaaGreat.pathsRight
