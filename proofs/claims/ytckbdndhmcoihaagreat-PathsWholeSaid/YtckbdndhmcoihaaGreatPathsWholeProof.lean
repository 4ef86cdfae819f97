/-
  The law PathsWhole holds: the call returns true (shown by the machine K's own run of the code over open terms, whose every answer is shown to be the model's; and by plain data). No conditions.
-/
import Derived.Test.YtckbdndhmcoihaaGreatRows
import Derived.Test.YtckbdndhmcoihaaGreatJq
import Derived.Test.YtckbdndhmcoihaaGreatKq
import Derived.WalkKit
import Derived.ProofKit
import Derived.OpenShut
namespace Go.Proofs.YtckbdndhmcoihaaGreat.pathsWhole
open Go.ChangeShapes Go.WideShapes Go.ChangeAt Go.RowKit
theorem said:∀ ars,K.jS Tryz.prog [34,36] ars=true->K.xP Tryz.prog ars->K.uJ Tryz.prog ars->K.zS Tryz.prog (K.mS Tryz.prog b.vA b.vB) 9 9 8 (K.normArgs Tryz.prog [34,36] ars)=some (.bool true):=fun ars h hw hd=>by
 rw [K.Vz 0 (w:=fun i=>ars.getD i .bx) h (fun i _=>by rw [bF]),b.JD,b.K5,sc.PX _ _ (sc.aeG 0 rfl h hw hd)];rfl
theorem own:ownKnob Tryz.prog.godebug=none:=by kernel_rfl
theorem laid:laidOutB Tryz.prog=true:=by kernel_rfl
theorem reads:Tryz.f8.params.toList.all (fun t=>Tryz.prog.readableRec t&&Nat.blt t Tryz.prog.types.size)=true:=by kernel_rfl
theorem types:Tryz.f8.params.toList.all (K.Pj Tryz.prog)=true:=by kernel_rfl
theorem params:Tryz.f8.params.toList = [34,36]:=by kernel_rfl
theorem results:Tryz.f8.resultTypes = #[4]:=by kernel_rfl
set_option maxRecDepth 100000 in
theorem lifted (os:Os) (started:os.Started) (H:Type) (enc:TypeId×Value->H) :
  ReturnsInHanded {} Tryz.checked os 8 .any (Rows.pathsWholeSpec.pre6 enc Tryz.prog Tryz.f8 Rows.pathsWholeRow.domain false) (Rows.pathsWholeSpec.post enc Tryz.prog Tryz.f8 false true false false):=by
 refine returnsInHanded_of_change_sized (C:=Tryz.checked) own started (by kernel_rfl) Tryz.func8
  (ChangeSpec.witness6 (enc:=enc) (C:=Tryz.checked) false ⟨#[],#[(aA.tE Tryz.prog 34).getD default,(aA.tE Tryz.prog 36).getD default],[]⟩ 8 (by kernel_rfl) (by kernel_rfl) (by kernel_rfl) (by kernel_rfl)) ?_
 intro W base args ds gs before uc hW _ cS _;have hW':=hW;obtain ⟨p,q,hA,hV,_,_,_⟩:=hW;have hA:DataW.TrodAll enc Tryz.prog W 0 (fun _=>true) true Tryz.f8.params.toList args.toList ds p:=hA;have walk:=K.akF (f:=8) b.funcs b.mixed b.JB.pc (K.Kq b.funcs b.mixed K.XW.none b.JC) types (by rw [params]; exact said) hA (K.acb cS) (fun j t v h1 h2=>uc j t v (by simpa using h1) (by simpa using h2));refine walk.mono fun e W' ⟨he,hg⟩=>?_;subst he;have Wx:=K.PY hA;have Wx:ds.length=2:=by rw [params] at Wx; exact Wx
 obtain ⟨d0,ds0,rfl⟩:=K.Ys Wx;have aj1:=Nat.succ.inj Wx;obtain ⟨d1,ds1,rfl⟩:=K.Ys aj1;have aju:=Nat.succ.inj aj1;obtain rfl:=lD.1 aju;exact ⟨_,rfl,K.ahI laid reads rfl rfl rfl rfl results Tryz.underlying4 hW' hg⟩
theorem an9:Rows.pathsWholeRow.holds Tryz.pinned (OpenSpec.ofChange Rows.pathsWholeSpec):=
 OpenClaim.holds_of_wide 8 Tryz.f8 rfl rfl rfl rfl rfl rfl rfl ⟨rfl,rfl,rfl,rfl,rfl⟩ rfl rfl rfl rfl rfl (by kernel_rfl) Tryz.func8 (by kernel_rfl)
  (JN (by kernel_rfl)) (by unfold Func.isWrapper; first | (rw [ax (by decide +kernel)]; kernel_rfl) | (rw [ae (by decide +kernel)]; exact ⟨rfl,rfl⟩))
  (fun os started H enc _=>lifted os started H enc)
theorem proved:Rows.PathsWholeSaid:=
 an9
end Go.Proofs.YtckbdndhmcoihaaGreat.pathsWhole
