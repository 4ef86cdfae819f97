/-
  The law ImageWhole holds: the call returns true (shown by the machine K's own run of the code over open terms, whose every answer is shown to be the model's; and by plain data). No conditions.
-/
import Derived.Test.YtchbpckkmgcgkaaGreatRows
import Derived.Test.YtchbpckkmgcgkaaGreatKp
import Derived.WalkKit
import Derived.ProofKit
import Derived.OpenShut
namespace Go.Proofs.YtchbpckkmgcgkaaGreat.imageWhole
open Go.ChangeShapes Go.WideShapes Go.ChangeAt Go.RowKit
theorem said:∀ ars,K.pq Tryz.prog [25,31,33] ars=true->K.Fj ars->K.Bm Tryz.prog ars->K.zW Tryz.prog (K.iK Tryz.prog b.D9 b.Ea (fun _=>false)) 9 9 4 (K.normArgs Tryz.prog [25,31,33] ars)=some (.bool true):=fun ars h hw hd=>by
 rw [K.ahM 0 (w:=fun i=>ars.getD i .bG) h (fun i _=>by rw [bh]),b.V9,b.Xv,b.abW _ _ _ (b.arU 0 rfl h hw hd) (b.apE 2 rfl h hw hd)];rfl
theorem own:ownKnob Tryz.prog.godebug=none:=by kernel_rfl
theorem laid:laidOutB Tryz.prog=true:=by kernel_rfl
theorem reads:Tryz.f4.params.toList.all (fun t=>Tryz.prog.readableRec t&&Nat.blt t Tryz.prog.types.size)=true:=by kernel_rfl
theorem types:Tryz.f4.params.toList.all (K.aaB Tryz.prog)=true:=by kernel_rfl
theorem params:Tryz.f4.params.toList = [25,31,33]:=by kernel_rfl
theorem results:Tryz.f4.resultTypes = #[4]:=by kernel_rfl
set_option maxRecDepth 100000 in
theorem lifted (os:Os) (started:os.Started) (H:Type) (enc:TypeId×Value->H) :
  ReturnsInHanded {} Tryz.checked os 4 .any (Rows.imageWholeSpec.pre6 enc Tryz.prog Tryz.f4 Rows.imageWholeRow.domain false) (Rows.imageWholeSpec.post enc Tryz.prog Tryz.f4 false true false false):=by
 refine returnsInHanded_of_change (C:=Tryz.checked) own started (by kernel_rfl) Tryz.func4
  (ChangeSpec.witness6 (enc:=enc) (C:=Tryz.checked) false ⟨#[],#[(aF.wj Tryz.prog 25).getD default,(aF.wj Tryz.prog 31).getD default,(aF.wj Tryz.prog 33).getD default],[]⟩ 8 (by kernel_rfl) (by kernel_rfl) (by kernel_rfl) (by kernel_rfl)) ?_
 intro W base args ds gs before CX hW _ _;have hW':=hW;obtain ⟨p,q,hA,hV,_,_,_⟩:=hW;have hA:DataW.TrodAll enc Tryz.prog W 0 (fun _=>true) true Tryz.f4.params.toList args.toList ds p:=hA;have walk:=K.auB (f:=4) b.funcs b.mixed b.V7.pc (K.Wz b.funcs b.mixed K.akb.none b.V8) types (by rw [params]; exact said) hA (fun j t v h1 h2=>CX j t v (by simpa using h1) (by simpa using h2));refine walk.mono fun e W' ⟨he,hg⟩=>?_;subst he;have ai1:=K.abX hA;have ai1:ds.length=3:=by rw [params] at ai1; exact ai1
 obtain ⟨d0,ds0,rfl⟩:=K.adO ai1;have aub:=Nat.succ.inj ai1;obtain ⟨d1,ds1,rfl⟩:=K.adO aub;have auc:=Nat.succ.inj aub;obtain ⟨d2,ds2,rfl⟩:=K.adO auc;have av7:=Nat.succ.inj auc;obtain rfl:=qv.1 av7;exact ⟨_,rfl,K.ar2 laid reads rfl rfl rfl rfl results Tryz.underlying4 hW' hg⟩
theorem aw0:Rows.imageWholeRow.holds Tryz.pinned (OpenSpec.ofChange Rows.imageWholeSpec):=
 OpenClaim.holds_of_wide 4 Tryz.f4 rfl rfl rfl rfl rfl rfl rfl ⟨rfl,rfl,rfl,rfl,rfl⟩ rfl rfl rfl rfl rfl (by kernel_rfl) Tryz.func4 (by kernel_rfl)
  (rl (by kernel_rfl)) (by unfold Func.isWrapper; first | (rw [aV (by decide +kernel)]; kernel_rfl) | (rw [ay (by decide +kernel)]; exact ⟨rfl,rfl⟩))
  (fun os started H enc _=>lifted os started H enc)
theorem proved:Rows.ImageWholeSaid:=
 aw0
end Go.Proofs.YtchbpckkmgcgkaaGreat.imageWhole
