/-
  The law ImageFrags holds: the call returns true (shown by the machine K's own run of the code over open terms, whose every answer is shown to be the model's; and by plain data). No conditions.
-/
import Derived.Test.YtchbpckkmgcgkaaGreatRows
import Derived.Test.YtchbpckkmgcgkaaGreatKp
import Derived.WalkKit
import Derived.ProofKit
import Derived.OpenShut
namespace Go.Proofs.YtchbpckkmgcgkaaGreat.imageFrags
open Go.ChangeShapes Go.WideShapes Go.ChangeAt Go.RowKit
theorem said:∀ ars,K.pe Tryz.prog [25,31,33,3,3,3,3] ars=true->K.Fj ars->K.Bo Tryz.prog ars->K.zY Tryz.prog (K.iI Tryz.prog b.D9 b.Ea (fun _=>false)) 9 9 3 (K.normArgs Tryz.prog [25,31,33,3,3,3,3] ars)=some (.bool true):=fun ars h hw hd=>by
 rw [K.ahE 0 (w:=fun i=>ars.getD i .bJ) h (fun i _=>by rw [bk]),b.Wj,b.Xv,b.abU _ _ _ _ _ _ _ (b.arO 0 rfl h hw hd) (b.apA 2 rfl h hw hd)];rfl
theorem own:ownKnob Tryz.prog.godebug=none:=by kernel_rfl
theorem laid:laidOutB Tryz.prog=true:=by kernel_rfl
theorem reads:Tryz.f3.params.toList.all (fun t=>Tryz.prog.readableRec t&&Nat.blt t Tryz.prog.types.size)=true:=by kernel_rfl
theorem types:Tryz.f3.params.toList.all (K.aaE Tryz.prog)=true:=by kernel_rfl
theorem params:Tryz.f3.params.toList = [25,31,33,3,3,3,3]:=by kernel_rfl
theorem results:Tryz.f3.resultTypes = #[4]:=by kernel_rfl
set_option maxRecDepth 100000 in
theorem lifted (os:Os) (started:os.Started) (H:Type) (enc:TypeId×Value->H) :
  ReturnsInHanded {} Tryz.checked os 3 .any (Rows.imageFragsSpec.pre6 enc Tryz.prog Tryz.f3 Rows.imageFragsRow.domain false) (Rows.imageFragsSpec.post enc Tryz.prog Tryz.f3 false true false false):=by
 refine returnsInHanded_of_change (C:=Tryz.checked) own started (by kernel_rfl) Tryz.func3
  (ChangeSpec.witness6 (enc:=enc) (C:=Tryz.checked) false ⟨#[],#[(aE.sF Tryz.prog 25).getD default,(aE.sF Tryz.prog 31).getD default,(aE.sF Tryz.prog 33).getD default,(aE.sF Tryz.prog 3).getD default,(aE.sF Tryz.prog 3).getD default,(aE.sF Tryz.prog 3).getD default,(aE.sF Tryz.prog 3).getD default],[]⟩ 8 (by kernel_rfl) (by kernel_rfl) (by kernel_rfl) (by kernel_rfl)) ?_
 intro W base args ds gs before CT hW _ _;have hW':=hW;obtain ⟨p,q,hA,hV,_,_,_⟩:=hW;have hA:DataW.TrodAll enc Tryz.prog W 0 (fun _=>true) true Tryz.f3.params.toList args.toList ds p:=hA;have walk:=K.auA (f:=3) b.funcs b.mixed b.Wh.pc (K.WK b.funcs b.mixed K.aj5.none b.Wi) types (by rw [params]; exact said) hA (fun j t v h1 h2=>CT j t v (by simpa using h1) (by simpa using h2));refine walk.mono fun e W' ⟨he,hg⟩=>?_;subst he;have aiU:=K.abV hA;have aiU:ds.length=7:=by rw [params] at aiU; exact aiU
 obtain ⟨d0,ds0,rfl⟩:=K.HI aiU;have at6:=Nat.succ.inj aiU;obtain ⟨d1,ds1,rfl⟩:=K.HI at6;have at7:=Nat.succ.inj at6;obtain ⟨d2,ds2,rfl⟩:=K.HI at7;have at8:=Nat.succ.inj at7;obtain ⟨d3,ds3,rfl⟩:=K.HI at8;have at9:=Nat.succ.inj at8;obtain ⟨d4,ds4,rfl⟩:=K.HI at9;have aua:=Nat.succ.inj at9;obtain ⟨d5,ds5,rfl⟩:=K.HI aua;have aub:=Nat.succ.inj aua;obtain ⟨d6,ds6,rfl⟩:=K.HI aub;have av9:=Nat.succ.inj aub;obtain rfl:=pq.1 av9;exact ⟨_,rfl,K.arV laid reads rfl rfl rfl rfl results Tryz.underlying4 hW' hg⟩
theorem aw3:Rows.imageFragsRow.holds Tryz.pinned (OpenSpec.ofChange Rows.imageFragsSpec):=
 OpenClaim.holds_of_wide 3 Tryz.f3 rfl rfl rfl rfl rfl rfl rfl ⟨rfl,rfl,rfl,rfl,rfl⟩ rfl rfl rfl rfl rfl (by kernel_rfl) Tryz.func3 (by kernel_rfl)
  (rh (by kernel_rfl)) (by unfold Func.isWrapper; first | (rw [aW (by decide +kernel)]; kernel_rfl) | (rw [aB (by decide +kernel)]; exact ⟨rfl,rfl⟩))
  (fun os started H enc _=>lifted os started H enc)
theorem proved:Rows.ImageFragsSaid:=
 aw3
end Go.Proofs.YtchbpckkmgcgkaaGreat.imageFrags
