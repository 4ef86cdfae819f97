/-
  The law PathsOne holds: the call returns true (shown by the machine K's own run of the code over open terms, whose every answer is shown to be the model's; and by plain data). No conditions.
-/
import Derived.Test.YtckbdndhmcoihaaGreatRows
import Derived.Test.YtckbdndhmcoihaaGreatIp
import Derived.Test.YtckbdndhmcoihaaGreatJp
import Derived.WalkKit
import Derived.ProofKit
import Derived.OpenShut
namespace Go.Proofs.YtckbdndhmcoihaaGreat.pathsOne
open Go.ChangeShapes Go.WideShapes Go.ChangeAt Go.RowKit
theorem said:∀ ars,K.j2 Tryz.prog [34,38,36] ars=true->K.zg Tryz.prog ars->K.uW Tryz.prog ars->K.xh Tryz.prog (K.mn Tryz.prog b.Cn b.Cp) 9 9 4 (K.normArgs Tryz.prog [34,38,36] ars)=some (.bool true):=fun ars h hw hd=>by
 rw [K.acM 0 (w:=fun i=>ars.getD i .bA) h (fun i _=>by rw [bp]),b.UG,b.W0,sc.aaM _ _ _ (sc.ak7 0 rfl h hw hd) (sc.alc 0 rfl h hw hd)];rfl
theorem own:ownKnob Tryz.prog.godebug=none:=by kernel_rfl
theorem laid:laidOutB Tryz.prog=true:=by kernel_rfl
theorem reads:Tryz.f4.params.toList.all (fun t=>Tryz.prog.readableRec t&&Nat.blt t Tryz.prog.types.size)=true:=by kernel_rfl
theorem types:Tryz.f4.params.toList.all (K.VX Tryz.prog)=true:=by kernel_rfl
theorem params:Tryz.f4.params.toList = [34,38,36]:=by kernel_rfl
theorem results:Tryz.f4.resultTypes = #[4]:=by kernel_rfl
set_option maxRecDepth 100000 in
theorem lifted (os:Os) (started:os.Started) (H:Type) (enc:TypeId×Value->H) :
  ReturnsInHanded {} Tryz.checked os 4 .any (Rows.pathsOneSpec.pre6 enc Tryz.prog Tryz.f4 Rows.pathsOneRow.domain false) (Rows.pathsOneSpec.post enc Tryz.prog Tryz.f4 false true false false):=by
 refine returnsInHanded_of_change_sized (C:=Tryz.checked) own started (by kernel_rfl) Tryz.func4
  (ChangeSpec.witness6 (enc:=enc) (C:=Tryz.checked) false ⟨#[],#[(aq.qt Tryz.prog 34).getD default,(aq.qt Tryz.prog 38).getD default,(aq.qt Tryz.prog 36).getD default],[]⟩ 8 (by kernel_rfl) (by kernel_rfl) (by kernel_rfl) (by kernel_rfl)) ?_
 intro W base args ds gs before v7 hW _ dK _;have hW':=hW;obtain ⟨p,q,hA,hV,_,_,_⟩:=hW;have hA:DataW.TrodAll enc Tryz.prog W 0 (fun _=>true) true Tryz.f4.params.toList args.toList ds p:=hA;have walk:=K.apq (f:=4) b.funcs b.mixed b.UE.pc (K.aa7 b.funcs b.mixed K.afb.none b.UF) types (by rw [params]; exact said) hA (K.aiu dK) (fun j t v h1 h2=>v7 j t v (by simpa using h1) (by simpa using h2));refine walk.mono fun e W' ⟨he,hg⟩=>?_;subst he;have adY:=K.Xi hA;have adY:ds.length=3:=by rw [params] at adY; exact adY
 obtain ⟨d0,ds0,rfl⟩:=K.Y6 adY;have ao4:=Nat.succ.inj adY;obtain ⟨d1,ds1,rfl⟩:=K.Y6 ao4;have akC:=Nat.succ.inj ao4;obtain ⟨d2,ds2,rfl⟩:=K.Y6 akC;have aoL:=Nat.succ.inj akC;obtain rfl:=mW.1 aoL;exact ⟨_,rfl,K.ans laid reads rfl rfl rfl rfl results Tryz.underlying4 hW' hg⟩
theorem ase:Rows.pathsOneRow.holds Tryz.pinned (OpenSpec.ofChange Rows.pathsOneSpec):=
 OpenClaim.holds_of_wide 4 Tryz.f4 rfl rfl rfl rfl rfl rfl rfl ⟨rfl,rfl,rfl,rfl,rfl⟩ rfl rfl rfl rfl rfl (by kernel_rfl) Tryz.func4 (by kernel_rfl)
  (QZ (by kernel_rfl)) (by unfold Func.isWrapper; first | (rw [aI (by decide +kernel)]; kernel_rfl) | (rw [ak (by decide +kernel)]; exact ⟨rfl,rfl⟩))
  (fun os started H enc _=>lifted os started H enc)
theorem proved:Rows.PathsOneSaid:=
 ase
end Go.Proofs.YtckbdndhmcoihaaGreat.pathsOne
