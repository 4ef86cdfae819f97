/-
  The law BinsMeet holds: the call returns true (shown by the machine K's own run of the code over open terms, whose every answer is shown to be the model's; and by plain data). No conditions.
-/
import Derived.Test.YtahhdndhkgbcjaaRows
import Derived.Test.YtahhdndhkgbcjaaKp
import Derived.WalkKit
import Derived.ProofKit
import Derived.OpenShut
namespace Go.Proofs.Ytahhdndhkgbcjaa.binsMeet
open Go.ChangeShapes Go.WideShapes Go.ChangeAt Go.RowKit
theorem said:∀ ars,K.j4 Try.prog [25,53,29,70,3,3] ars=true→K.Bz ars→K.Db Try.prog ars→K.cm Try.prog (K.bx Try.prog b.vi b.vj (fun _=>false)) 9 9 6 (K.normArgs Try.prog [25,53,29,70,3,3] ars)=some (.bool true):=fun ars h _ _=>by
  rw [K.Uw 0 (w:=fun i=>ars.getD i .av) h (fun i _=>by rw [Nat.zero_add]),b.KG,b.NN,b.Wz]
  rfl
theorem own:ownKnob Try.prog.godebug=none:=by kernel_rfl
theorem laid:laidOutB Try.prog=true:=by kernel_rfl
theorem reads:Try.f6.params.toList.all (fun t=>Try.prog.readableRec t && Nat.blt t Try.prog.types.size)=true:=by kernel_rfl
theorem types:Try.f6.params.toList.all (K.Mi Try.prog)=true:=by kernel_rfl
theorem params:Try.f6.params.toList = [25,53,29,70,3,3]:=by kernel_rfl
theorem results:Try.f6.resultTypes = #[4]:=by kernel_rfl
set_option maxRecDepth 100000 in
theorem lifted (os:Os) (started:os.Started) (H:Type) (enc:TypeId×Value→H) :
    ReturnsInHanded {} Try.checked os 6 .any (Rows.binsMeetSpec.pre6 enc Try.prog Try.f6 Rows.binsMeetRow.domain false) (Rows.binsMeetSpec.post enc Try.prog Try.f6 false true false false):=by
  refine returnsInHanded_of_change (C:=Try.checked) own started (by kernel_rfl) Try.func6
    (ChangeSpec.witness6 (enc:=enc) (C:=Try.checked) false ⟨#[],#[(aV.kr Try.prog 25).getD default,(aV.kr Try.prog 53).getD default,(aV.kr Try.prog 29).getD default,(aV.kr Try.prog 70).getD default,(aV.kr Try.prog 3).getD default,(aV.kr Try.prog 3).getD default],[]⟩ 8 (by kernel_rfl) (by kernel_rfl) (by kernel_rfl) (by kernel_rfl)) ?_
  intro W base args ds gs before n5 hW _ _
  have hW':=hW
  obtain ⟨p,q,hA,hV,_,_,_⟩:=hW
  have hA:DataW.TrodAll enc Try.prog W 0 (fun _=>true) true Try.f6.params.toList args.toList ds p:=hA
  have walk:=K.ahX (f:=6) b.funcs b.mixed b.KD.pc (K.YX b.funcs b.mixed K.T9.none b.KF) types (by rw [params]; exact said) hA (fun j t v h1 h2=>n5 j t v (by simpa using h1) (by simpa using h2))
  refine walk.mono fun e W' ⟨he,hg⟩=>?_
  subst he
  have VJ:=K.NU hA
  have VJ:ds.length=6:=by rw [params] at VJ; exact VJ
  obtain ⟨d0,ds0,rfl⟩:=K.xK VJ
  have ahc:=Nat.succ.inj VJ
  obtain ⟨d1,ds1,rfl⟩:=K.xK ahc
  have YP:=Nat.succ.inj ahc
  obtain ⟨d2,ds2,rfl⟩:=K.xK YP
  have ahd:=Nat.succ.inj YP
  obtain ⟨d3,ds3,rfl⟩:=K.xK ahd
  have ahe:=Nat.succ.inj ahd
  obtain ⟨d4,ds4,rfl⟩:=K.xK ahe
  have ahf:=Nat.succ.inj ahe
  obtain ⟨d5,ds5,rfl⟩:=K.xK ahf
  have ajs:=Nat.succ.inj ahf
  obtain rfl:=List.length_eq_zero_iff.1 ajs
  exact ⟨_,rfl,K.ae0 laid reads rfl rfl rfl rfl results Try.underlying4 hW' hg⟩
theorem akI:Rows.binsMeetRow.holds Try.pinned (OpenSpec.ofChange Rows.binsMeetSpec):=
  OpenClaim.holds_of_wide 6 Try.f6 rfl rfl rfl rfl rfl rfl rfl ⟨rfl,rfl,rfl,rfl,rfl⟩ rfl rfl rfl rfl rfl (by kernel_rfl) Try.func6 (by kernel_rfl)
    (of_decide_eq_true (by kernel_rfl)) (by unfold Func.isWrapper; first | (rw [if_pos (by decide +kernel)]; kernel_rfl) | (rw [if_neg (by decide +kernel)]; exact ⟨rfl,rfl⟩))
    (fun os started H enc _=>lifted os started H enc)
theorem proved:Rows.BinsMeetSaid:=
  akI
end Go.Proofs.Ytahhdndhkgbcjaa.binsMeet
