/-
  The law BinsAll holds: the call returns true (shown by the machine K's own run of the code over open terms, whose every answer is shown to be the model's; and by plain data). No conditions.
-/
import Derived.Test.YtahhdndhkgbcjaaRows
import Derived.Test.YtahhdndhkgbcjaaKp
import Derived.WalkKit
import Derived.ProofKit
import Derived.OpenShut
namespace Go.Proofs.Ytahhdndhkgbcjaa.binsAll
open Go.ChangeShapes Go.WideShapes Go.ChangeAt Go.RowKit
theorem said:∀ ars,K.nc Try.prog [25,26] ars=true→K.CI ars→K.D9 Try.prog ars→K.lL Try.prog (K.cR Try.prog b.yw b.yx (fun _=>false)) 9 9 3 (K.normArgs Try.prog [25,26] ars)=some (.bool true):=fun ars h _ _=>by
  rw [K.R5 0 (w:=fun i=>ars.getD i .aq) h (fun i _=>by rw [Nat.zero_add]),b.Mi,b.Ny,b.Wy]
  rfl
theorem own:ownKnob Try.prog.godebug=none:=by kernel_rfl
theorem laid:laidOutB Try.prog=true:=by kernel_rfl
theorem reads:Try.f3.params.toList.all (fun t=>Try.prog.readableRec t && Nat.blt t Try.prog.types.size)=true:=by kernel_rfl
theorem types:Try.f3.params.toList.all (K.LI Try.prog)=true:=by kernel_rfl
theorem params:Try.f3.params.toList = [25,26]:=by kernel_rfl
theorem results:Try.f3.resultTypes = #[4]:=by kernel_rfl
set_option maxRecDepth 100000 in
theorem lifted (os:Os) (started:os.Started) (H:Type) (enc:TypeId×Value→H) :
    ReturnsInHanded {} Try.checked os 3 .any (Rows.binsAllSpec.pre6 enc Try.prog Try.f3 Rows.binsAllRow.domain false) (Rows.binsAllSpec.post enc Try.prog Try.f3 false true false false):=by
  refine returnsInHanded_of_change (C:=Try.checked) own started (by kernel_rfl) Try.func3
    (ChangeSpec.witness6 (enc:=enc) (C:=Try.checked) false ⟨#[],#[(av.pW Try.prog 25).getD default,(av.pW Try.prog 26).getD default],[]⟩ 8 (by kernel_rfl) (by kernel_rfl) (by kernel_rfl) (by kernel_rfl)) ?_
  intro W base args ds gs before qV hW _ _
  have hW':=hW
  obtain ⟨p,q,hA,hV,_,_,_⟩:=hW
  have hA:DataW.TrodAll enc Try.prog W 0 (fun _=>true) true Try.f3.params.toList args.toList ds p:=hA
  have walk:=K.afu (f:=3) b.funcs b.mixed b.Mg.pc (K.Hy b.funcs b.mixed K.T7.none b.Mh) types (by rw [params]; exact said) hA (fun j t v h1 h2=>qV j t v (by simpa using h1) (by simpa using h2))
  refine walk.mono fun e W' ⟨he,hg⟩=>?_
  subst he
  have SI:=K.Mj hA
  have SI:ds.length=2:=by rw [params] at SI; exact SI
  obtain ⟨d0,ds0,rfl⟩:=K.Uw SI
  have aeK:=Nat.succ.inj SI
  obtain ⟨d1,ds1,rfl⟩:=K.Uw aeK
  have Z3:=Nat.succ.inj aeK
  obtain rfl:=List.length_eq_zero_iff.1 Z3
  exact ⟨_,rfl,K.acz laid reads rfl rfl rfl rfl results Try.underlying4 hW' hg⟩
theorem ah5:Rows.binsAllRow.holds Try.pinned (OpenSpec.ofChange Rows.binsAllSpec):=
  OpenClaim.holds_of_wide 3 Try.f3 rfl rfl rfl rfl rfl rfl rfl ⟨rfl,rfl,rfl,rfl,rfl⟩ rfl rfl rfl rfl rfl (by kernel_rfl) Try.func3 (by kernel_rfl)
    (of_decide_eq_true (by kernel_rfl)) (by unfold Func.isWrapper; first | (rw [if_pos (by decide +kernel)]; kernel_rfl) | (rw [if_neg (by decide +kernel)]; exact ⟨rfl,rfl⟩))
    (fun os started H enc _=>lifted os started H enc)
theorem proved:Rows.BinsAllSaid:=
  ah5
end Go.Proofs.Ytahhdndhkgbcjaa.binsAll
