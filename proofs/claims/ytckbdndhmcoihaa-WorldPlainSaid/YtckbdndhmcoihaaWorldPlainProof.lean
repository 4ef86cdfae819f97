/-
  The law WorldPlain holds: the call returns true (shown by the machine K's own run of the code over open terms, whose every answer is shown to be the model's; and by plain data). No conditions.
-/
import Derived.Test.YtckbdndhmcoihaaRows
import Derived.Test.YtckbdndhmcoihaaKp
import Derived.WalkKit
import Derived.ProofKit
import Derived.OpenShut
namespace Go.Proofs.Ytckbdndhmcoihaa.worldPlain
open Go.ChangeShapes Go.WideShapes Go.ChangeAt Go.RowKit
theorem said:∀ ars,K.lV Try.prog [34] ars=true->K.DV Try.prog ars->K.Bo Try.prog ars->K.FT Try.prog (K.rG Try.prog b.Cb b.Cc (fun q=>Nat.beq q 3)) 9 9 4 (K.normArgs Try.prog [34] ars)=some (.bool true):=fun ars h hw hd=>by
 rw [K.aaC 0 (w:=fun i=>ars.getD i .bf) h (fun i _=>by rw [ba]),b.PU,b.QZ,sc.Va _ (sc.ain 0 rfl h hw hd)];rfl
theorem own:ownKnob Try.prog.godebug=none:=by kernel_rfl
theorem laid:laidOutB Try.prog=true:=by kernel_rfl
theorem reads:Try.f4.params.toList.all (fun t=>Try.prog.readableRec t&&Nat.blt t Try.prog.types.size)=true:=by kernel_rfl
theorem types:Try.f4.params.toList.all (K.Uq Try.prog)=true:=by kernel_rfl
theorem params:Try.f4.params.toList = [34]:=by kernel_rfl
theorem results:Try.f4.resultTypes = #[4]:=by kernel_rfl
set_option maxRecDepth 100000 in
theorem lifted (os:Os) (started:os.Started) (H:Type) (enc:TypeId×Value->H) :
  ReturnsInHanded {} Try.checked os 4 .any (Rows.worldPlainSpec.pre6 enc Try.prog Try.f4 Rows.worldPlainRow.domain false) (Rows.worldPlainSpec.post enc Try.prog Try.f4 false true false false):=by
 refine returnsInHanded_of_change_sized (C:=Try.checked) own started (by kernel_rfl) Try.func4
  (ChangeSpec.witness6 (enc:=enc) (C:=Try.checked) false ⟨#[],#[(aI.xR Try.prog 34).getD default],[]⟩ 8 (by kernel_rfl) (by kernel_rfl) (by kernel_rfl) (by kernel_rfl)) ?_
 intro W base args ds gs before AP hW _ dP _;have hW':=hW;obtain ⟨p,q,hA,hV,_,_,_⟩:=hW;have hA:DataW.TrodAll enc Try.prog W 0 (fun _=>true) true Try.f4.params.toList args.toList ds p:=hA;have walk:=K.amV (f:=4) b.funcs b.mixed b.PS.pc (K.Qs b.funcs b.mixed K.acs.none b.PT) types (by rw [params]; exact said) hA (K.afP dP) (fun j t v h1 h2=>AP j t v (by simpa using h1) (by simpa using h2));refine walk.mono fun e W' ⟨he,hg⟩=>?_;subst he;have abB:=K.Vb hA;have abB:ds.length=1:=by rw [params] at abB; exact abB
 obtain ⟨d0,ds0,rfl⟩:=K.akL abB;have aoI:=Nat.succ.inj abB;obtain rfl:=qG.1 aoI;exact ⟨_,rfl,K.akM laid reads rfl rfl rfl rfl results Try.underlying4 hW' hg⟩
theorem aqb:Rows.worldPlainRow.holds Try.pinned (OpenSpec.ofChange Rows.worldPlainSpec):=
 OpenClaim.holds_of_wide 4 Try.f4 rfl rfl rfl rfl rfl rfl rfl ⟨rfl,rfl,rfl,rfl,rfl⟩ rfl rfl rfl rfl rfl (by kernel_rfl) Try.func4 (by kernel_rfl)
  (PY (by kernel_rfl)) (by unfold Func.isWrapper; first | (rw [aE (by decide +kernel)]; kernel_rfl) | (rw [aa (by decide +kernel)]; exact ⟨rfl,rfl⟩))
  (fun os started H enc _=>lifted os started H enc)
theorem proved:Rows.WorldPlainSaid:=
 aqb
end Go.Proofs.Ytckbdndhmcoihaa.worldPlain
