/-
  The law BinsTell holds: the call returns true (shown by the machine K's own run of the code over open terms, whose every answer is shown to be the model's; and by plain data). No conditions.
-/
import Derived.Test.YtchbpckkmgcgkaaGreatRows
import Derived.Test.YtchbpckkmgcgkaaGreatHp
import Derived.Test.YtchbpckkmgcgkaaGreatKp
import Derived.WalkKit
import Derived.ProofKit
import Derived.OpenShut
namespace Go.Proofs.YtchbpckkmgcgkaaGreat.binsTell
open Go.ChangeShapes Go.WideShapes Go.ChangeAt Go.RowKit
theorem atW (v:K.KV):((K.dp b.eJ) (K.tN Tryz.prog (K.eh Tryz.prog K.gR) 75 v)).n=K.lenOf (v.cells.getD 0 .bD):=by kernel_rfl
theorem aq3:Tryz.prog.bytesOf 93=16:=by kernel_rfl
theorem said:∀ ars,K.j9 Tryz.prog [3,3,25,31,66,75,77] ars=true->K.Ec ars->K.AY Tryz.prog ars->K.lenOf ((ars.getD 5 .bD).cells.getD 0 .bD) * Tryz.prog.bytesOf 93<=reachBytes->K.GC Tryz.prog (K.iZ Tryz.prog b.Fo b.Fp (fun _=>false)) 9 9 5 (K.normArgs Tryz.prog [3,3,25,31,66,75,77] ars)=some (.bool true):=fun ars h hw hd hl=>by
 rw [K.afB 0 (w:=fun i=>ars.getD i .bD) h (fun i _=>by rw [bd]),b.Xy,b.ZP,b.adC _ _ _ _ _ _ _ (b.ao1 2 rfl h hw hd) (by rw [aq3] at hl; rw [atW]; exact hl)];rfl
theorem own:ownKnob Tryz.prog.godebug=none:=by kernel_rfl
theorem laid:laidOutB Tryz.prog=true:=by kernel_rfl
theorem reads:Tryz.f5.params.toList.all (fun t=>Tryz.prog.readableRec t&&Nat.blt t Tryz.prog.types.size)=true:=by kernel_rfl
theorem types:Tryz.f5.params.toList.all (K.YN Tryz.prog)=true:=by kernel_rfl
theorem params:Tryz.f5.params.toList = [3,3,25,31,66,75,77]:=by kernel_rfl
theorem results:Tryz.f5.resultTypes = #[4]:=by kernel_rfl
set_option maxRecDepth 100000 in
theorem lifted (os:Os) (started:os.Started) (H:Type) (enc:TypeId×Value->H) :
  ReturnsInHanded {} Tryz.checked os 5 .any (Rows.binsTellSpec.pre6 enc Tryz.prog Tryz.f5 Rows.binsTellRow.domain false) (Rows.binsTellSpec.post enc Tryz.prog Tryz.f5 false true false false):=by
 refine returnsInHanded_of_change_sized (C:=Tryz.checked) own started (by kernel_rfl) Tryz.func5
  (ChangeSpec.witness6 (enc:=enc) (C:=Tryz.checked) false ⟨#[],#[(aB.qO Tryz.prog 3).getD default,(aB.qO Tryz.prog 3).getD default,(aB.qO Tryz.prog 25).getD default,(aB.qO Tryz.prog 31).getD default,(aB.qO Tryz.prog 66).getD default,(aB.qO Tryz.prog 75).getD default,(aB.qO Tryz.prog 77).getD default],[]⟩ 8 (by kernel_rfl) (by kernel_rfl) (by kernel_rfl) (by kernel_rfl)) ?_
 intro W base args ds gs before Ap hW _ fC _;have hW':=hW;obtain ⟨p,q,hA,hV,_,_,_⟩:=hW;have hA:DataW.TrodAll enc Tryz.prog W 0 (fun _=>true) true Tryz.f5.params.toList args.toList ds p:=hA;have walk:=K.aqe (f:=5) (S:=fun ars=>K.lenOf ((ars.getD 5 .bD).cells.getD 0 .bD) * Tryz.prog.bytesOf 93<=reachBytes) b.funcs b.mixed b.Xw.pc (K.TX b.funcs b.mixed K.ahG.none b.Xx) types (by rw [params]; exact said) (fun ars E ρ h1 h2=>K.anc (t:=75) hA fC (by rw [params]; rfl) Tryz.underlying75 (by kernel_rfl) h1 h2) hA (fun j t v h1 h2=>Ap j t v (by simpa using h1) (by simpa using h2));refine walk.mono fun e W' ⟨he,hg⟩=>?_;subst he;have agD:=K.ZY hA;have agD:ds.length=7:=by rw [params] at agD; exact agD
 obtain ⟨d0,ds0,rfl⟩:=K.Fx agD;have aq4:=Nat.succ.inj agD;obtain ⟨d1,ds1,rfl⟩:=K.Fx aq4;have aq5:=Nat.succ.inj aq4;obtain ⟨d2,ds2,rfl⟩:=K.Fx aq5;have aq6:=Nat.succ.inj aq5;obtain ⟨d3,ds3,rfl⟩:=K.Fx aq6;have aq7:=Nat.succ.inj aq6;obtain ⟨d4,ds4,rfl⟩:=K.Fx aq7;have aq8:=Nat.succ.inj aq7;obtain ⟨d5,ds5,rfl⟩:=K.Fx aq8;have aq9:=Nat.succ.inj aq8;obtain ⟨d6,ds6,rfl⟩:=K.Fx aq9;have as4:=Nat.succ.inj aq9;obtain rfl:=lL.1 as4;exact ⟨_,rfl,K.ao9 laid reads rfl rfl rfl rfl results Tryz.underlying4 hW' hg⟩
theorem atX:Rows.binsTellRow.holds Tryz.pinned (OpenSpec.ofChange Rows.binsTellSpec):=
 OpenClaim.holds_of_wide 5 Tryz.f5 rfl rfl rfl rfl rfl rfl rfl ⟨rfl,rfl,rfl,rfl,rfl⟩ rfl rfl rfl rfl rfl (by kernel_rfl) Tryz.func5 (by kernel_rfl)
  (pT (by kernel_rfl)) (by unfold Func.isWrapper; first | (rw [aR (by decide +kernel)]; kernel_rfl) | (rw [ay (by decide +kernel)]; exact ⟨rfl,rfl⟩))
  (fun os started H enc _=>lifted os started H enc)
theorem proved:Rows.BinsTellSaid:=
 atX
end Go.Proofs.YtchbpckkmgcgkaaGreat.binsTell
