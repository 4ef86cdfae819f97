/-
  Pieces of the abstract machine's run of the law RenderNames, around a loop inside a call.
-/
import Derived.Test.YtcfijkmjblcenaaGreatDoorRenderNamesDeep6S1
namespace Go.Proofs.YtcfijkmjblcenaaGreatDoor.renderNames
theorem pre6_0 : Abs.opsV Tryz.prog call ops6_0.toList (ops6_0.toList.take 1) t5 A5 = some (dt6_1, dA6_1) := by kernel_rfl
theorem post6_0 : Abs.opsV Tryz.prog call ops6_0.toList (ops6_0.toList.drop 2) (Abs.putT dt6_1 op6_0.dst val6_0) dA6_10 = some (t6, A6) := by kernel_rfl
theorem el6_0 : (spine.drop 6).take 1 = [.region (regId (spine.getD 6 .skip)) ops6_0 false] := by kernel_rfl
theorem spl6_0 : ops6_0.toList = ops6_0.toList.take 1 ++ ([op6_0] ++ ops6_0.toList.drop 2) := by kernel_rfl
theorem there6_0 : Tryz.prog.funcs.toList[13]? = some Tryz.f13 := by kernel_rfl
theorem bod6_0 : Tryz.f13.body = some root6_1 := by kernel_rfl
theorem cmp6_0 : Abs.compile Tryz.prog op6_0.op = .call (isCall (Abs.compile Tryz.prog op6_0.op)) (callArgs (Abs.compile Tryz.prog op6_0.op)) := by kernel_rfl
theorem cal6_0 : Abs.calleeVal ((callArgs (Abs.compile Tryz.prog op6_0.op)).map (Abs.evA dt6_1)) (Abs.evA dt6_1 (isCall (Abs.compile Tryz.prog op6_0.op))) = some (13, args6_0) := by kernel_rfl
theorem grd6_0 : op6_0.guard = none := by kernel_rfl
theorem in6_0 : Abs.runS Tryz.prog 400 call6_1 ((spine6_1.drop 0).take 6) (Abs.argTmps args6_0 0 .leaf) dA6_1.enter = some (.normal, dt6_2, dA6_2) := by kernel_rfl
theorem fin6_0 : Abs.endOf Tryz.prog Tryz.f13 dA6_1 (Abs.runS Tryz.prog 400 call6_1 (spine6_1.drop 7) dt6_9 dA6_9) = some (val6_0, dA6_10) := by kernel_rfl
theorem out6 : Abs.codeV Tryz.prog call6_1 400 body6 dt6_8 dA6_8 = some (.exit 0, dt6_9, dA6_9) := by kernel_rfl
theorem bl6 : (spine6_1.drop 6).take 1 = [.block 0 (.loop body6)] := by kernel_rfl
end Go.Proofs.YtcfijkmjblcenaaGreatDoor.renderNames
