/-
  Pieces of the abstract machine's run of the law RenderNames, around a loop inside a call.
-/
import Derived.Test.YtcfijkmjblcenaaGreatDoorRenderNamesDeep4S1
namespace Go.Proofs.YtcfijkmjblcenaaGreatDoor.renderNames
theorem pre4_0 : Abs.opsV Tryz.prog call ops4_0.toList (ops4_0.toList.take 3) t3 A3 = some (dt4_1, dA4_1) := by kernel_rfl
theorem post4_0 : Abs.opsV Tryz.prog call ops4_0.toList (ops4_0.toList.drop 4) (Abs.putT dt4_1 op4_0.dst val4_0) dA4_8 = some (t4, A4) := by kernel_rfl
theorem el4_0 : (spine.drop 3).take 1 = [.region (regId (spine.getD 3 .skip)) ops4_0 false] := by kernel_rfl
theorem spl4_0 : ops4_0.toList = ops4_0.toList.take 3 ++ ([op4_0] ++ ops4_0.toList.drop 4) := by kernel_rfl
theorem there4_0 : Tryz.prog.funcs.toList[6]? = some Tryz.f6 := by kernel_rfl
theorem bod4_0 : Tryz.f6.body = some root4_1 := by kernel_rfl
theorem cmp4_0 : Abs.compile Tryz.prog op4_0.op = .call (isCall (Abs.compile Tryz.prog op4_0.op)) (callArgs (Abs.compile Tryz.prog op4_0.op)) := by kernel_rfl
theorem cal4_0 : Abs.calleeVal ((callArgs (Abs.compile Tryz.prog op4_0.op)).map (Abs.evA dt4_1)) (Abs.evA dt4_1 (isCall (Abs.compile Tryz.prog op4_0.op))) = some (6, args4_0) := by kernel_rfl
theorem grd4_0 : op4_0.guard = none := by kernel_rfl
theorem in4_0 : Abs.runS Tryz.prog 400 call4_1 ((spine4_1.drop 0).take 7) (Abs.argTmps args4_0 0 .leaf) dA4_1.enter = some (.normal, dt4_2, dA4_2) := by kernel_rfl
theorem fin4_0 : Abs.endOf Tryz.prog Tryz.f6 dA4_1 (Abs.runS Tryz.prog 400 call4_1 (spine4_1.drop 8) dt4_7 dA4_7) = some (val4_0, dA4_8) := by kernel_rfl
theorem out4 : Abs.codeV Tryz.prog call4_1 400 body4 dt4_6 dA4_6 = some (.exit 0, dt4_7, dA4_7) := by kernel_rfl
theorem bl4 : (spine4_1.drop 7).take 1 = [.block 0 (.loop body4)] := by kernel_rfl
end Go.Proofs.YtcfijkmjblcenaaGreatDoor.renderNames
