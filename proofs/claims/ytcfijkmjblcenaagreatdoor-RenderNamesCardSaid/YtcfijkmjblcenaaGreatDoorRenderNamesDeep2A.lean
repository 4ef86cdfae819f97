/-
  Pieces of the abstract machine's run of the law RenderNames, around a loop inside a call.
-/
import Derived.Test.YtcfijkmjblcenaaGreatDoorRenderNamesDeep2S1
namespace Go.Proofs.YtcfijkmjblcenaaGreatDoor.renderNames
theorem pre2_0 : Abs.opsV Tryz.prog call ops2_0.toList (ops2_0.toList.take 0) t1 A1 = some (dt2_1, dA2_1) := by kernel_rfl
theorem post2_0 : Abs.opsV Tryz.prog call ops2_0.toList (ops2_0.toList.drop 1) (Abs.putT dt2_1 op2_0.dst val2_0) dA2_14 = some (t2, A2) := by kernel_rfl
theorem el2_0 : (spine.drop 1).take 1 = [.region (regId (spine.getD 1 .skip)) ops2_0 false] := by kernel_rfl
theorem spl2_0 : ops2_0.toList = ops2_0.toList.take 0 ++ ([op2_0] ++ ops2_0.toList.drop 1) := by kernel_rfl
theorem there2_0 : Tryz.prog.funcs.toList[5]? = some Tryz.f5 := by kernel_rfl
theorem bod2_0 : Tryz.f5.body = some root2_1 := by kernel_rfl
theorem cmp2_0 : Abs.compile Tryz.prog op2_0.op = .call (isCall (Abs.compile Tryz.prog op2_0.op)) (callArgs (Abs.compile Tryz.prog op2_0.op)) := by kernel_rfl
theorem cal2_0 : Abs.calleeVal ((callArgs (Abs.compile Tryz.prog op2_0.op)).map (Abs.evA dt2_1)) (Abs.evA dt2_1 (isCall (Abs.compile Tryz.prog op2_0.op))) = some (5, args2_0) := by kernel_rfl
theorem grd2_0 : op2_0.guard = none := by kernel_rfl
theorem in2_0 : Abs.runS Tryz.prog 400 call2_1 ((spine2_1.drop 0).take 3) (Abs.argTmps args2_0 0 .leaf) dA2_1.enter = some (.normal, dt2_2, dA2_2) := by kernel_rfl
theorem fin2_0 : Abs.endOf Tryz.prog Tryz.f5 dA2_1 (Abs.runS Tryz.prog 400 call2_1 (spine2_1.drop 4) dt2_13 dA2_13) = some (val2_0, dA2_14) := by kernel_rfl
theorem pre2_1 : Abs.opsV Tryz.prog call2_1 ops2_1.toList (ops2_1.toList.take 1) dt2_2 dA2_2 = some (dt2_3, dA2_3) := by kernel_rfl
theorem post2_1 : Abs.opsV Tryz.prog call2_1 ops2_1.toList (ops2_1.toList.drop 2) (Abs.putT dt2_3 op2_1.dst val2_1) dA2_12 = some (dt2_13, dA2_13) := by kernel_rfl
theorem el2_1 : (spine2_1.drop 3).take 1 = [.region (regId (spine2_1.getD 3 .skip)) ops2_1 false] := by kernel_rfl
theorem spl2_1 : ops2_1.toList = ops2_1.toList.take 1 ++ ([op2_1] ++ ops2_1.toList.drop 2) := by kernel_rfl
theorem there2_1 : Tryz.prog.funcs.toList[13]? = some Tryz.f13 := by kernel_rfl
theorem bod2_1 : Tryz.f13.body = some root2_2 := by kernel_rfl
theorem cmp2_1 : Abs.compile Tryz.prog op2_1.op = .call (isCall (Abs.compile Tryz.prog op2_1.op)) (callArgs (Abs.compile Tryz.prog op2_1.op)) := by kernel_rfl
theorem cal2_1 : Abs.calleeVal ((callArgs (Abs.compile Tryz.prog op2_1.op)).map (Abs.evA dt2_3)) (Abs.evA dt2_3 (isCall (Abs.compile Tryz.prog op2_1.op))) = some (13, args2_1) := by kernel_rfl
theorem grd2_1 : op2_1.guard = none := by kernel_rfl
theorem in2_1 : Abs.runS Tryz.prog 400 call2_2 ((spine2_2.drop 0).take 6) (Abs.argTmps args2_1 0 .leaf) dA2_3.enter = some (.normal, dt2_4, dA2_4) := by kernel_rfl
theorem fin2_1 : Abs.endOf Tryz.prog Tryz.f13 dA2_3 (Abs.runS Tryz.prog 400 call2_2 (spine2_2.drop 7) dt2_11 dA2_11) = some (val2_1, dA2_12) := by kernel_rfl
theorem out2 : Abs.codeV Tryz.prog call2_2 400 body2 dt2_10 dA2_10 = some (.exit 0, dt2_11, dA2_11) := by kernel_rfl
theorem bl2 : (spine2_2.drop 6).take 1 = [.block 0 (.loop body2)] := by kernel_rfl
end Go.Proofs.YtcfijkmjblcenaaGreatDoor.renderNames
