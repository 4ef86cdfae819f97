/-
  A piece of the abstract machine's run of the law RasterNames, inside a call.
-/
import Derived.Test.YtcfijkmjblcenaaGreatRasterNamesDeep4S7
namespace Go.Proofs.YtcfijkmjblcenaaGreat.rasterNames
theorem pre4 : Abs.opsV Tryz.prog call ops4.toList (ops4.toList.take 3) t3 A3 = some (dt4_0, dA4_0) := by kernel_rfl
theorem in4 : Abs.runS Tryz.prog 400 call4 ((spine4.drop 0).take 7) (Abs.argTmps args4 0 .leaf) dA4_0.enter = some (.normal, dt4_1, dA4_1) := by kernel_rfl
theorem out4 : Abs.codeV Tryz.prog call4 400 body4 dt4_5 dA4_5 = some (.exit 0, dt4_6, dA4_6) := by kernel_rfl
theorem fin4 : Abs.endOf Tryz.prog Tryz.f11 dA4_0 (Abs.runS Tryz.prog 400 call4 (spine4.drop 8) dt4_6 dA4_6) = some (val4, stB4) := by kernel_rfl
theorem post4 : Abs.opsV Tryz.prog call ops4.toList (ops4.toList.drop 4) (Abs.putT dt4_0 op4.dst val4) stB4 = some (t4, A4) := by kernel_rfl
theorem el4 : (spine.drop 5).take 1 = [.region 5 ops4 false] := by kernel_rfl
theorem bl4 : (spine4.drop 7).take 1 = [.block 0 (.loop body4)] := by kernel_rfl
theorem spl4 : ops4.toList = ops4.toList.take 3 ++ ([op4] ++ ops4.toList.drop 4) := by kernel_rfl
theorem there4 : Tryz.prog.funcs.toList[11]? = some Tryz.f11 := by kernel_rfl
theorem bod4 : Tryz.f11.body = some root4 := by kernel_rfl
def isCall : Abs.Ins → Operand
  | .call f _ => f
  | _ => .const .nilIface
def callArgs : Abs.Ins → List Operand
  | .call _ xs => xs
  | _ => []
theorem cmp4 : Abs.compile Tryz.prog op4.op = .call (isCall (Abs.compile Tryz.prog op4.op)) (callArgs (Abs.compile Tryz.prog op4.op)) := by kernel_rfl
theorem cal4 : Abs.calleeVal ((callArgs (Abs.compile Tryz.prog op4.op)).map (Abs.evA dt4_0)) (Abs.evA dt4_0 (isCall (Abs.compile Tryz.prog op4.op))) = some (11, args4) := by kernel_rfl
theorem grd4 : op4.guard = none := by kernel_rfl
end Go.Proofs.YtcfijkmjblcenaaGreat.rasterNames
