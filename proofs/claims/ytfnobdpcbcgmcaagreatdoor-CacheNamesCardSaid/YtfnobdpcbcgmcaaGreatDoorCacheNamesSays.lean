/-
  The abstract machine's own run of the law CacheNames says true: its pieces joined. No conditions.
-/
import Derived.Test.YtfnobdpcbcgmcaaGreatDoorCacheNamesCut1
namespace Go.Proofs.YtfnobdpcbcgmcaaGreatDoor.cacheNames
theorem body : Tryz.f3.body = some root := by kernel_rfl
theorem there : Tryz.prog.funcs.toList[3]? = some Tryz.f3 := by kernel_rfl
theorem left1 : Abs.Left Tryz.prog 400 call spine (spine.drop 5) t1 A1 := Abs.Left.step Tryz.prog 400 (k := 0) (j := 5) (Abs.Left.start Tryz.prog 400 call spine) run1
theorem last : Abs.saysEnd Tryz.prog Tryz.f3 (Abs.runS Tryz.prog 400 call (spine.drop 5) t1 A1) = true := by kernel_rfl
theorem says : Abs.saysTrue (Abs.callV Tryz.prog (Abs.keyTold 13 (Abs.insertTold [(148, 2, 16)])) 400 400 3 [] Abs.St.empty) = true := Abs.says_of_left Tryz.prog (Abs.keyTold 13 (Abs.insertTold [(148, 2, 16)])) 400 399 rfl there body left1 last
end Go.Proofs.YtfnobdpcbcgmcaaGreatDoor.cacheNames
