/-
  The abstract machine's run of the part 5 of the law RasterNames: the pieces of its call, joined.
-/
import Derived.Test.YtcfijkmjblcenaaGreatRasterNamesDeep4A
import Derived.Test.YtcfijkmjblcenaaGreatRasterNamesDeep4R1
import Derived.Test.YtcfijkmjblcenaaGreatRasterNamesDeep4R2
import Derived.Test.YtcfijkmjblcenaaGreatRasterNamesDeep4R3
import Derived.Test.YtcfijkmjblcenaaGreatRasterNamesDeep4R4
namespace Go.Proofs.YtcfijkmjblcenaaGreat.rasterNames
theorem loop4 : Abs.loopV (Abs.codeV Tryz.prog call4 400 body4) 400 dt4_1 dA4_1 = some (.exit 0, dt4_6, dA4_6) := Abs.loop_next Tryz.prog 400 call4 (n := 399) round4_1 (Abs.loop_next Tryz.prog 400 call4 (n := 398) round4_2 (Abs.loop_next Tryz.prog 400 call4 (n := 397) round4_3 (Abs.loop_next Tryz.prog 400 call4 (n := 396) round4_4 (Abs.loop_out Tryz.prog 400 call4 (n := 395) out4))))
theorem blk4 : Abs.runS Tryz.prog 400 call4 ((spine4.drop 7).take 1) dt4_1 dA4_1 = some (.normal, dt4_6, dA4_6) := by
  rw [bl4, Abs.runS_one]
  exact Abs.block_of_loop Tryz.prog 400 call4 loop4
theorem whole4 : call 11 args4 dA4_0 = some (val4, stB4) :=
  Abs.call_of_left Tryz.prog Abs.noneTold 400 (n := 398) rfl rfl there4 bod4 (Abs.LeftG.step Tryz.prog 400 (k := 7) (j := 1) (Abs.LeftG.step Tryz.prog 400 (k := 0) (j := 7) (Abs.LeftG.start Tryz.prog 400 call4 spine4 _ _) in4) blk4) fin4
theorem run4 : Abs.runS Tryz.prog 400 call ((spine.drop 5).take 1) t3 A3 = some (.normal, t4, A4) := by
  rw [el4, Abs.runS_one]
  refine Abs.region_of_ops Tryz.prog 400 call ?_
  have h1 := Abs.opsV_append Tryz.prog call ops4.toList _ ([op4] ++ ops4.toList.drop 4) _ _ _ _ pre4
  have h2 := Abs.opsV_call Tryz.prog call ops4.toList grd4 cmp4 cal4 whole4
  have h3 := Abs.opsV_append Tryz.prog call ops4.toList _ (ops4.toList.drop 4) _ _ _ _ h2
  rw [← spl4] at h1
  rw [h1, h3]
  exact post4
end Go.Proofs.YtcfijkmjblcenaaGreat.rasterNames
