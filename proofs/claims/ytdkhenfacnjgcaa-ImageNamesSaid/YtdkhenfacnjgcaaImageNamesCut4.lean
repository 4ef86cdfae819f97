/-
  The abstract machine's run of the part 11 of the law ImageNames: the pieces of its call, joined.
-/
import Derived.Test.YtdkhenfacnjgcaaImageNamesDeep4A
import Derived.Test.YtdkhenfacnjgcaaImageNamesDeep4R1
import Derived.Test.YtdkhenfacnjgcaaImageNamesDeep4R2
import Derived.Test.YtdkhenfacnjgcaaImageNamesDeep4R3
import Derived.Test.YtdkhenfacnjgcaaImageNamesDeep4R4
namespace Go.Proofs.Ytdkhenfacnjgcaa.imageNames
theorem loop4 : Abs.loopV (Abs.codeV Try.prog call4 200 body4) 200 dt4_1 dA4_1 = some (.exit 0, dt4_6, dA4_6) := Abs.loop_next Try.prog 200 call4 (n := 199) round4_1 (Abs.loop_next Try.prog 200 call4 (n := 198) round4_2 (Abs.loop_next Try.prog 200 call4 (n := 197) round4_3 (Abs.loop_next Try.prog 200 call4 (n := 196) round4_4 (Abs.loop_out Try.prog 200 call4 (n := 195) out4))))
theorem blk4 : Abs.runS Try.prog 200 call4 ((spine4.drop 7).take 1) dt4_1 dA4_1 = some (.normal, dt4_6, dA4_6) := by
  rw [bl4, Abs.runS_one]
  exact Abs.block_of_loop Try.prog 200 call4 loop4
theorem whole4 : call 12 args4 dA4_0 = some (val4, stB4) :=
  Abs.call_of_left Try.prog Abs.noneTold 200 (n := 198) rfl there4 bod4 (Abs.LeftG.step Try.prog 200 (k := 7) (j := 1) (Abs.LeftG.step Try.prog 200 (k := 0) (j := 7) (Abs.LeftG.start Try.prog 200 call4 spine4 _ _) in4) blk4) fin4
theorem run4 : Abs.runS Try.prog 200 call ((spine.drop 11).take 1) t3 A3 = some (.normal, t4, A4) := by
  rw [el4, Abs.runS_one]
  refine Abs.region_of_ops Try.prog 200 call ?_
  have h1 := Abs.opsV_append Try.prog call ops4.toList _ ([op4] ++ ops4.toList.drop 4) _ _ _ _ pre4
  have h2 := Abs.opsV_call Try.prog call ops4.toList grd4 cmp4 cal4 whole4
  have h3 := Abs.opsV_append Try.prog call ops4.toList _ (ops4.toList.drop 4) _ _ _ _ h2
  rw [← spl4] at h1
  rw [h1, h3]
  exact post4
end Go.Proofs.Ytdkhenfacnjgcaa.imageNames
