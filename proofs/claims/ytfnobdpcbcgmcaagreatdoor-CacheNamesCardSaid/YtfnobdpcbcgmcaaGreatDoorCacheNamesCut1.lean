/-
  The abstract machine's run of the parts 0 to 4 of the law CacheNames.
-/
import Derived.Test.YtfnobdpcbcgmcaaGreatDoorCacheNamesCut1D
namespace Go.Proofs.YtfnobdpcbcgmcaaGreatDoor.cacheNames
theorem run1 : Abs.runS Tryz.prog 400 call ((spine.drop 0).take 5) Abs.Trie.leaf Abs.St.empty.enter = some (.normal, t1, A1) := by kernel_rfl
end Go.Proofs.YtfnobdpcbcgmcaaGreatDoor.cacheNames
