/-
  The state of the abstract machine behind the first 3 parts of the law ImageNames.
-/
import Derived.Test.YtdkhenfacnjgcaaProg
import Derived.Test.YtdkhenfacnjgcaaAbsCut
import Derived.WalkKit
namespace Go.Proofs.Ytdkhenfacnjgcaa.imageNames
noncomputable def root : Code := match Try.prog.funcs.toList[3]? with
  | some fn => fn.body.getD .skip
  | none => .skip
noncomputable def spine : List Code := Abs.spineOf root
noncomputable def call : Abs.CallF := Abs.callV Try.prog Abs.noneTold 200 199
set_option maxRecDepth 100000 in
noncomputable def t1 : Abs.Tm := (.node (some (.bool false)) (.node none .leaf (.node none .leaf (.node none (.node (some (.bool true)) .leaf .leaf) .leaf))) (.node none .leaf (.node none .leaf (.node none (.node (some (.bool false)) .leaf .leaf) .leaf))))
set_option maxRecDepth 100000 in
noncomputable def A1 : Abs.St := ⟨.leaf, 0, 0, .leaf⟩
end Go.Proofs.Ytdkhenfacnjgcaa.imageNames
