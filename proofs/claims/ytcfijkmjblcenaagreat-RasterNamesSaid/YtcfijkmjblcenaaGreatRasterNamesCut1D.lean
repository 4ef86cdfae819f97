/-
  The state of the abstract machine behind the first 2 parts of the law RasterNames.
-/
import Derived.Test.YtcfijkmjblcenaaGreatProg
import Derived.Test.YtcfijkmjblcenaaGreatAbsCut
import Derived.WalkKit
namespace Go.Proofs.YtcfijkmjblcenaaGreat.rasterNames
noncomputable def root : Code := match Tryz.prog.funcs.toList[3]? with
  | some fn => fn.body.getD .skip
  | none => .skip
noncomputable def spine : List Code := Abs.spineOf root
noncomputable def call : Abs.CallF := Abs.callV Tryz.prog Abs.noneTold 400 399
set_option maxRecDepth 100000 in
noncomputable def t1 : Abs.Tm := (.node (some (.bool false)) (.node none .leaf (.node none .leaf (.node none (.node (some (.bool true)) .leaf .leaf) .leaf))) (.node none .leaf (.node none .leaf (.node none (.node (some (.bool false)) .leaf .leaf) .leaf))))
set_option maxRecDepth 100000 in
noncomputable def A1 : Abs.St := ⟨.leaf, 0, 0, .leaf⟩
end Go.Proofs.YtcfijkmjblcenaaGreat.rasterNames
