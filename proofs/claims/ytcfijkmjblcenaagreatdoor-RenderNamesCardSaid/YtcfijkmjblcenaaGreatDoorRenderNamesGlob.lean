/-
  The package-level variables that the law RenderNames looks at, as its row lists them.
-/
import Derived.Test.YtcfijkmjblcenaaGreatDoorAbsCore
namespace Go.Proofs.YtcfijkmjblcenaaGreatDoor.renderNames
noncomputable def gc0 : List Value := [.int .i64 (.negSucc 4095), .int .i64 (.negSucc 4095), .int .i64 (.negSucc 4095), .int .i64 (.ofNat 4096), .int .i64 (.ofNat 4096), .int .i64 (.ofNat 4096)]
noncomputable def gr0 : Abs.AObj := .row gc0 6 false none
noncomputable def globs : List (Nat × List Value × Nat) := [(0, gc0, 6)]
end Go.Proofs.YtcfijkmjblcenaaGreatDoor.renderNames
