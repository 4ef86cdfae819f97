/-
  The law RenderNames holds: the call returns true (shown by the abstract machine's own run of the code, whose every answer is shown to be the model's). No conditions.
-/
import Derived.Test.YtcfijkmjblcenaaGreatDoorRows
import Derived.Test.YtcfijkmjblcenaaGreatDoorAbsCode
import Derived.Test.YtcfijkmjblcenaaGreatDoorInsert
import Derived.Test.YtcfijkmjblcenaaGreatDoorKey
import Derived.Test.YtcfijkmjblcenaaGreatDoorAbsGlob
import Derived.Test.YtcfijkmjblcenaaGreatDoorAbsRow
import Derived.WalkKit
import Derived.Test.YtcfijkmjblcenaaGreatDoorCards
import Derived.Test.YtcfijkmjblcenaaGreatDoorTie
import Derived.ProofKit
import Derived.LaidMore
import Derived.Stop.Joined
import Derived.SevenTiedAt
import Derived.OpenShut
import Derived.Test.YtcfijkmjblcenaaGreatDoorRenderNamesWalk
import Derived.Test.YtcfijkmjblcenaaGreatDoorRenderNamesDoor
namespace Go.Proofs.YtcfijkmjblcenaaGreatDoor.renderNames
open Go.ChangeShapes Go.WideShapes Go.ChangeAt Go.RowKit

set_option maxRecDepth 100000 in
theorem lifted (os : Os) (started : os.Started) (H : Type) (enc : TypeId × Value → H) :
    ReturnsInHanded {} Tryz.checked os 3 .any (fun w args => (Rows.renderNamesSpec.pre enc Tryz.prog Tryz.f3 [] false w args ∧ laidMetH Tryz.prog Rows.renderNamesRow.laid w) ∧ sizedMet enc Tryz.prog Tryz.f3 (OpenSpec.ofChange Rows.renderNamesSpec) false w args) (Rows.renderNamesSpec.post enc Tryz.prog Tryz.f3 false true false false) := by
  refine returnsInHanded_of_change_and (C := Tryz.checked) (X := fun w _ => laidMetH Tryz.prog Rows.renderNamesRow.laid w) (fun _ _ _ hh h => h.of_heap hh) own started (by kernel_rfl) Tryz.func3
    (ChangeSpec.witness_shaped (enc := enc) (C := Tryz.checked) (os := os) (X := fun w _ => laidMetH Tryz.prog Rows.renderNamesRow.laid w) false (World.doorLaid Tryz.prog 600 os) #[] 8 rfl (World.shaped_of_RefB (by kernel_rfl) (by kernel_rfl)) (by kernel_rfl) (by kernel_rfl) (by kernel_rfl) (door_met os _)) ?_
  intro W base args ds gs before _ hW _ _ hL _
  have hW' := hW
  obtain ⟨p, q, hA0, hV, rfl, _, _⟩ := hW
  have hA : DataW.TrodAll enc Tryz.prog W 0 (fun _ => true) true Tryz.f3.params.toList args.toList ds p := hA0
  rw [Tryz.params3] at hA
  obtain ⟨rfl, rfl, rfl⟩ := trodAll_none hA
  obtain ⟨rfl, rfl⟩ := trodVars_none hV
  clear hA0
  simp only [List.append_nil] at hW'
  refine (walk W hL).mono fun e W' ⟨he, hg⟩ => ?_
  subst he
  exact ⟨_, rfl, Abs.post_below (pa := []) (pv := []) hW' hg rfl (fun _ _ _ => (trodAll_cons_mk (shut_bool Tryz.underlying4 _) trodAll_mk0)) (fun _ _ => rfl) (fun _ _ => rfl) (ok_one (by kernel_rfl) rfl (okWide_bool_mk Tryz.underlying4 _))⟩
end Go.Proofs.YtcfijkmjblcenaaGreatDoor.renderNames
