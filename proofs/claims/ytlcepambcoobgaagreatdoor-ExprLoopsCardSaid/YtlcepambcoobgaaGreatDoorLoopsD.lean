/- Shown: whatever the list of values and the number, the law 'ExprLoops' answers true and leaves its arguments alone (part LoopsD). Conditions: as the row says: the listed tables of Go's library stand as they are laid. -/
import Derived.Test.YtlcepambcoobgaaGreatDoorCards
import Derived.Test.YtlcepambcoobgaaGreatDoorTie
import Derived.WalkKit
import Derived.ProofKit
import Derived.OpenShut
import Derived.Deep.DeepHandedRow
import Derived.Lib.LaidTab
import Derived.Lib.LaidU8T
import Derived.Test.YtlcepambcoobgaaGreatDoorLoops3
import Derived.Test.YtlcepambcoobgaaGreatDoorLoopsC
import Derived.Test.YtlcepambcoobgaaGreatDoorLoopsF
namespace Go.Proofs.YtlcepambcoobgaaGreatDoor.loops
open Go.ChangeShapes Go.WideShapes Go.ChangeAt Go.RowKit Go.Eng Go.Proofs
set_option maxRecDepth 100000
theorem said : Rows.ExprLoopsSaid :=
  OpenClaim.holds_of_cond 9 Tryz.f9 rfl rfl rfl rfl rfl rfl rfl ⟨rfl, rfl, rfl, rfl, rfl⟩ rfl rfl rfl rfl rfl (by as_aux_lemma => kernel_rfl) Tryz.func9 closed9
    (of_decide_eq_true (by as_aux_lemma => kernel_rfl)) (by unfold Func.isWrapper; first | (rw [if_pos (by decide +kernel)]; kernel_rfl) | (rw [if_neg (by decide +kernel)]; exact ⟨rfl, rfl⟩))
    (fun os started H enc _ F => by rw [OpenClaim.pre_eq_preRow]; exact lifted os started H enc F)
end Go.Proofs.YtlcepambcoobgaaGreatDoor.loops
