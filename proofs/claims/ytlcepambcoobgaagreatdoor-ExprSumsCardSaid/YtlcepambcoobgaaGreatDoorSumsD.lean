/- Shown: whatever the three numbers, the law 'ExprSums' answers true and leaves its arguments alone (part SumsD). Conditions: as the row says: the listed tables of Go's library stand as they are laid. -/
import Derived.Test.YtlcepambcoobgaaGreatDoorCards
import Derived.Test.YtlcepambcoobgaaGreatDoorTie
import Derived.WalkKit
import Derived.ProofKit
import Derived.OpenShut
import Derived.Deep.DeepHandedRow
import Derived.Lib.LaidTab
import Derived.Lib.LaidU8T
import Derived.Test.YtlcepambcoobgaaGreatDoorPart27
import Derived.Test.YtlcepambcoobgaaGreatDoorSumsC
import Derived.Test.YtlcepambcoobgaaGreatDoorSumsF
namespace Go.Proofs.YtlcepambcoobgaaGreatDoor.sums
open Go.ChangeShapes Go.WideShapes Go.ChangeAt Go.RowKit Go.Eng Go.Proofs
set_option maxRecDepth 100000
theorem said : Rows.ExprSumsSaid :=
  OpenClaim.holds_of_cond 6 Tryz.f6 rfl rfl rfl rfl rfl rfl rfl ⟨rfl, rfl, rfl, rfl, rfl⟩ rfl rfl rfl rfl rfl (by as_aux_lemma => kernel_rfl) Tryz.func6 closed6
    (of_decide_eq_true (by as_aux_lemma => kernel_rfl)) (by unfold Func.isWrapper; first | (rw [if_pos (by decide +kernel)]; kernel_rfl) | (rw [if_neg (by decide +kernel)]; exact ⟨rfl, rfl⟩))
    (fun os started H enc _ F => by rw [OpenClaim.pre_eq_preRow]; exact lifted os started H enc F)
end Go.Proofs.YtlcepambcoobgaaGreatDoor.sums
