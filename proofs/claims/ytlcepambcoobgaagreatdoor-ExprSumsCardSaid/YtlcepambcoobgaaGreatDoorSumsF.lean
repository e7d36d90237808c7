/- Shown: whatever the three numbers, the law 'ExprSums' answers true and leaves its arguments alone (part SumsF: the closed facts of the row). Conditions: as the row says: the listed tables of Go's library stand as they are laid. -/
import Derived.Test.YtlcepambcoobgaaGreatDoorTie
import Derived.Deep.DeepHandedRow
namespace Go.Proofs.YtlcepambcoobgaaGreatDoor.sums
open Go.ChangeShapes Go.WideShapes Go.ChangeAt
set_option maxRecDepth 100000
set_option maxHeartbeats 0 in
theorem closed6 : joinedFacts Tryz.pinned.checked.prog 6 Tryz.f6 (OpenSpec.ofChange Rows.exprSumsSpec).bare Rows.exprSumsRow = true := by
  unfold joinedFacts
  simp only [Bool.and_eq_true]
  repeat' apply And.intro
  all_goals (as_aux_lemma => kernel_rfl)
end Go.Proofs.YtlcepambcoobgaaGreatDoor.sums
