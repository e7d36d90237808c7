/- Shown: whatever the numbers, the law 'ExprDates' answers true and leaves its arguments alone (part DatesF: the closed facts of the row). Conditions: as the row says: the listed tables of Go's library stand as they are laid. -/
import Derived.Test.YtlcepambcoobgaaGreatDoorTie
import Derived.Deep.DeepHandedRow
namespace Go.Proofs.YtlcepambcoobgaaGreatDoor.dates
open Go.ChangeShapes Go.WideShapes Go.ChangeAt
set_option maxRecDepth 100000
set_option maxHeartbeats 0 in
theorem closed8 : joinedFacts Tryz.pinned.checked.prog 8 Tryz.f8 (OpenSpec.ofChange Rows.exprDatesSpec).bare Rows.exprDatesRow = true := by
  unfold joinedFacts
  simp only [Bool.and_eq_true]
  repeat' apply And.intro
  all_goals (as_aux_lemma => kernel_rfl)
end Go.Proofs.YtlcepambcoobgaaGreatDoor.dates
