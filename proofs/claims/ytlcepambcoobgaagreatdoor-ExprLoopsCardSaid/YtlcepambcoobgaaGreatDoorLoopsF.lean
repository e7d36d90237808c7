/- Shown: whatever the list of values and the number, the law 'ExprLoops' answers true and leaves its arguments alone (part LoopsF: the closed facts of the row). Conditions: as the row says: the listed tables of Go's library stand as they are laid. -/
import Derived.Test.YtlcepambcoobgaaGreatDoorTie
import Derived.Deep.DeepHandedRow
namespace Go.Proofs.YtlcepambcoobgaaGreatDoor.loops
open Go.ChangeShapes Go.WideShapes Go.ChangeAt
set_option maxRecDepth 100000
set_option maxHeartbeats 0 in
theorem closed9 : joinedFacts Tryz.pinned.checked.prog 9 Tryz.f9 (OpenSpec.ofChange Rows.exprLoopsSpec).bare Rows.exprLoopsRow = true := by
  unfold joinedFacts
  simp only [Bool.and_eq_true]
  repeat' apply And.intro
  all_goals (as_aux_lemma => kernel_rfl)
end Go.Proofs.YtlcepambcoobgaaGreatDoor.loops
