/- Shown: whatever the list of values and the number, the law 'ExprLoops' answers true and leaves its arguments alone (part LoopsCard). Conditions: as the row says: the listed tables of Go's library stand as they are laid. -/
import Derived.Test.YtlcepambcoobgaaGreatDoorCards
import Derived.Test.YtlcepambcoobgaaGreatDoorTie
import Derived.WalkKit
import Derived.ProofKit
import Derived.OpenShut
import Derived.Deep.DeepHandedRow
import Derived.Lib.LaidTab
import Derived.Lib.LaidU8T
import Derived.Test.YtlcepambcoobgaaGreatDoorLoops3
import Derived.Test.YtlcepambcoobgaaGreatDoorLoopsD
import Derived.Test.YtlcepambcoobgaaGreatDoorLoopsE
namespace Go.Proofs.YtlcepambcoobgaaGreatDoor.loops
open Go.ChangeShapes Go.WideShapes Go.ChangeAt Go.RowKit Go.Eng Go.Proofs
set_option maxRecDepth 100000
/-- The card. -/
theorem card : Rows.ExprLoopsCardSaid :=
  Claim7.holds_tied_plain_at .later [] _ _ _ _ said (fun _ h => by cases h) (by as_aux_lemma => kernel_rfl) (fun _ h => by cases h) exprLoops_row_tie rfl ⟨rfl, rfl⟩ (by as_aux_lemma => kernel_rfl) rfl plain (by as_aux_lemma => kernel_rfl)
end Go.Proofs.YtlcepambcoobgaaGreatDoor.loops
