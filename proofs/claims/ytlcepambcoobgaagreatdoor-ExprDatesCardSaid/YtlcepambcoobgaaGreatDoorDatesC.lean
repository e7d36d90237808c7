/- Shown: whatever the numbers, the law 'ExprDates' answers true and leaves its arguments alone (part DatesC). Conditions: as the row says: the listed tables of Go's library stand as they are laid. -/
import Derived.Test.YtlcepambcoobgaaGreatDoorCards
import Derived.Test.YtlcepambcoobgaaGreatDoorTie
import Derived.WalkKit
import Derived.ProofKit
import Derived.OpenShut
import Derived.Deep.DeepHandedRow
import Derived.Lib.LaidTab
import Derived.Lib.LaidU8T
import Derived.Test.YtlcepambcoobgaaGreatDoorDates2
import Derived.Test.YtlcepambcoobgaaGreatDoorDatesB
namespace Go.Proofs.YtlcepambcoobgaaGreatDoor.dates
open Go.ChangeShapes Go.WideShapes Go.ChangeAt Go.RowKit Go.Eng Go.Proofs
set_option maxRecDepth 100000
theorem lifted (os : Os) (started : os.Started) (H : Type) (enc : TypeId × Value → H) (F : Stop.Interp) :
    ReturnsInHanded {} Tryz.checked os 8 .any ((OpenSpec.ofChange Rows.exprDatesSpec).preRow enc Tryz.prog Tryz.f8 Rows.exprDatesRow.domain false Rows.exprDatesRow.laid) (((OpenSpec.ofChange Rows.exprDatesSpec).at F).post enc Tryz.prog Tryz.f8 false true false false) := by
  obtain ⟨places, hx⟩ := wreads os enc
  refine returnsInHanded_of_row (C := Tryz.checked) (s := OpenSpec.ofChange Rows.exprDatesSpec) own started (by kernel_rfl) Tryz.func8
    (witness_row_at (enc := enc) (C := Tryz.checked) false (laidWorld os) wit rfl (by kernel_rfl) (by kernel_rfl) (by kernel_rfl)
      (OpenSpec.preRow_of_cond 8 hx (by kernel_rfl) (fun k hk => by cases hk) (by kernel_rfl) (laid_met os))) ?_
  intro W base args ds gs before hval hW _ _ _ hL hS _
  exact contract H enc W base args ds gs before hval hW hL hS
end Go.Proofs.YtlcepambcoobgaaGreatDoor.dates
