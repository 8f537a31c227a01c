/- SchemaOrders, the row: package schema orders the tables of a schema as specified, for all foreign keys between up to six tables. No condition but that the listed variables of Go's library lie as they are listed. -/
import Derived.Test.YtaikipdjknhjdaaGreatDoorSoCard
import Derived.Test.YtaikipdjknhjdaaGreatDoorSoFacts
namespace Go.Proofs.YtaikipdjknhjdaaGreatDoor.schemaOrders
open Go.ChangeShapes Go.WideShapes Go.ChangeAt Go.RowKit

set_option maxRecDepth 100000 in
theorem said : Rows.SchemaOrdersSaid :=
  OpenClaim.holds_of_wide 3 Tryz.f3 rfl rfl rfl rfl rfl rfl rfl ⟨rfl, rfl, rfl, rfl, rfl⟩ rfl rfl rfl rfl rfl (by kernel_rfl) Tryz.func3 closed
    (of_decide_eq_true (by kernel_rfl)) (by unfold Func.isWrapper; first | (rw [if_pos (by decide +kernel)]; kernel_rfl) | (rw [if_neg (by decide +kernel)]; exact ⟨rfl, rfl⟩))
    (fun os started H enc _ => lifted os started H enc)

end Go.Proofs.YtaikipdjknhjdaaGreatDoor.schemaOrders
