/- SchemaOrders: the closed facts of its row, each by itself. No condition. -/
import Derived.Test.YtaikipdjknhjdaaGreatDoorSoFa
import Derived.Test.YtaikipdjknhjdaaGreatDoorSoFb
import Derived.JoinedOf
import Derived.KernelRfl
namespace Go.Proofs.YtaikipdjknhjdaaGreatDoor.schemaOrders
open Go.ChangeShapes Go.WideShapes

theorem andT {a b : Bool} (h : a = true) (g : b = true) : (a && b) = true := by rw [h, g]; rfl

set_option maxHeartbeats 20000000 in
theorem closed : joinedFacts Tryz.prog 3 Tryz.f3 Rows.schemaOrdersSpec Rows.schemaOrdersRow = true := by
  unfold joinedFacts
  repeat' with_reducible refine andT ?_ ?_
  all_goals first
    | with_reducible exact f_inPlace
    | with_reducible exact f_recurses
    | with_reducible exact f_named
    | with_reducible exact f_unfollowed
    | (as_aux_lemma => kernel_rfl)
#print axioms closed
end Go.Proofs.YtaikipdjknhjdaaGreatDoor.schemaOrders
