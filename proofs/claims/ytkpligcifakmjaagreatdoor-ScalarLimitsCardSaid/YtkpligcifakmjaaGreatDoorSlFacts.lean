/- ScalarLimits: the closed facts of its row, each by itself. No condition. -/
import Derived.Test.YtkpligcifakmjaaGreatDoorCards
import Derived.Test.YtkpligcifakmjaaGreatDoorChecked
import Derived.JoinedOf
import Derived.KernelRfl
namespace Go.Proofs.YtkpligcifakmjaaGreatDoor.scalarLimits
open Go.ChangeShapes Go.WideShapes

theorem andT {a b : Bool} (h : a = true) (g : b = true) : (a && b) = true := by rw [h, g]; rfl

set_option maxHeartbeats 20000000 in
theorem closed : joinedFacts Tryz.prog 8 Tryz.f8 Rows.scalarLimitsSpec Rows.scalarLimitsRow = true := by
  unfold joinedFacts
  repeat' with_reducible refine andT ?_ ?_
  all_goals (as_aux_lemma => kernel_rfl)
#print axioms closed
end Go.Proofs.YtkpligcifakmjaaGreatDoor.scalarLimits
