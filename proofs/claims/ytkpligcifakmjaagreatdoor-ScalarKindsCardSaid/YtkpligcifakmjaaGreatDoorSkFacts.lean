/- ScalarKinds: the closed facts of its row, each by itself. No condition. -/
import Derived.Test.YtkpligcifakmjaaGreatDoorCards
import Derived.Test.YtkpligcifakmjaaGreatDoorChecked
import Derived.JoinedOf
import Derived.KernelRfl
namespace Go.Proofs.YtkpligcifakmjaaGreatDoor.scalarKinds
open Go.ChangeShapes Go.WideShapes

theorem andT {a b : Bool} (h : a = true) (g : b = true) : (a && b) = true := by rw [h, g]; rfl

set_option maxHeartbeats 20000000 in
theorem closed : joinedFacts Tryz.prog 7 Tryz.f7 Rows.scalarKindsSpec Rows.scalarKindsRow = true := by
  unfold joinedFacts
  repeat' with_reducible refine andT ?_ ?_
  all_goals (as_aux_lemma => kernel_rfl)
#print axioms closed
end Go.Proofs.YtkpligcifakmjaaGreatDoor.scalarKinds
