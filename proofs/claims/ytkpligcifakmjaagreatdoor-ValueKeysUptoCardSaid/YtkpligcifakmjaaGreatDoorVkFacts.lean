/- ValueKeys, the second form: the closed facts of its row, each by itself. No condition. -/
import Derived.Test.YtkpligcifakmjaaGreatDoorCards
import Derived.Test.YtkpligcifakmjaaGreatDoorChecked
import Derived.JoinedOf
import Derived.KernelRfl
namespace Go.Proofs.YtkpligcifakmjaaGreatDoor.valueKeys
open Go.ChangeShapes Go.WideShapes

theorem andT {a b : Bool} (h : a = true) (g : b = true) : (a && b) = true := by rw [h, g]; rfl

set_option maxHeartbeats 20000000 in
theorem closed : joinedFacts Tryz.prog 6 Tryz.f6 (Rows.OpenSpec.upto Rows.valueKeysSpec).bare Rows.valueKeysUptoRow = true := by
  unfold joinedFacts
  repeat' with_reducible refine andT ?_ ?_
  all_goals (as_aux_lemma => kernel_rfl)
#print axioms closed
end Go.Proofs.YtkpligcifakmjaaGreatDoor.valueKeys
