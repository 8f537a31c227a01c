/- ShardsBalances: the closed facts of its row, each by itself. No condition. -/
import Derived.Test.YtpmjkpdkkckoaaaGreatDoorSbFa
import Derived.Test.YtpmjkpdkkckoaaaGreatDoorSbType
import Derived.JoinedOf
import Derived.KernelRfl
namespace Go.Proofs.YtpmjkpdkkckoaaaGreatDoor.shardsBalances
open Go.ChangeShapes Go.WideShapes

theorem andT {a b : Bool} (h : a = true) (g : b = true) : (a && b) = true := by rw [h, g]; rfl

set_option maxRecDepth 100000 in
set_option maxHeartbeats 20000000 in
theorem closed : joinedFacts Tryz.prog 3 Tryz.f3 Rows.shardsBalancesSpec Rows.shardsBalancesRow = true := by
  unfold joinedFacts
  repeat' with_reducible refine andT ?_ ?_
  all_goals first
    | with_reducible exact f_inPlace
    | with_reducible exact f_recurses
    | with_reducible exact f_named
    | with_reducible exact f_unfollowed
    | with_reducible exact Big.laid_out
    | with_reducible exact Big.maps_rowed
    | with_reducible exact heard
    | with_reducible exact may_enter
    | (as_aux_lemma => kernel_rfl)
#print axioms closed
end Go.Proofs.YtpmjkpdkkckoaaaGreatDoor.shardsBalances
