/- ShardsBalances, the row: package shards moves loads between shards as specified, for all loads and homes. No condition but that the listed variables of Go's library lie as they are listed. -/
import Derived.Test.YtpmjkpdkkckoaaaGreatDoorSbCard
import Derived.Test.YtpmjkpdkkckoaaaGreatDoorSbFacts
import Derived.Test.YtpmjkpdkkckoaaaGreatDoorSbNames
namespace Go.Proofs.YtpmjkpdkkckoaaaGreatDoor.shardsBalances
open Go.ChangeShapes Go.WideShapes Go.ChangeAt Go.RowKit

set_option maxRecDepth 100000 in
theorem said : Rows.ShardsBalancesSaid :=
  OpenClaim.holds_of_wide 3 Tryz.f3 rfl rfl rfl rfl rfl rfl rfl ⟨rfl, rfl, rfl, rfl, rfl⟩ rfl rfl rfl rfl rfl Big.law_named Tryz.func3 closed
    (of_decide_eq_true (by kernel_rfl)) (by unfold Func.isWrapper; first | (rw [if_pos (by decide +kernel)]; kernel_rfl) | (rw [if_neg (by decide +kernel)]; exact ⟨rfl, rfl⟩))
    (fun os started H enc _ => lifted os started H enc)

end Go.Proofs.YtpmjkpdkkckoaaaGreatDoor.shardsBalances
