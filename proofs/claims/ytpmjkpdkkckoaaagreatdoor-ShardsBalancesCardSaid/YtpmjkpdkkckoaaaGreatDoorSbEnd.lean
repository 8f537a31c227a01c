/- ShardsBalances, the card itself: package shards moves loads between shards as specified, for all loads and homes. No condition but that the listed variables of Go's library lie as the program's text lays them. -/
import Derived.Test.YtpmjkpdkkckoaaaGreatDoorSbSaid
import Derived.Test.YtpmjkpdkkckoaaaGreatDoorSbPl
import Derived.Test.YtpmjkpdkkckoaaaGreatDoorSbTied
import Derived.SevenTiedAt
namespace Go.Proofs.YtpmjkpdkkckoaaaGreatDoor.shardsBalances
open Go.ChangeShapes Go.WideShapes Go.ChangeAt Go.RowKit

theorem card : Rows.ShardsBalancesCardSaid :=
  Claim7.holds_tied_plain_at .later [] _ _ _ _ said (fun _ h => by cases h) c_wf (fun _ h => by cases h) shardsBalances_row_tie rfl ⟨rfl, rfl⟩ c_main rfl plain c_goes
#print axioms card
end Go.Proofs.YtpmjkpdkkckoaaaGreatDoor.shardsBalances
