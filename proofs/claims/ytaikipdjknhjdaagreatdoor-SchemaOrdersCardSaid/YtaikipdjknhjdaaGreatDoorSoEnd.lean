/- SchemaOrders, the card itself: package schema orders the tables of a schema as specified, for all foreign keys between up to six tables. No condition but that the listed variables of Go's library lie as the program's text lays them. -/
import Derived.Test.YtaikipdjknhjdaaGreatDoorSoSaid
import Derived.Test.YtaikipdjknhjdaaGreatDoorSoFa
import Derived.Test.YtaikipdjknhjdaaGreatDoorSoGo
import Derived.Test.YtaikipdjknhjdaaGreatDoorSoTied
import Derived.SevenTiedAt
namespace Go.Proofs.YtaikipdjknhjdaaGreatDoor.schemaOrders
open Go.ChangeShapes Go.WideShapes Go.ChangeAt Go.RowKit

theorem card : Rows.SchemaOrdersCardSaid :=
  Claim7.holds_tied_plain_at .later [] _ _ _ _ said (fun _ h => by cases h) c_wf (fun _ h => by cases h) schemaOrders_row_tie rfl ⟨rfl, rfl⟩ c_main rfl plain c_goes
#print axioms card
end Go.Proofs.YtaikipdjknhjdaaGreatDoor.schemaOrders
