/- ValueBack, the card itself: a value that is cast there and back is the value again, but from Int to Bool, and Can is the same both ways, for all streams of numbers. No condition but that the listed variables of Go's library lie as the program's text lays them. -/
import Derived.Test.YtmnlcldhhlkpeaaGreatDoorBkSaid
import Derived.Test.YtmnlcldhhlkpeaaGreatDoorBkPl
import Derived.Test.YtmnlcldhhlkpeaaGreatDoorBkGo
import Derived.Test.YtmnlcldhhlkpeaaGreatDoorTied2
import Derived.SevenTiedAt
namespace Go.Proofs.YtmnlcldhhlkpeaaGreatDoor.valueBack
open Go.ChangeShapes Go.WideShapes Go.ChangeAt Go.RowKit

theorem card : Rows.ValueBackCardSaid :=
  Claim7.holds_tied_plain_at .later [] _ _ _ _ said (fun _ h => by cases h) c_wf (fun _ h => by cases h) valueBack_row_tie rfl ⟨rfl, rfl⟩ c_main rfl plain c_goes
#print axioms card
end Go.Proofs.YtmnlcldhhlkpeaaGreatDoor.valueBack
