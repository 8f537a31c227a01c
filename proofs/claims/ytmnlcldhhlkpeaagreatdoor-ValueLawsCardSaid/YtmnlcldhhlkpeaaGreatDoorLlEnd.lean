/- ValueLaws, the card itself: Or and And are bound by Not, Equal and Add ask not for the order of their arguments, and division and remainder give the number again, for all values. No condition but that the listed variables of Go's library lie as the program's text lays them. -/
import Derived.Test.YtmnlcldhhlkpeaaGreatDoorLlSaid
import Derived.Test.YtmnlcldhhlkpeaaGreatDoorLlPl
import Derived.Test.YtmnlcldhhlkpeaaGreatDoorLlGo
import Derived.Test.YtmnlcldhhlkpeaaGreatDoorTied
import Derived.SevenTiedAt
namespace Go.Proofs.YtmnlcldhhlkpeaaGreatDoor.valueLaws
open Go.ChangeShapes Go.WideShapes Go.ChangeAt Go.RowKit

theorem card : Rows.ValueLawsCardSaid :=
  Claim7.holds_tied_plain_at .later [] _ _ _ _ said (fun _ h => by cases h) c_wf (fun _ h => by cases h) valueLaws_row_tie rfl ⟨rfl, rfl⟩ c_main rfl plain c_goes
#print axioms card
end Go.Proofs.YtmnlcldhhlkpeaaGreatDoor.valueLaws
