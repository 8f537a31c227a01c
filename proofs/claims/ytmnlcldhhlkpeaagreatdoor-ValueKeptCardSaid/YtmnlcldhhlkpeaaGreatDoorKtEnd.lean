/- ValueKept, the card itself: keys are ordered as lists are and read back, and so do texts of right values, for all streams of numbers. No condition but that the listed variables of Go's library lie as the program's text lays them. -/
import Derived.Test.YtmnlcldhhlkpeaaGreatDoorKtSaid
import Derived.Test.YtmnlcldhhlkpeaaGreatDoorKtPl
import Derived.Test.YtmnlcldhhlkpeaaGreatDoorKtGo
import Derived.Test.YtmnlcldhhlkpeaaGreatDoorTied2
import Derived.SevenTiedAt
namespace Go.Proofs.YtmnlcldhhlkpeaaGreatDoor.valueKept
open Go.ChangeShapes Go.WideShapes Go.ChangeAt Go.RowKit

theorem card : Rows.ValueKeptCardSaid :=
  Claim7.holds_tied_plain_at .later [] _ _ _ _ said (fun _ h => by cases h) c_wf (fun _ h => by cases h) valueKept_row_tie rfl ⟨rfl, rfl⟩ c_main rfl plain c_goes
#print axioms card
end Go.Proofs.YtmnlcldhhlkpeaaGreatDoor.valueKept
