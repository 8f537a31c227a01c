/- ValueBack, the row: a value that is cast there and back is the value again, but from Int to Bool, and Can is the same both ways, for all streams of numbers. No condition but that the listed variables of Go's library lie as they are listed. -/
import Derived.Test.YtmnlcldhhlkpeaaGreatDoorBkCard
import Derived.Test.YtmnlcldhhlkpeaaGreatDoorBkFacts
namespace Go.Proofs.YtmnlcldhhlkpeaaGreatDoor.valueBack
open Go.ChangeShapes Go.WideShapes Go.ChangeAt Go.RowKit

set_option maxRecDepth 100000 in
theorem said : Rows.ValueBackSaid :=
  OpenClaim.holds_of_wide 4 Tryz.f4 rfl rfl rfl rfl rfl rfl rfl ⟨rfl, rfl, rfl, rfl, rfl⟩ rfl rfl rfl rfl rfl (by kernel_rfl) Tryz.func4 closed
    (of_decide_eq_true (by kernel_rfl)) (by unfold Func.isWrapper; first | (rw [if_pos (by decide +kernel)]; kernel_rfl) | (rw [if_neg (by decide +kernel)]; exact ⟨rfl, rfl⟩))
    (fun os started H enc _ => lifted os started H enc)

end Go.Proofs.YtmnlcldhhlkpeaaGreatDoor.valueBack
