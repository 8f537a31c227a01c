/- ValueKept, the row: keys are ordered as lists are and read back, and so do texts of right values, for all streams of numbers. No condition but that the listed variables of Go's library lie as they are listed. -/
import Derived.Test.YtmnlcldhhlkpeaaGreatDoorKtCard
import Derived.Test.YtmnlcldhhlkpeaaGreatDoorKtFacts
namespace Go.Proofs.YtmnlcldhhlkpeaaGreatDoor.valueKept
open Go.ChangeShapes Go.WideShapes Go.ChangeAt Go.RowKit

set_option maxRecDepth 100000 in
theorem said : Rows.ValueKeptSaid :=
  OpenClaim.holds_of_wide 5 Tryz.f5 rfl rfl rfl rfl rfl rfl rfl ⟨rfl, rfl, rfl, rfl, rfl⟩ rfl rfl rfl rfl rfl (by kernel_rfl) Tryz.func5 closed
    (of_decide_eq_true (by kernel_rfl)) (by unfold Func.isWrapper; first | (rw [if_pos (by decide +kernel)]; kernel_rfl) | (rw [if_neg (by decide +kernel)]; exact ⟨rfl, rfl⟩))
    (fun os started H enc _ => lifted os started H enc)

end Go.Proofs.YtmnlcldhhlkpeaaGreatDoor.valueKept
