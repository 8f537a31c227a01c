/- ValueLaws, the row: Or and And are bound by Not, Equal and Add ask not for the order of their arguments, and division and remainder give the number again, for all values. No condition but that the listed variables of Go's library lie as they are listed. -/
import Derived.Test.YtmnlcldhhlkpeaaGreatDoorLlCard
import Derived.Test.YtmnlcldhhlkpeaaGreatDoorLlFacts
namespace Go.Proofs.YtmnlcldhhlkpeaaGreatDoor.valueLaws
open Go.ChangeShapes Go.WideShapes Go.ChangeAt Go.RowKit

set_option maxRecDepth 100000 in
theorem said : Rows.ValueLawsSaid :=
  OpenClaim.holds_of_wide 3 Tryz.f3 rfl rfl rfl rfl rfl rfl rfl ⟨rfl, rfl, rfl, rfl, rfl⟩ rfl rfl rfl rfl rfl (by kernel_rfl) Tryz.func3 closed
    (of_decide_eq_true (by kernel_rfl)) (by unfold Func.isWrapper; first | (rw [if_pos (by decide +kernel)]; kernel_rfl) | (rw [if_neg (by decide +kernel)]; exact ⟨rfl, rfl⟩))
    (fun os started H enc _ => lifted os started H enc)

end Go.Proofs.YtmnlcldhhlkpeaaGreatDoor.valueLaws
