/- ValueLaws: closed facts of its row (what it calls in place), each by itself. No condition. -/
import Derived.Test.YtmnlcldhhlkpeaaGreatDoorCards
import Derived.Test.YtmnlcldhhlkpeaaGreatDoorChecked
import Derived.JoinedOf
import Derived.KernelRfl
namespace Go.Proofs.YtmnlcldhhlkpeaaGreatDoor.valueLaws
open Go.ChangeShapes Go.WideShapes

theorem f_inPlace : (Rows.valueLawsRow.inPlace == Tryz.prog.inPlace 3) = true := by kernel_rfl
theorem f_recurses : (Rows.valueLawsRow.recurses == Tryz.prog.recurses 3) = true := by kernel_rfl
end Go.Proofs.YtmnlcldhhlkpeaaGreatDoor.valueLaws
