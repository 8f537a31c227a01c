/- ValueBack: closed facts of its row (what it calls in place), each by itself. No condition. -/
import Derived.Test.YtmnlcldhhlkpeaaGreatDoorCards
import Derived.Test.YtmnlcldhhlkpeaaGreatDoorChecked
import Derived.JoinedOf
import Derived.KernelRfl
namespace Go.Proofs.YtmnlcldhhlkpeaaGreatDoor.valueBack
open Go.ChangeShapes Go.WideShapes

theorem f_inPlace : (Rows.valueBackRow.inPlace == Tryz.prog.inPlace 4) = true := by kernel_rfl
theorem f_recurses : (Rows.valueBackRow.recurses == Tryz.prog.recurses 4) = true := by kernel_rfl
end Go.Proofs.YtmnlcldhhlkpeaaGreatDoor.valueBack
