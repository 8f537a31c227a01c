/- The runs of table, case by case. No condition. -/
import Derived.Test.YtaikipdjknhjdaaGreatDoorSt
namespace Go.Ke

theorem all29b : below (fun i => below (at29 4 i) 3) 4 = true := by kernel_rfl
theorem all29c : below (fun i => below (at29 5 i) 3) 5 = true := by kernel_rfl

end Go.Ke
