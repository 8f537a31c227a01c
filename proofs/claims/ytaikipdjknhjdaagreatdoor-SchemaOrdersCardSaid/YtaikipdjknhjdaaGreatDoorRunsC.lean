/- The runs of table, case by case. No condition. -/
import Derived.Test.YtaikipdjknhjdaaGreatDoorSt
namespace Go.Ke

theorem all29d : below (fun i => below (at29 6 i) 3) 3 = true := by kernel_rfl
theorem all29e : below (fun i => below (at29 6 (Nat.succ (Nat.succ (Nat.succ i)))) 3) 3 = true := by kernel_rfl

end Go.Ke
