/- The runs of table and foreign, case by case. No condition. -/
import Derived.Test.YtaikipdjknhjdaaGreatDoorSt
namespace Go.Ke

theorem all33b : below (fun i => below (at33 5 i) 5) 5 = true := by kernel_rfl
theorem all33c : below (fun i => below (at33 6 i) 6) 6 = true := by kernel_rfl
theorem all29a : below (fun m => below (fun i => below (at29 (Nat.succ m) i) 3) (Nat.succ m)) 3 = true := by kernel_rfl

end Go.Ke
