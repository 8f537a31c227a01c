/- A run by the kernel: clusters. No condition. -/
import Derived.Test.YtpmjkpdkkckoaaaGreatDoorShotM
namespace Go.Ke.Sh
open Go.Proofs

set_option maxRecDepth 1000000 in
theorem runE : gate Tryz.prog (orX (libX nums) (chunkX [c1, c5, c9, c13])) (fun _ _ => false) St.empty 12 = true := by kernel_rfl

end Go.Ke.Sh
