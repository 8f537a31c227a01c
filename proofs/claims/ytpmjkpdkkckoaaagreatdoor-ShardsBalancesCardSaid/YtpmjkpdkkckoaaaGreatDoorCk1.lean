/- A run by the kernel: dumbwaiter/shards.open. No condition. -/
import Derived.Test.YtpmjkpdkkckoaaaGreatDoorShotM
namespace Go.Ke.Sh
open Go.Proofs

set_option maxRecDepth 1000000 in
theorem run1 : chunkRun Tryz.prog (orX (libX nums) (chunkX [c0])) (fun _ _ => false) c1 = true := by kernel_rfl

end Go.Ke.Sh
