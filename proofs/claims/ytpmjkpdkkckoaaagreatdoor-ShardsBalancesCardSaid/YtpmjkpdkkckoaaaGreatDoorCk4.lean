/- A run by the kernel: (*dumbwaiter/shards.console).play. No condition. -/
import Derived.Test.YtpmjkpdkkckoaaaGreatDoorShotM
namespace Go.Ke.Sh
open Go.Proofs

set_option maxRecDepth 1000000 in
theorem run4 : chunkRun Tryz.prog (orX (libX nums) (chunkX [c3])) (fun _ _ => false) c4 = true := by kernel_rfl

end Go.Ke.Sh
