/- A run by the kernel: (*dumbwaiter/shards.console).line. No condition. -/
import Derived.Test.YtpmjkpdkkckoaaaGreatDoorShotM
namespace Go.Ke.Sh
open Go.Proofs

set_option maxRecDepth 1000000 in
theorem run9 : chunkRun Tryz.prog (orX (libX nums) (chunkX [c6, c7, c8])) (fun _ _ => false) c9 = true := by kernel_rfl

end Go.Ke.Sh
