/- A run by the kernel: (*dumbwaiter/session.Session).Flush. No condition. -/
import Derived.Test.YtpmjkpdkkckoaaaGreatDoorShotM
namespace Go.Ke.Sh
open Go.Proofs

set_option maxRecDepth 1000000 in
theorem run3 : chunkRun Tryz.prog (orX (libX nums) (chunkX [c2])) (fun _ _ => false) c3 = true := by kernel_rfl

end Go.Ke.Sh
