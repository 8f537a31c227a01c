/- A run by the kernel: dumbwaiter/query.asked. No condition. -/
import Derived.Test.YtpmjkpdkkckoaaaGreatDoorShotM
namespace Go.Ke.Sh
open Go.Proofs

set_option maxRecDepth 1000000 in
theorem run7 : chunkRun Tryz.prog (orX (libX nums) (chunkX [])) (fun _ _ => false) c7 = true := by kernel_rfl

end Go.Ke.Sh
