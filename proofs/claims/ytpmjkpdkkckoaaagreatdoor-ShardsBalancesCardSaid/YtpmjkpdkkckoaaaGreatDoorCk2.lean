/- A run by the kernel: (*dumbwaiter/session.over).write. No condition. -/
import Derived.Test.YtpmjkpdkkckoaaaGreatDoorShotM
namespace Go.Ke.Sh
open Go.Proofs

set_option maxRecDepth 1000000 in
theorem run2 : chunkRun Tryz.prog (orX (libX nums) (chunkX [])) (fun _ _ => false) c2 = true := by kernel_rfl

end Go.Ke.Sh
