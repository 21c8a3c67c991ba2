/- 'garnerlaw20.ServerFences': runs by the evaluator. Conditions: none. -/
import Derived.Test.YtpjakhjaicegjaaGreatDoorEFencesDef
namespace Go.Proofs.YtpjakhjaicegjaaGreatDoor.serverFences
open Go.Sy
theorem c1 : run row (one (.rv 0 (.lit 0) dlen)) s0 = true := by kernel_rfl
end Go.Proofs.YtpjakhjaicegjaaGreatDoor.serverFences
