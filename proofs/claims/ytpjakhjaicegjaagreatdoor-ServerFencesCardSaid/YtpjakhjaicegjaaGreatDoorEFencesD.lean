/- 'garnerlaw20.ServerFences': runs by the evaluator. Conditions: none. -/
import Derived.Test.YtpjakhjaicegjaaGreatDoorEFencesDef
namespace Go.Proofs.YtpjakhjaicegjaaGreatDoor.serverFences
open Go.Sy
theorem c3 : run Facts.none (one .argz) ⟨.nil, 0⟩ = true := by kernel_rfl
end Go.Proofs.YtpjakhjaicegjaaGreatDoor.serverFences
