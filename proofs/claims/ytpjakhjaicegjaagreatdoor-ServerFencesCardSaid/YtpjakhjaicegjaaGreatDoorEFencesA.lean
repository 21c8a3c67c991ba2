/- 'garnerlaw20.ServerFences': runs by the evaluator. Conditions: none. -/
import Derived.Test.YtpjakhjaicegjaaGreatDoorEFencesDef
namespace Go.Proofs.YtpjakhjaicegjaaGreatDoor.serverFences
open Go.Sy
theorem a1 : run early (any (.tb (.var 3))) ⟨.nil, 0⟩ = true := by kernel_rfl
theorem a2 : run over_ (any (.tb (.var 3))) ⟨.nil, 0⟩ = true := by kernel_rfl
theorem a3 : run long (any (.tb (.var 3))) ⟨.nil, 0⟩ = true := by kernel_rfl
theorem b1 : run (at_ 1 1) (any (.bool true)) ⟨.nil, 0⟩ = true := by kernel_rfl
theorem b2 : run (at_ 2 2) (any (.bool true)) ⟨.nil, 0⟩ = true := by kernel_rfl
theorem b3 : run (at_ 3 2147483647) (any (.bool true)) ⟨.nil, 0⟩ = true := by kernel_rfl
theorem b4 : run (at_ 2 2147483647) (any (.bool false)) ⟨.nil, 0⟩ = true := by kernel_rfl
end Go.Proofs.YtpjakhjaicegjaaGreatDoor.serverFences
