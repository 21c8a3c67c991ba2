/- 'garnerlaw22.known' answers true, in every memory. Conditions: none. -/
import Derived.Test.YtgmpfngapfdpmaaGreatDoorKeysZ
import Derived.Test.YtgmpfngapfdpmaaGreatDoorProg
namespace Go.Proofs.YtgmpfngapfdpmaaGreatDoor
open Go.Sx
noncomputable section
theorem known : tells (evCall Tryz.prog [] 2000 (fun _ _ _ => none) 30 7 [] ⟨.nil, 0⟩) = true := by kernel_rfl
/-- The table: known, and slices.Collect at a map's keys. -/
def ov : CallF := orElse (saysTrue 7) (collectsI 44 46 3)
theorem ov_ok (F : Fix) (B : Nat) (w0 : World) : CallOK F B w0 Tryz.prog ov :=
  orElse_ok (saysTrue_ok (fun w => said_any known w) F B w0) (collectsI_ok Tryz.underlying3 keys.collects F B w0)
end
end Go.Proofs.YtgmpfngapfdpmaaGreatDoor
