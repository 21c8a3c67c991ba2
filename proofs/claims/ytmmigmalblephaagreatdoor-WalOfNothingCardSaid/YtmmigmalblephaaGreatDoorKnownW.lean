/- 'garnerlaw10.known' answers true, in every memory. Conditions: none. -/
import Derived.Test.YtmmigmalblephaaGreatDoorKeysW
import Derived.Test.YtmmigmalblephaaGreatDoorProg
namespace Go.Proofs.YtmmigmalblephaaGreatDoor
open Go.Sx
noncomputable section
def ovK : CallF := sortsK kStr 62 87 9
theorem ovK_ok (F : Fix) (B : Nat) (w0 : World) : CallOK F B w0 Tryz.prog ovK := sortsK_ok kStr_good Tryz.underlying9 keys.sorts F B w0
theorem known : tells (evCall Tryz.prog [] 5000 ovK 40 15 [] ⟨.nil, 0⟩) = true := by kernel_rfl
/-- The table: known, and slices.Sorted at a map's keys. -/
def ov : CallF := orElse (saysTrue 15) ovK
theorem ov_ok (F : Fix) (B : Nat) (w0 : World) : CallOK F B w0 Tryz.prog ov :=
  orElse_ok (saysTrue_ok (fun w => said (F := .dull) (range_nil _) w (ovK_ok _ _ _) known [] (by simp [VRs])) F B w0) (ovK_ok F B w0)
end
end Go.Proofs.YtmmigmalblephaaGreatDoor
