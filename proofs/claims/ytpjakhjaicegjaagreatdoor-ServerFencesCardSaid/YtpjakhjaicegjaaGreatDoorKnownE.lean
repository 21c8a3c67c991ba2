/- 'garnerlaw20.known' answers true, in every memory. Conditions: none. -/
import Derived.Test.YtpjakhjaicegjaaGreatDoorKeysEI
import Derived.Test.YtpjakhjaicegjaaGreatDoorKeysES
import Derived.Test.YtpjakhjaicegjaaGreatDoorKeysEU
import Derived.Test.YtpjakhjaicegjaaGreatDoorProg
namespace Go.Proofs.YtpjakhjaicegjaaGreatDoor
open Go.Sy
noncomputable section
def ovK (R : Facts) : CallF := orElse (sortsK kInt 46 110 3) (orElse (sortsK kStr 60 120 9) (sortsOne R 165 223 23))
theorem ovK_ok {S : Sg} {F : Fix S} {R : Facts} (hR : FOK F R) (A : Nat → Prop) (w0 : World) : CallOK F A w0 Tryz.prog (ovK R) :=
  orElse_ok (sortsK_ok kInt_good Tryz.underlying3 keysI.sorts F A w0) (orElse_ok (sortsK_ok kStr_good Tryz.underlying9 keysS.sorts F A w0) (sortsOne_ok Tryz.underlying23 keysU.sorts hR A w0))
theorem known : tells (evCall Tryz.prog Facts.none 5000 (ovK Facts.none) (fun _ _ _ _ => none) 40 11 [] ⟨.nil, 0⟩) = true := by kernel_rfl
/-- The table: known, and slices.Sorted at a map's keys. -/
def ov (R : Facts) : CallF := orElse (saysTrue 11) (ovK R)
theorem ov_ok {S : Sg} {F : Fix S} {R : Facts} (hR : FOK F R) (A : Nat → Prop) (w0 : World) : CallOK F A w0 Tryz.prog (ov R) :=
  orElse_ok (saysTrue_ok (fun w => said (F := noFix) (facts_none _) w (ovK_ok (facts_none _) _ _) (noLoops _ _ _ _) known [] (by simp [VRs])) F A w0) (ovK_ok hR A w0)
end
end Go.Proofs.YtpjakhjaicegjaaGreatDoor
