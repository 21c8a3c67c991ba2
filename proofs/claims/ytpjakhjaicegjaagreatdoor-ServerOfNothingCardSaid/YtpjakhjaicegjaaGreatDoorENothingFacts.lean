/- What the end of the row 'ServerOfNothing' asks of the program. Conditions: none. -/
import Derived.Test.YtpjakhjaicegjaaGreatDoorSeatE
import Derived.Test.YtpjakhjaicegjaaGreatDoorRows
namespace Go.Proofs.YtpjakhjaicegjaaGreatDoor.serverOfNothing
theorem inPlace : (Rows.serverOfNothingRow.inPlace == Tryz.prog.inPlace 4) = true := by kernel_rfl
theorem unf : (Rows.serverOfNothingRow.unfollowed == Tryz.prog.unfollowed 4) = true := by kernel_rfl
theorem rec_ : (Rows.serverOfNothingRow.recurses == Tryz.prog.recurses 4) = true := by kernel_rfl
theorem named : (Rows.serverOfNothingRow.named == Tryz.prog.varsNamed 4) = true := by kernel_rfl
end Go.Proofs.YtpjakhjaicegjaaGreatDoor.serverOfNothing
