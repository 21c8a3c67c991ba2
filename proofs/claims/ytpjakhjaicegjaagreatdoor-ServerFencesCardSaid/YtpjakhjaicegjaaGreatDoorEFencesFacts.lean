/- What the end of the row 'ServerFences' asks of the program. Conditions: none. -/
import Derived.Test.YtpjakhjaicegjaaGreatDoorSeatE
import Derived.Test.YtpjakhjaicegjaaGreatDoorRows
namespace Go.Proofs.YtpjakhjaicegjaaGreatDoor.serverFences
theorem inPlace : (Rows.serverFencesRow.inPlace == Tryz.prog.inPlace 5) = true := by kernel_rfl
theorem unf : (Rows.serverFencesRow.unfollowed == Tryz.prog.unfollowed 5) = true := by kernel_rfl
theorem rec_ : (Rows.serverFencesRow.recurses == Tryz.prog.recurses 5) = true := by kernel_rfl
theorem named : (Rows.serverFencesRow.named == Tryz.prog.varsNamed 5) = true := by kernel_rfl
end Go.Proofs.YtpjakhjaicegjaaGreatDoor.serverFences
