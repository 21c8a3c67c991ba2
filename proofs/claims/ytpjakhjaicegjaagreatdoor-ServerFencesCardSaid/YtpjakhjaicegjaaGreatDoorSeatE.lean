/- What the rows' ends ask of the seat's program alone. Conditions: none. -/
import Derived.Test.YtpjakhjaicegjaaGreatDoorSyJ
import Derived.Test.YtpjakhjaicegjaaGreatDoorRows
namespace Go.Proofs.YtpjakhjaicegjaaGreatDoor.seat
theorem laidOut : laidOutB Tryz.prog = true := by kernel_rfl
theorem mapsRowed : Go.mapsRowed Tryz.prog = true := by kernel_rfl
theorem heard : Tryz.prog.stopsHeard = true := by kernel_rfl
theorem enter : Tryz.prog.mayEnter = true := by kernel_rfl
theorem lifts : (Rows.serverOfNothingRow.lifted == Tryz.prog.liftsFinal) = true := by kernel_rfl
theorem make : (Tryz.prog.make == some Rows.serverOfNothingRow.make) = true := by kernel_rfl
theorem plain : (Rows.serverOfNothingRow.plainKeys == Tryz.prog.plainKeys) = true := by kernel_rfl
theorem stops : (Tryz.prog.stops == []) = true := by kernel_rfl
theorem stopKnobs : (Tryz.prog.stopKnobs == []) = true := by kernel_rfl
end Go.Proofs.YtpjakhjaicegjaaGreatDoor.seat
