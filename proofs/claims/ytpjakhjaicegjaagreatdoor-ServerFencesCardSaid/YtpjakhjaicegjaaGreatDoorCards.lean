/-
  DERIVED. GIVEN WITH THE SEED: THE CARDS: each row of YtpjakhjaicegjaaGreatDoorRows.lean that lists a variable, with what it lists TIED to the program's text (the seventh form; the later family's looks); each row that meets fmt, with fmt's text TOLD by the authors' own Lean function (tested against real Go, not proved from fmt's source: count such statements apart). THE CARD IS WHAT COUNTS. Prove the row's statement (the work); the ties are given (YtpjakhjaicegjaaGreatDoorTie.lean); close each card by the builder's one call (the guide's Derived/Test/ToyasCard.lean, 'card_holds'). Laid BY PROGRAM, IN A SANDBOX (cutbox-door.mjs). By AI agents, Wed Nov 11 2026. No macro, syntax, notation, axiom, sorry.
-/
import Derived.Test.YtpjakhjaicegjaaGreatDoorRows
import GoSem.ClaimSeven
namespace Go.Proofs.YtpjakhjaicegjaaGreatDoor
namespace Rows

/-- THE TIED CARD OF 'garnerlaw20.ServerRestarts'. -/
def serverRestartsCard : Claim7 := { stood := { row := serverRestartsRow, standIns := [], harness := (true, "a32e7d56c02c97397d2ab683141debace7315989115950a5b50e18010aae3062"), looks := true }, kinds := [], alts := [], laidByText := true, laidKinds := [.data, .data, .data, .sentinel, .sentinel], laidTests := true, laidLooks := .later }
def ServerRestartsCardSaid : Prop := Claim7.holds Tryz.pinned (.plain (OpenSpec.ofChange serverRestartsSpec)) serverRestartsCard

/-- THE TIED CARD OF 'garnerlaw20.ServerOfNothing'. -/
def serverOfNothingCard : Claim7 := { stood := { row := serverOfNothingRow, standIns := [], harness := (true, "a32e7d56c02c97397d2ab683141debace7315989115950a5b50e18010aae3062"), looks := true }, kinds := [], alts := [], laidByText := true, laidKinds := [.data, .data, .data, .sentinel, .sentinel], laidTests := true, laidLooks := .later }
def ServerOfNothingCardSaid : Prop := Claim7.holds Tryz.pinned (.plain (OpenSpec.ofChange serverOfNothingSpec)) serverOfNothingCard

/-- THE TIED CARD OF 'garnerlaw20.ServerFences'. -/
def serverFencesCard : Claim7 := { stood := { row := serverFencesRow, standIns := [], harness := (true, "a32e7d56c02c97397d2ab683141debace7315989115950a5b50e18010aae3062"), looks := true }, kinds := [], alts := [], laidByText := true, laidKinds := [.data, .data, .data, .sentinel, .sentinel], laidTests := true, laidLooks := .later }
def ServerFencesCardSaid : Prop := Claim7.holds Tryz.pinned (.plain (OpenSpec.ofChange serverFencesSpec)) serverFencesCard

/-- THE TIED CARD OF 'garnerlaw20.ServerOnce'. -/
def serverOnceCard : Claim7 := { stood := { row := serverOnceRow, standIns := [], harness := (true, "a32e7d56c02c97397d2ab683141debace7315989115950a5b50e18010aae3062"), looks := true }, kinds := [], alts := [], laidByText := true, laidKinds := [.data, .data, .data, .sentinel, .sentinel], laidTests := true, laidLooks := .later }
def ServerOnceCardSaid : Prop := Claim7.holds Tryz.pinned (.plain (OpenSpec.ofChange serverOnceSpec)) serverOnceCard

/-- THE TIED CARD OF 'garnerlaw20.ServerHolds'. -/
def serverHoldsCard : Claim7 := { stood := { row := serverHoldsRow, standIns := [], harness := (true, "a32e7d56c02c97397d2ab683141debace7315989115950a5b50e18010aae3062"), looks := true }, kinds := [], alts := [], laidByText := true, laidKinds := [.data, .data, .data, .sentinel, .sentinel], laidTests := true, laidLooks := .later }
def ServerHoldsCardSaid : Prop := Claim7.holds Tryz.pinned (.plain (OpenSpec.ofChange serverHoldsSpec)) serverHoldsCard

/-- THE TIED CARD OF 'garnerlaw20.ServerTwice'. -/
def serverTwiceCard : Claim7 := { stood := { row := serverTwiceRow, standIns := [], harness := (true, "a32e7d56c02c97397d2ab683141debace7315989115950a5b50e18010aae3062"), looks := true }, kinds := [], alts := [], laidByText := true, laidKinds := [.data, .data, .data, .sentinel, .sentinel], laidTests := true, laidLooks := .later }
def ServerTwiceCardSaid : Prop := Claim7.holds Tryz.pinned (.plain (OpenSpec.ofChange serverTwiceSpec)) serverTwiceCard

/-- THE TIED CARD OF 'garnerlaw20.ServerDrops'. -/
def serverDropsCard : Claim7 := { stood := { row := serverDropsRow, standIns := [], harness := (true, "a32e7d56c02c97397d2ab683141debace7315989115950a5b50e18010aae3062"), looks := true }, kinds := [], alts := [], laidByText := true, laidKinds := [.data, .data, .data, .sentinel, .sentinel], laidTests := true, laidLooks := .later }
def ServerDropsCardSaid : Prop := Claim7.holds Tryz.pinned (.plain (OpenSpec.ofChange serverDropsSpec)) serverDropsCard

/-- THE TIED CARD OF 'garnerlaw20.ServerSpreads'. -/
def serverSpreadsCard : Claim7 := { stood := { row := serverSpreadsRow, standIns := [], harness := (true, "a32e7d56c02c97397d2ab683141debace7315989115950a5b50e18010aae3062"), looks := true }, kinds := [], alts := [], laidByText := true, laidKinds := [.data, .data, .data, .sentinel, .sentinel], laidTests := true, laidLooks := .later }
def ServerSpreadsCardSaid : Prop := Claim7.holds Tryz.pinned (.plain (OpenSpec.ofChange serverSpreadsSpec)) serverSpreadsCard

/-- THE SECOND FORM's CARD OF 'garnerlaw20.ServerRestarts'. -/
def serverRestartsUptoCard : Claim7 := { stood := { row := serverRestartsUptoRow, standIns := [], harness := (true, "a32e7d56c02c97397d2ab683141debace7315989115950a5b50e18010aae3062"), looks := true }, kinds := [], alts := [], laidByText := true, laidKinds := [.data, .data, .data, .sentinel, .sentinel], laidTests := true, laidLooks := .later }
def ServerRestartsUptoCardSaid : Prop := Claim7.holds Tryz.pinned (.plain (OpenSpec.upto serverRestartsSpec)) serverRestartsUptoCard

/-- THE SECOND FORM's CARD OF 'garnerlaw20.ServerOfNothing'. -/
def serverOfNothingUptoCard : Claim7 := { stood := { row := serverOfNothingUptoRow, standIns := [], harness := (true, "a32e7d56c02c97397d2ab683141debace7315989115950a5b50e18010aae3062"), looks := true }, kinds := [], alts := [], laidByText := true, laidKinds := [.data, .data, .data, .sentinel, .sentinel], laidTests := true, laidLooks := .later }
def ServerOfNothingUptoCardSaid : Prop := Claim7.holds Tryz.pinned (.plain (OpenSpec.upto serverOfNothingSpec)) serverOfNothingUptoCard

/-- THE SECOND FORM's CARD OF 'garnerlaw20.ServerFences'. -/
def serverFencesUptoCard : Claim7 := { stood := { row := serverFencesUptoRow, standIns := [], harness := (true, "a32e7d56c02c97397d2ab683141debace7315989115950a5b50e18010aae3062"), looks := true }, kinds := [], alts := [], laidByText := true, laidKinds := [.data, .data, .data, .sentinel, .sentinel], laidTests := true, laidLooks := .later }
def ServerFencesUptoCardSaid : Prop := Claim7.holds Tryz.pinned (.plain (OpenSpec.upto serverFencesSpec)) serverFencesUptoCard

/-- THE SECOND FORM's CARD OF 'garnerlaw20.ServerOnce'. -/
def serverOnceUptoCard : Claim7 := { stood := { row := serverOnceUptoRow, standIns := [], harness := (true, "a32e7d56c02c97397d2ab683141debace7315989115950a5b50e18010aae3062"), looks := true }, kinds := [], alts := [], laidByText := true, laidKinds := [.data, .data, .data, .sentinel, .sentinel], laidTests := true, laidLooks := .later }
def ServerOnceUptoCardSaid : Prop := Claim7.holds Tryz.pinned (.plain (OpenSpec.upto serverOnceSpec)) serverOnceUptoCard

/-- THE SECOND FORM's CARD OF 'garnerlaw20.ServerHolds'. -/
def serverHoldsUptoCard : Claim7 := { stood := { row := serverHoldsUptoRow, standIns := [], harness := (true, "a32e7d56c02c97397d2ab683141debace7315989115950a5b50e18010aae3062"), looks := true }, kinds := [], alts := [], laidByText := true, laidKinds := [.data, .data, .data, .sentinel, .sentinel], laidTests := true, laidLooks := .later }
def ServerHoldsUptoCardSaid : Prop := Claim7.holds Tryz.pinned (.plain (OpenSpec.upto serverHoldsSpec)) serverHoldsUptoCard

/-- THE SECOND FORM's CARD OF 'garnerlaw20.ServerTwice'. -/
def serverTwiceUptoCard : Claim7 := { stood := { row := serverTwiceUptoRow, standIns := [], harness := (true, "a32e7d56c02c97397d2ab683141debace7315989115950a5b50e18010aae3062"), looks := true }, kinds := [], alts := [], laidByText := true, laidKinds := [.data, .data, .data, .sentinel, .sentinel], laidTests := true, laidLooks := .later }
def ServerTwiceUptoCardSaid : Prop := Claim7.holds Tryz.pinned (.plain (OpenSpec.upto serverTwiceSpec)) serverTwiceUptoCard

/-- THE SECOND FORM's CARD OF 'garnerlaw20.ServerDrops'. -/
def serverDropsUptoCard : Claim7 := { stood := { row := serverDropsUptoRow, standIns := [], harness := (true, "a32e7d56c02c97397d2ab683141debace7315989115950a5b50e18010aae3062"), looks := true }, kinds := [], alts := [], laidByText := true, laidKinds := [.data, .data, .data, .sentinel, .sentinel], laidTests := true, laidLooks := .later }
def ServerDropsUptoCardSaid : Prop := Claim7.holds Tryz.pinned (.plain (OpenSpec.upto serverDropsSpec)) serverDropsUptoCard

/-- THE SECOND FORM's CARD OF 'garnerlaw20.ServerSpreads'. -/
def serverSpreadsUptoCard : Claim7 := { stood := { row := serverSpreadsUptoRow, standIns := [], harness := (true, "a32e7d56c02c97397d2ab683141debace7315989115950a5b50e18010aae3062"), looks := true }, kinds := [], alts := [], laidByText := true, laidKinds := [.data, .data, .data, .sentinel, .sentinel], laidTests := true, laidLooks := .later }
def ServerSpreadsUptoCardSaid : Prop := Claim7.holds Tryz.pinned (.plain (OpenSpec.upto serverSpreadsSpec)) serverSpreadsUptoCard
end Rows
end Go.Proofs.YtpjakhjaicegjaaGreatDoor
