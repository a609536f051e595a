/-
  DERIVED. GIVEN WITH THE SEED: THE CARDS: each row of YtpibhcioeojcdaaGreatDoorRows.lean that lists a variable, with what it lists TIED to the program's text (the seventh form; the later family's looks); each row that meets fmt, with fmt's text TOLD by the authors' own Lean function (tested against real Go, not proved from fmt's source: count such statements apart). THE CARD IS WHAT COUNTS. Prove the row's statement (the work); the ties are given (YtpibhcioeojcdaaGreatDoorTie.lean); close each card by the builder's one call (the guide's Derived/Test/ToyasCard.lean, 'card_holds'). Laid BY PROGRAM, IN A SANDBOX (cutbox-door.mjs). By AI agents, Wed Nov 11 2026. No macro, syntax, notation, axiom, sorry.
-/
import Derived.Test.YtpibhcioeojcdaaGreatDoorRows
import GoSem.ClaimSeven
namespace Go.Proofs.YtpibhcioeojcdaaGreatDoor
namespace Rows

/-- THE TIED CARD OF 'fleetlaw2.CellsSeen'. -/
def cellsSeenCard : Claim7 := { stood := { row := cellsSeenRow, standIns := [], harness := (true, "059bc67d283bcb1a8557d70a77e9902fbdcf01ac2b9222d6df28b63f33225af3"), looks := true }, kinds := [], alts := [], laidByText := true, laidKinds := [.data, .pinned], laidTests := true, laidLooks := .later }
def CellsSeenCardSaid : Prop := Claim7.holds Tryz.pinned (.plain (OpenSpec.ofChange cellsSeenSpec)) cellsSeenCard

/-- THE TIED CARD OF 'fleetlaw2.SidesJoined'. -/
def sidesJoinedCard : Claim7 := { stood := { row := sidesJoinedRow, standIns := [], harness := (true, "059bc67d283bcb1a8557d70a77e9902fbdcf01ac2b9222d6df28b63f33225af3"), looks := true }, kinds := [], alts := [], laidByText := true, laidKinds := [.data, .pinned], laidTests := true, laidLooks := .later }
def SidesJoinedCardSaid : Prop := Claim7.holds Tryz.pinned (.plain (OpenSpec.ofChange sidesJoinedSpec)) sidesJoinedCard

/-- THE TIED CARD OF 'fleetlaw2.PropsTell'. -/
def propsTellCard : Claim7 := { stood := { row := propsTellRow, standIns := [], harness := (true, "059bc67d283bcb1a8557d70a77e9902fbdcf01ac2b9222d6df28b63f33225af3"), looks := true }, kinds := [], alts := [], laidByText := true, laidKinds := [.data, .pinned], laidTests := true, laidLooks := .later }
def PropsTellCardSaid : Prop := Claim7.holds Tryz.pinned (.plain (OpenSpec.ofChange propsTellSpec)) propsTellCard

/-- THE TIED CARD OF 'fleetlaw2.ChangesMade'. -/
def changesMadeCard : Claim7 := { stood := { row := changesMadeRow, standIns := [], harness := (true, "059bc67d283bcb1a8557d70a77e9902fbdcf01ac2b9222d6df28b63f33225af3"), looks := true }, kinds := [], alts := [], laidByText := true, laidKinds := [.data, .pinned], laidTests := true, laidLooks := .later }
def ChangesMadeCardSaid : Prop := Claim7.holds Tryz.pinned (.plain (OpenSpec.ofChange changesMadeSpec)) changesMadeCard

/-- THE TIED CARD OF 'fleetlaw2.CellsMerge'. -/
def cellsMergeCard : Claim7 := { stood := { row := cellsMergeRow, standIns := [], harness := (true, "059bc67d283bcb1a8557d70a77e9902fbdcf01ac2b9222d6df28b63f33225af3"), looks := true }, kinds := [], alts := [], laidByText := true, laidKinds := [.data, .pinned], laidTests := true, laidLooks := .later }
def CellsMergeCardSaid : Prop := Claim7.holds Tryz.pinned (.plain (OpenSpec.ofChange cellsMergeSpec)) cellsMergeCard

/-- THE TIED CARD OF 'fleetlaw2.TwinsSettle'. -/
def twinsSettleCard : Claim7 := { stood := { row := twinsSettleRow, standIns := [], harness := (true, "059bc67d283bcb1a8557d70a77e9902fbdcf01ac2b9222d6df28b63f33225af3"), looks := true }, kinds := [], alts := [], laidByText := true, laidKinds := [.data, .pinned], laidTests := true, laidLooks := .later }
def TwinsSettleCardSaid : Prop := Claim7.holds Tryz.pinned (.plain (OpenSpec.ofChange twinsSettleSpec)) twinsSettleCard

/-- THE TIED CARD OF 'fleetkeep2.DoneOnce'. -/
def doneOnceCard : Claim7 := { stood := { row := doneOnceRow, standIns := [], harness := (true, "059bc67d283bcb1a8557d70a77e9902fbdcf01ac2b9222d6df28b63f33225af3"), looks := true }, kinds := [], alts := [], laidByText := true, laidKinds := [.data, .data, .data, .data, .sentinel, .sentinel, .pinned], laidTests := true, laidLooks := .later }
def DoneOnceCardSaid : Prop := Claim7.holds Tryz.pinned (.plain (OpenSpec.ofChange doneOnceSpec)) doneOnceCard

/-- THE TIED CARD OF 'fleetkeep2.CellsInAnyOrder'. -/
def cellsInAnyOrderCard : Claim7 := { stood := { row := cellsInAnyOrderRow, standIns := [], harness := (true, "059bc67d283bcb1a8557d70a77e9902fbdcf01ac2b9222d6df28b63f33225af3"), looks := true }, kinds := [], alts := [], laidByText := true, laidKinds := [.data, .data, .data, .data, .sentinel, .sentinel, .pinned], laidTests := true, laidLooks := .later }
def CellsInAnyOrderCardSaid : Prop := Claim7.holds Tryz.pinned (.plain (OpenSpec.ofChange cellsInAnyOrderSpec)) cellsInAnyOrderCard

/-- THE TIED CARD OF 'fleetkeep2.CompactStays'. -/
def compactStaysCard : Claim7 := { stood := { row := compactStaysRow, standIns := [], harness := (true, "059bc67d283bcb1a8557d70a77e9902fbdcf01ac2b9222d6df28b63f33225af3"), looks := true }, kinds := [], alts := [], laidByText := true, laidKinds := [.data, .data, .data, .data, .sentinel, .sentinel, .pinned], laidTests := true, laidLooks := .later }
def CompactStaysCardSaid : Prop := Claim7.holds Tryz.pinned (.plain (OpenSpec.ofChange compactStaysSpec)) compactStaysCard

/-- THE TIED CARD OF 'fleetkeep2.TwinsComeToRest'. -/
def twinsComeToRestCard : Claim7 := { stood := { row := twinsComeToRestRow, standIns := [], harness := (true, "059bc67d283bcb1a8557d70a77e9902fbdcf01ac2b9222d6df28b63f33225af3"), looks := true }, kinds := [], alts := [], laidByText := true, laidKinds := [.data, .data, .data, .data, .sentinel, .sentinel, .pinned], laidTests := true, laidLooks := .later }
def TwinsComeToRestCardSaid : Prop := Claim7.holds Tryz.pinned (.plain (OpenSpec.ofChange twinsComeToRestSpec)) twinsComeToRestCard

/-- THE SECOND FORM's CARD OF 'fleetlaw2.CellsSeen'. -/
def cellsSeenUptoCard : Claim7 := { stood := { row := cellsSeenUptoRow, standIns := [], harness := (true, "059bc67d283bcb1a8557d70a77e9902fbdcf01ac2b9222d6df28b63f33225af3"), looks := true }, kinds := [], alts := [], laidByText := true, laidKinds := [.data, .pinned], laidTests := true, laidLooks := .later }
def CellsSeenUptoCardSaid : Prop := Claim7.holds Tryz.pinned (.plain (OpenSpec.upto cellsSeenSpec)) cellsSeenUptoCard

/-- THE SECOND FORM's CARD OF 'fleetlaw2.SidesJoined'. -/
def sidesJoinedUptoCard : Claim7 := { stood := { row := sidesJoinedUptoRow, standIns := [], harness := (true, "059bc67d283bcb1a8557d70a77e9902fbdcf01ac2b9222d6df28b63f33225af3"), looks := true }, kinds := [], alts := [], laidByText := true, laidKinds := [.data, .pinned], laidTests := true, laidLooks := .later }
def SidesJoinedUptoCardSaid : Prop := Claim7.holds Tryz.pinned (.plain (OpenSpec.upto sidesJoinedSpec)) sidesJoinedUptoCard

/-- THE SECOND FORM's CARD OF 'fleetlaw2.PropsTell'. -/
def propsTellUptoCard : Claim7 := { stood := { row := propsTellUptoRow, standIns := [], harness := (true, "059bc67d283bcb1a8557d70a77e9902fbdcf01ac2b9222d6df28b63f33225af3"), looks := true }, kinds := [], alts := [], laidByText := true, laidKinds := [.data, .pinned], laidTests := true, laidLooks := .later }
def PropsTellUptoCardSaid : Prop := Claim7.holds Tryz.pinned (.plain (OpenSpec.upto propsTellSpec)) propsTellUptoCard

/-- THE SECOND FORM's CARD OF 'fleetlaw2.ChangesMade'. -/
def changesMadeUptoCard : Claim7 := { stood := { row := changesMadeUptoRow, standIns := [], harness := (true, "059bc67d283bcb1a8557d70a77e9902fbdcf01ac2b9222d6df28b63f33225af3"), looks := true }, kinds := [], alts := [], laidByText := true, laidKinds := [.data, .pinned], laidTests := true, laidLooks := .later }
def ChangesMadeUptoCardSaid : Prop := Claim7.holds Tryz.pinned (.plain (OpenSpec.upto changesMadeSpec)) changesMadeUptoCard

/-- THE SECOND FORM's CARD OF 'fleetlaw2.CellsMerge'. -/
def cellsMergeUptoCard : Claim7 := { stood := { row := cellsMergeUptoRow, standIns := [], harness := (true, "059bc67d283bcb1a8557d70a77e9902fbdcf01ac2b9222d6df28b63f33225af3"), looks := true }, kinds := [], alts := [], laidByText := true, laidKinds := [.data, .pinned], laidTests := true, laidLooks := .later }
def CellsMergeUptoCardSaid : Prop := Claim7.holds Tryz.pinned (.plain (OpenSpec.upto cellsMergeSpec)) cellsMergeUptoCard

/-- THE SECOND FORM's CARD OF 'fleetlaw2.TwinsSettle'. -/
def twinsSettleUptoCard : Claim7 := { stood := { row := twinsSettleUptoRow, standIns := [], harness := (true, "059bc67d283bcb1a8557d70a77e9902fbdcf01ac2b9222d6df28b63f33225af3"), looks := true }, kinds := [], alts := [], laidByText := true, laidKinds := [.data, .pinned], laidTests := true, laidLooks := .later }
def TwinsSettleUptoCardSaid : Prop := Claim7.holds Tryz.pinned (.plain (OpenSpec.upto twinsSettleSpec)) twinsSettleUptoCard

/-- THE SECOND FORM's CARD OF 'fleetkeep2.DoneOnce'. -/
def doneOnceUptoCard : Claim7 := { stood := { row := doneOnceUptoRow, standIns := [], harness := (true, "059bc67d283bcb1a8557d70a77e9902fbdcf01ac2b9222d6df28b63f33225af3"), looks := true }, kinds := [], alts := [], laidByText := true, laidKinds := [.data, .data, .data, .data, .sentinel, .sentinel, .pinned], laidTests := true, laidLooks := .later }
def DoneOnceUptoCardSaid : Prop := Claim7.holds Tryz.pinned (.plain (OpenSpec.upto doneOnceSpec)) doneOnceUptoCard

/-- THE SECOND FORM's CARD OF 'fleetkeep2.CellsInAnyOrder'. -/
def cellsInAnyOrderUptoCard : Claim7 := { stood := { row := cellsInAnyOrderUptoRow, standIns := [], harness := (true, "059bc67d283bcb1a8557d70a77e9902fbdcf01ac2b9222d6df28b63f33225af3"), looks := true }, kinds := [], alts := [], laidByText := true, laidKinds := [.data, .data, .data, .data, .sentinel, .sentinel, .pinned], laidTests := true, laidLooks := .later }
def CellsInAnyOrderUptoCardSaid : Prop := Claim7.holds Tryz.pinned (.plain (OpenSpec.upto cellsInAnyOrderSpec)) cellsInAnyOrderUptoCard

/-- THE SECOND FORM's CARD OF 'fleetkeep2.CompactStays'. -/
def compactStaysUptoCard : Claim7 := { stood := { row := compactStaysUptoRow, standIns := [], harness := (true, "059bc67d283bcb1a8557d70a77e9902fbdcf01ac2b9222d6df28b63f33225af3"), looks := true }, kinds := [], alts := [], laidByText := true, laidKinds := [.data, .data, .data, .data, .sentinel, .sentinel, .pinned], laidTests := true, laidLooks := .later }
def CompactStaysUptoCardSaid : Prop := Claim7.holds Tryz.pinned (.plain (OpenSpec.upto compactStaysSpec)) compactStaysUptoCard

/-- THE SECOND FORM's CARD OF 'fleetkeep2.TwinsComeToRest'. -/
def twinsComeToRestUptoCard : Claim7 := { stood := { row := twinsComeToRestUptoRow, standIns := [], harness := (true, "059bc67d283bcb1a8557d70a77e9902fbdcf01ac2b9222d6df28b63f33225af3"), looks := true }, kinds := [], alts := [], laidByText := true, laidKinds := [.data, .data, .data, .data, .sentinel, .sentinel, .pinned], laidTests := true, laidLooks := .later }
def TwinsComeToRestUptoCardSaid : Prop := Claim7.holds Tryz.pinned (.plain (OpenSpec.upto twinsComeToRestSpec)) twinsComeToRestUptoCard
end Rows
end Go.Proofs.YtpibhcioeojcdaaGreatDoor
