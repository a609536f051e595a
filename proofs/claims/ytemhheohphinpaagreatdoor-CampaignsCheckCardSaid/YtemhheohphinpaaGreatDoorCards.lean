/-
  DERIVED. GIVEN WITH THE SEED: THE CARDS: each row of YtemhheohphinpaaGreatDoorRows.lean that lists a variable, with what it lists TIED to the program's text (the seventh form; the later family's looks); each row that meets fmt, with fmt's text TOLD by the authors' own Lean function (tested against real Go, not proved from fmt's source: count such statements apart). THE CARD IS WHAT COUNTS. Prove the row's statement (the work); the ties are given (YtemhheohphinpaaGreatDoorTie.lean); close each card by the builder's one call (the guide's Derived/Test/ToyasCard.lean, 'card_holds'). Laid BY PROGRAM, IN A SANDBOX (cutbox-door.mjs). By AI agents, Wed Nov 11 2026. No macro, syntax, notation, axiom, sorry.
-/
import Derived.Test.YtemhheohphinpaaGreatDoorRows
import GoSem.ClaimSeven
namespace Go.Proofs.YtemhheohphinpaaGreatDoor
namespace Rows

/-- THE TIED CARD OF 'fleetlaw2.DevicesStand'. -/
def devicesStandCard : Claim7 := { stood := { row := devicesStandRow, standIns := [], harness := (true, "5750808d67315df7a5dc64010441aff3d4852c8bc9d9da306901bbeeb26ba50e"), looks := true }, kinds := [], alts := [], laidByText := true, laidKinds := [.data, .data, .data, .data, .sentinel, .sentinel, .pinned], laidTests := true, laidLooks := .later }
def DevicesStandCardSaid : Prop := Claim7.holds Tryz.pinned (.plain (OpenSpec.ofChange devicesStandSpec)) devicesStandCard

/-- THE TIED CARD OF 'fleetlaw2.WaysFound'. -/
def waysFoundCard : Claim7 := { stood := { row := waysFoundRow, standIns := [], harness := (true, "5750808d67315df7a5dc64010441aff3d4852c8bc9d9da306901bbeeb26ba50e"), looks := true }, kinds := [], alts := [], laidByText := true, laidKinds := [.data, .data, .data, .data, .sentinel, .sentinel, .pinned], laidTests := true, laidLooks := .later }
def WaysFoundCardSaid : Prop := Claim7.holds Tryz.pinned (.plain (OpenSpec.ofChange waysFoundSpec)) waysFoundCard

/-- THE TIED CARD OF 'fleetlaw2.CampaignsCheck'. -/
def campaignsCheckCard : Claim7 := { stood := { row := campaignsCheckRow, standIns := [], harness := (true, "5750808d67315df7a5dc64010441aff3d4852c8bc9d9da306901bbeeb26ba50e"), looks := true }, kinds := [], alts := [], laidByText := true, laidKinds := [.data, .data, .data, .data, .sentinel, .sentinel, .pinned], laidTests := true, laidLooks := .later }
def CampaignsCheckCardSaid : Prop := Claim7.holds Tryz.pinned (.plain (OpenSpec.ofChange campaignsCheckSpec)) campaignsCheckCard

/-- THE TIED CARD OF 'fleetlaw2.WavesBegin'. -/
def wavesBeginCard : Claim7 := { stood := { row := wavesBeginRow, standIns := [], harness := (true, "5750808d67315df7a5dc64010441aff3d4852c8bc9d9da306901bbeeb26ba50e"), looks := true }, kinds := [], alts := [], laidByText := true, laidKinds := [.data, .data, .data, .data, .sentinel, .sentinel, .pinned], laidTests := true, laidLooks := .later }
def WavesBeginCardSaid : Prop := Claim7.holds Tryz.pinned (.plain (OpenSpec.ofChange wavesBeginSpec)) wavesBeginCard

/-- THE SECOND FORM's CARD OF 'fleetlaw2.DevicesStand'. -/
def devicesStandUptoCard : Claim7 := { stood := { row := devicesStandUptoRow, standIns := [], harness := (true, "5750808d67315df7a5dc64010441aff3d4852c8bc9d9da306901bbeeb26ba50e"), looks := true }, kinds := [], alts := [], laidByText := true, laidKinds := [.data, .data, .data, .data, .sentinel, .sentinel, .pinned], laidTests := true, laidLooks := .later }
def DevicesStandUptoCardSaid : Prop := Claim7.holds Tryz.pinned (.plain (OpenSpec.upto devicesStandSpec)) devicesStandUptoCard

/-- THE SECOND FORM's CARD OF 'fleetlaw2.WaysFound'. -/
def waysFoundUptoCard : Claim7 := { stood := { row := waysFoundUptoRow, standIns := [], harness := (true, "5750808d67315df7a5dc64010441aff3d4852c8bc9d9da306901bbeeb26ba50e"), looks := true }, kinds := [], alts := [], laidByText := true, laidKinds := [.data, .data, .data, .data, .sentinel, .sentinel, .pinned], laidTests := true, laidLooks := .later }
def WaysFoundUptoCardSaid : Prop := Claim7.holds Tryz.pinned (.plain (OpenSpec.upto waysFoundSpec)) waysFoundUptoCard

/-- THE SECOND FORM's CARD OF 'fleetlaw2.CampaignsCheck'. -/
def campaignsCheckUptoCard : Claim7 := { stood := { row := campaignsCheckUptoRow, standIns := [], harness := (true, "5750808d67315df7a5dc64010441aff3d4852c8bc9d9da306901bbeeb26ba50e"), looks := true }, kinds := [], alts := [], laidByText := true, laidKinds := [.data, .data, .data, .data, .sentinel, .sentinel, .pinned], laidTests := true, laidLooks := .later }
def CampaignsCheckUptoCardSaid : Prop := Claim7.holds Tryz.pinned (.plain (OpenSpec.upto campaignsCheckSpec)) campaignsCheckUptoCard

/-- THE SECOND FORM's CARD OF 'fleetlaw2.WavesBegin'. -/
def wavesBeginUptoCard : Claim7 := { stood := { row := wavesBeginUptoRow, standIns := [], harness := (true, "5750808d67315df7a5dc64010441aff3d4852c8bc9d9da306901bbeeb26ba50e"), looks := true }, kinds := [], alts := [], laidByText := true, laidKinds := [.data, .data, .data, .data, .sentinel, .sentinel, .pinned], laidTests := true, laidLooks := .later }
def WavesBeginUptoCardSaid : Prop := Claim7.holds Tryz.pinned (.plain (OpenSpec.upto wavesBeginSpec)) wavesBeginUptoCard
end Rows
end Go.Proofs.YtemhheohphinpaaGreatDoor
