/-
  DERIVED. GIVEN WITH THE SEED: THE CARDS: each row of YtaelfnlccccinaaGreatDoorRows.lean that lists a variable, with what it lists TIED to the program's text (the seventh form; the later family's looks); each row that meets fmt, with fmt's text TOLD by the authors' own Lean function (tested against real Go, not proved from fmt's source: count such statements apart). THE CARD IS WHAT COUNTS. Prove the row's statement (the work); the ties are given (YtaelfnlccccinaaGreatDoorTie.lean); close each card by the builder's one call (the guide's Derived/Test/ToyasCard.lean, 'card_holds'). Laid BY PROGRAM, IN A SANDBOX (cutbox-door.mjs). By AI agents, Wed Nov 11 2026. No macro, syntax, notation, axiom, sorry.
-/
import Derived.Test.YtaelfnlccccinaaGreatDoorRows
import GoSem.ClaimSeven
namespace Go.Proofs.YtaelfnlccccinaaGreatDoor
namespace Rows

/-- THE TIED CARD OF 'fleetkeep2.ChangesLead'. -/
def changesLeadCard : Claim7 := { stood := { row := changesLeadRow, standIns := [], harness := (true, "931d97526ecfcf3a280844dfa6430fd405b88e5df1ac8164653a0afa561c0d09"), looks := true }, kinds := [], alts := [], laidByText := true, laidKinds := [.data, .data, .data, .data, .sentinel, .sentinel, .pinned], laidTests := true, laidLooks := .later }
def ChangesLeadCardSaid : Prop := Claim7.holds Tryz.pinned (.plain (OpenSpec.ofChange changesLeadSpec)) changesLeadCard

/-- THE SECOND FORM's CARD OF 'fleetkeep2.ChangesLead'. -/
def changesLeadUptoCard : Claim7 := { stood := { row := changesLeadUptoRow, standIns := [], harness := (true, "931d97526ecfcf3a280844dfa6430fd405b88e5df1ac8164653a0afa561c0d09"), looks := true }, kinds := [], alts := [], laidByText := true, laidKinds := [.data, .data, .data, .data, .sentinel, .sentinel, .pinned], laidTests := true, laidLooks := .later }
def ChangesLeadUptoCardSaid : Prop := Claim7.holds Tryz.pinned (.plain (OpenSpec.upto changesLeadSpec)) changesLeadUptoCard
end Rows
end Go.Proofs.YtaelfnlccccinaaGreatDoor
