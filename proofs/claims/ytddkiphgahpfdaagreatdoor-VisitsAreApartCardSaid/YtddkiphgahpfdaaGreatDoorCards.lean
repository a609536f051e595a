/-
  DERIVED. GIVEN WITH THE SEED: THE CARDS: each row of YtddkiphgahpfdaaGreatDoorRows.lean that lists a variable, with what it lists TIED to the program's text (the seventh form; the later family's looks); each row that meets fmt, with fmt's text TOLD by the authors' own Lean function (tested against real Go, not proved from fmt's source: count such statements apart). THE CARD IS WHAT COUNTS. Prove the row's statement (the work); the ties are given (YtddkiphgahpfdaaGreatDoorTie.lean); close each card by the builder's one call (the guide's Derived/Test/ToyasCard.lean, 'card_holds'). Laid BY PROGRAM, IN A SANDBOX (cutbox-door.mjs). By AI agents, Wed Nov 11 2026. No macro, syntax, notation, axiom, sorry.
-/
import Derived.Test.YtddkiphgahpfdaaGreatDoorRows
import GoSem.ClaimSeven
namespace Go.Proofs.YtddkiphgahpfdaaGreatDoor
namespace Rows

/-- THE TIED CARD OF 'fleetkeep2.StaysAreNear'. -/
def staysAreNearCard : Claim7 := { stood := { row := staysAreNearRow, standIns := [], harness := (true, "ceb5b70c6221fc9697b88acfccdcc6ae181fe9a3b80bf0910890fb2f81931d52"), looks := true }, kinds := [], alts := [], laidByText := true, laidKinds := [.data, .data, .data, .data, .sentinel, .sentinel, .pinned], laidTests := true, laidLooks := .later }
def StaysAreNearCardSaid : Prop := Claim7.holds Tryz.pinned (.plain (OpenSpec.ofChange staysAreNearSpec)) staysAreNearCard

/-- THE TIED CARD OF 'fleetkeep2.FencesMeetBothWays'. -/
def fencesMeetBothWaysCard : Claim7 := { stood := { row := fencesMeetBothWaysRow, standIns := [], harness := (true, "ceb5b70c6221fc9697b88acfccdcc6ae181fe9a3b80bf0910890fb2f81931d52"), looks := true }, kinds := [], alts := [], laidByText := true, laidKinds := [.data, .data, .data, .data, .sentinel, .sentinel, .pinned], laidTests := true, laidLooks := .later }
def FencesMeetBothWaysCardSaid : Prop := Claim7.holds Tryz.pinned (.plain (OpenSpec.ofChange fencesMeetBothWaysSpec)) fencesMeetBothWaysCard

/-- THE TIED CARD OF 'fleetkeep2.VisitsAreApart'. -/
def visitsAreApartCard : Claim7 := { stood := { row := visitsAreApartRow, standIns := [], harness := (true, "ceb5b70c6221fc9697b88acfccdcc6ae181fe9a3b80bf0910890fb2f81931d52"), looks := true }, kinds := [], alts := [], laidByText := true, laidKinds := [.data, .data, .data, .data, .sentinel, .sentinel, .pinned], laidTests := true, laidLooks := .later }
def VisitsAreApartCardSaid : Prop := Claim7.holds Tryz.pinned (.plain (OpenSpec.ofChange visitsAreApartSpec)) visitsAreApartCard

/-- THE SECOND FORM's CARD OF 'fleetkeep2.StaysAreNear'. -/
def staysAreNearUptoCard : Claim7 := { stood := { row := staysAreNearUptoRow, standIns := [], harness := (true, "ceb5b70c6221fc9697b88acfccdcc6ae181fe9a3b80bf0910890fb2f81931d52"), looks := true }, kinds := [], alts := [], laidByText := true, laidKinds := [.data, .data, .data, .data, .sentinel, .sentinel, .pinned], laidTests := true, laidLooks := .later }
def StaysAreNearUptoCardSaid : Prop := Claim7.holds Tryz.pinned (.plain (OpenSpec.upto staysAreNearSpec)) staysAreNearUptoCard

/-- THE SECOND FORM's CARD OF 'fleetkeep2.FencesMeetBothWays'. -/
def fencesMeetBothWaysUptoCard : Claim7 := { stood := { row := fencesMeetBothWaysUptoRow, standIns := [], harness := (true, "ceb5b70c6221fc9697b88acfccdcc6ae181fe9a3b80bf0910890fb2f81931d52"), looks := true }, kinds := [], alts := [], laidByText := true, laidKinds := [.data, .data, .data, .data, .sentinel, .sentinel, .pinned], laidTests := true, laidLooks := .later }
def FencesMeetBothWaysUptoCardSaid : Prop := Claim7.holds Tryz.pinned (.plain (OpenSpec.upto fencesMeetBothWaysSpec)) fencesMeetBothWaysUptoCard

/-- THE SECOND FORM's CARD OF 'fleetkeep2.VisitsAreApart'. -/
def visitsAreApartUptoCard : Claim7 := { stood := { row := visitsAreApartUptoRow, standIns := [], harness := (true, "ceb5b70c6221fc9697b88acfccdcc6ae181fe9a3b80bf0910890fb2f81931d52"), looks := true }, kinds := [], alts := [], laidByText := true, laidKinds := [.data, .data, .data, .data, .sentinel, .sentinel, .pinned], laidTests := true, laidLooks := .later }
def VisitsAreApartUptoCardSaid : Prop := Claim7.holds Tryz.pinned (.plain (OpenSpec.upto visitsAreApartSpec)) visitsAreApartUptoCard
end Rows
end Go.Proofs.YtddkiphgahpfdaaGreatDoor
