/-
  DERIVED. GIVEN WITH THE SEED: THE CARDS: each row of YtnolfbkibkgolaaGreatDoorRows.lean that lists a variable, with what it lists TIED to the program's text (the seventh form; the later family's looks); each row that meets fmt, with fmt's text TOLD by the authors' own Lean function (tested against real Go, not proved from fmt's source: count such statements apart). THE CARD IS WHAT COUNTS. Prove the row's statement (the work); the ties are given (YtnolfbkibkgolaaGreatDoorTie.lean); close each card by the builder's one call (the guide's Derived/Test/ToyasCard.lean, 'card_holds'). Laid BY PROGRAM, IN A SANDBOX (cutbox-door.mjs). By AI agents, Wed Nov 11 2026. No macro, syntax, notation, axiom, sorry.
-/
import Derived.Test.YtnolfbkibkgolaaGreatDoorRows
import GoSem.ClaimSeven
namespace Go.Proofs.YtnolfbkibkgolaaGreatDoor
namespace Rows

/-- THE TIED CARD OF 'fleettop.TopVisitsFromPlainTracks'. -/
def topVisitsFromPlainTracksCard : Claim7 := { stood := { row := topVisitsFromPlainTracksRow, standIns := [], harness := (true, "2f17e3b815ca09f6ea7d668327d13dc5b2f630d9d9bdd59fd08b7ff970af3a79"), looks := true }, kinds := [], alts := [], laidByText := true, laidKinds := [.data, .data, .data, .data, .sentinel, .sentinel, .pinned], laidTests := true, laidLooks := .later }
def TopVisitsFromPlainTracksCardSaid : Prop := Claim7.holds Tryz.pinned (.plain (OpenSpec.ofChange topVisitsFromPlainTracksSpec)) topVisitsFromPlainTracksCard

/-- THE TIED CARD OF 'fleetkeep2.TracksStayPlain'. -/
def tracksStayPlainCard : Claim7 := { stood := { row := tracksStayPlainRow, standIns := [], harness := (true, "2f17e3b815ca09f6ea7d668327d13dc5b2f630d9d9bdd59fd08b7ff970af3a79"), looks := true }, kinds := [], alts := [], laidByText := true, laidKinds := [.data, .data, .data, .data, .sentinel, .sentinel, .pinned], laidTests := true, laidLooks := .later }
def TracksStayPlainCardSaid : Prop := Claim7.holds Tryz.pinned (.plain (OpenSpec.ofChange tracksStayPlainSpec)) tracksStayPlainCard

/-- THE TIED CARD OF 'fleetkeep2.PlacesStay'. -/
def placesStayCard : Claim7 := { stood := { row := placesStayRow, standIns := [], harness := (true, "2f17e3b815ca09f6ea7d668327d13dc5b2f630d9d9bdd59fd08b7ff970af3a79"), looks := true }, kinds := [], alts := [], laidByText := true, laidKinds := [.data, .data, .data, .data, .sentinel, .sentinel, .pinned], laidTests := true, laidLooks := .later }
def PlacesStayCardSaid : Prop := Claim7.holds Tryz.pinned (.plain (OpenSpec.ofChange placesStaySpec)) placesStayCard

/-- THE SECOND FORM's CARD OF 'fleettop.TopVisitsFromPlainTracks'. -/
def topVisitsFromPlainTracksUptoCard : Claim7 := { stood := { row := topVisitsFromPlainTracksUptoRow, standIns := [], harness := (true, "2f17e3b815ca09f6ea7d668327d13dc5b2f630d9d9bdd59fd08b7ff970af3a79"), looks := true }, kinds := [], alts := [], laidByText := true, laidKinds := [.data, .data, .data, .data, .sentinel, .sentinel, .pinned], laidTests := true, laidLooks := .later }
def TopVisitsFromPlainTracksUptoCardSaid : Prop := Claim7.holds Tryz.pinned (.plain (OpenSpec.upto topVisitsFromPlainTracksSpec)) topVisitsFromPlainTracksUptoCard

/-- THE SECOND FORM's CARD OF 'fleetkeep2.TracksStayPlain'. -/
def tracksStayPlainUptoCard : Claim7 := { stood := { row := tracksStayPlainUptoRow, standIns := [], harness := (true, "2f17e3b815ca09f6ea7d668327d13dc5b2f630d9d9bdd59fd08b7ff970af3a79"), looks := true }, kinds := [], alts := [], laidByText := true, laidKinds := [.data, .data, .data, .data, .sentinel, .sentinel, .pinned], laidTests := true, laidLooks := .later }
def TracksStayPlainUptoCardSaid : Prop := Claim7.holds Tryz.pinned (.plain (OpenSpec.upto tracksStayPlainSpec)) tracksStayPlainUptoCard

/-- THE SECOND FORM's CARD OF 'fleetkeep2.PlacesStay'. -/
def placesStayUptoCard : Claim7 := { stood := { row := placesStayUptoRow, standIns := [], harness := (true, "2f17e3b815ca09f6ea7d668327d13dc5b2f630d9d9bdd59fd08b7ff970af3a79"), looks := true }, kinds := [], alts := [], laidByText := true, laidKinds := [.data, .data, .data, .data, .sentinel, .sentinel, .pinned], laidTests := true, laidLooks := .later }
def PlacesStayUptoCardSaid : Prop := Claim7.holds Tryz.pinned (.plain (OpenSpec.upto placesStaySpec)) placesStayUptoCard
end Rows
end Go.Proofs.YtnolfbkibkgolaaGreatDoor
