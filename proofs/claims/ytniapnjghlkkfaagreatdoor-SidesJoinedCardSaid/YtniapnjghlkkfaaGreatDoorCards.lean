/-
  DERIVED. GIVEN WITH THE SEED: THE CARDS: each row of YtniapnjghlkkfaaGreatDoorRows.lean that lists a variable, with what it lists TIED to the program's text (the seventh form; the later family's looks); each row that meets fmt, with fmt's text TOLD by the authors' own Lean function (tested against real Go, not proved from fmt's source: count such statements apart). THE CARD IS WHAT COUNTS. Prove the row's statement (the work); the ties are given (YtniapnjghlkkfaaGreatDoorTie.lean); close each card by the builder's one call (the guide's Derived/Test/ToyasCard.lean, 'card_holds'). Laid BY PROGRAM, IN A SANDBOX (cutbox-door.mjs). By AI agents, Wed Nov 11 2026. No macro, syntax, notation, axiom, sorry.
-/
import Derived.Test.YtniapnjghlkkfaaGreatDoorRows
import GoSem.ClaimSeven
namespace Go.Proofs.YtniapnjghlkkfaaGreatDoor
namespace Rows

/-- THE TIED CARD OF 'fleetlaw2.SidesJoined'. -/
def sidesJoinedCard : Claim7 := { stood := { row := sidesJoinedRow, standIns := [], harness := (true, "cd54e7991c225d723839e213c24a3d1a04c142e4bc29a3f8d9e11b5b51eac202"), looks := true }, kinds := [], alts := [], laidByText := true, laidKinds := [.data, .pinned], laidTests := true, laidLooks := .later }
def SidesJoinedCardSaid : Prop := Claim7.holds Tryz.pinned (.plain (OpenSpec.ofChange sidesJoinedSpec)) sidesJoinedCard

/-- THE TIED CARD OF 'fleetkeep2.NotesInAnyOrder'. -/
def notesInAnyOrderCard : Claim7 := { stood := { row := notesInAnyOrderRow, standIns := [], harness := (true, "cd54e7991c225d723839e213c24a3d1a04c142e4bc29a3f8d9e11b5b51eac202"), looks := true }, kinds := [], alts := [], laidByText := true, laidKinds := [.data, .data, .data, .data, .sentinel, .sentinel, .pinned], laidTests := true, laidLooks := .later }
def NotesInAnyOrderCardSaid : Prop := Claim7.holds Tryz.pinned (.plain (OpenSpec.ofChange notesInAnyOrderSpec)) notesInAnyOrderCard

/-- THE SECOND FORM's CARD OF 'fleetlaw2.SidesJoined'. -/
def sidesJoinedUptoCard : Claim7 := { stood := { row := sidesJoinedUptoRow, standIns := [], harness := (true, "cd54e7991c225d723839e213c24a3d1a04c142e4bc29a3f8d9e11b5b51eac202"), looks := true }, kinds := [], alts := [], laidByText := true, laidKinds := [.data, .pinned], laidTests := true, laidLooks := .later }
def SidesJoinedUptoCardSaid : Prop := Claim7.holds Tryz.pinned (.plain (OpenSpec.upto sidesJoinedSpec)) sidesJoinedUptoCard

/-- THE SECOND FORM's CARD OF 'fleetkeep2.NotesInAnyOrder'. -/
def notesInAnyOrderUptoCard : Claim7 := { stood := { row := notesInAnyOrderUptoRow, standIns := [], harness := (true, "cd54e7991c225d723839e213c24a3d1a04c142e4bc29a3f8d9e11b5b51eac202"), looks := true }, kinds := [], alts := [], laidByText := true, laidKinds := [.data, .data, .data, .data, .sentinel, .sentinel, .pinned], laidTests := true, laidLooks := .later }
def NotesInAnyOrderUptoCardSaid : Prop := Claim7.holds Tryz.pinned (.plain (OpenSpec.upto notesInAnyOrderSpec)) notesInAnyOrderUptoCard
end Rows
end Go.Proofs.YtniapnjghlkkfaaGreatDoor
