/-
  DERIVED. GIVEN WITH THE SEED: THE CARDS: each row of YtgjgjnfglkdgaaaGreatDoorRows.lean that lists a variable, with what it lists TIED to the program's text (the seventh form; the later family's looks); each row that meets fmt, with fmt's text TOLD by the authors' own Lean function (tested against real Go, not proved from fmt's source: count such statements apart). THE CARD IS WHAT COUNTS. Prove the row's statement (the work); the ties are given (YtgjgjnfglkdgaaaGreatDoorTie.lean); close each card by the builder's one call (the guide's Derived/Test/ToyasCard.lean, 'card_holds'). Laid BY PROGRAM, IN A SANDBOX (cutbox-door.mjs). By AI agents, Wed Nov 11 2026. No macro, syntax, notation, axiom, sorry.
-/
import Derived.Test.YtgjgjnfglkdgaaaGreatDoorRows
import GoSem.ClaimSeven
namespace Go.Proofs.YtgjgjnfglkdgaaaGreatDoor
namespace Rows

/-- THE TIED CARD OF 'fleettop.TopCellsAndFences'. -/
def topCellsAndFencesCard : Claim7 := { stood := { row := topCellsAndFencesRow, standIns := [], harness := (true, "706632f64788d5f2ff6dc06adf030824bf0b1c6c3b75249c2e867876c170aa81"), looks := true }, kinds := [], alts := [], laidByText := true, laidKinds := [.data, .data, .data, .data, .sentinel, .sentinel, .pinned], laidTests := true, laidLooks := .later }
def TopCellsAndFencesCardSaid : Prop := Claim7.holds Tryz.pinned (.plain (OpenSpec.ofChange topCellsAndFencesSpec)) topCellsAndFencesCard

/-- THE TIED CARD OF 'fleetkeep2.CellsNest'. -/
def cellsNestCard : Claim7 := { stood := { row := cellsNestRow, standIns := [], harness := (true, "706632f64788d5f2ff6dc06adf030824bf0b1c6c3b75249c2e867876c170aa81"), looks := true }, kinds := [], alts := [], laidByText := true, laidKinds := [.data, .data, .data, .data, .sentinel, .sentinel, .pinned], laidTests := true, laidLooks := .later }
def CellsNestCardSaid : Prop := Claim7.holds Tryz.pinned (.plain (OpenSpec.ofChange cellsNestSpec)) cellsNestCard

/-- THE SECOND FORM's CARD OF 'fleettop.TopCellsAndFences'. -/
def topCellsAndFencesUptoCard : Claim7 := { stood := { row := topCellsAndFencesUptoRow, standIns := [], harness := (true, "706632f64788d5f2ff6dc06adf030824bf0b1c6c3b75249c2e867876c170aa81"), looks := true }, kinds := [], alts := [], laidByText := true, laidKinds := [.data, .data, .data, .data, .sentinel, .sentinel, .pinned], laidTests := true, laidLooks := .later }
def TopCellsAndFencesUptoCardSaid : Prop := Claim7.holds Tryz.pinned (.plain (OpenSpec.upto topCellsAndFencesSpec)) topCellsAndFencesUptoCard

/-- THE SECOND FORM's CARD OF 'fleetkeep2.CellsNest'. -/
def cellsNestUptoCard : Claim7 := { stood := { row := cellsNestUptoRow, standIns := [], harness := (true, "706632f64788d5f2ff6dc06adf030824bf0b1c6c3b75249c2e867876c170aa81"), looks := true }, kinds := [], alts := [], laidByText := true, laidKinds := [.data, .data, .data, .data, .sentinel, .sentinel, .pinned], laidTests := true, laidLooks := .later }
def CellsNestUptoCardSaid : Prop := Claim7.holds Tryz.pinned (.plain (OpenSpec.upto cellsNestSpec)) cellsNestUptoCard
end Rows
end Go.Proofs.YtgjgjnfglkdgaaaGreatDoor
