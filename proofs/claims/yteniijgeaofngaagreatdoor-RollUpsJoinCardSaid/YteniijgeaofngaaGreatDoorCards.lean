/-
  DERIVED. GIVEN WITH THE SEED: THE CARDS: each row of YteniijgeaofngaaGreatDoorRows.lean that lists a variable, with what it lists TIED to the program's text (the seventh form; the later family's looks); each row that meets fmt, with fmt's text TOLD by the authors' own Lean function (tested against real Go, not proved from fmt's source: count such statements apart). THE CARD IS WHAT COUNTS. Prove the row's statement (the work); the ties are given (YteniijgeaofngaaGreatDoorTie.lean); close each card by the builder's one call (the guide's Derived/Test/ToyasCard.lean, 'card_holds'). Laid BY PROGRAM, IN A SANDBOX (cutbox-door.mjs). By AI agents, Wed Nov 11 2026. No macro, syntax, notation, axiom, sorry.
-/
import Derived.Test.YteniijgeaofngaaGreatDoorRows
import GoSem.ClaimSeven
namespace Go.Proofs.YteniijgeaofngaaGreatDoor
namespace Rows

/-- THE TIED CARD OF 'fleetkeep2.CountersAddUp'. -/
def countersAddUpCard : Claim7 := { stood := { row := countersAddUpRow, standIns := [], harness := (true, "acf3e4134d948ce490e4caf80355b5799d86aa6d181c884cf645d64e5c57d0e7"), looks := true }, kinds := [], alts := [], laidByText := true, laidKinds := [.data, .data, .data, .data, .sentinel, .sentinel, .pinned], laidTests := true, laidLooks := .later }
def CountersAddUpCardSaid : Prop := Claim7.holds Tryz.pinned (.plain (OpenSpec.ofChange countersAddUpSpec)) countersAddUpCard

/-- THE TIED CARD OF 'fleetkeep2.ThinKeepsEnds'. -/
def thinKeepsEndsCard : Claim7 := { stood := { row := thinKeepsEndsRow, standIns := [], harness := (true, "acf3e4134d948ce490e4caf80355b5799d86aa6d181c884cf645d64e5c57d0e7"), looks := true }, kinds := [], alts := [], laidByText := true, laidKinds := [.data, .data, .data, .data, .sentinel, .sentinel, .pinned], laidTests := true, laidLooks := .later }
def ThinKeepsEndsCardSaid : Prop := Claim7.holds Tryz.pinned (.plain (OpenSpec.ofChange thinKeepsEndsSpec)) thinKeepsEndsCard

/-- THE TIED CARD OF 'fleetkeep2.ValuesMeet'. -/
def valuesMeetCard : Claim7 := { stood := { row := valuesMeetRow, standIns := [], harness := (true, "acf3e4134d948ce490e4caf80355b5799d86aa6d181c884cf645d64e5c57d0e7"), looks := true }, kinds := [], alts := [], laidByText := true, laidKinds := [.data, .data, .data, .data, .sentinel, .sentinel, .pinned], laidTests := true, laidLooks := .later }
def ValuesMeetCardSaid : Prop := Claim7.holds Tryz.pinned (.plain (OpenSpec.ofChange valuesMeetSpec)) valuesMeetCard

/-- THE TIED CARD OF 'fleetkeep2.RollUpsJoin'. -/
def rollUpsJoinCard : Claim7 := { stood := { row := rollUpsJoinRow, standIns := [], harness := (true, "acf3e4134d948ce490e4caf80355b5799d86aa6d181c884cf645d64e5c57d0e7"), looks := true }, kinds := [], alts := [], laidByText := true, laidKinds := [.data, .data, .data, .data, .sentinel, .sentinel, .pinned], laidTests := true, laidLooks := .later }
def RollUpsJoinCardSaid : Prop := Claim7.holds Tryz.pinned (.plain (OpenSpec.ofChange rollUpsJoinSpec)) rollUpsJoinCard

/-- THE TIED CARD OF 'fleetkeep2.SeriesStay'. -/
def seriesStayCard : Claim7 := { stood := { row := seriesStayRow, standIns := [], harness := (true, "acf3e4134d948ce490e4caf80355b5799d86aa6d181c884cf645d64e5c57d0e7"), looks := true }, kinds := [], alts := [], laidByText := true, laidKinds := [.data, .data, .data, .data, .sentinel, .sentinel, .pinned], laidTests := true, laidLooks := .later }
def SeriesStayCardSaid : Prop := Claim7.holds Tryz.pinned (.plain (OpenSpec.ofChange seriesStaySpec)) seriesStayCard

/-- THE TIED CARD OF 'fleetlaw2.LettersChecked'. -/
def lettersCheckedCard : Claim7 := { stood := { row := lettersCheckedRow, standIns := [], harness := (true, "acf3e4134d948ce490e4caf80355b5799d86aa6d181c884cf645d64e5c57d0e7"), looks := true }, kinds := [], alts := [], laidByText := true, laidKinds := [.data, .pinned], laidTests := true, laidLooks := .later }
def LettersCheckedCardSaid : Prop := Claim7.holds Tryz.pinned (.plain (OpenSpec.ofChange lettersCheckedSpec)) lettersCheckedCard

/-- THE SECOND FORM's CARD OF 'fleetkeep2.CountersAddUp'. -/
def countersAddUpUptoCard : Claim7 := { stood := { row := countersAddUpUptoRow, standIns := [], harness := (true, "acf3e4134d948ce490e4caf80355b5799d86aa6d181c884cf645d64e5c57d0e7"), looks := true }, kinds := [], alts := [], laidByText := true, laidKinds := [.data, .data, .data, .data, .sentinel, .sentinel, .pinned], laidTests := true, laidLooks := .later }
def CountersAddUpUptoCardSaid : Prop := Claim7.holds Tryz.pinned (.plain (OpenSpec.upto countersAddUpSpec)) countersAddUpUptoCard

/-- THE SECOND FORM's CARD OF 'fleetkeep2.ThinKeepsEnds'. -/
def thinKeepsEndsUptoCard : Claim7 := { stood := { row := thinKeepsEndsUptoRow, standIns := [], harness := (true, "acf3e4134d948ce490e4caf80355b5799d86aa6d181c884cf645d64e5c57d0e7"), looks := true }, kinds := [], alts := [], laidByText := true, laidKinds := [.data, .data, .data, .data, .sentinel, .sentinel, .pinned], laidTests := true, laidLooks := .later }
def ThinKeepsEndsUptoCardSaid : Prop := Claim7.holds Tryz.pinned (.plain (OpenSpec.upto thinKeepsEndsSpec)) thinKeepsEndsUptoCard

/-- THE SECOND FORM's CARD OF 'fleetkeep2.ValuesMeet'. -/
def valuesMeetUptoCard : Claim7 := { stood := { row := valuesMeetUptoRow, standIns := [], harness := (true, "acf3e4134d948ce490e4caf80355b5799d86aa6d181c884cf645d64e5c57d0e7"), looks := true }, kinds := [], alts := [], laidByText := true, laidKinds := [.data, .data, .data, .data, .sentinel, .sentinel, .pinned], laidTests := true, laidLooks := .later }
def ValuesMeetUptoCardSaid : Prop := Claim7.holds Tryz.pinned (.plain (OpenSpec.upto valuesMeetSpec)) valuesMeetUptoCard

/-- THE SECOND FORM's CARD OF 'fleetkeep2.RollUpsJoin'. -/
def rollUpsJoinUptoCard : Claim7 := { stood := { row := rollUpsJoinUptoRow, standIns := [], harness := (true, "acf3e4134d948ce490e4caf80355b5799d86aa6d181c884cf645d64e5c57d0e7"), looks := true }, kinds := [], alts := [], laidByText := true, laidKinds := [.data, .data, .data, .data, .sentinel, .sentinel, .pinned], laidTests := true, laidLooks := .later }
def RollUpsJoinUptoCardSaid : Prop := Claim7.holds Tryz.pinned (.plain (OpenSpec.upto rollUpsJoinSpec)) rollUpsJoinUptoCard

/-- THE SECOND FORM's CARD OF 'fleetkeep2.SeriesStay'. -/
def seriesStayUptoCard : Claim7 := { stood := { row := seriesStayUptoRow, standIns := [], harness := (true, "acf3e4134d948ce490e4caf80355b5799d86aa6d181c884cf645d64e5c57d0e7"), looks := true }, kinds := [], alts := [], laidByText := true, laidKinds := [.data, .data, .data, .data, .sentinel, .sentinel, .pinned], laidTests := true, laidLooks := .later }
def SeriesStayUptoCardSaid : Prop := Claim7.holds Tryz.pinned (.plain (OpenSpec.upto seriesStaySpec)) seriesStayUptoCard

/-- THE SECOND FORM's CARD OF 'fleetlaw2.LettersChecked'. -/
def lettersCheckedUptoCard : Claim7 := { stood := { row := lettersCheckedUptoRow, standIns := [], harness := (true, "acf3e4134d948ce490e4caf80355b5799d86aa6d181c884cf645d64e5c57d0e7"), looks := true }, kinds := [], alts := [], laidByText := true, laidKinds := [.data, .pinned], laidTests := true, laidLooks := .later }
def LettersCheckedUptoCardSaid : Prop := Claim7.holds Tryz.pinned (.plain (OpenSpec.upto lettersCheckedSpec)) lettersCheckedUptoCard
end Rows
end Go.Proofs.YteniijgeaofngaaGreatDoor
