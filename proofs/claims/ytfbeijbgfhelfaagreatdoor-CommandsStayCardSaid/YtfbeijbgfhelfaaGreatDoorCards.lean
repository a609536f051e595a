/-
  DERIVED. GIVEN WITH THE SEED: THE CARDS: each row of YtfbeijbgfhelfaaGreatDoorRows.lean that lists a variable, with what it lists TIED to the program's text (the seventh form; the later family's looks); each row that meets fmt, with fmt's text TOLD by the authors' own Lean function (tested against real Go, not proved from fmt's source: count such statements apart). THE CARD IS WHAT COUNTS. Prove the row's statement (the work); the ties are given (YtfbeijbgfhelfaaGreatDoorTie.lean); close each card by the builder's one call (the guide's Derived/Test/ToyasCard.lean, 'card_holds'). Laid BY PROGRAM, IN A SANDBOX (cutbox-door.mjs). By AI agents, Wed Nov 11 2026. No macro, syntax, notation, axiom, sorry.
-/
import Derived.Test.YtfbeijbgfhelfaaGreatDoorRows
import GoSem.ClaimSeven
namespace Go.Proofs.YtfbeijbgfhelfaaGreatDoor
namespace Rows

/-- THE TIED CARD OF 'fleetlaw2.DevicesRemember'. -/
def devicesRememberCard : Claim7 := { stood := { row := devicesRememberRow, standIns := [], harness := (true, "ab3748c93c89fea4751e969dc5d58ba73b9b8f4f8e37ebaba310d9e512e52e3f"), looks := true }, kinds := [], alts := [], laidByText := true, laidKinds := [.data, .pinned], laidTests := true, laidLooks := .later }
def DevicesRememberCardSaid : Prop := Claim7.holds Tryz.pinned (.plain (OpenSpec.ofChange devicesRememberSpec)) devicesRememberCard

/-- THE TIED CARD OF 'fleetlaw2.OfficesKeep'. -/
def officesKeepCard : Claim7 := { stood := { row := officesKeepRow, standIns := [], harness := (true, "ab3748c93c89fea4751e969dc5d58ba73b9b8f4f8e37ebaba310d9e512e52e3f"), looks := true }, kinds := [], alts := [], laidByText := true, laidKinds := [.data, .pinned], laidTests := true, laidLooks := .later }
def OfficesKeepCardSaid : Prop := Claim7.holds Tryz.pinned (.plain (OpenSpec.ofChange officesKeepSpec)) officesKeepCard

/-- THE TIED CARD OF 'fleetlaw2.LettersChecked'. -/
def lettersCheckedCard : Claim7 := { stood := { row := lettersCheckedRow, standIns := [], harness := (true, "ab3748c93c89fea4751e969dc5d58ba73b9b8f4f8e37ebaba310d9e512e52e3f"), looks := true }, kinds := [], alts := [], laidByText := true, laidKinds := [.data, .pinned], laidTests := true, laidLooks := .later }
def LettersCheckedCardSaid : Prop := Claim7.holds Tryz.pinned (.plain (OpenSpec.ofChange lettersCheckedSpec)) lettersCheckedCard

/-- THE TIED CARD OF 'fleetlaw2.TwinsSettle'. -/
def twinsSettleCard : Claim7 := { stood := { row := twinsSettleRow, standIns := [], harness := (true, "ab3748c93c89fea4751e969dc5d58ba73b9b8f4f8e37ebaba310d9e512e52e3f"), looks := true }, kinds := [], alts := [], laidByText := true, laidKinds := [.data, .pinned], laidTests := true, laidLooks := .later }
def TwinsSettleCardSaid : Prop := Claim7.holds Tryz.pinned (.plain (OpenSpec.ofChange twinsSettleSpec)) twinsSettleCard

/-- THE TIED CARD OF 'fleetkeep2.DoneOnce'. -/
def doneOnceCard : Claim7 := { stood := { row := doneOnceRow, standIns := [], harness := (true, "ab3748c93c89fea4751e969dc5d58ba73b9b8f4f8e37ebaba310d9e512e52e3f"), looks := true }, kinds := [], alts := [], laidByText := true, laidKinds := [.data, .data, .data, .data, .sentinel, .sentinel, .pinned], laidTests := true, laidLooks := .later }
def DoneOnceCardSaid : Prop := Claim7.holds Tryz.pinned (.plain (OpenSpec.ofChange doneOnceSpec)) doneOnceCard

/-- THE TIED CARD OF 'fleetkeep2.CommandsStay'. -/
def commandsStayCard : Claim7 := { stood := { row := commandsStayRow, standIns := [], harness := (true, "ab3748c93c89fea4751e969dc5d58ba73b9b8f4f8e37ebaba310d9e512e52e3f"), looks := true }, kinds := [], alts := [], laidByText := true, laidKinds := [.data, .data, .data, .data, .sentinel, .sentinel, .pinned], laidTests := true, laidLooks := .later }
def CommandsStayCardSaid : Prop := Claim7.holds Tryz.pinned (.plain (OpenSpec.ofChange commandsStaySpec)) commandsStayCard

/-- THE SECOND FORM's CARD OF 'fleetlaw2.DevicesRemember'. -/
def devicesRememberUptoCard : Claim7 := { stood := { row := devicesRememberUptoRow, standIns := [], harness := (true, "ab3748c93c89fea4751e969dc5d58ba73b9b8f4f8e37ebaba310d9e512e52e3f"), looks := true }, kinds := [], alts := [], laidByText := true, laidKinds := [.data, .pinned], laidTests := true, laidLooks := .later }
def DevicesRememberUptoCardSaid : Prop := Claim7.holds Tryz.pinned (.plain (OpenSpec.upto devicesRememberSpec)) devicesRememberUptoCard

/-- THE SECOND FORM's CARD OF 'fleetlaw2.OfficesKeep'. -/
def officesKeepUptoCard : Claim7 := { stood := { row := officesKeepUptoRow, standIns := [], harness := (true, "ab3748c93c89fea4751e969dc5d58ba73b9b8f4f8e37ebaba310d9e512e52e3f"), looks := true }, kinds := [], alts := [], laidByText := true, laidKinds := [.data, .pinned], laidTests := true, laidLooks := .later }
def OfficesKeepUptoCardSaid : Prop := Claim7.holds Tryz.pinned (.plain (OpenSpec.upto officesKeepSpec)) officesKeepUptoCard

/-- THE SECOND FORM's CARD OF 'fleetlaw2.LettersChecked'. -/
def lettersCheckedUptoCard : Claim7 := { stood := { row := lettersCheckedUptoRow, standIns := [], harness := (true, "ab3748c93c89fea4751e969dc5d58ba73b9b8f4f8e37ebaba310d9e512e52e3f"), looks := true }, kinds := [], alts := [], laidByText := true, laidKinds := [.data, .pinned], laidTests := true, laidLooks := .later }
def LettersCheckedUptoCardSaid : Prop := Claim7.holds Tryz.pinned (.plain (OpenSpec.upto lettersCheckedSpec)) lettersCheckedUptoCard

/-- THE SECOND FORM's CARD OF 'fleetlaw2.TwinsSettle'. -/
def twinsSettleUptoCard : Claim7 := { stood := { row := twinsSettleUptoRow, standIns := [], harness := (true, "ab3748c93c89fea4751e969dc5d58ba73b9b8f4f8e37ebaba310d9e512e52e3f"), looks := true }, kinds := [], alts := [], laidByText := true, laidKinds := [.data, .pinned], laidTests := true, laidLooks := .later }
def TwinsSettleUptoCardSaid : Prop := Claim7.holds Tryz.pinned (.plain (OpenSpec.upto twinsSettleSpec)) twinsSettleUptoCard

/-- THE SECOND FORM's CARD OF 'fleetkeep2.DoneOnce'. -/
def doneOnceUptoCard : Claim7 := { stood := { row := doneOnceUptoRow, standIns := [], harness := (true, "ab3748c93c89fea4751e969dc5d58ba73b9b8f4f8e37ebaba310d9e512e52e3f"), looks := true }, kinds := [], alts := [], laidByText := true, laidKinds := [.data, .data, .data, .data, .sentinel, .sentinel, .pinned], laidTests := true, laidLooks := .later }
def DoneOnceUptoCardSaid : Prop := Claim7.holds Tryz.pinned (.plain (OpenSpec.upto doneOnceSpec)) doneOnceUptoCard

/-- THE SECOND FORM's CARD OF 'fleetkeep2.CommandsStay'. -/
def commandsStayUptoCard : Claim7 := { stood := { row := commandsStayUptoRow, standIns := [], harness := (true, "ab3748c93c89fea4751e969dc5d58ba73b9b8f4f8e37ebaba310d9e512e52e3f"), looks := true }, kinds := [], alts := [], laidByText := true, laidKinds := [.data, .data, .data, .data, .sentinel, .sentinel, .pinned], laidTests := true, laidLooks := .later }
def CommandsStayUptoCardSaid : Prop := Claim7.holds Tryz.pinned (.plain (OpenSpec.upto commandsStaySpec)) commandsStayUptoCard
end Rows
end Go.Proofs.YtfbeijbgfhelfaaGreatDoor
