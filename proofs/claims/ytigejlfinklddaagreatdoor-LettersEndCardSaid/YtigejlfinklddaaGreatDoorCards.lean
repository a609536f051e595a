/-
  DERIVED. GIVEN WITH THE SEED: THE CARDS: each row of YtigejlfinklddaaGreatDoorRows.lean that lists a variable, with what it lists TIED to the program's text (the seventh form; the later family's looks); each row that meets fmt, with fmt's text TOLD by the authors' own Lean function (tested against real Go, not proved from fmt's source: count such statements apart). THE CARD IS WHAT COUNTS. Prove the row's statement (the work); the ties are given (YtigejlfinklddaaGreatDoorTie.lean); close each card by the builder's one call (the guide's Derived/Test/ToyasCard.lean, 'card_holds'). Laid BY PROGRAM, IN A SANDBOX (cutbox-door.mjs). By AI agents, Wed Nov 11 2026. No macro, syntax, notation, axiom, sorry.
-/
import Derived.Test.YtigejlfinklddaaGreatDoorRows
import GoSem.ClaimSeven
namespace Go.Proofs.YtigejlfinklddaaGreatDoor
namespace Rows

/-- THE TIED CARD OF 'fleetkeep2.DoneOnce'. -/
def doneOnceCard : Claim7 := { stood := { row := doneOnceRow, standIns := [], harness := (true, "1c501ed88f5cba040b18e43fc291cc8096ac90c6335c61cb8a6d73de81d2578a"), looks := true }, kinds := [], alts := [], laidByText := true, laidKinds := [.data, .data, .data, .data, .sentinel, .sentinel, .pinned], laidTests := true, laidLooks := .later }
def DoneOnceCardSaid : Prop := Claim7.holds Tryz.pinned (.plain (OpenSpec.ofChange doneOnceSpec)) doneOnceCard

/-- THE TIED CARD OF 'fleetkeep2.AgesInSteps'. -/
def agesInStepsCard : Claim7 := { stood := { row := agesInStepsRow, standIns := [], harness := (true, "1c501ed88f5cba040b18e43fc291cc8096ac90c6335c61cb8a6d73de81d2578a"), looks := true }, kinds := [], alts := [], laidByText := true, laidKinds := [.data, .data, .data, .data, .sentinel, .sentinel, .pinned], laidTests := true, laidLooks := .later }
def AgesInStepsCardSaid : Prop := Claim7.holds Tryz.pinned (.plain (OpenSpec.ofChange agesInStepsSpec)) agesInStepsCard

/-- THE TIED CARD OF 'fleetkeep2.LettersEnd'. -/
def lettersEndCard : Claim7 := { stood := { row := lettersEndRow, standIns := [], harness := (true, "1c501ed88f5cba040b18e43fc291cc8096ac90c6335c61cb8a6d73de81d2578a"), looks := true }, kinds := [], alts := [], laidByText := true, laidKinds := [.data, .data, .data, .data, .sentinel, .sentinel, .pinned], laidTests := true, laidLooks := .later }
def LettersEndCardSaid : Prop := Claim7.holds Tryz.pinned (.plain (OpenSpec.ofChange lettersEndSpec)) lettersEndCard

/-- THE TIED CARD OF 'fleetkeep2.SeriesStay'. -/
def seriesStayCard : Claim7 := { stood := { row := seriesStayRow, standIns := [], harness := (true, "1c501ed88f5cba040b18e43fc291cc8096ac90c6335c61cb8a6d73de81d2578a"), looks := true }, kinds := [], alts := [], laidByText := true, laidKinds := [.data, .data, .data, .data, .sentinel, .sentinel, .pinned], laidTests := true, laidLooks := .later }
def SeriesStayCardSaid : Prop := Claim7.holds Tryz.pinned (.plain (OpenSpec.ofChange seriesStaySpec)) seriesStayCard

/-- THE TIED CARD OF 'fleetkeep2.TwinsStay'. -/
def twinsStayCard : Claim7 := { stood := { row := twinsStayRow, standIns := [], harness := (true, "1c501ed88f5cba040b18e43fc291cc8096ac90c6335c61cb8a6d73de81d2578a"), looks := true }, kinds := [], alts := [], laidByText := true, laidKinds := [.data, .data, .data, .data, .sentinel, .sentinel, .pinned], laidTests := true, laidLooks := .later }
def TwinsStayCardSaid : Prop := Claim7.holds Tryz.pinned (.plain (OpenSpec.ofChange twinsStaySpec)) twinsStayCard

/-- THE SECOND FORM's CARD OF 'fleetkeep2.DoneOnce'. -/
def doneOnceUptoCard : Claim7 := { stood := { row := doneOnceUptoRow, standIns := [], harness := (true, "1c501ed88f5cba040b18e43fc291cc8096ac90c6335c61cb8a6d73de81d2578a"), looks := true }, kinds := [], alts := [], laidByText := true, laidKinds := [.data, .data, .data, .data, .sentinel, .sentinel, .pinned], laidTests := true, laidLooks := .later }
def DoneOnceUptoCardSaid : Prop := Claim7.holds Tryz.pinned (.plain (OpenSpec.upto doneOnceSpec)) doneOnceUptoCard

/-- THE SECOND FORM's CARD OF 'fleetkeep2.AgesInSteps'. -/
def agesInStepsUptoCard : Claim7 := { stood := { row := agesInStepsUptoRow, standIns := [], harness := (true, "1c501ed88f5cba040b18e43fc291cc8096ac90c6335c61cb8a6d73de81d2578a"), looks := true }, kinds := [], alts := [], laidByText := true, laidKinds := [.data, .data, .data, .data, .sentinel, .sentinel, .pinned], laidTests := true, laidLooks := .later }
def AgesInStepsUptoCardSaid : Prop := Claim7.holds Tryz.pinned (.plain (OpenSpec.upto agesInStepsSpec)) agesInStepsUptoCard

/-- THE SECOND FORM's CARD OF 'fleetkeep2.LettersEnd'. -/
def lettersEndUptoCard : Claim7 := { stood := { row := lettersEndUptoRow, standIns := [], harness := (true, "1c501ed88f5cba040b18e43fc291cc8096ac90c6335c61cb8a6d73de81d2578a"), looks := true }, kinds := [], alts := [], laidByText := true, laidKinds := [.data, .data, .data, .data, .sentinel, .sentinel, .pinned], laidTests := true, laidLooks := .later }
def LettersEndUptoCardSaid : Prop := Claim7.holds Tryz.pinned (.plain (OpenSpec.upto lettersEndSpec)) lettersEndUptoCard

/-- THE SECOND FORM's CARD OF 'fleetkeep2.SeriesStay'. -/
def seriesStayUptoCard : Claim7 := { stood := { row := seriesStayUptoRow, standIns := [], harness := (true, "1c501ed88f5cba040b18e43fc291cc8096ac90c6335c61cb8a6d73de81d2578a"), looks := true }, kinds := [], alts := [], laidByText := true, laidKinds := [.data, .data, .data, .data, .sentinel, .sentinel, .pinned], laidTests := true, laidLooks := .later }
def SeriesStayUptoCardSaid : Prop := Claim7.holds Tryz.pinned (.plain (OpenSpec.upto seriesStaySpec)) seriesStayUptoCard

/-- THE SECOND FORM's CARD OF 'fleetkeep2.TwinsStay'. -/
def twinsStayUptoCard : Claim7 := { stood := { row := twinsStayUptoRow, standIns := [], harness := (true, "1c501ed88f5cba040b18e43fc291cc8096ac90c6335c61cb8a6d73de81d2578a"), looks := true }, kinds := [], alts := [], laidByText := true, laidKinds := [.data, .data, .data, .data, .sentinel, .sentinel, .pinned], laidTests := true, laidLooks := .later }
def TwinsStayUptoCardSaid : Prop := Claim7.holds Tryz.pinned (.plain (OpenSpec.upto twinsStaySpec)) twinsStayUptoCard
end Rows
end Go.Proofs.YtigejlfinklddaaGreatDoor
