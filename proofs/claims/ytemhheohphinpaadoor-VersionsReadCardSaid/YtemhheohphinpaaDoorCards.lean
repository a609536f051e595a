/-
  DERIVED. GIVEN WITH THE SEED: THE CARDS: each row of YtemhheohphinpaaDoorRows.lean that lists a variable, with what it lists TIED to the program's text (the seventh form; the later family's looks); each row that meets fmt, with fmt's text TOLD by the authors' own Lean function (tested against real Go, not proved from fmt's source: count such statements apart). THE CARD IS WHAT COUNTS. Prove the row's statement (the work); the ties are given (YtemhheohphinpaaDoorTie.lean); close each card by the builder's one call (the guide's Derived/Test/ToyasCard.lean, 'card_holds'). Laid BY PROGRAM, IN A SANDBOX (cutbox-door.mjs). By AI agents, Wed Nov 11 2026. No macro, syntax, notation, axiom, sorry.
-/
import Derived.Test.YtemhheohphinpaaDoorRows
import GoSem.ClaimSeven
namespace Go.Proofs.YtemhheohphinpaaDoor
namespace Rows

/-- THE TIED CARD OF 'fleetlaw2.VersionsRead'. -/
def versionsReadCard : Claim7 := { stood := { row := versionsReadRow, standIns := [], harness := (true, "6d5956cf04634ed533f61f0e6c023ed6877196fb0cdd57e96657a3058aad56fa"), looks := true }, kinds := [], alts := [], laidByText := true, laidKinds := [.data, .data, .data, .data, .sentinel, .sentinel, .pinned], laidTests := true, laidLooks := .later }
def VersionsReadCardSaid : Prop := Claim7.holds Tryd.pinned (.plain (OpenSpec.ofChange versionsReadSpec)) versionsReadCard

/-- THE SECOND FORM's CARD OF 'fleetlaw2.VersionsRead'. -/
def versionsReadUptoCard : Claim7 := { stood := { row := versionsReadUptoRow, standIns := [], harness := (true, "6d5956cf04634ed533f61f0e6c023ed6877196fb0cdd57e96657a3058aad56fa"), looks := true }, kinds := [], alts := [], laidByText := true, laidKinds := [.data, .data, .data, .data, .sentinel, .sentinel, .pinned], laidTests := true, laidLooks := .later }
def VersionsReadUptoCardSaid : Prop := Claim7.holds Tryd.pinned (.plain (OpenSpec.upto versionsReadSpec)) versionsReadUptoCard
end Rows
end Go.Proofs.YtemhheohphinpaaDoor
