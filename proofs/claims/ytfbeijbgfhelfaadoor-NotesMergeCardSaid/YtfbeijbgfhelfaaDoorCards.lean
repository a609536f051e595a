/-
  DERIVED. GIVEN WITH THE SEED: THE CARDS: each row of YtfbeijbgfhelfaaDoorRows.lean that lists a variable, with what it lists TIED to the program's text (the seventh form; the later family's looks); each row that meets fmt, with fmt's text TOLD by the authors' own Lean function (tested against real Go, not proved from fmt's source: count such statements apart). THE CARD IS WHAT COUNTS. Prove the row's statement (the work); the ties are given (YtfbeijbgfhelfaaDoorTie.lean); close each card by the builder's one call (the guide's Derived/Test/ToyasCard.lean, 'card_holds'). Laid BY PROGRAM, IN A SANDBOX (cutbox-door.mjs). By AI agents, Wed Nov 11 2026. No macro, syntax, notation, axiom, sorry.
-/
import Derived.Test.YtfbeijbgfhelfaaDoorRows
import GoSem.ClaimSeven
namespace Go.Proofs.YtfbeijbgfhelfaaDoor
namespace Rows

/-- THE TIED CARD OF 'fleetlaw2.NotesMerge'. -/
def notesMergeCard : Claim7 := { stood := { row := notesMergeRow, standIns := [], harness := (true, "40ff8fa9d90ba4cb13d025584386f2662c7a179040514c05b7e56dccc90ad72f"), looks := false }, kinds := [], alts := [], laidByText := true, laidKinds := [.data, .pinned], laidTests := true, laidLooks := .later }
def NotesMergeCardSaid : Prop := Claim7.holds Tryd.pinned (.plain (OpenSpec.ofChange notesMergeSpec)) notesMergeCard

/-- THE SECOND FORM's CARD OF 'fleetlaw2.NotesMerge'. -/
def notesMergeUptoCard : Claim7 := { stood := { row := notesMergeUptoRow, standIns := [], harness := (true, "40ff8fa9d90ba4cb13d025584386f2662c7a179040514c05b7e56dccc90ad72f"), looks := false }, kinds := [], alts := [], laidByText := true, laidKinds := [.data, .pinned], laidTests := true, laidLooks := .later }
def NotesMergeUptoCardSaid : Prop := Claim7.holds Tryd.pinned (.plain (OpenSpec.upto notesMergeSpec)) notesMergeUptoCard
end Rows
end Go.Proofs.YtfbeijbgfhelfaaDoor
