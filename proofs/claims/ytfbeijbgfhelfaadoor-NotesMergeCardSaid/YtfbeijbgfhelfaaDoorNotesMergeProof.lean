/-
The law NotesMerge holds at every input: its tied card. Conditions: none beyond the given statement's own (the listed package-level variables read as the program's text lays them; the tie is given).
-/
import Derived.Test.YtfbeijbgfhelfaaDoorRows
import Derived.Test.YtfbeijbgfhelfaaDoorNotesMergeLift
import Derived.WalkKit
import Derived.ProofKit
import Derived.OpenShut
import Derived.ShutString
import Derived.ChangeOld
import Derived.Below
import Derived.LaidMore
import Derived.Lay
import Derived.LaidOnce
import Derived.SevenTiedAt
import Derived.Stop.Joined
import Derived.Test.YtfbeijbgfhelfaaDoorCards
import Derived.Test.YtfbeijbgfhelfaaDoorTie
import Derived.Test.YtfbeijbgfhelfaaDoorEngW
import Derived.Test.YtfbeijbgfhelfaaDoorGenP2
import Derived.Test.YtfbeijbgfhelfaaDoorPlainA
namespace Go.Proofs.YtfbeijbgfhelfaaDoor.notesMerge
open Go.ChangeShapes Go.WideShapes Go.ChangeAt Go.RowKit
open Go.ChangeMaps (open_string shut_string)
set_option linter.unusedVariables false

theorem and2 {a b : Bool} (h1 : a = true) (h2 : b = true) : (a && b) = true := by rw [h1, h2]; rfl
theorem card_name : Tryd.prog.funcNamed "beaconfleet/fleetlaw2.NotesMerge" = some 3 := by kernel_rfl
set_option maxHeartbeats 0 in
theorem closed : joinedFacts Tryd.prog 3 Tryd.f3 Rows.notesMergeSpec Rows.notesMergeRow = true := by
  unfold joinedFacts
  exact (and2 (and2 (and2 (and2 (and2 (and2 (and2 (and2 (and2 (and2 (and2 (and2 (and2 (and2 (and2 (and2 (and2 (and2 (and2 (and2 (and2 (by as_aux_lemma => kernel_rfl) (by as_aux_lemma => kernel_rfl)) (by as_aux_lemma => kernel_rfl)) (by as_aux_lemma => kernel_rfl)) (by as_aux_lemma => kernel_rfl)) (by as_aux_lemma => kernel_rfl)) (by as_aux_lemma => kernel_rfl)) (by as_aux_lemma => kernel_rfl)) (by as_aux_lemma => kernel_rfl)) (by as_aux_lemma => kernel_rfl)) (by as_aux_lemma => kernel_rfl)) (by as_aux_lemma => kernel_rfl)) (by as_aux_lemma => kernel_rfl)) (by as_aux_lemma => kernel_rfl)) (by as_aux_lemma => kernel_rfl)) (by as_aux_lemma => kernel_rfl)) (by as_aux_lemma => kernel_rfl)) (by as_aux_lemma => kernel_rfl)) (by as_aux_lemma => kernel_rfl)) (by as_aux_lemma => kernel_rfl)) (by as_aux_lemma => kernel_rfl)) (by as_aux_lemma => kernel_rfl))

theorem over : Rows.notesMergeRow.holds Tryd.pinned (OpenSpec.ofChange Rows.notesMergeSpec) :=
  OpenClaim.holds_of_wide 3 Tryd.f3 rfl rfl rfl rfl rfl rfl rfl ⟨rfl, rfl, rfl, rfl, rfl⟩ rfl rfl rfl rfl rfl card_name Tryd.func3 closed
    (of_decide_eq_true (by kernel_rfl)) (by unfold Func.isWrapper; first | (rw [if_pos (by decide +kernel)]; kernel_rfl) | (rw [if_neg (by decide +kernel)]; exact ⟨rfl, rfl⟩))
    (fun os started H enc _ => lifted os started H enc)

theorem card_wf : Rows.notesMergeRow.wfByText (OpenSpec.ofChange Rows.notesMergeSpec) = true := by kernel_rfl
theorem card_main : Tryd.prog.mainIs = some (true, "40ff8fa9d90ba4cb13d025584386f2662c7a179040514c05b7e56dccc90ad72f".toList) := by kernel_rfl
theorem card_looks : false = Tryd.prog.looks [] := by kernel_rfl
theorem card_stand : ([22].all fun u => !Tryd.prog.wantsStandIn u) = true := by kernel_rfl
theorem card_goes : false = Rows.notesMergeRow.goesBy Tryd.prog := by kernel_rfl

/-- ████ THE STATEMENT ████ -/
theorem proved : Rows.NotesMergeCardSaid :=
  Claim7.holds_tied_plain_at .later [] [.data, .pinned] true (true, "40ff8fa9d90ba4cb13d025584386f2662c7a179040514c05b7e56dccc90ad72f") false over (fun _ h => by cases h) card_wf (fun _ h => by cases h) notesMerge_row_tie rfl ⟨rfl, rfl⟩ card_main rfl
    (fun f fn hf hfn => by
      obtain rfl : f = 3 := Option.some.inj (card_name.symm.trans hf) |>.symm
      obtain rfl : fn = Tryd.f3 := (Option.some.inj (Tryd.func3.symm.trans hfn)).symm
      exact ⟨card_looks, fun j t ht => by
        rw [Tryd.params3] at ht
        have hm : t ∈ [22] := by simpa using Array.mem_of_getElem? ht
        exact (show Tryd.prog.wantsStandIn t = false by simpa using List.all_eq_true.1 card_stand t hm)⟩)
    card_goes
end Go.Proofs.YtfbeijbgfhelfaaDoor.notesMerge
