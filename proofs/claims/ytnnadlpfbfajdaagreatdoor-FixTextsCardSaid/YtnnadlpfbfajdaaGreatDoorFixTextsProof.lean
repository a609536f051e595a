/-
The law FixTexts holds at every input: its tied card. Conditions: none beyond the given statement's own (the listed package-level variables read as the program's text lays them; the tie is given).
-/
import Derived.Test.YtnnadlpfbfajdaaGreatDoorRows
import Derived.Test.YtnnadlpfbfajdaaGreatDoorFixTextsLift
import Derived.WalkKit
import Derived.ProofKit
import Derived.OpenShut
import Derived.ShutString
import Derived.ChangeOld
import Derived.Below
import Derived.LaidMore
import Derived.Lay
import Derived.LaidOnce
import Derived.SevenTiedAt
import Derived.Stop.Joined
import Derived.Test.YtnnadlpfbfajdaaGreatDoorCards
import Derived.Test.YtnnadlpfbfajdaaGreatDoorTie
import Derived.Test.YtnnadlpfbfajdaaGreatDoorEngW
import Derived.Test.YtnnadlpfbfajdaaGreatDoorGenP2
import Derived.Test.YtnnadlpfbfajdaaGreatDoorPlainA
namespace Go.Proofs.YtnnadlpfbfajdaaGreatDoor.fixTexts
open Go.ChangeShapes Go.WideShapes Go.ChangeAt Go.RowKit
open Go.ChangeMaps (open_string shut_string)
set_option linter.unusedVariables false

theorem and2 {a b : Bool} (h1 : a = true) (h2 : b = true) : (a && b) = true := by rw [h1, h2]; rfl
theorem card_name : Tryz.prog.funcNamed "beaconfleet/fleetlaw2.FixTexts" = some 3 := by kernel_rfl
set_option maxHeartbeats 0 in
theorem closed : joinedFacts Tryz.prog 3 Tryz.f3 Rows.fixTextsSpec Rows.fixTextsRow = true := by
  unfold joinedFacts
  exact (and2 (and2 (and2 (and2 (and2 (and2 (and2 (and2 (and2 (and2 (and2 (and2 (and2 (and2 (and2 (and2 (and2 (and2 (and2 (and2 (and2 (by as_aux_lemma => kernel_rfl) (by as_aux_lemma => kernel_rfl)) (by as_aux_lemma => kernel_rfl)) (by as_aux_lemma => kernel_rfl)) (by as_aux_lemma => kernel_rfl)) (by as_aux_lemma => kernel_rfl)) (by as_aux_lemma => kernel_rfl)) (by as_aux_lemma => kernel_rfl)) (by as_aux_lemma => kernel_rfl)) (by as_aux_lemma => kernel_rfl)) (by as_aux_lemma => kernel_rfl)) (by as_aux_lemma => kernel_rfl)) (by as_aux_lemma => kernel_rfl)) (by as_aux_lemma => kernel_rfl)) (by as_aux_lemma => kernel_rfl)) (by as_aux_lemma => kernel_rfl)) (by as_aux_lemma => kernel_rfl)) (by as_aux_lemma => kernel_rfl)) (by as_aux_lemma => kernel_rfl)) (by as_aux_lemma => kernel_rfl)) (by as_aux_lemma => kernel_rfl)) (by as_aux_lemma => kernel_rfl))

theorem over : Rows.fixTextsRow.holds Tryz.pinned (OpenSpec.ofChange Rows.fixTextsSpec) :=
  OpenClaim.holds_of_wide 3 Tryz.f3 rfl rfl rfl rfl rfl rfl rfl ⟨rfl, rfl, rfl, rfl, rfl⟩ rfl rfl rfl rfl rfl card_name Tryz.func3 closed
    (of_decide_eq_true (by kernel_rfl)) (by unfold Func.isWrapper; first | (rw [if_pos (by decide +kernel)]; kernel_rfl) | (rw [if_neg (by decide +kernel)]; exact ⟨rfl, rfl⟩))
    (fun os started H enc _ => lifted os started H enc)

theorem card_wf : Rows.fixTextsRow.wfByText (OpenSpec.ofChange Rows.fixTextsSpec) = true := by kernel_rfl
theorem card_main : Tryz.prog.mainIs = some (true, "1c5dfe3716c37e59b71d082dac44ea9c4cba75c5ff2e20b074f720d90fab0371".toList) := by kernel_rfl
theorem card_looks : true = Tryz.prog.looks [] := by kernel_rfl
theorem card_stand : ([22].all fun u => !Tryz.prog.wantsStandIn u) = true := by kernel_rfl
theorem card_goes : false = Rows.fixTextsRow.goesBy Tryz.prog := by kernel_rfl

/-- ████ THE STATEMENT ████ -/
theorem proved : Rows.FixTextsCardSaid :=
  Claim7.holds_tied_plain_at .later [] [.data, .data, .data, .data, .sentinel, .sentinel, .pinned] true (true, "1c5dfe3716c37e59b71d082dac44ea9c4cba75c5ff2e20b074f720d90fab0371") true over (fun _ h => by cases h) card_wf (fun _ h => by cases h) fixTexts_row_tie rfl ⟨rfl, rfl⟩ card_main rfl
    (fun f fn hf hfn => by
      obtain rfl : f = 3 := Option.some.inj (card_name.symm.trans hf) |>.symm
      obtain rfl : fn = Tryz.f3 := (Option.some.inj (Tryz.func3.symm.trans hfn)).symm
      exact ⟨card_looks, fun j t ht => by
        rw [Tryz.params3] at ht
        have hm : t ∈ [22] := by simpa using Array.mem_of_getElem? ht
        exact (show Tryz.prog.wantsStandIn t = false by simpa using List.all_eq_true.1 card_stand t hm)⟩)
    card_goes
end Go.Proofs.YtnnadlpfbfajdaaGreatDoor.fixTexts
