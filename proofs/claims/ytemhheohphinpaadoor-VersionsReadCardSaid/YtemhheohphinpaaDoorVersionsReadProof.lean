/-
The law VersionsRead holds at every input: its tied card. Conditions: none beyond the given statement's own (the listed package-level variables read as the program's text lays them; the tie is given).
-/
import Derived.Test.YtemhheohphinpaaDoorRows
import Derived.Test.YtemhheohphinpaaDoorVersionsReadLift
import Derived.WalkKit
import Derived.ProofKit
import Derived.OpenShut
import Derived.ShutString
import Derived.ChangeOld
import Derived.Below
import Derived.LaidMore
import Derived.Lay
import Derived.LaidOnce
import Derived.SevenTiedAt
import Derived.Stop.Joined
import Derived.Test.YtemhheohphinpaaDoorCards
import Derived.Test.YtemhheohphinpaaDoorTie
import Derived.Test.YtemhheohphinpaaDoorEngW
import Derived.Test.YtemhheohphinpaaDoorGenP2
import Derived.Test.YtemhheohphinpaaDoorPlainA
namespace Go.Proofs.YtemhheohphinpaaDoor.versionsRead
open Go.ChangeShapes Go.WideShapes Go.ChangeAt Go.RowKit
open Go.ChangeMaps (open_string shut_string)
set_option linter.unusedVariables false

theorem and2 {a b : Bool} (h1 : a = true) (h2 : b = true) : (a && b) = true := by rw [h1, h2]; rfl
theorem card_name : Tryd.prog.funcNamed "beaconfleet/fleetlaw2.VersionsRead" = some 3 := by kernel_rfl
set_option maxHeartbeats 0 in
theorem closed : joinedFacts Tryd.prog 3 Tryd.f3 Rows.versionsReadSpec Rows.versionsReadRow = true := by
  unfold joinedFacts
  exact (and2 (and2 (and2 (and2 (and2 (and2 (and2 (and2 (and2 (and2 (and2 (and2 (and2 (and2 (and2 (and2 (and2 (and2 (and2 (and2 (and2 (by as_aux_lemma => kernel_rfl) (by as_aux_lemma => kernel_rfl)) (by as_aux_lemma => kernel_rfl)) (by as_aux_lemma => kernel_rfl)) (by as_aux_lemma => kernel_rfl)) (by as_aux_lemma => kernel_rfl)) (by as_aux_lemma => kernel_rfl)) (by as_aux_lemma => kernel_rfl)) (by as_aux_lemma => kernel_rfl)) (by as_aux_lemma => kernel_rfl)) (by as_aux_lemma => kernel_rfl)) (by as_aux_lemma => kernel_rfl)) (by as_aux_lemma => kernel_rfl)) (by as_aux_lemma => kernel_rfl)) (by as_aux_lemma => kernel_rfl)) (by as_aux_lemma => kernel_rfl)) (by as_aux_lemma => kernel_rfl)) (by as_aux_lemma => kernel_rfl)) (by as_aux_lemma => kernel_rfl)) (by as_aux_lemma => kernel_rfl)) (by as_aux_lemma => kernel_rfl)) (by as_aux_lemma => kernel_rfl))

theorem over : Rows.versionsReadRow.holds Tryd.pinned (OpenSpec.ofChange Rows.versionsReadSpec) :=
  OpenClaim.holds_of_wide 3 Tryd.f3 rfl rfl rfl rfl rfl rfl rfl ⟨rfl, rfl, rfl, rfl, rfl⟩ rfl rfl rfl rfl rfl card_name Tryd.func3 closed
    (of_decide_eq_true (by kernel_rfl)) (by unfold Func.isWrapper; first | (rw [if_pos (by decide +kernel)]; kernel_rfl) | (rw [if_neg (by decide +kernel)]; exact ⟨rfl, rfl⟩))
    (fun os started H enc _ => lifted os started H enc)

theorem card_wf : Rows.versionsReadRow.wfByText (OpenSpec.ofChange Rows.versionsReadSpec) = true := by kernel_rfl
theorem card_main : Tryd.prog.mainIs = some (true, "6d5956cf04634ed533f61f0e6c023ed6877196fb0cdd57e96657a3058aad56fa".toList) := by kernel_rfl
theorem card_looks : true = Tryd.prog.looks [] := by kernel_rfl
theorem card_stand : ([22].all fun u => !Tryd.prog.wantsStandIn u) = true := by kernel_rfl
theorem card_goes : false = Rows.versionsReadRow.goesBy Tryd.prog := by kernel_rfl

/-- ████ THE STATEMENT ████ -/
theorem proved : Rows.VersionsReadCardSaid :=
  Claim7.holds_tied_plain_at .later [] [.data, .data, .data, .data, .sentinel, .sentinel, .pinned] true (true, "6d5956cf04634ed533f61f0e6c023ed6877196fb0cdd57e96657a3058aad56fa") true over (fun _ h => by cases h) card_wf (fun _ h => by cases h) versionsRead_row_tie rfl ⟨rfl, rfl⟩ card_main rfl
    (fun f fn hf hfn => by
      obtain rfl : f = 3 := Option.some.inj (card_name.symm.trans hf) |>.symm
      obtain rfl : fn = Tryd.f3 := (Option.some.inj (Tryd.func3.symm.trans hfn)).symm
      exact ⟨card_looks, fun j t ht => by
        rw [Tryd.params3] at ht
        have hm : t ∈ [22] := by simpa using Array.mem_of_getElem? ht
        exact (show Tryd.prog.wantsStandIn t = false by simpa using List.all_eq_true.1 card_stand t hm)⟩)
    card_goes
end Go.Proofs.YtemhheohphinpaaDoor.versionsRead
