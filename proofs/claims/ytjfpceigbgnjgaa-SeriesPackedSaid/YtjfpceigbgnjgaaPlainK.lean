/-
The law CountersRead.
-/
import Derived.Test.YtjfpceigbgnjgaaPlainI
import Derived.Test.YtjfpceigbgnjgaaPlainM
namespace Go.Eng
open Go
set_option linter.unusedVariables false
set_option linter.unusedSimpArgs false

/-- A search for the first element that a test lets in. -/
theorem idx_loop {α : Type} {l : List α} {f : Int → Option (Int ⊕ (Unit ⊕ Int))} (p : α → Bool) (hl : (l.length : Int) ≤ 9223372036854775807)
    (hf : ∀ (i : Nat) (h : i < l.length), f i = some (cond (p l[i]) (.inr (.inr (i : Int))) (.inl (IntKind.wrap .i64 (i + 1))))) (hd : f l.length = some (.inr (.inl ()))) :
    (∃ v : Nat, loopO f 0 = some (.inr (v : Int)) ∧ l.any p = true) ∨ (loopO f 0 = some (.inl ()) ∧ l.any p = false) := by
  rw [range_loop (l := l) (fun i x => cond (p x) (some (.inr (i : Int))) none) (.inl ()) hl]
  · have key : ∀ (l : List α) (k : Nat), (∃ v : Nat, scan (fun i x => cond (p x) (some (Sum.inr (i : Int) : Unit ⊕ Int)) none) k l = some (.inr (v : Int)) ∧ l.any p = true) ∨ (scan (fun i x => cond (p x) (some (Sum.inr (i : Int) : Unit ⊕ Int)) none) k l = none ∧ l.any p = false) := by
      intro l
      induction l with
      | nil => intro k; exact .inr ⟨rfl, rfl⟩
      | cons x l ih =>
        intro k
        simp only [scan, List.any_cons]
        cases p x with
        | true => exact .inl ⟨k, rfl, rfl⟩
        | false => simpa using ih (k + 1)
    rcases key l 0 with ⟨v, h1, h2⟩ | ⟨h1, h2⟩
    · exact .inl ⟨v, by rw [h1]; rfl, h2⟩
    · exact .inr ⟨by rw [h1]; rfl, h2⟩
  · intro i hi
    rw [hf i hi]
    cases p l[i] <;> rfl
  · exact hd

def negB (l : List api_Sample) : Bool := l.any fun x => decide (x.Value < 0)
theorem neg1_eq (l : List api_Sample) (hl : (l.length : Int) ≤ 9223372036854775807) : slices_ContainsFunc_api_Sample_api_Sample_f1_series_rises_1 l = some (negB l) := by
  unfold slices_ContainsFunc_api_Sample_api_Sample_f1_series_rises_1 slices_IndexFunc_api_Sample_api_Sample_f1_series_rises_1
  have H := idx_loop (f := slices_IndexFunc_api_Sample_api_Sample_f1_series_rises_1_x1 l) (fun x : api_Sample => decide (x.Value < 0)) hl (fun i hi => by
    unfold slices_IndexFunc_api_Sample_api_Sample_f1_series_rises_1_x1 series_rises_1
    have : ((i : Int) < l.length) := by omega
    simp only [this, decide_true, cond_true, at_nat hi, Option.bind_some]
    cases decide (l[i].Value < 0) <;> rfl) (by unfold slices_IndexFunc_api_Sample_api_Sample_f1_series_rises_1_x1; simp)
  rcases H with ⟨v, h1, h2⟩ | ⟨h1, h2⟩
  · rw [h1]; unfold negB; rw [h2]; simp
  · rw [h1]; unfold negB; rw [h2]; simp
theorem neg2_eq (l : List api_Sample) (hl : (l.length : Int) ≤ 9223372036854775807) : fleetref2_CounterFault l = some (cond (negB l) 1 0) := by
  unfold fleetref2_CounterFault slices_ContainsFunc_api_Sample_api_Sample_f1_fleetref2_CounterFault_1 slices_IndexFunc_api_Sample_api_Sample_f1_fleetref2_CounterFault_1
  have H := idx_loop (f := slices_IndexFunc_api_Sample_api_Sample_f1_fleetref2_CounterFault_1_x1 l) (fun x : api_Sample => decide (x.Value < 0)) hl (fun i hi => by
    unfold slices_IndexFunc_api_Sample_api_Sample_f1_fleetref2_CounterFault_1_x1 fleetref2_CounterFault_1
    have : ((i : Int) < l.length) := by omega
    simp only [this, decide_true, cond_true, at_nat hi, Option.bind_some]
    cases decide (l[i].Value < 0) <;> rfl) (by unfold slices_IndexFunc_api_Sample_api_Sample_f1_fleetref2_CounterFault_1_x1; simp)
  rcases H with ⟨v, h1, h2⟩ | ⟨h1, h2⟩
  · rw [h1]; unfold negB; rw [h2]; simp
  · rw [h1]; unfold negB; rw [h2]; simp

/-! ### Rises -/
def rise (x y : api_Sample) : api_Rise := api_Rise.mk x.At y.At (if y.Value < x.Value then y.Value else y.Value - x.Value) (decide (y.Value < x.Value))
theorem rises_round {l : List api_Sample} (hb : SBnd l) {i : Nat} (h0 : 0 < i) (hi : i < l.length) (out : List api_Rise) (hl : l.length ≤ 100000) (ho : out.length ≤ 100000) :
    series_rises_x1 l (out, i) = some (.inl (out ++ [rise (l[i - 1]'(by omega)) l[i]], (i : Int) + 1)) ∧ fleetref2_RisesOf_x1 l (out, i) = some (.inl (out ++ [rise (l[i - 1]'(by omega)) l[i]], (i : Int) + 1)) := by
  obtain ⟨j, rfl⟩ : ∃ j, i = j + 1 := ⟨i - 1, by omega⟩
  have hj : j < l.length := by omega
  obtain ⟨_, _, _, b1⟩ := hb l[j] (List.getElem_mem hj)
  obtain ⟨_, _, _, b2⟩ := hb l[j + 1] (List.getElem_mem hi)
  have e1 : IntKind.wrap .i64 (((j + 1 : Nat) : Int) - 1) = (j : Int) := by rw [wrap64 (by omega) (by omega)]; omega
  have e2 : IntKind.wrap .i64 (((j + 1 : Nat) : Int) + 1) = ((j + 1 : Nat) : Int) + 1 := wrap64 (by omega) (by omega)
  have e3 : IntKind.wrap .i64 (l[j + 1].Value - l[j].Value) = l[j + 1].Value - l[j].Value := wrap64 (by omega) (by omega)
  have hlt : (((j + 1 : Nat) : Int) < l.length) := by omega
  have g : ∀ x : api_Rise, Nat.ble (out.length + [x].length) LIM = true := fun x => ble_lim (by simp; omega)
  have hs : j + 1 - 1 = j := by omega
  constructor
  · unfold series_rises_x1 series_rises_x2
    simp only [hlt, decide_true, cond_true, e1, e2, at_nat hj, at_nat hi, Option.bind_some, e3]
    unfold rise
    by_cases hv : l[j + 1].Value < l[j].Value
    · have : l[j + 1].Value - l[j].Value < 0 := by omega
      simp only [this, decide_true, cond_true, Option.bind_some, hv, if_true]
      rw [gd_true (g _)]
      simp [hv]
    · have : ¬ l[j + 1].Value - l[j].Value < 0 := by omega
      simp only [this, decide_false, cond_false, Option.bind_some, hv, if_false]
      rw [gd_true (g _)]
      simp [hv]
  · unfold fleetref2_RisesOf_x1 fleetref2_RisesOf_x2
    simp only [hlt, decide_true, cond_true, e1, e2, at_nat hj, at_nat hi, Option.bind_some, e3]
    unfold rise
    by_cases hv : l[j + 1].Value < l[j].Value
    · simp only [hv, decide_true, Bool.not_true, cond_false, Option.bind_some, if_true]
      rw [gd_true (g _)]
      simp [hv]
    · simp only [hv, decide_false, Bool.not_false, cond_true, Option.bind_some, if_false]
      rw [gd_true (g _)]
      simp [hv]

theorem rises_both {l : List api_Sample} (hb : SBnd l) (hl : l.length ≤ 100000) : ∃ rs, loopO (series_rises_x1 l) ([], 1) = some rs ∧ loopO (fleetref2_RisesOf_x1 l) ([], 1) = some rs ∧ rs.length ≤ 100001 := by
  have key : ∀ (n i : Nat) (out : List api_Rise), l.length - i = n → 0 < i → out.length ≤ i → i ≤ l.length + 1 → ∃ rs, loopO (series_rises_x1 l) (out, (i : Int)) = some rs ∧ loopO (fleetref2_RisesOf_x1 l) (out, (i : Int)) = some rs ∧ rs.length ≤ l.length + 1 := by
    intro n
    induction n with
    | zero =>
      intro i out h1 h2 h3 h4
      have hlt : ¬ ((i : Int) < l.length) := by omega
      refine ⟨out, ?_, ?_, by omega⟩
      · rw [loopO_eq]; unfold series_rises_x1; simp [hlt]
      · rw [loopO_eq]; unfold fleetref2_RisesOf_x1; simp [hlt]
    | succ n ih =>
      intro i out h1 h2 h3 h4
      have hi : i < l.length := by omega
      obtain ⟨g1, g2⟩ := rises_round hb h2 hi out hl (by omega)
      obtain ⟨rs, f1, f2, f3⟩ := ih (i + 1) (out ++ [rise (l[i - 1]'(by omega)) l[i]]) (by omega) (by omega) (by simp; omega) (by omega)
      refine ⟨rs, ?_, ?_, f3⟩
      · rw [loopO_eq, g1]; exact f1
      · rw [loopO_eq, g2]; exact f2
  obtain ⟨rs, h1, h2, h3⟩ := key (l.length - 1) 1 [] rfl (by omega) (by simp) (by omega)
  by_cases h : l.length = 0
  · have hlt : ¬ ((1 : Int) < l.length) := by omega
    refine ⟨[], ?_, ?_, by simp⟩
    · rw [loopO_eq]; unfold series_rises_x1; simp [hlt]
    · rw [loopO_eq]; unfold fleetref2_RisesOf_x1; simp [hlt]
  · refine ⟨rs, h1, h2, ?_⟩
    omega
end Go.Eng
