/-
Series and windows; faults.
-/
import Derived.Test.YtjfpceigbgnjgaaPlainE
namespace Go.Eng
open Go
set_option linter.unusedVariables false
set_option linter.unusedSimpArgs false

def diffB (x y : api_Sample) : Bool := !decide (x.Device = y.Device) || !decide (x.Metric = y.Metric)
def anyDiff : List api_Sample → Bool
  | [] => false
  | y :: l => (y :: l).any fun x => diffB x y
def seriesV (l : List api_Sample) : Int := if checkV l ≠ 0 then checkV l else cond (anyDiff l) 13 0

theorem clo1_eq (s y : api_Sample) (l : List api_Sample) : series_CheckSeries_1 s (y :: l) = some (diffB s y) := by
  unfold series_CheckSeries_1 series_CheckSeries_1_x1 diffB
  have h0 : at? (y :: l) 0 = some y := rfl
  simp only [h0, Option.bind_some]
  by_cases h : s.Device = y.Device <;> simp [h]
theorem clo2_eq (s y : api_Sample) (l : List api_Sample) : fleetref2_SeriesFault_1 s (y :: l) = some (diffB s y) := by
  unfold fleetref2_SeriesFault_1 fleetref2_SeriesFault_1_x1 diffB
  have h0 : at? (y :: l) 0 = some y := rfl
  simp only [h0, Option.bind_some]
  by_cases h : s.Device = y.Device <;> simp [h]

theorem scan_find {α : Type} {p : α → Bool} : ∀ {l : List α} {k : Nat}, ∃ r : Int, (match (scan (fun i x => cond (p x) (some (Sum.inr (i : Int) : Unit ⊕ Int)) none) k l).getD (.inl ()) with | .inl _ => (-1 : Int) | .inr v => v) = r ∧ decide (0 ≤ r) = l.any p
  | [], k => ⟨-1, rfl, rfl⟩
  | x :: l, k => by
    simp only [scan, List.any_cons]
    cases p x with
    | true => exact ⟨k, rfl, by simp⟩
    | false => simp only [cond_false, Bool.false_or]; exact scan_find (l := l) (k := k + 1)

theorem has1_eq (l : List api_Sample) (hl : (l.length : Int) ≤ 9223372036854775807) : slices_ContainsFunc_api_Sample_api_Sample_f1_series_CheckSeries_1 l = some (anyDiff l) := by
  unfold slices_ContainsFunc_api_Sample_api_Sample_f1_series_CheckSeries_1 slices_IndexFunc_api_Sample_api_Sample_f1_series_CheckSeries_1
  cases l with
  | nil =>
    rw [range_loop (l := ([] : List api_Sample)) (fun i x => none) (.inl ()) (by simp)]
    · rfl
    · intro i hi; simp at hi
    · unfold slices_IndexFunc_api_Sample_api_Sample_f1_series_CheckSeries_1_x1; simp
  | cons y l =>
    rw [range_loop (l := y :: l) (fun i x => cond (diffB x y) (some (.inr (i : Int))) none) (.inl ()) hl]
    · obtain ⟨r, h1, h2⟩ := scan_find (p := fun x => diffB x y) (l := y :: l) (k := 0)
      simp only [Option.bind_some, anyDiff]
      rw [← h2, ← h1]
      cases (scan (fun i x => cond (diffB x y) (some (Sum.inr (i : Int) : Unit ⊕ Int)) none) 0 (y :: l)).getD (.inl ()) <;> rfl
    · intro i hi
      unfold slices_IndexFunc_api_Sample_api_Sample_f1_series_CheckSeries_1_x1
      rw [at_nat hi]
      have : ((i : Int) < (y :: l).length) := by omega
      simp only [this, decide_true, cond_true, Option.bind_some, clo1_eq]
      cases diffB (y :: l)[i] y <;> rfl
    · unfold slices_IndexFunc_api_Sample_api_Sample_f1_series_CheckSeries_1_x1
      simp
theorem has2_eq (l : List api_Sample) (hl : (l.length : Int) ≤ 9223372036854775807) : slices_ContainsFunc_api_Sample_api_Sample_f1_fleetref2_SeriesFault_1 l = some (anyDiff l) := by
  unfold slices_ContainsFunc_api_Sample_api_Sample_f1_fleetref2_SeriesFault_1 slices_IndexFunc_api_Sample_api_Sample_f1_fleetref2_SeriesFault_1
  cases l with
  | nil =>
    rw [range_loop (l := ([] : List api_Sample)) (fun i x => none) (.inl ()) (by simp)]
    · rfl
    · intro i hi; simp at hi
    · unfold slices_IndexFunc_api_Sample_api_Sample_f1_fleetref2_SeriesFault_1_x1; simp
  | cons y l =>
    rw [range_loop (l := y :: l) (fun i x => cond (diffB x y) (some (.inr (i : Int))) none) (.inl ()) hl]
    · obtain ⟨r, h1, h2⟩ := scan_find (p := fun x => diffB x y) (l := y :: l) (k := 0)
      simp only [Option.bind_some, anyDiff]
      rw [← h2, ← h1]
      cases (scan (fun i x => cond (diffB x y) (some (Sum.inr (i : Int) : Unit ⊕ Int)) none) 0 (y :: l)).getD (.inl ()) <;> rfl
    · intro i hi
      unfold slices_IndexFunc_api_Sample_api_Sample_f1_fleetref2_SeriesFault_1_x1
      rw [at_nat hi]
      have : ((i : Int) < (y :: l).length) := by omega
      simp only [this, decide_true, cond_true, Option.bind_some, clo2_eq]
      cases diffB (y :: l)[i] y <;> rfl
    · unfold slices_IndexFunc_api_Sample_api_Sample_f1_fleetref2_SeriesFault_1_x1
      simp

theorem CheckSeries_eq {l : List api_Sample} (hb : SBnd l) (hl : (l.length : Int) ≤ 9223372036854775807) : series_CheckSeries l = some (seriesV l) := by
  unfold series_CheckSeries seriesV
  rw [Check_eq hb hl, has1_eq l hl]
  simp only [Option.bind_some]
  by_cases h : checkV l = 0
  · simp only [h, decide_true, Bool.not_true, cond_false, ne_eq, not_true_eq_false, if_false]
    cases anyDiff l <;> rfl
  · simp [h]
theorem SeriesFault_eq {l : List api_Sample} (hb : SBnd l) (hl : (l.length : Int) ≤ 9223372036854775807) : fleetref2_SeriesFault l = some (seriesV l) := by
  unfold fleetref2_SeriesFault seriesV
  rw [SamplesFault_eq hb hl, has2_eq l hl]
  simp only [Option.bind_some]
  by_cases h : checkV l = 0
  · simp only [h, decide_true, Bool.not_true, cond_false, ne_eq, not_true_eq_false, if_false]
    cases anyDiff l <;> rfl
  · simp [h]

def windowB (w : api_Window) : Bool := (decide (0 ≤ w.From) && decide (w.From ≤ w.To)) && decide (w.To ≤ 345686400000)
theorem Window_eq (w : api_Window) : base_Window w = some (windowB w) := by
  unfold base_Window base_Window_x1 windowB
  rw [Out_eq]
  have e : (decide (w.From < 0) || decide (w.To < w.From)) = !(decide (0 ≤ w.From) && decide (w.From ≤ w.To)) := by rw [Bool.eq_iff_iff]; simp
  rw [e]
  simp only [Option.bind_some]
  cases (decide (0 ≤ w.From) && decide (w.From ≤ w.To)) <;> rfl
theorem WindowFault_eq (w : api_Window) : fleetref2_WindowFault w = some (cond (windowB w) 0 1) := by
  unfold fleetref2_WindowFault fleetref2_WindowFault_x1 windowB
  rw [in_eq]
  have e : decide ((345686400000 : Int) < w.To) = !decide (w.To ≤ 345686400000) := by rw [Bool.eq_iff_iff]; simp
  rw [e]
  simp only [Option.bind_some]
  cases (decide (0 ≤ w.From) && decide (w.From ≤ w.To)) <;> cases decide (w.To ≤ 345686400000) <;> rfl
theorem fault_eq {l : List api_Sample} (w : api_Window) (hb : SBnd l) (hl : (l.length : Int) ≤ 9223372036854775807) : series_fault l w = some (or0 (seriesV l) (cond (windowB w) 0 1)) := by
  unfold series_fault series_fault_x1 series_fault_x2
  rw [CheckSeries_eq hb hl, Window_eq]
  simp only [Option.bind_some]
  unfold or0
  by_cases h : seriesV l = 0
  · simp only [h, decide_true, cond_true, Option.bind_some, if_true]
    cases windowB w <;> rfl
  · simp [h]
theorem when_eq (b : Bool) (e : Int) : fleetlaw2_when b e = some (cond b e 0) := by unfold fleetlaw2_when; cases b <;> rfl
theorem errs_eq (l : List Int) (hl : (l.length : Int) ≤ 9223372036854775807) : fleetlaw2_errs l = some ((l.find? fun x => !decide (x = 0)).getD 0) := by
  unfold fleetlaw2_errs
  rw [range_loop (l := l) (fun _ x => cond (!decide (x = 0)) (some (.inr x)) none) (.inl ()) hl]
  · simp only [Option.bind_some]
    generalize 0 = k
    induction l generalizing k with
    | nil => rfl
    | cons c s ih =>
      simp only [scan, List.find?_cons]
      by_cases hc : c = 0
      · simp only [hc, decide_true, Bool.not_true, cond_false]
        exact ih (by simp at hl; omega) (k + 1)
      · simp [hc]
  · intro i hi
    unfold fleetlaw2_errs_x1
    rw [at_nat hi]
    have : ((i : Int) < l.length) := by omega
    simp only [this, decide_true, cond_true, Option.bind_some]
    cases (!decide (l[i] = 0)) <;> rfl
  · unfold fleetlaw2_errs_x1
    simp
end Go.Eng
