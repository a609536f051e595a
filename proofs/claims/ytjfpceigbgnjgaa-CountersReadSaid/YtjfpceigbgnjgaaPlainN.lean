/-
The law CountersRead.
-/
import Derived.Test.YtjfpceigbgnjgaaPlainL
namespace Go.Eng
open Go
set_option linter.unusedVariables false
set_option linter.unusedSimpArgs false

theorem EqualR_self {l : List api_Rise} (hl : (l.length : Int) ≤ 9223372036854775807) : slices_Equal_api_Rise_api_Rise l l = some true := by
  unfold slices_Equal_api_Rise_api_Rise
  simp only [decide_true, Bool.not_true, cond_false]
  rw [eqself_loop (n := l.length) hl]
  · rfl
  · intro i hi
    unfold slices_Equal_api_Rise_api_Rise_x1
    have : ((i : Int) < l.length) := by omega
    simp [this, at_nat hi]
  · unfold slices_Equal_api_Rise_api_Rise_x1
    simp
theorem EqualW_self {l : List api_Window} (hl : (l.length : Int) ≤ 9223372036854775807) : slices_Equal_api_Window_api_Window l l = some true := by
  unfold slices_Equal_api_Window_api_Window
  simp only [decide_true, Bool.not_true, cond_false]
  rw [eqself_loop (n := l.length) hl]
  · rfl
  · intro i hi
    unfold slices_Equal_api_Window_api_Window_x1
    have : ((i : Int) < l.length) := by omega
    simp [this, at_nat hi]
  · unfold slices_Equal_api_Window_api_Window_x1
    simp

theorem rises_eq {l : List api_Sample} (hb : SBnd l) (hl : l.length ≤ 10000) : ∃ rs, series_rises l = some (cond (negB l) [] rs, cond (negB l) 1 0) ∧ fleetref2_RisesOf l = some rs ∧ rs.length ≤ 100001 := by
  obtain ⟨rs, h1, h2, h3⟩ := rises_both hb (by omega)
  refine ⟨rs, ?_, ?_, h3⟩
  · unfold series_rises
    rw [neg1_eq l (by omega), h1]
    cases negB l <;> rfl
  · unfold fleetref2_RisesOf
    rw [h2]; rfl

theorem part1 {l : List api_Sample} (hb : SBnd l) (hl : l.length ≤ 10000) :
    ∃ R, series_Rises l = some (R, or0 (seriesV l) (cond (negB l) 1 0)) ∧ fleetlaw2_CountersRead_x2 l (or0 (seriesV l) (cond (negB l) 1 0)) = some R ∧ R.length ≤ 100001 := by
  obtain ⟨rs, h1, h2, h3⟩ := rises_eq hb hl
  unfold series_Rises fleetlaw2_CountersRead_x2
  rw [CheckSeries_eq hb (by omega), h1, h2]
  unfold or0
  by_cases h : seriesV l = 0
  · cases hn : negB l
    · exact ⟨rs, by simp [h], by simp [h], h3⟩
    · exact ⟨[], by simp [h], by simp [h], by simp⟩
  · exact ⟨[], by simp [h], by simp [h], by simp⟩

theorem part2 {l : List api_Sample} {w : api_Window} (hb : SBnd l) (hw : WBnd w) (hl : l.length ≤ 10000) :
    ∃ n, series_Grown l w = some (n, or0 (seriesV l) (or0 (cond (windowB w) 0 1) (cond (negB l) 1 0))) ∧ fleetlaw2_CountersRead_x3 l w (or0 (seriesV l) (or0 (cond (windowB w) 0 1) (cond (negB l) 1 0))) = some n := by
  obtain ⟨rs, h1, h2, h3⟩ := rises_eq hb hl
  obtain ⟨n, hn⟩ := grown_ok w rs (by omega)
  have hn0 : loopO (series_Grown_x1 w []) (0, 0) = some 0 := by
    rw [loopO_eq]; unfold series_Grown_x1; simp
  unfold series_Grown fleetlaw2_CountersRead_x3 fleetref2_GrownOf
  rw [fault_eq w hb (by omega), h1, h2]
  simp only [Option.bind_some, ← grown_fun hw, hn]
  unfold or0
  by_cases h : seriesV l = 0
  · cases hwb : windowB w
    · exact ⟨0, by simp [h], by simp [h]⟩
    · cases hng : negB l
      · exact ⟨n, by simp [h, hn], by simp [h]⟩
      · exact ⟨0, by simp [h, hn0], by simp [h]⟩
  · exact ⟨0, by simp [h], by simp [h]⟩

theorem part3 {l : List api_Sample} {w : api_Window} {most : Int} (hb : SBnd l) (hw : WBnd w) (hl : l.length ≤ 10000) :
    ∃ g, series_Gaps l w most = some (g, or0 (seriesV l) (or0 (cond (windowB w) 0 1) (cond (decide (most < 1) || decide (345686400000 < most)) 1 0))) ∧
      fleetlaw2_CountersRead_x4 l w most (or0 (seriesV l) (or0 (cond (windowB w) 0 1) (cond (decide (most < 1) || decide (345686400000 < most)) 1 0))) = some g ∧ g.length ≤ 1000000 := by
  obtain ⟨g, h1, h2, h3⟩ := gaps_both (most := most) hb hw hl
  unfold series_Gaps fleetlaw2_CountersRead_x4
  rw [fault_eq w hb (by omega), Out_eq, h2]
  unfold or0
  by_cases h : seriesV l = 0
  · cases hwb : windowB w
    · exact ⟨[], by simp [h], by simp [h], by simp⟩
    · cases ho : (decide (most < 1) || decide ((345686400000 : Int) < most))
      · refine ⟨g, ?_, by simp [h], h3⟩
        simp only [h, if_true, cond_true, cond_false, Option.bind_some, decide_true, Bool.not_true]
        cases hloop : loopO (series_Gaps_x1 l w most) ([], w.From, 0) with
        | none => rw [hloop] at h1; cases h1
        | some x =>
          obtain ⟨out, st⟩ := x
          rw [hloop] at h1
          simp only [Option.bind_some] at h1 ⊢
          rw [h1]
          rfl
      · exact ⟨[], by simp [h], by simp [h], by simp⟩
  · exact ⟨[], by simp [h], by simp [h], by simp⟩

theorem CountersRead_true (L : List Int) (hL : L.length ≤ 9223372036854775807) (hI : ∀ n ∈ L, -9223372036854775808 ≤ n ∧ n ≤ 9223372036854775807) : fleetlaw2_CountersRead L = some true := by
  refine Ok.eq ?_
  unfold fleetlaw2_CountersRead
  have s0 : StrOk 0 (fleetmake_Stream.mk L 0) := ⟨Int.le_refl _, Int.le_refl _, hL, hI⟩
  refine (Series_ok s0 (by omega) (by omega)).bind fun ⟨s1, l⟩ ⟨g1, g2, g3⟩ => ?_
  simp only at g1 g2 g3
  refine (Frame_ok g1 (by omega)).bind fun ⟨s2, w⟩ ⟨f1, f2⟩ => ?_
  simp only at f1 f2
  refine (Pick_ok f1 (by omega) (by simp) (by simp)).bind fun most _ => ?_
  obtain ⟨R, a1, a2, a3⟩ := part1 g2 (by omega)
  obtain ⟨n, b1, b2⟩ := part2 g2 f2 (by omega)
  obtain ⟨g, c1, c2, c3⟩ := part3 (most := most) g2 f2 (by omega)
  have er2 : ∀ a b : Int, fleetlaw2_errs [a, b] = some (or0 a b) := by
    intro a b
    rw [errs_eq _ (by simp)]
    unfold or0
    by_cases ha : a = 0 <;> by_cases hb : b = 0 <;> simp [ha, hb]
  have er3 : ∀ a b c : Int, fleetlaw2_errs [a, b, c] = some (or0 a (or0 b c)) := by
    intro a b c
    rw [errs_eq _ (by simp)]
    unfold or0
    by_cases ha : a = 0 <;> by_cases hb : b = 0 <;> by_cases hc : c = 0 <;> simp [ha, hb, hc]
  have hx1 : fleetlaw2_CountersRead_x1 w most (seriesV l) = some (or0 (seriesV l) (or0 (cond (windowB w) 0 1) (cond (decide (most < 1) || decide (345686400000 < most)) 1 0))) := by
    unfold fleetlaw2_CountersRead_x1
    rw [WindowFault_eq]
    simp only [Option.bind_some, when_eq, er3]
    by_cases h1 : most < 1 <;> by_cases h4 : (345686400000 : Int) < most <;> simp [h1, h4]
  rw [a1, b1, c1, SeriesFault_eq g2 (by omega), neg2_eq l (by omega), WindowFault_eq]
  simp only [Option.bind_some, er2, er3, hx1, a2, b2, c2]
  unfold fleetlaw2_CountersRead_x5
  simp only [decide_true, cond_true, EqualR_self (l := R) (by omega), EqualW_self (l := g) (by omega), measured_eq, Option.bind_some]
  exact .some rfl
end Go.Eng
