/-
The law ValuesHeld.
-/
import Derived.Test.YtjfpceigbgnjgaaPlainS
namespace Go.Eng
open Go
set_option linter.unusedVariables false
set_option linter.unusedSimpArgs false

theorem EqualWin_self {l : List api_Window} (hl : (l.length : Int) ≤ 9223372036854775807) : slices_Equal_api_Window_api_Window l l = some true := by
  unfold slices_Equal_api_Window_api_Window
  simp only [decide_true, Bool.not_true, cond_false]
  rw [eqself_loop (n := l.length) hl]
  · rfl
  · intro i hi
    unfold slices_Equal_api_Window_api_Window_x1
    have : ((i : Int) < l.length) := by omega
    simp [this, at_nat hi]
  · unfold slices_Equal_api_Window_api_Window_x1
    simp

theorem held_law {l : List api_Sample} {w : api_Window} (hb : SBnd l) (hw : WBnd w) (hl : l.length ≤ 5000) :
    ∃ f e, series_Held l w = some (f, e) ∧ fleetlaw2_ValuesHeld_x2 l w (or0 (or0 (seriesV l) (cond (windowB w) 0 1)) (cond (decide ((7776000000 : Int) < w.To - w.From)) 2 0)) = some (e, f) := by
  unfold series_Held fleetlaw2_ValuesHeld_x2 fleetref2_HeldOf
  have hw1 := hw
  unfold WBnd at hw1
  rw [fault_eq w hb (by omega), wrap64 (n := w.To - w.From) (by omega) (by omega)]
  simp only [Option.bind_some]
  by_cases h1 : seriesV l = 0
  · cases h2 : windowB w
    · exact ⟨api_Fraction.mk 0 0, 1, by simp [or0, h1], by simp [or0, h1]⟩
    · by_cases h3 : (7776000000 : Int) < w.To - w.From
      · exact ⟨api_Fraction.mk 0 0, 2, by simp [or0, h1, h3], by simp [or0, h1, h3]⟩
      · obtain ⟨L, e1, e2, e3, e4, e5⟩ := spans_both (right_of h1) h2
        obtain ⟨sum, time, f1, f2, f3, f4, f5, f6⟩ := held_both e3 e4 e5 (by omega)
        rw [e1, e2]
        simp only [Option.bind_some, f1, f2]
        by_cases h4 : time = 0
        · exact ⟨api_Fraction.mk 0 0, 8, by simp [or0, h1, h3, h4], by simp [or0, h1, h3, h4, when_eq]⟩
        · obtain ⟨f, g1, g2⟩ := frac_both (a := sum) (b := time) (by omega) (by omega)
          exact ⟨f, 0, by simp [or0, h1, h3, h4, g1], by simp [or0, h1, h3, h4, g2, when_eq]⟩
  · exact ⟨api_Fraction.mk 0 0, seriesV l, by simp [or0, h1], by simp [or0, h1]⟩

theorem beyond_law {l : List api_Sample} {w : api_Window} (hb : SBnd l) (hl : l.length ≤ 5000) (lo hi : Int) :
    ∃ out, series_Beyond l w lo hi = some (out, or0 (or0 (seriesV l) (cond (windowB w) 0 1)) (cond (decide (hi < lo)) 1 0)) ∧
      fleetlaw2_ValuesHeld_x4 l w lo hi (or0 (or0 (seriesV l) (cond (windowB w) 0 1)) (cond (decide (hi < lo)) 1 0)) = some out ∧ out.length ≤ 5000 := by
  unfold series_Beyond fleetlaw2_ValuesHeld_x4 fleetref2_BeyondOf
  rw [fault_eq w hb (by omega)]
  simp only [Option.bind_some]
  by_cases h1 : seriesV l = 0
  · cases h2 : windowB w
    · exact ⟨[], by simp [or0, h1], by simp [or0, h1], by simp⟩
    · by_cases h3 : hi < lo
      · exact ⟨[], by simp [or0, h1, h3], by simp [or0, h1, h3], by simp⟩
      · obtain ⟨L, e1, e2, e3, e4, e5⟩ := spans_both (right_of h1) h2
        obtain ⟨out, f1, f2, f3⟩ := beyond_both (L := L) (lo := lo) (hi := hi) e3
        exact ⟨out, by simp [or0, h1, h3, e1, f1], by simp [or0, h1, h3, e2, f2], f3⟩
  · exact ⟨[], by simp [or0, h1], by simp [or0, h1], by simp⟩

theorem ValuesHeld_true (L : List Int) (hL : L.length ≤ 9223372036854775807) (hI : ∀ n ∈ L, -9223372036854775808 ≤ n ∧ n ≤ 9223372036854775807) : fleetlaw2_ValuesHeld L = some true := by
  refine Ok.eq ?_
  unfold fleetlaw2_ValuesHeld
  have s0 : StrOk 0 (fleetmake_Stream.mk L 0) := ⟨Int.le_refl _, Int.le_refl _, hL, hI⟩
  refine (Series_ok s0 (by omega) (by omega)).bind fun ⟨s1, l⟩ ⟨g1, g2, g3⟩ => ?_
  simp only at g1 g2 g3
  refine (Frame_ok g1 (by omega)).bind fun ⟨s2, w⟩ ⟨f1, f2⟩ => ?_
  simp only at f1 f2
  refine (Pick_ok f1 (by omega) (by simp) (by simp)).bind fun part _ => ?_
  refine (Pick_ok (f1.nxt (by omega)) (by omega) (by simp) (by simp)).bind fun lo _ => ?_
  refine (Pick_ok ((f1.nxt (by omega)).nxt (by omega)) (by omega) (by simp) (by simp)).bind fun hi _ => ?_
  obtain ⟨f, e, a1, a2⟩ := held_law g2 f2 (by omega)
  obtain ⟨q, b1, b2⟩ := quantile_law g2 (by omega) part
  obtain ⟨out, c1, c2, c3⟩ := beyond_law (w := w) g2 (by omega) lo hi
  have er2 : ∀ a b : Int, fleetlaw2_errs [a, b] = some (or0 a b) := by
    intro a b
    rw [errs_eq _ (by simp)]
    unfold or0
    by_cases ha : a = 0 <;> by_cases hb : b = 0 <;> simp [ha, hb]
  have er3 : ∀ a b c : Int, fleetlaw2_errs [a, b, c] = some (or0 a (or0 b c)) := by
    intro a b c
    rw [errs_eq _ (by simp)]
    unfold or0
    by_cases ha : a = 0 <;> by_cases hb : b = 0 <;> by_cases hc : c = 0 <;> simp [ha, hb, hc]
  have x1 : fleetlaw2_ValuesHeld_x1 l part (seriesV l) = some (or0 (seriesV l) (or0 (cond (decide (part < 1) || decide (1000 < part)) 1 0) (cond (decide ((l.length : Int) = 0)) 8 0))) := by
    unfold fleetlaw2_ValuesHeld_x1
    simp only [Option.bind_some, when_eq, er3]
    by_cases h1 : part < 1 <;> by_cases h4 : (1000 : Int) < part <;> simp [h1, h4]
  have f3 := f2
  unfold WBnd at f3
  rw [a1, b1, c1, SeriesFault_eq g2 (by omega), WindowFault_eq, wrap64 (n := w.To - w.From) (by omega) (by omega)]
  simp only [Option.bind_some, er2, when_eq, x1, a2, b2, c2]
  unfold fleetlaw2_ValuesHeld_x5
  simp only [decide_true, cond_true, Bool.and_self, EqualWin_self (l := out) (by omega), measured_eq, Option.bind_some]
  exact .some rfl
end Go.Eng
