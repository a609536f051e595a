/-
The law SeriesPaired.
-/
import Derived.Test.YtjfpceigbgnjgaaPlainP
namespace Go.Eng
open Go
set_option linter.unusedVariables false
set_option linter.unusedSimpArgs false

theorem EqualP_self {l : List api_Pairing} (hl : (l.length : Int) ≤ 9223372036854775807) : slices_Equal_api_Pairing_api_Pairing l l = some true := by
  unfold slices_Equal_api_Pairing_api_Pairing
  simp only [decide_true, Bool.not_true, cond_false]
  rw [eqself_loop (n := l.length) hl]
  · rfl
  · intro i hi
    unfold slices_Equal_api_Pairing_api_Pairing_x1
    have : ((i : Int) < l.length) := by omega
    simp [this, at_nat hi]
  · unfold slices_Equal_api_Pairing_api_Pairing_x1
    simp
theorem First_eq (a b : Int) : base_First [a, b] = some (or0 a b) := by
  unfold base_First
  rw [range_loop (l := [a, b]) (fun _ x => if x = 0 then none else some (.inr x)) (.inl ()) (by simp)]
  · unfold or0
    by_cases ha : a = 0 <;> by_cases hb : b = 0 <;> simp [scan, ha, hb]
  · intro i h
    unfold base_First_x1
    have : ((i : Int) < ([a, b].length : Int)) := by omega
    simp only [this, decide_true, cond_true, at_nat h, Option.bind_some]
    by_cases h0 : [a, b][i] = 0 <;> simp [h0]
  · unfold base_First_x1; simp

theorem Clone_eq {l : List api_Sample} (h : l.length ≤ 100000) : slices_Clone_api_Sample_api_Sample l = some l := by
  unfold slices_Clone_api_Sample_api_Sample
  rw [gd_true (ble_lim (by simp; omega))]

theorem pair_law {a b : List api_Sample} (ha : SBnd a) (hb : SBnd b) (hla : a.length ≤ 10000) (hlb : b.length ≤ 10000) (most : Int) :
    ∃ out, series_Pair a b most = some (out, or0 (seriesV a) (or0 (seriesV b) (cond (decide (most < 0) || decide (345686400000 < most)) 1 0))) ∧
      fleetlaw2_SeriesPaired_x3 a b most (or0 (seriesV a) (or0 (seriesV b) (cond (decide (most < 0) || decide (345686400000 < most)) 1 0))) = some out ∧ out.length ≤ 100000 := by
  unfold series_Pair fleetlaw2_SeriesPaired_x3 fleetref2_PairsOf
  rw [CheckSeries_eq ha (by omega), CheckSeries_eq hb (by omega), Out_eq]
  simp only [Option.bind_some, First_eq]
  by_cases h1 : seriesV a = 0
  · by_cases h2 : seriesV b = 0
    · by_cases h3 : 0 ≤ most ∧ most ≤ 345686400000
      · obtain ⟨out, e1, e2, e3⟩ := pair_both (right_of h1) (right_of h2) h3
        have m1 : ¬ most < 0 := by omega
        have m2 : ¬ (345686400000 : Int) < most := by omega
        exact ⟨out, by simp [or0, h1, h2, m1, m2, e1], by simp [or0, h1, h2, m1, m2, e2], e3⟩
      · have ho : (decide (most < 0) || decide ((345686400000 : Int) < most)) = true := by
          rw [Bool.or_eq_true, decide_eq_true_eq, decide_eq_true_eq]; omega
        rw [ho]
        exact ⟨[], by simp [or0, h1, h2], by simp [or0, h1, h2], by simp⟩
    · exact ⟨[], by simp [or0, h1, h2], by simp [or0, h1, h2], by simp⟩
  · exact ⟨[], by simp [or0, h1], by simp [or0, h1], by simp⟩

theorem thin_law {l : List api_Sample} (hb : SBnd l) (hl : l.length ≤ 10000) (many : Int) :
    ∃ out e, series_Thin l many = some (out, e) ∧ fleetlaw2_SeriesPaired_x4 l many (or0 (seriesV l) (cond (decide (many < 3) || decide (5000 < many)) 1 0)) = some (e, out) ∧ out.length ≤ 100000 := by
  unfold series_Thin fleetlaw2_SeriesPaired_x4 fleetref2_ThinOf
  rw [CheckSeries_eq hb (by omega), Out_eq, Clone_eq (by omega)]
  simp only [Option.bind_some]
  by_cases h1 : seriesV l = 0
  · by_cases h3 : 3 ≤ many ∧ many ≤ 5000
    · have m1 : ¬ many < 3 := by omega
      have m2 : ¬ (5000 : Int) < many := by omega
      have hr := right_of h1
      by_cases h4 : (l.length : Int) ≤ many
      · exact ⟨l, 0, by simp [h1, m1, m2, h4], by simp [or0, h1, m1, m2, h4], by omega⟩
      · have a1 : at? l ((l.length : Int) - 1) = some (l[l.length - 1]'(by omega)) := by
          rw [at_lt (by omega) (by omega)]
          congr 2
          omega
        have a0 : at? l 0 = some (l[0]'(by omega)) := at_nat (n := 0) (by omega)
        have b0 := (hr.bnd 0 (by omega)).1
        have b1 := (hr.bnd (l.length - 1) (by omega)).1
        have w1 : IntKind.wrap .i64 ((l.length : Int) - 1) = (l.length : Int) - 1 := wrap64 (by omega) (by omega)
        have w2 : IntKind.wrap .i64 ((l[l.length - 1]'(by omega)).At - (l[0]'(by omega)).At) = (l[l.length - 1]'(by omega)).At - (l[0]'(by omega)).At := wrap64 (by omega) (by omega)
        by_cases h5 : (864000000 : Int) < (l[l.length - 1]'(by omega)).At - (l[0]'(by omega)).At
        · exact ⟨[], 2, by simp [h1, m1, m2, h4, w1, a1, a0, w2, h5], by simp [or0, h1, m1, m2, h4, w1, a1, a0, w2, h5], by simp⟩
        · obtain ⟨out, e1, e2, e3⟩ := thin_both hr h3 (by omega) (by omega)
          have hg : Nat.ble (out.length + ([l[l.length - 1]'(by omega)] : List api_Sample).length) LIM = true := ble_lim (by simp; omega)
          refine ⟨out ++ [l[l.length - 1]'(by omega)], 0, ?_, ?_, by simp; omega⟩
          · simp only [h1, decide_true, Bool.not_true, cond_false, m1, m2, decide_false, Bool.or_self, h4, w1, a1, a0, Option.bind_some, w2, h5, e1, gd_true hg]
          · simp only [or0, h1, if_true, m1, m2, decide_false, Bool.or_self, cond_false, decide_true, cond_true, h4, w1, a1, a0, Option.bind_some, w2, h5, e2, gd_true hg]
    · have ho : (decide (many < 3) || decide ((5000 : Int) < many)) = true := by
        rw [Bool.or_eq_true, decide_eq_true_eq, decide_eq_true_eq]; omega
      rw [ho]
      exact ⟨[], 1, by simp [h1], by simp [or0, h1], by simp⟩
  · exact ⟨[], seriesV l, by simp [h1], by simp [or0, h1], by simp⟩

theorem SeriesPaired_true (L : List Int) (hL : L.length ≤ 9223372036854775807) (hI : ∀ n ∈ L, -9223372036854775808 ≤ n ∧ n ≤ 9223372036854775807) : fleetlaw2_SeriesPaired L = some true := by
  refine Ok.eq ?_
  unfold fleetlaw2_SeriesPaired
  have s0 : StrOk 0 (fleetmake_Stream.mk L 0) := ⟨Int.le_refl _, Int.le_refl _, hL, hI⟩
  refine (Series_ok s0 (by omega) (by omega)).bind fun ⟨s1, a⟩ ⟨g1, g2, g3⟩ => ?_
  simp only at g1 g2 g3
  refine (Series_ok g1 (by omega) (by omega)).bind fun ⟨s2, b⟩ ⟨f1, f2, f3⟩ => ?_
  simp only at f1 f2 f3
  refine (Pick_ok f1 (by omega) (by simp) (by simp)).bind fun most _ => ?_
  refine (Pick_ok (f1.nxt (by omega)) (by omega) (by simp) (by simp)).bind fun many _ => ?_
  obtain ⟨P, p1, p2, p3⟩ := pair_law g2 f2 (by omega) (by omega) most
  obtain ⟨T, e, t1, t2, t3⟩ := thin_law g2 (by omega) many
  have er2 : ∀ a b : Int, fleetlaw2_errs [a, b] = some (or0 a b) := by
    intro a b
    rw [errs_eq _ (by simp)]
    unfold or0
    by_cases ha : a = 0 <;> by_cases hb : b = 0 <;> simp [ha, hb]
  have er3 : ∀ a b c : Int, fleetlaw2_errs [a, b, c] = some (or0 a (or0 b c)) := by
    intro a b c
    rw [errs_eq _ (by simp)]
    unfold or0
    by_cases ha : a = 0 <;> by_cases hb : b = 0 <;> by_cases hc : c = 0 <;> simp [ha, hb, hc]
  have x1 : fleetlaw2_SeriesPaired_x1 a b most = some (or0 (seriesV a) (or0 (seriesV b) (cond (decide (most < 0) || decide (345686400000 < most)) 1 0))) := by
    unfold fleetlaw2_SeriesPaired_x1
    rw [SeriesFault_eq g2 (by omega), SeriesFault_eq f2 (by omega)]
    simp only [Option.bind_some, when_eq, er3]
    by_cases h1 : most < 0 <;> by_cases h4 : (345686400000 : Int) < most <;> simp [h1, h4]
  have x2 : fleetlaw2_SeriesPaired_x2 a many = some (or0 (seriesV a) (cond (decide (many < 3) || decide (5000 < many)) 1 0)) := by
    unfold fleetlaw2_SeriesPaired_x2
    rw [SeriesFault_eq g2 (by omega)]
    simp only [Option.bind_some, when_eq, er2]
    by_cases h1 : many < 3 <;> by_cases h4 : (5000 : Int) < many <;> simp [h1, h4]
  rw [p1, t1, x1, x2]
  simp only [Option.bind_some, p2, t2]
  unfold fleetlaw2_SeriesPaired_x5
  simp only [decide_true, cond_true, EqualP_self (l := P) (by omega), EqualS_self (l := T) (by omega), measured_eq, Option.bind_some]
  exact .some rfl
end Go.Eng
