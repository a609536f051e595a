/-
Equal lists; the measured constant; the law SeriesFilled.
-/
import Derived.Test.YtjfpceigbgnjgaaPlainH
import Derived.Test.YtjfpceigbgnjgaaPlainI
namespace Go.Eng
open Go
set_option linter.unusedVariables false
set_option linter.unusedSimpArgs false

theorem EqualS_self {l : List api_Sample} (hl : (l.length : Int) ≤ 9223372036854775807) : slices_Equal_api_Sample_api_Sample l l = some true := by
  unfold slices_Equal_api_Sample_api_Sample
  simp only [decide_true, Bool.not_true, cond_false]
  rw [range_loop (l := l) (fun _ _ => none) (.inl ()) hl]
  · simp only [Option.bind_some]
    have : scan (fun (_ : Nat) (_ : api_Sample) => (none : Option (Unit ⊕ Unit))) 0 l = none := scan_none.2 fun _ _ _ => rfl
    rw [this]
    rfl
  · intro i hi
    unfold slices_Equal_api_Sample_api_Sample_x1
    have : ((i : Int) < l.length) := by omega
    simp only [this, decide_true, cond_true, at_nat hi, Option.bind_some, Bool.and_self, Bool.not_true, cond_false]
  · unfold slices_Equal_api_Sample_api_Sample_x1
    simp
theorem EqualI_self {l : List Int} (hl : (l.length : Int) ≤ 9223372036854775807) : slices_Equal_byte_byte l l = some true := by
  unfold slices_Equal_byte_byte
  simp only [decide_true, Bool.not_true, cond_false]
  rw [range_loop (l := l) (fun _ _ => none) (.inl ()) hl]
  · simp only [Option.bind_some]
    have : scan (fun (_ : Nat) (_ : Int) => (none : Option (Unit ⊕ Unit))) 0 l = none := scan_none.2 fun _ _ _ => rfl
    rw [this]
    rfl
  · intro i hi
    unfold slices_Equal_byte_byte_x1
    have : ((i : Int) < l.length) := by omega
    simp only [this, decide_true, cond_true, at_nat hi, Option.bind_some, Bool.not_true, cond_false]
  · unfold slices_Equal_byte_byte_x1
    simp

theorem seven_o_small {b : List Int} {n : Int} (h : n < 128) (hb : b.length ≤ 100000) : series_seven_o0 b n = some (b ++ [IntKind.wrap .u8 n]) := by
  unfold series_seven_o0
  rw [loopO_eq]
  have h' : ¬ 128 ≤ n := by omega
  have e : series_seven_o0_x1 (b, n) = some (.inr (b, n)) := by
    unfold series_seven_o0_x1
    simp [h']
  rw [e]
  simp only [Option.bind_some]
  rw [gd_true (ble_lim (by simp; omega))]
theorem seven_n_small {n : Int} (h : n < 128) : series_seven_n0 n = some [IntKind.wrap .u8 n] := by
  unfold series_seven_n0
  rw [loopO_eq]
  have h' : ¬ 128 ≤ n := by omega
  have e : series_seven_n0_x1 ([], n) = some (.inr ([], n)) := by
    unfold series_seven_n0_x1
    simp [h']
  rw [e]
  simp only [Option.bind_some]
  rw [gd_true (ble_lim (by simp))]
  rfl
theorem measured_eq : fleetlaw2_measured = some true := by
  unfold fleetlaw2_measured series_Pack_o0
  rw [CheckSeries_eq (by intro x hx; rw [List.mem_singleton.1 hx]; simp) (by simp)]
  have h0 : seriesV [api_Sample.mk [100] [109] 1 1] = 0 := by decide +kernel
  rw [h0]
  have hp : series_pack [api_Sample.mk [100] [109] 1 1] = some [1, 2, 2] := by
    unfold series_pack
    rw [show IntKind.wrap .u64 ((([api_Sample.mk [100] [109] 1 1] : List api_Sample).length : Int)) = 1 from by decide +kernel]
    rw [seven_n_small (by omega)]
    simp only [Option.bind_some]
    rw [loopO_eq]
    have e1 : series_pack_x1 [api_Sample.mk [100] [109] 1 1] ([IntKind.wrap .u8 1], 0, 0, 0, 0) = some (.inl ([1, 2, 2], 1, 0, 1, 1)) := by
      unfold series_pack_x1
      have d1 : series_doubled (IntKind.wrap .i64 ((IntKind.wrap .i64 ((1 : Int) - 0)) - 0)) = some 2 := by decide +kernel
      have d2 : series_doubled (IntKind.wrap .i64 ((1 : Int) - 0)) = some 2 := by decide +kernel
      have a1 : at? [api_Sample.mk [100] [109] 1 1] 0 = some (api_Sample.mk [100] [109] 1 1) := rfl
      have l1 : ((0 : Int) < (([api_Sample.mk [100] [109] 1 1] : List api_Sample).length : Int)) := by decide
      simp only [l1, decide_true, cond_true, a1, Option.bind_some, d1, d2]
      rw [seven_o_small (by omega) (by simp)]
      simp only [Option.bind_some]
      rw [seven_o_small (by omega) (by simp)]
      decide +kernel
    rw [e1]
    simp only [Option.bind_some]
    rw [loopO_eq]
    have e2 : series_pack_x1 [api_Sample.mk [100] [109] 1 1] ([1, 2, 2], 1, 0, 1, 1) = some (.inr [1, 2, 2]) := by
      unfold series_pack_x1
      have l1 : ¬ ((1 : Int) < (([api_Sample.mk [100] [109] 1 1] : List api_Sample).length : Int)) := by decide
      simp only [l1, decide_false, cond_false]
    rw [e2]
    rfl
  rw [hp]
  simp only [Option.bind_some, decide_true, Bool.not_true, cond_false]
  unfold fleetlaw2_measured_x1
  rw [EqualI_self (by simp)]
  rfl

theorem SeriesFilled_true (L : List Int) (hL : L.length ≤ 9223372036854775807) (hI : ∀ n ∈ L, -9223372036854775808 ≤ n ∧ n ≤ 9223372036854775807) : fleetlaw2_SeriesFilled L = some true := by
  refine Ok.eq ?_
  unfold fleetlaw2_SeriesFilled
  have s0 : StrOk 0 (fleetmake_Stream.mk L 0) := ⟨Int.le_refl _, Int.le_refl _, hL, hI⟩
  refine (Series_ok s0 (by omega) (by omega)).bind fun ⟨s1, l⟩ ⟨g1, g2, g3⟩ => ?_
  simp only at g1 g2 g3
  refine (Frame_ok g1 (by omega)).bind fun ⟨s2, w⟩ ⟨f1, f2⟩ => ?_
  simp only at f1 f2
  refine (Pick_ok f1 (by omega) (by simp) (by simp)).bind fun step0 _ => ?_
  refine (Pick_ok (f1.nxt (by omega)) (by omega) (by simp) (by simp)).bind fun how _ => ?_
  refine Ok.bind (P := fun _ => True) ?_ fun step _ => ?_
  · unfold fleetlaw2_SeriesFilled_x1 fleetlaw2_SeriesFilled_x2
    refine Ok.bind (P := fun _ => True) ?_ fun b _ => .cond (fun _ => .some trivial) (fun _ => .some trivial)
    refine (Flip_ok ((f1.nxt (by omega)).nxt (by omega)) (by omega) (by unfold I64; omega)).bind fun b _ => .cond (fun _ => .cond (fun _ => .some trivial) (fun _ => .some trivial)) (fun _ => .some trivial)
  have hl : (l.length : Int) ≤ 9223372036854775807 := by omega
  -- the fault, both ways
  have hx3 : fleetlaw2_SeriesFilled_x3 l w how step = some (or0 (seriesV l) (or0 (cond (windowB w) 0 1) (or0 (cond (decide (step < 1) || decide (345686400000 < step)) 1 0) (cond (!decide (how = 1) && !decide (how = 2)) 4 0)))) := by
    unfold fleetlaw2_SeriesFilled_x3
    rw [SeriesFault_eq g2 hl, WindowFault_eq]
    simp only [Option.bind_some, when_eq]
    have er : ∀ a b c d : Int, fleetlaw2_errs [a, b, c, d] = some (or0 a (or0 b (or0 c d))) := by
      intro a b c d
      rw [errs_eq _ (by simp)]
      unfold or0
      by_cases ha : a = 0 <;> by_cases hb : b = 0 <;> by_cases hc : c = 0 <;> by_cases hd : d = 0 <;> simp [ha, hb, hc, hd]
    by_cases h1 : step < 1 <;> by_cases h2 : how = 1 <;> by_cases h3 : how = 2 <;> by_cases h4 : (345686400000 : Int) < step <;> simp [h1, h2, h3, h4, er]
  have hfault := fault_eq w g2 hl
  by_cases h0 : seriesV l = 0
  · by_cases hw : windowB w = true
    · by_cases hs : 1 ≤ step ∧ step ≤ 345686400000
      · by_cases hh : how = 1 ∨ how = 2
        · obtain ⟨out, c, e1, e2, e3⟩ := Fill_both g2 hl h0 hw hs hh
          have hx3' : fleetlaw2_SeriesFilled_x3 l w how step = some 0 := by
            rw [hx3, h0, hw]
            have s1 : ¬ step < 1 := by omega
            have s2 : ¬ (345686400000 : Int) < step := by omega
            rcases hh with rfl | rfl <;> simp [or0, s1, s2]
          rw [e1, hx3']
          simp only [Option.bind_some]
          unfold fleetlaw2_SeriesFilled_x4 fleetlaw2_SeriesFilled_x5
          simp only [decide_true, cond_true, e2, Option.bind_some]
          rw [EqualS_self (by omega), measured_eq]
          exact .some rfl
        · have hbad : fleetlaw2_SeriesFilled_x3 l w how step = some 4 := by
            rw [hx3, h0, hw]
            have s1 : ¬ step < 1 := by omega
            have s2 : ¬ (345686400000 : Int) < step := by omega
            have k1 : ¬ how = 1 := fun h => hh (.inl h)
            have k2 : ¬ how = 2 := fun h => hh (.inr h)
            simp [or0, s1, s2, k1, k2]
          have hfill : series_Fill l w step how = some ([], 4) := by
            unfold series_Fill
            rw [hfault, h0, hw, Out_eq]
            have s1 : ¬ step < 1 := by omega
            have s2 : ¬ (345686400000 : Int) < step := by omega
            have k1 : ¬ how = 1 := fun h => hh (.inl h)
            have k2 : ¬ how = 2 := fun h => hh (.inr h)
            unfold series_Fill_x1
            simp [or0, s1, s2, k1, k2]
          rw [hfill, hbad]
          simp only [Option.bind_some]
          unfold fleetlaw2_SeriesFilled_x4 fleetlaw2_SeriesFilled_x5
          simp only [show ¬ ((4 : Int) = 0) by omega, decide_false, cond_false, Option.bind_some, decide_true, cond_true]
          rw [EqualS_self (by simp), measured_eq]
          exact .some rfl
      · have hso : (decide (step < 1) || decide ((345686400000 : Int) < step)) = true := by simp; omega
        have hbad : fleetlaw2_SeriesFilled_x3 l w how step = some 1 := by
          rw [hx3, h0, hw, hso]
          simp [or0]
        have hfill : series_Fill l w step how = some ([], 1) := by
          unfold series_Fill
          rw [hfault, h0, hw, Out_eq, hso]
          simp [or0]
        rw [hfill, hbad]
        simp only [Option.bind_some]
        unfold fleetlaw2_SeriesFilled_x4 fleetlaw2_SeriesFilled_x5
        simp only [show ¬ ((1 : Int) = 0) by omega, decide_false, cond_false, Option.bind_some, decide_true, cond_true]
        rw [EqualS_self (by simp), measured_eq]
        exact .some rfl
    · have hw' : windowB w = false := by simpa using hw
      have hbad : fleetlaw2_SeriesFilled_x3 l w how step = some 1 := by
        rw [hx3, h0, hw']
        simp [or0]
      have hfill : series_Fill l w step how = some ([], 1) := by
        unfold series_Fill
        rw [hfault, h0, hw']
        simp [or0]
      rw [hfill, hbad]
      simp only [Option.bind_some]
      unfold fleetlaw2_SeriesFilled_x4 fleetlaw2_SeriesFilled_x5
      simp only [show ¬ ((1 : Int) = 0) by omega, decide_false, cond_false, Option.bind_some, decide_true, cond_true]
      rw [EqualS_self (by simp), measured_eq]
      exact .some rfl
  · have hbad : fleetlaw2_SeriesFilled_x3 l w how step = some (seriesV l) := by
      rw [hx3]
      simp [or0, h0]
    have hfill : series_Fill l w step how = some ([], seriesV l) := by
      unfold series_Fill
      rw [hfault]
      simp [or0, h0]
    rw [hfill, hbad]
    simp only [Option.bind_some]
    unfold fleetlaw2_SeriesFilled_x4 fleetlaw2_SeriesFilled_x5
    simp only [h0, decide_false, cond_false, Option.bind_some, decide_true, cond_true]
    rw [EqualS_self (by simp), measured_eq]
    exact .some rfl
end Go.Eng
