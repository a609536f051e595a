/-
The measured constant.
-/
import Derived.Test.YtjfpceigbgnjgaaPlainF
namespace Go.Eng
open Go
set_option linter.unusedVariables false
set_option linter.unusedSimpArgs false

theorem eqself_loop {f : Int → Option (Int ⊕ (Unit ⊕ Unit))} {n : Nat} (hl : (n : Int) ≤ 9223372036854775807) (hf : ∀ (i : Nat), i < n → f i = some (.inl (IntKind.wrap .i64 (i + 1)))) (hd : f n = some (.inr (.inl ()))) : loopO f 0 = some (.inl ()) := by
  rw [range_loop (l := List.replicate n ()) (fun _ _ => none) (.inl ()) (by simpa using hl)]
  · rw [scan_none.2 fun _ _ _ => rfl]; rfl
  · intro i hi
    exact hf i (by simpa using hi)
  · simpa using hd

theorem EqualI_self {l : List Int} (hl : (l.length : Int) ≤ 9223372036854775807) : slices_Equal_byte_byte l l = some true := by
  unfold slices_Equal_byte_byte
  simp only [decide_true, Bool.not_true, cond_false]
  rw [range_loop (l := l) (fun _ _ => none) (.inl ()) hl]
  · simp only [Option.bind_some]
    have : scan (fun (_ : Nat) (_ : Int) => (none : Option (Unit ⊕ Unit))) 0 l = none := scan_none.2 fun _ _ _ => rfl
    rw [this]
    rfl
  · intro i hi
    unfold slices_Equal_byte_byte_x1
    have : ((i : Int) < l.length) := by omega
    simp only [this, decide_true, cond_true, at_nat hi, Option.bind_some, Bool.not_true, cond_false]
  · unfold slices_Equal_byte_byte_x1
    simp

theorem EqualS_self {l : List api_Sample} (hl : (l.length : Int) ≤ 9223372036854775807) : slices_Equal_api_Sample_api_Sample l l = some true := by
  unfold slices_Equal_api_Sample_api_Sample
  simp only [decide_true, Bool.not_true, cond_false]
  rw [range_loop (l := l) (fun _ _ => none) (.inl ()) hl]
  · simp only [Option.bind_some]
    have : scan (fun (_ : Nat) (_ : api_Sample) => (none : Option (Unit ⊕ Unit))) 0 l = none := scan_none.2 fun _ _ _ => rfl
    rw [this]
    rfl
  · intro i hi
    unfold slices_Equal_api_Sample_api_Sample_x1
    have : ((i : Int) < l.length) := by omega
    simp only [this, decide_true, cond_true, at_nat hi, Option.bind_some, Bool.and_self, Bool.not_true, cond_false]
  · unfold slices_Equal_api_Sample_api_Sample_x1
    simp

theorem seven_o_small {b : List Int} {n : Int} (h : n < 128) (hb : b.length ≤ 100000) : series_seven_o0 b n = some (b ++ [IntKind.wrap .u8 n]) := by
  unfold series_seven_o0
  rw [loopO_eq]
  have h' : ¬ 128 ≤ n := by omega
  have e : series_seven_o0_x1 (b, n) = some (.inr (b, n)) := by
    unfold series_seven_o0_x1
    simp [h']
  rw [e]
  simp only [Option.bind_some]
  rw [gd_true (ble_lim (by simp; omega))]
theorem seven_n_small {n : Int} (h : n < 128) : series_seven_n0 n = some [IntKind.wrap .u8 n] := by
  unfold series_seven_n0
  rw [loopO_eq]
  have h' : ¬ 128 ≤ n := by omega
  have e : series_seven_n0_x1 ([], n) = some (.inr ([], n)) := by
    unfold series_seven_n0_x1
    simp [h']
  rw [e]
  simp only [Option.bind_some]
  rw [gd_true (ble_lim (by simp))]
  rfl
theorem measured_eq : fleetlaw2_measured = some true := by
  unfold fleetlaw2_measured series_Pack_o0
  rw [CheckSeries_eq (by intro x hx; rw [List.mem_singleton.1 hx]; simp) (by simp)]
  have h0 : seriesV [api_Sample.mk [100] [109] 1 1] = 0 := by decide +kernel
  rw [h0]
  have hp : series_pack [api_Sample.mk [100] [109] 1 1] = some [1, 2, 2] := by
    unfold series_pack
    rw [show IntKind.wrap .u64 ((([api_Sample.mk [100] [109] 1 1] : List api_Sample).length : Int)) = 1 from by decide +kernel]
    rw [seven_n_small (by omega)]
    simp only [Option.bind_some]
    rw [loopO_eq]
    have e1 : series_pack_x1 [api_Sample.mk [100] [109] 1 1] ([IntKind.wrap .u8 1], 0, 0, 0, 0) = some (.inl ([1, 2, 2], 1, 0, 1, 1)) := by
      unfold series_pack_x1
      have d1 : series_doubled (IntKind.wrap .i64 ((IntKind.wrap .i64 ((1 : Int) - 0)) - 0)) = some 2 := by decide +kernel
      have d2 : series_doubled (IntKind.wrap .i64 ((1 : Int) - 0)) = some 2 := by decide +kernel
      have a1 : at? [api_Sample.mk [100] [109] 1 1] 0 = some (api_Sample.mk [100] [109] 1 1) := rfl
      have l1 : ((0 : Int) < (([api_Sample.mk [100] [109] 1 1] : List api_Sample).length : Int)) := by decide
      simp only [l1, decide_true, cond_true, a1, Option.bind_some, d1, d2]
      rw [seven_o_small (by omega) (by simp)]
      simp only [Option.bind_some]
      rw [seven_o_small (by omega) (by simp)]
      decide +kernel
    rw [e1]
    simp only [Option.bind_some]
    rw [loopO_eq]
    have e2 : series_pack_x1 [api_Sample.mk [100] [109] 1 1] ([1, 2, 2], 1, 0, 1, 1) = some (.inr [1, 2, 2]) := by
      unfold series_pack_x1
      have l1 : ¬ ((1 : Int) < (([api_Sample.mk [100] [109] 1 1] : List api_Sample).length : Int)) := by decide
      simp only [l1, decide_false, cond_false]
    rw [e2]
    rfl
  rw [hp]
  simp only [Option.bind_some, decide_true, Bool.not_true, cond_false]
  unfold fleetlaw2_measured_x1
  rw [EqualI_self (by simp)]
  rfl

end Go.Eng
