/-
Checks of measurements and series, both ways.
-/
import Derived.Test.YteniijgeaofngaaPlainD
namespace Go.Eng
open Go
set_option linter.unusedVariables false
set_option linter.unusedSimpArgs false

theorem cmpB_range : ∀ a b : List UInt8, Lib.compareBytes a b = -1 ∨ Lib.compareBytes a b = 0 ∨ Lib.compareBytes a b = 1
  | [], [] => by simp [Lib.compareBytes]
  | [], _ :: _ => by simp [Lib.compareBytes]
  | _ :: _, [] => by simp [Lib.compareBytes]
  | x :: a, y :: b => by
    unfold Lib.compareBytes
    split
    · simp
    · split
      · simp
      · exact cmpB_range a b

theorem cmpS_eq (a b : List UInt8) : cmp_Compare_string a b = some (Lib.compareBytes a b) := by
  unfold cmp_Compare_string cmp_isNaN_string
  have h0 : decide (a = b) = decide (Lib.compareBytes a b = 0) := by rw [Bool.eq_iff_iff]; simp [cmpB_zero]
  rw [cmpB_less, h0]
  rcases cmpB_range a b with h | h | h <;> simp [h]
theorem cmpInt_eq (a b : Int) : cmp_Compare_int a b = some (cmpI a b) := by
  unfold cmp_Compare_int cmp_isNaN_int cmpI
  by_cases h1 : a < b
  · simp [h1]
  · by_cases h2 : b < a <;> simp [h1, h2]
theorem Or_eq (l : List Int) (hl : (l.length : Int) ≤ 9223372036854775807) : cmp_Or_int l = some ((l.find? fun x => !decide (x = 0)).getD 0) := by
  unfold cmp_Or_int
  rw [range_loop (l := l) (fun _ x => cond (!decide (x = 0)) (some (.inr x)) none) (.inl ()) hl]
  · simp only [Option.bind_some]
    generalize 0 = k
    induction l generalizing k with
    | nil => rfl
    | cons c s ih =>
      simp only [scan, List.find?_cons]
      by_cases hc : c = 0
      · simp only [hc, decide_true, Bool.not_true, cond_false]
        exact ih (by simp at hl; omega) (k + 1)
      · simp [hc]
  · intro i hi
    unfold cmp_Or_int_x1
    rw [at_nat hi]
    have : ((i : Int) < l.length) := by omega
    simp only [this, decide_true, cond_true, Option.bind_some]
    cases (!decide (l[i] = 0)) <;> rfl
  · unfold cmp_Or_int_x1
    simp
theorem byDevice_eq (a b : api_Sample) : series_byDevice a b = some (sOrd a b) := by
  unfold series_byDevice strings_Compare bytealg_CompareString
  rw [cmpInt_eq]
  simp only [Option.bind_some]
  rw [Or_eq _ (by simp)]
  simp only [Option.bind_some]
  congr 1
  unfold sOrd or0
  by_cases h1 : Lib.compareBytes a.Device b.Device = 0 <;> by_cases h2 : Lib.compareBytes a.Metric b.Metric = 0 <;> by_cases h3 : cmpI a.At b.At = 0 <;> simp [List.find?_cons, h1, h2, h3]

theorem sign_eq (n : Int) : fleetref2_sign n = some (cmpI n 0) := by
  unfold fleetref2_sign cmpI
  by_cases h1 : n < 0
  · simp [h1]
  · by_cases h2 : 0 < n <;> simp [h1, h2]
theorem cmp2_eq (a b c d : List UInt8) : slices_Compare_string_string [a, b] [c, d] = some (or0 (Lib.compareBytes a c) (Lib.compareBytes b d)) := by
  unfold slices_Compare_string_string
  rw [range_loop (l := [a, b]) (fun i y => match i with
    | 0 => cond (!decide (Lib.compareBytes a c = 0)) (some (.inr (Lib.compareBytes a c))) none
    | _ => cond (!decide (Lib.compareBytes b d = 0)) (some (.inr (Lib.compareBytes b d))) none) (.inl ()) (by simp)]
  · simp only [scan, Option.bind_some]
    unfold or0
    by_cases h1 : Lib.compareBytes a c = 0 <;> by_cases h2 : Lib.compareBytes b d = 0 <;> simp [h1, h2]
  · intro i hi
    unfold slices_Compare_string_string_x1
    rw [at_nat hi]
    match i, hi with
    | 0, _ =>
      have h0 : at? [c, d] ((0 : Nat) : Int) = some c := rfl
      simp only [Option.bind_some, h0, List.getElem_cons_zero, cmpS_eq]
      by_cases h1 : Lib.compareBytes a c = 0 <;> simp [h1]
    | 1, _ =>
      have h0 : at? [c, d] ((1 : Nat) : Int) = some d := rfl
      simp only [Option.bind_some, h0, cmpS_eq]
      by_cases h1 : Lib.compareBytes b d = 0 <;> simp [h1]
  · unfold slices_Compare_string_string_x1
    simp
theorem SampleOrder_eq {a b : api_Sample} (h : I64 (a.At - b.At)) : fleetref2_SampleOrder a b = some (sOrd a b) := by
  unfold fleetref2_SampleOrder
  rw [cmp2_eq]
  simp only [Option.bind_some]
  rw [wrap64 h.1 h.2, sign_eq]
  have h0 : cmpI (a.At - b.At) 0 = cmpI a.At b.At := by unfold cmpI; split <;> split <;> first | omega | (split <;> omega) | rfl
  rw [h0]
  unfold sOrd or0
  by_cases h1 : Lib.compareBytes a.Device b.Device = 0 <;> by_cases h2 : Lib.compareBytes a.Metric b.Metric = 0 <;> simp [h1, h2]

/-! ### Check -/
/-- Measurements as streams make them: nothing so long or great that a computation runs over. -/
def SBnd (l : List api_Sample) : Prop := ∀ x ∈ l, (x.Device.length : Int) ≤ 1000 ∧ (x.Metric.length : Int) ≤ 1000 ∧ (-2199023255552 ≤ x.At ∧ x.At ≤ 2199023255552) ∧ (-2199023255552 ≤ x.Value ∧ x.Value ≤ 2199023255552)

def smpB (x : api_Sample) : Option Int :=
  if !(keyB x.Device && keyB x.Metric) then some 5 else if !((decide (0 ≤ x.At) && decide (x.At ≤ 345686399999)) && (decide (-1000000000 ≤ x.Value) && decide (x.Value ≤ 1000000000))) then some 1 else none
/-- What is wrong with the measurement of number i. -/
def chkG (l : List api_Sample) (i : Nat) (x : api_Sample) : Option Int :=
  match smpB x with
  | some e => some e
  | none => match i with
    | 0 => none
    | j + 1 => match l[j]? with
      | some y => if sOrd x y ≤ 0 then some 7 else none
      | none => none
def checkV (l : List api_Sample) : Int := if 5000 < l.length then 2 else (scan (chkG l) 0 l).getD 0

theorem Check_eq {l : List api_Sample} (hb : SBnd l) (hl : (l.length : Int) ≤ 9223372036854775807) : series_Check l = some (checkV l) := by
  unfold series_Check checkV
  by_cases h5 : 5000 < l.length
  · have : (5000 : Int) < l.length := by omega
    simp [this, h5]
  have h5' : ¬ (5000 : Int) < l.length := by omega
  simp only [h5', decide_false, cond_false, h5, if_false]
  rw [range_loop (l := l) (fun i x => (chkG l i x).map .inr) (.inl ()) hl]
  · simp only [Option.bind_some]
    generalize chkG l = g
    generalize 0 = k
    clear hb hl h5 h5'
    induction l generalizing k with
    | nil => rfl
    | cons c s ih =>
      simp only [scan]
      cases g k c with
      | none => exact ih (k + 1)
      | some r => rfl
  · intro i hi
    obtain ⟨b1, b2, b3, b4⟩ := hb l[i] (List.getElem_mem hi)
    unfold series_Check_x1
    rw [at_nat hi]
    have h0 : ((i : Int) < l.length) := by omega
    simp only [h0, decide_true, cond_true, Option.bind_some]
    unfold series_Check_x2 series_Check_x3 chkG smpB
    rw [Key_eq _ (by omega), Key_eq _ (by omega), Moment_eq, Out_eq]
    simp only [Option.bind_some]
    cases hk1 : keyB l[i].Device
    · simp
    cases hk2 : keyB l[i].Metric
    · simp
    simp only [Bool.not_true, cond_false, Option.bind_some, Bool.and_self, Bool.false_eq_true, if_false]
    by_cases hm : 0 ≤ l[i].At ∧ l[i].At ≤ 345686399999
    · by_cases hv : -1000000000 ≤ l[i].Value ∧ l[i].Value ≤ 1000000000
      · have v1 : ¬ l[i].Value < -1000000000 := by omega
        have v2 : ¬ (1000000000 : Int) < l[i].Value := by omega
        simp only [hm.1, hm.2, hv.1, hv.2, v1, v2, decide_true, decide_false, Bool.and_self, Bool.not_true, cond_false, Option.bind_some, Bool.or_self, Bool.false_eq_true, if_false]
        unfold series_Check_x4
        cases i with
        | zero => simp
        | succ j =>
          have e1 : IntKind.wrap .i64 (((j + 1 : Nat) : Int) - 1) = (j : Int) := by rw [wrap64 (by omega) (by omega)]; omega
          have hj : j < l.length := by omega
          have hp : (0 : Int) < ((j + 1 : Nat) : Int) := by omega
          simp only [hp, decide_true, cond_true, e1, at_nat hj, Option.bind_some, byDevice_eq, List.getElem?_eq_getElem hj]
          by_cases hc : sOrd l[j + 1] l[j] ≤ 0 <;> simp [hc]
      · have : (decide (-1000000000 ≤ l[i].Value) && decide (l[i].Value ≤ 1000000000)) = false := by simpa using hv
        have v : (decide (l[i].Value < -1000000000) || decide ((1000000000 : Int) < l[i].Value)) = true := by simp; omega
        simp [hm.1, hm.2, this, v]
    · have : (decide (0 ≤ l[i].At) && decide (l[i].At ≤ 345686399999)) = false := by simpa using hm
      simp [this]
  · unfold series_Check_x1
    simp

theorem SamplesFault_eq {l : List api_Sample} (hb : SBnd l) (hl : (l.length : Int) ≤ 9223372036854775807) : fleetref2_SamplesFault l = some (checkV l) := by
  unfold fleetref2_SamplesFault checkV
  by_cases h5 : 5000 < l.length
  · have : (5000 : Int) < l.length := by omega
    simp [this, h5]
  have h5' : ¬ (5000 : Int) < l.length := by omega
  simp only [h5', decide_false, cond_false, h5, if_false]
  rw [range_loop (l := l) (fun i x => (chkG l i x).map .inr) (.inl ()) hl]
  · simp only [Option.bind_some]
    generalize chkG l = g
    generalize 0 = k
    clear hb hl h5 h5'
    induction l generalizing k with
    | nil => rfl
    | cons c s ih =>
      simp only [scan]
      cases g k c with
      | none => exact ih (k + 1)
      | some r => rfl
  · intro i hi
    obtain ⟨b1, b2, b3, b4⟩ := hb l[i] (List.getElem_mem hi)
    unfold fleetref2_SamplesFault_x1
    rw [at_nat hi]
    have h0 : ((i : Int) < l.length) := by omega
    simp only [h0, decide_true, cond_true, Option.bind_some]
    unfold fleetref2_SamplesFault_x2 fleetref2_SamplesFault_x3 chkG smpB
    rw [QKey_eq _ (by omega), QKey_eq _ (by omega), QMoment_eq, in_eq]
    simp only [Option.bind_some]
    cases hk1 : keyB l[i].Device
    · simp
    cases hk2 : keyB l[i].Metric
    · simp
    simp only [Bool.not_true, cond_false, Option.bind_some, Bool.and_self, Bool.false_eq_true, if_false]
    cases hm : (decide (0 ≤ l[i].At) && decide (l[i].At ≤ 345686399999))
    · simp
    cases hv : (decide (-1000000000 ≤ l[i].Value) && decide (l[i].Value ≤ 1000000000))
    · simp
    simp only [Bool.not_true, cond_false, Option.bind_some, Bool.and_self, Bool.false_eq_true, if_false]
    unfold fleetref2_SamplesFault_x4
    cases i with
    | zero => simp
    | succ j =>
      have e1 : IntKind.wrap .i64 (((j + 1 : Nat) : Int) - 1) = (j : Int) := by rw [wrap64 (by omega) (by omega)]; omega
      have hj : j < l.length := by omega
      have hp : (0 : Int) < ((j + 1 : Nat) : Int) := by omega
      obtain ⟨_, _, c3, _⟩ := hb l[j] (List.getElem_mem hj)
      simp only [hp, decide_true, cond_true, e1, at_nat hj, Option.bind_some, List.getElem?_eq_getElem hj]
      rw [SampleOrder_eq (by unfold I64; omega)]
      have ha := sOrd_anti l[j] l[j + 1]
      simp only [Option.bind_some]
      by_cases hc : sOrd l[j + 1] l[j] ≤ 0
      · have : 0 ≤ sOrd l[j] l[j + 1] := by omega
        simp [hc, this]
      · have : ¬ 0 ≤ sOrd l[j] l[j + 1] := by omega
        simp [hc, this]
  · unfold fleetref2_SamplesFault_x1
    simp
end Go.Eng
