/-
Small checks; the order of measurements.
-/
import Derived.Test.YteniijgeaofngaaPlainC
namespace Go.Eng
open Go
set_option linter.unusedVariables false
set_option linter.unusedSimpArgs false

theorem Out_eq (n low high : Int) : base_Out n low high = some (decide (n < low) || decide (high < n)) := by
  unfold base_Out base_Out_x1
  by_cases h : n < low <;> simp [h]
theorem Moment_eq (n : Int) : base_Moment n = some (decide (0 ≤ n) && decide (n ≤ 345686399999)) := by
  unfold base_Moment
  rw [Out_eq]
  simp only [Option.bind_some]
  congr 1
  rw [Bool.eq_iff_iff]
  simp
theorem in_eq (n low high : Int) : fleetref2_in n low high = some (decide (low ≤ n) && decide (n ≤ high)) := by
  unfold fleetref2_in fleetref2_in_x1
  by_cases h : low ≤ n <;> simp [h]
theorem QMoment_eq (n : Int) : fleetref2_Moment n = some (decide (0 ≤ n) && decide (n ≤ 345686399999)) := by
  unfold fleetref2_Moment
  rw [in_eq]
  rfl

theorem indexByte_neg (l : List UInt8) (c : UInt8) : decide (Lib.indexByte l c < 0) = !l.contains c := by
  induction l with
  | nil => rfl
  | cons b l ih =>
    have hge := Lib.indexByte_ge l c
    unfold Lib.indexByte
    rw [List.contains_cons]
    by_cases hb : (b == c) = true
    · have : (c == b) = true := by rw [BEq.comm]; exact hb
      simp [hb, this]
    · have hb' : (b == c) = false := by simpa using hb
      have : (c == b) = false := by rw [BEq.comm]; exact hb'
      simp only [hb', Bool.false_eq_true, if_false, this, Bool.false_or]
      rw [← ih]
      by_cases h1 : Lib.indexByte l c = -1
      · simp [h1]
      · have : (Lib.indexByte l c == -1) = false := by simpa using h1
        simp only [this, Bool.false_eq_true, if_false]
        congr 1
        simp
        omega
theorem only_eq (s t : List UInt8) (hs : (s.length : Int) ≤ 9223372036854775807) : fleetref2_only s t = some (s.all fun c => t.contains c) := by
  unfold fleetref2_only
  rw [range_loop (l := s) (fun _ c => cond (t.contains c) none (some (.inr ()))) (.inl ()) hs]
  · simp only [Option.bind_some]
    generalize 0 = k
    induction s generalizing k with
    | nil => rfl
    | cons c s ih =>
      simp only [scan, List.all_cons]
      cases t.contains c with
      | true => simp only [cond_true, Bool.true_and]; exact ih (by simp at hs; omega) (k + 1)
      | false => rfl
  · intro i hi
    unfold fleetref2_only_x1
    rw [at_nat hi]
    have : ((i : Int) < s.length) := by omega
    have hc : ((s[i].toNat : Int).toNat.toUInt8) = s[i] := by simp
    simp only [this, decide_true, cond_true, Option.bind_some, strings_IndexByte, stringslite_IndexByte, hc, indexByte_neg]
    cases t.contains s[i] <;> rfl
  · unfold fleetref2_only_x1
    simp

theorem small_contains (c : UInt8) : ([97, 98, 99, 100, 101, 102, 103, 104, 105, 106, 107, 108, 109, 110, 111, 112, 113, 114, 115, 116, 117, 118, 119, 120, 121, 122] : List UInt8).contains c = (decide (97 ≤ c.toNat) && decide (c.toNat ≤ 122)) := by
  have := u8_all (p := fun c => ([97, 98, 99, 100, 101, 102, 103, 104, 105, 106, 107, 108, 109, 110, 111, 112, 113, 114, 115, 116, 117, 118, 119, 120, 121, 122] : List UInt8).contains c == (decide (97 ≤ c.toNat) && decide (c.toNat ≤ 122))) (by decide +kernel) c
  exact eq_of_beq this
theorem key_contains (c : UInt8) : ([97, 98, 99, 100, 101, 102, 103, 104, 105, 106, 107, 108, 109, 110, 111, 112, 113, 114, 115, 116, 117, 118, 119, 120, 121, 122, 48, 49, 50, 51, 52, 53, 54, 55, 56, 57, 45, 95] : List UInt8).contains c = keyC c := by
  have := u8_all (p := fun c => ([97, 98, 99, 100, 101, 102, 103, 104, 105, 106, 107, 108, 109, 110, 111, 112, 113, 114, 115, 116, 117, 118, 119, 120, 121, 122, 48, 49, 50, 51, 52, 53, 54, 55, 56, 57, 45, 95] : List UInt8).contains c == keyC c) (by decide +kernel) c
  exact eq_of_beq this

theorem QKey_eq (s : List UInt8) (hs : (s.length : Int) ≤ 9223372036854775807) : fleetref2_Key s = some (keyB s) := by
  unfold fleetref2_Key fleetref2_Key_x1
  rw [in_eq]
  cases s with
  | nil => rfl
  | cons c l =>
    have h1 : (1 : Int) ≤ ((c :: l).length : Int) := by simp; omega
    have h40 : (((c :: l).length : Int) ≤ 40) ↔ l.length < 40 := by simp; omega
    have hsub : sub? (c :: l) 0 1 = some [c] := by
      unfold sub?
      simp
      omega
    simp only [Option.bind_some, h1, decide_true, Bool.true_and, hsub]
    rw [only_eq [c] _ (by simp), only_eq (c :: l) _ hs]
    simp only [small_contains, key_contains, Option.bind_some, List.all_cons, List.all_nil, Bool.and_true]
    unfold keyB
    simp only [List.all_cons]
    by_cases h2 : l.length < 40
    · have : (((c :: l).length : Int) ≤ 40) := h40.2 h2
      simp only [this, decide_true, cond_true, h2, Bool.true_and]
      cases (decide (97 ≤ c.toNat) && decide (c.toNat ≤ 122)) <;> rfl
    · have : ¬ (((c :: l).length : Int) ≤ 40) := fun h => h2 (h40.1 h)
      simp only [this, decide_false, cond_false, h2, Bool.false_and, Option.bind_some]

/-! ### Orders -/
def cmpI (a b : Int) : Int := if a < b then -1 else if b < a then 1 else 0
def or0 (a b : Int) : Int := if a = 0 then b else a
def sOrd (a b : api_Sample) : Int := or0 (Lib.compareBytes a.Device b.Device) (or0 (Lib.compareBytes a.Metric b.Metric) (cmpI a.At b.At))

theorem cmpB_self : ∀ a : List UInt8, Lib.compareBytes a a = 0
  | [] => rfl
  | x :: a => by
    unfold Lib.compareBytes
    simp [UInt8.lt_irrefl, cmpB_self a]
theorem cmpB_anti : ∀ a b : List UInt8, Lib.compareBytes b a = -Lib.compareBytes a b
  | [], [] => rfl
  | [], _ :: _ => rfl
  | _ :: _, [] => rfl
  | x :: a, y :: b => by
    unfold Lib.compareBytes
    by_cases h1 : x < y
    · have h2 : ¬ y < x := UInt8.lt_asymm h1
      simp [h1, h2]
    · by_cases h2 : y < x
      · simp [h1, h2]
      · simp [h1, h2, cmpB_anti a b]
theorem cmpB_zero : ∀ {a b : List UInt8}, Lib.compareBytes a b = 0 ↔ a = b
  | [], [] => by simp [Lib.compareBytes]
  | [], _ :: _ => by simp [Lib.compareBytes]
  | _ :: _, [] => by simp [Lib.compareBytes]
  | x :: a, y :: b => by
    unfold Lib.compareBytes
    by_cases h1 : x < y
    · have : x ≠ y := fun h => UInt8.lt_irrefl y (h ▸ h1)
      simp [h1, this]
    · by_cases h2 : y < x
      · have : x ≠ y := fun h => UInt8.lt_irrefl x (by rw [h] at h2 ⊢; exact h2)
        simp [h1, h2, this]
      · have : x = y := UInt8.le_antisymm (UInt8.not_lt.1 h2) (UInt8.not_lt.1 h1)
        simp [h1, h2, cmpB_zero (a := a) (b := b), this]
theorem cmpB_less : ∀ a b : List UInt8, Op.bytesLess a b = decide (Lib.compareBytes a b < 0)
  | [], [] => rfl
  | [], _ :: _ => rfl
  | _ :: _, [] => rfl
  | x :: a, y :: b => by
    unfold Lib.compareBytes
    rw [Op.bytesLess]
    by_cases h1 : x < y
    · simp [h1]
    · by_cases h2 : y < x
      · have h3 : ¬ x = y := fun h => UInt8.lt_irrefl x (by rw [h] at h2 ⊢; exact h2)
        simp [h1, h2, h3]
      · have h3 : x = y := UInt8.le_antisymm (UInt8.not_lt.1 h2) (UInt8.not_lt.1 h1)
        simp [h1, h2, h3, cmpB_less a b]
theorem cmpI_anti (a b : Int) : cmpI b a = -cmpI a b := by unfold cmpI; split <;> split <;> first | omega | (split <;> omega) | rfl
theorem or0_neg (a b : Int) : or0 (-a) (-b) = -or0 a b := by unfold or0; split <;> split <;> omega
theorem sOrd_anti (a b : api_Sample) : sOrd b a = -sOrd a b := by
  unfold sOrd
  rw [cmpB_anti a.Device b.Device, cmpB_anti a.Metric b.Metric, cmpI_anti a.At b.At, or0_neg, or0_neg]
end Go.Eng
