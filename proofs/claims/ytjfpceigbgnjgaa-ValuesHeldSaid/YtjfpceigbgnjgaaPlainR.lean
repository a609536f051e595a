/-
Sorting few numbers: it answers, and leaves as many. Quantiles.
-/
import Derived.Test.YtjfpceigbgnjgaaPlainH
import Derived.Test.YtjfpceigbgnjgaaPlainL
namespace Go.Eng
open Go
set_option linter.unusedVariables false
set_option linter.unusedSimpArgs false

theorem len_few {n : Nat} (h : n ≤ 12) : ∃ r, bits_Len (IntKind.wrap .u64 (n : Int)) = some r := by
  have : ∀ k : _root_.Fin 13, (bits_Len (IntKind.wrap .u64 (k.val : Int))).isSome = true := by decide +kernel
  exact Option.isSome_iff_exists.1 (this ⟨n, by omega⟩)
theorem LessI_eq (x y : Int) : cmp_Less_int x y = some (decide (x < y)) := by
  unfold cmp_Less_int cmp_Less_int_x1 cmp_isNaN_int
  simp

theorem ins_inner {n : Nat} (hn : n ≤ 1000) {l : List Int} {j : Int} (hl : l.length = n) (h0 : 0 ≤ j) (h1 : j < n) : Ok (loopO (slices_insertionSortOrdered_int_o0_x2 0) (l, j)) (fun r => r.length = n) := by
  refine loop_ok (fun s => s.1.length = n ∧ 0 ≤ s.2 ∧ s.2 < (n : Int)) (fun s => s.2.toNat) ?_ ⟨hl, h0, h1⟩
  rintro ⟨l, j⟩ ⟨h1, h2, h3⟩
  simp only at h1 h2 h3
  unfold slices_insertionSortOrdered_int_o0_x2 slices_insertionSortOrdered_int_o0_x3
  simp only [wrap64 (n := j - 1) (by omega) (by omega)]
  by_cases hj : 0 < j
  · simp only [hj, decide_true, cond_true, at_lt (l := l) h2 (by omega), at_lt (l := l) (n := j - 1) (by omega) (by omega), Option.bind_some, LessI_eq]
    refine .cond (fun _ => ?_) (fun _ => .some h1)
    rw [at_lt (l := l.set j.toNat _) (n := j - 1) (by omega) (by simp; omega)]
    simp only [Option.bind_some]
    exact .some ⟨⟨by simp; exact h1, by simp only; omega, by simp only; omega⟩, by simp only; omega⟩
  · simp only [hj, decide_false, cond_false, Option.bind_some]
    exact .some h1
theorem ins_ok {l : List Int} (hl : l.length ≤ 1000) : Ok (slices_insertionSortOrdered_int_o0 l 0 l.length) (fun r => r.length = l.length) := by
  unfold slices_insertionSortOrdered_int_o0
  refine Ok.bind (P := fun r => r.length = l.length) ?_ fun r hr => .some hr
  rw [wrap64 (n := 0 + 1) (by omega) (by omega)]
  refine loop_ok (fun s => s.1.length = l.length ∧ 1 ≤ s.2) (fun s => ((l.length : Int) - s.2).toNat) ?_ ⟨rfl, by simp⟩
  rintro ⟨r, i⟩ ⟨h1, h2⟩
  simp only at h1 h2
  unfold slices_insertionSortOrdered_int_o0_x1
  refine .cond (fun hc => ?_) (fun _ => .some h1)
  have hc := of_decide_eq_true hc
  refine (ins_inner (n := l.length) hl h1 (by omega) hc).bind fun r' hr' => ?_
  simp only [wrap64 (n := i + 1) (by omega) (by omega)]
  exact .some ⟨⟨hr', by simp only; omega⟩, by simp only; omega⟩
theorem Sort_ok {l : List Int} (hl : l.length ≤ 12) : Ok (slices_Sort_int_int_o0 l) (fun r => r.length = l.length) := by
  unfold slices_Sort_int_int_o0
  obtain ⟨k, hk⟩ := len_few hl
  rw [hk]
  simp only [Option.bind_some]
  refine Ok.bind (P := fun r => r.length = l.length) ?_ fun r hr => .gd (by simpa using hr) (.some hr)
  unfold slices_pdqsortOrdered_int_o0
  refine Ok.bind (P := fun r => r.length = l.length) ?_ fun r hr => .some hr
  rw [loopO_eq]
  unfold slices_pdqsortOrdered_int_o0_x1
  rw [wrap64 (n := (l.length : Int) - 0) (by omega) (by omega)]
  have : (l.length : Int) - 0 ≤ 12 := by omega
  simp only [this, decide_true, cond_true]
  obtain ⟨r, h1, h2⟩ := ins_ok (l := l) (by omega)
  rw [h1]
  simp only [Option.bind_some]
  rw [gd_true (by simpa using h2)]
  exact .some h2

theorem values_both {l : List api_Sample} (hl : l.length ≤ 5000) : loopO (series_Quantile_x1 l) ([], 0) = some (l.map (·.Value)) ∧ loopO (fleetref2_QuantileOf_x1 l) ([], 0) = some (l.map (·.Value)) := by
  have key : ∀ (f : List Int × Int → Option ((List Int × Int) ⊕ List Int)), f = series_Quantile_x1 l ∨ f = fleetref2_QuantileOf_x1 l → loopO f ([], 0) = some (l.map (·.Value)) := by
    intro f hf
    obtain ⟨e, _⟩ := fold_loop (l := l) (f := f) (fun s i => (s, i)) (fun s x => s ++ [x.Value]) (fun s => s) (fun i s => s.length = i) (s0 := []) (by omega) (fun i hi s hs => by
      have : (i : Int) < l.length := by omega
      refine ⟨?_, by simp [hs]⟩
      rcases hf with rfl | rfl
      · unfold series_Quantile_x1
        simp only [this, decide_true, cond_true, at_nat hi, Option.bind_some]
        rw [gd_true (ble_lim (by simp; omega))]
      · unfold fleetref2_QuantileOf_x1
        simp only [this, decide_true, cond_true, at_nat hi, Option.bind_some]
        rw [gd_true (ble_lim (by simp; omega))]) (fun s _ => by
      rcases hf with rfl | rfl
      · unfold series_Quantile_x1; simp
      · unfold fleetref2_QuantileOf_x1; simp) rfl
    rw [e]
    congr 1
    have : ∀ (l : List api_Sample) (s : List Int), l.foldl (fun s x => s ++ [x.Value]) s = s ++ l.map (·.Value) := by
      intro l
      induction l with
      | nil => intro s; simp
      | cons x l ih => intro s; simp [ih]
    rw [this]; simp
  exact ⟨key _ (.inl rfl), key _ (.inr rfl)⟩

/-- The first place that is enough. -/
theorem enough {v : List Int} {part : Int} (hv : 0 < v.length) (hl : v.length ≤ 5000) (hp : 1 ≤ part ∧ part ≤ 1000) :
    ∃ y, at? v ((part * v.length + 999) / 1000 - 1) = some y ∧ loopO (fleetref2_QuantileOf_x2 part v) 0 = some (.inr y) := by
  have hm : part * v.length ≤ 1000 * v.length := Int.mul_le_mul_of_nonneg_right hp.2 (by omega)
  have hm1 : 1 * (v.length : Int) ≤ part * v.length := Int.mul_le_mul_of_nonneg_right hp.1 (by omega)
  generalize hA : part * (v.length : Int) = A at *
  obtain ⟨k, hk⟩ : ∃ k : Nat, (A + 999) / 1000 - 1 = k := ⟨((A + 999) / 1000 - 1).toNat, by omega⟩
  have hkl : k < v.length := by omega
  refine ⟨v[k], by rw [hk]; exact at_nat hkl, ?_⟩
  have x2 : ∀ (i : Nat), i ≤ k → fleetref2_QuantileOf_x2 part v i = some (if i = k then .inr (.inr v[k]) else .inl ((i : Int) + 1)) := by
    intro i hi
    unfold fleetref2_QuantileOf_x2
    have h1 : (i : Int) < v.length := by omega
    rw [hA, wrap64 (n := A) (by omega) (by omega), wrap64 (n := (i : Int) + 1) (by omega) (by omega), wrap64 (n := ((i : Int) + 1) * 1000) (by omega) (by omega)]
    simp only [h1, decide_true, cond_true, at_nat (show i < v.length by omega), Option.bind_some]
    by_cases he : i = k
    · subst he
      have : A ≤ ((i : Int) + 1) * 1000 := by omega
      simp [this]
    · have : ¬ A ≤ ((i : Int) + 1) * 1000 := by omega
      simp [this, he]
  have go : ∀ (d i : Nat), k - i = d → i ≤ k → loopO (fleetref2_QuantileOf_x2 part v) (i : Int) = some (.inr v[k]) := by
    intro d
    induction d with
    | zero =>
      intro i hd hi
      have : i = k := by omega
      subst this
      rw [loopO_eq, x2 i (Nat.le_refl _)]
      simp
    | succ d ih =>
      intro i hd hi
      rw [loopO_eq, x2 i hi]
      have : i ≠ k := by omega
      simp only [this, if_false, Option.bind_some]
      have := ih (i + 1) (by omega) (by omega)
      rw [show ((i + 1 : Nat) : Int) = (i : Int) + 1 by omega] at this
      exact this
  exact go k 0 (by omega) (by omega)

theorem quantile_law {l : List api_Sample} (hb : SBnd l) (hl : l.length ≤ 12) (part : Int) :
    ∃ q, series_Quantile l part = some (q, or0 (seriesV l) (or0 (cond (decide (part < 1) || decide (1000 < part)) 1 0) (cond (decide ((l.length : Int) = 0)) 8 0))) ∧
      fleetlaw2_ValuesHeld_x3 l part (or0 (seriesV l) (or0 (cond (decide (part < 1) || decide (1000 < part)) 1 0) (cond (decide ((l.length : Int) = 0)) 8 0))) = some q := by
  unfold series_Quantile fleetlaw2_ValuesHeld_x3 fleetref2_QuantileOf
  rw [CheckSeries_eq hb (by omega), Out_eq, (values_both (by omega)).1, (values_both (by omega)).2]
  simp only [Option.bind_some]
  by_cases h1 : seriesV l = 0
  · by_cases h3 : 1 ≤ part ∧ part ≤ 1000
    · have m1 : ¬ part < 1 := by omega
      have m2 : ¬ (1000 : Int) < part := by omega
      by_cases h4 : (l.length : Int) = 0
      · exact ⟨0, by simp [or0, h1, m1, m2, h4], by simp [or0, h1, m1, m2, h4]⟩
      · obtain ⟨v, e1, e2⟩ := Sort_ok (l := l.map (·.Value)) (by simpa using hl)
        have hvl : v.length = l.length := by simpa using e2
        obtain ⟨y, f1, f2⟩ := enough (v := v) (part := part) (by omega) (by omega) h3
        have hm : part * v.length ≤ 1000 * v.length := Int.mul_le_mul_of_nonneg_right h3.2 (by omega)
        have hm1 : 1 * (v.length : Int) ≤ part * v.length := Int.mul_le_mul_of_nonneg_right h3.1 (by omega)
        have g : (v.length == (l.map (·.Value)).length) = true := by simpa using hvl
        have idx : IntKind.wrap .i64 ((IntKind.wrap .i64 ((IntKind.wrap .i64 ((IntKind.wrap .i64 (part * (v.length : Int))) + 999)).tdiv 1000)) - 1) = (part * v.length + 999) / 1000 - 1 := by
          generalize part * (v.length : Int) = A at *
          rw [wrap64 (n := A) (by omega) (by omega), wrap64 (n := A + 999) (by omega) (by omega), Int.tdiv_eq_ediv_of_nonneg (by omega), wrap64 (n := (A + 999) / 1000) (by omega) (by omega), wrap64 (by omega) (by omega)]
        refine ⟨y, ?_, ?_⟩
        · simp only [h1, decide_true, Bool.not_true, cond_false, m1, m2, decide_false, Bool.or_self, h4, e1, Option.bind_some, gd_true g, idx, f1]
          simp [or0]
        · simp only [or0, h1, if_true, m1, m2, decide_false, Bool.or_self, cond_false, decide_true, cond_true, h4, e1, Option.bind_some, gd_true g, f2]
    · have ho : (decide (part < 1) || decide ((1000 : Int) < part)) = true := by
        rw [Bool.or_eq_true, decide_eq_true_eq, decide_eq_true_eq]; omega
      rw [ho]
      exact ⟨0, by simp [or0, h1], by simp [or0, h1]⟩
  · exact ⟨0, by simp [or0, h1], by simp [or0, h1]⟩
end Go.Eng
