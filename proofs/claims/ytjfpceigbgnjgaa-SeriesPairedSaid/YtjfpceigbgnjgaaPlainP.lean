/-
Thinning a series, both ways.
-/
import Derived.Test.YtjfpceigbgnjgaaPlainO
import Derived.Test.YtjfpceigbgnjgaaPlainL
namespace Go.Eng
open Go
set_option linter.unusedVariables false
set_option linter.unusedSimpArgs false

theorem sub_ok {α : Type} {l : List α} {a b : Int} (h0 : 0 ≤ a) (h1 : a ≤ b) (h2 : b ≤ l.length) :
    ∃ p, sub? l a b = some p ∧ (p.length : Int) = b - a ∧ ∀ (j : Nat) (hj : j < p.length), ∃ h : a.toNat + j < l.length, p[j] = l[a.toNat + j] := by
  refine ⟨(l.take b.toNat).drop a.toNat, ?_, ?_, fun j hj => ?_⟩
  · unfold sub?
    rw [if_pos ⟨h0, h1, h2⟩]
  · simp; omega
  · have : j < b.toNat - a.toNat := by simp at hj; omega
    refine ⟨by omega, ?_⟩
    simp

/-! ### The bounds of the parts -/
def qn (N M k : Int) : Int := (k * N) / M
theorem qn_zero (N M : Int) : qn N M 0 = 0 := by unfold qn; simp
theorem qn_full {N M : Int} (h : 0 < M) : qn N M M = N := by unfold qn; exact Int.mul_ediv_cancel_left N (by omega)
theorem qn_mono {N M j k : Int} (hM : 0 < M) (hN : 0 ≤ N) (h : j ≤ k) : qn N M j ≤ qn N M k := by
  unfold qn
  exact Int.ediv_le_ediv hM (Int.mul_le_mul_of_nonneg_right h hN)
theorem qn_next {N M k : Int} (hM : 0 < M) (hNM : M ≤ N) : qn N M k + 1 ≤ qn N M (k + 1) := by
  unfold qn
  have h : (k * N + M) / M ≤ ((k + 1) * N) / M := Int.ediv_le_ediv hM (by rw [Int.add_mul]; omega)
  have h2 : (k * N + M) / M = k * N / M + 1 := by
    have := Int.add_mul_ediv_right (k * N) 1 (show M ≠ 0 by omega)
    rw [Int.one_mul] at this
    exact this
  omega
theorem qn_nonneg {N M k : Int} (hM : 0 < M) (hN : 0 ≤ N) (hk : 0 ≤ k) : 0 ≤ qn N M k := by
  have := qn_mono hM hN hk; rw [qn_zero] at this; exact this

theorem first_eq {n many k : Int} (hn : 3 ≤ n ∧ n ≤ 5000) (hm : 3 ≤ many ∧ many ≤ 5000) (hk : 0 ≤ k ∧ k ≤ 10000) :
    IntKind.wrap .i64 ((1 : Int) + (IntKind.wrap .i64 ((IntKind.wrap .i64 (k * (IntKind.wrap .i64 (n - 2)))).tdiv (IntKind.wrap .i64 (many - 2))))) = 1 + qn (n - 2) (many - 2) k := by
  rw [wrap64 (n := n - 2) (by omega) (by omega), wrap64 (n := many - 2) (by omega) (by omega)]
  have h1 : 0 ≤ k * (n - 2) := Int.mul_nonneg hk.1 (by omega)
  have h2 : k * (n - 2) ≤ 10000 * 5000 := Int.mul_le_mul hk.2 (by omega) (by omega) (by omega)
  rw [wrap64 (n := k * (n - 2)) (by omega) (by omega), Int.tdiv_eq_ediv_of_nonneg h1]
  have h3 : 0 ≤ k * (n - 2) / (many - 2) := Int.ediv_nonneg h1 (by omega)
  have h4 : k * (n - 2) / (many - 2) ≤ k * (n - 2) := Int.ediv_le_self _ h1
  rw [wrap64 (n := k * (n - 2) / (many - 2)) (by omega) (by omega), wrap64 (by omega) (by omega)]
  rfl

/-! ### The area -/
def cr (a b c : api_Sample) : Int :=
  IntKind.wrap .i64 ((IntKind.wrap .i64 ((IntKind.wrap .i64 (b.At - a.At)) * (IntKind.wrap .i64 (c.Value - a.Value)))) - (IntKind.wrap .i64 ((IntKind.wrap .i64 (c.At - a.At)) * (IntKind.wrap .i64 (b.Value - a.Value)))))
def ar (a b c : api_Sample) : Int := imax (cr a b c) (IntKind.wrap .i64 (0 - cr a b c))
theorem mul_bnd {x y X Y : Int} (hx : -X ≤ x ∧ x ≤ X) (hy : -Y ≤ y ∧ y ≤ Y) : -(X * Y) ≤ x * y ∧ x * y ≤ X * Y := by
  have hX : 0 ≤ X := by omega
  have hY : 0 ≤ Y := by omega
  have h1 : 0 ≤ (X - x) * (Y + y) := Int.mul_nonneg (by omega) (by omega)
  have h2 : 0 ≤ (X + x) * (Y - y) := Int.mul_nonneg (by omega) (by omega)
  have h3 : 0 ≤ (X - x) * (Y - y) := Int.mul_nonneg (by omega) (by omega)
  have h4 : 0 ≤ (X + x) * (Y + y) := Int.mul_nonneg (by omega) (by omega)
  simp only [Int.sub_mul, Int.add_mul, Int.mul_sub, Int.mul_add] at h1 h2 h3 h4
  omega
theorem ar_nonneg {a b c : api_Sample} (h1 : -864000000 ≤ b.At - a.At ∧ b.At - a.At ≤ 864000000) (h2 : -864000000 ≤ c.At - a.At ∧ c.At - a.At ≤ 864000000) (ha : -1000000000 ≤ a.Value ∧ a.Value ≤ 1000000000)
    (hb : -1000000000 ≤ b.Value ∧ b.Value ≤ 1000000000) (hc : -1000000000 ≤ c.Value ∧ c.Value ≤ 1000000000) : -1 < ar a b c := by
  have e1 := mul_bnd (Y := 2000000000) h1 (y := c.Value - a.Value) (by omega)
  have e2 := mul_bnd (Y := 2000000000) h2 (y := b.Value - a.Value) (by omega)
  unfold ar cr
  rw [wrap64 (n := b.At - a.At) (by omega) (by omega), wrap64 (n := c.Value - a.Value) (by omega) (by omega), wrap64 (n := c.At - a.At) (by omega) (by omega), wrap64 (n := b.Value - a.Value) (by omega) (by omega)]
  generalize (b.At - a.At) * (c.Value - a.Value) = x at e1 ⊢
  generalize (c.At - a.At) * (b.Value - a.Value) = y at e2 ⊢
  rw [wrap64 (n := x) (by omega) (by omega), wrap64 (n := y) (by omega) (by omega), wrap64 (n := x - y) (by omega) (by omega), wrap64 (n := 0 - (x - y)) (by omega) (by omega)]
  unfold imax
  split <;> omega

/-! ### The middle of a part -/
theorem mean_bnd {s n lo hi : Int} (hn : 0 < n) (h1 : n * lo ≤ s) (h2 : s ≤ n * hi) : lo ≤ s / n ∧ s / n ≤ hi :=
  ⟨Int.le_ediv_of_mul_le hn (by rw [Int.mul_comm]; exact h1), by
    have := Int.ediv_le_ediv hn h2
    rw [Int.mul_ediv_cancel_left _ (by omega)] at this
    exact this⟩
theorem floor_val {a b : Int} (hb : 0 < b) (ha : -10000000000000000 ≤ a ∧ a ≤ 10000000000000000) : fleetref2_floor a b = some (a / b) := by
  unfold fleetref2_floor
  have h0 : (!(b == 0)) = true := by simp; omega
  rw [gd_true h0]
  have e := Int.tmod_add_mul_tdiv a b
  have l1 := Int.tmod_lt_of_pos a hb
  have l2 := Int.lt_tmod_of_pos a hb
  obtain ⟨q1, q2⟩ := mean_bnd (s := a) (lo := -10000000000000000) (hi := 10000000000000000) hb (by omega) (by omega)
  by_cases hr : a.tmod b < 0
  · have h : a / b = a.tdiv b - 1 := ((Int.ediv_emod_unique (r := a.tmod b + b) hb).2 ⟨by rw [Int.mul_sub, Int.mul_one]; omega, by omega, by omega⟩).1
    simp only [hr, decide_true, cond_true]
    rw [wrap64 (n := a.tdiv b) (by omega) (by omega), wrap64 (by omega) (by omega), h]
  · have h : a / b = a.tdiv b := ((Int.ediv_emod_unique (r := a.tmod b) hb).2 ⟨e, by omega, by omega⟩).1
    simp only [hr, decide_false, cond_false]
    rw [wrap64 (by omega) (by omega), h]
theorem down_val {a b : Int} (hb : 0 < b) (ha : -10000000000000000 ≤ a ∧ a ≤ 10000000000000000) : base_Down a b = some (a / b) := by
  obtain ⟨q, h1, h2⟩ := Down_floor (a := a) (b := b) (by omega)
  rw [floor_val hb ha] at h2
  injection h2 with h2
  rw [h1, h2]

theorem sum_both {p : List api_Sample} {lo hi : Int} (hp : p.length ≤ 5000) (hlo : 0 ≤ lo) (hhi : hi ≤ 345686399999) (hb : ∀ y ∈ p, (lo ≤ y.At ∧ y.At ≤ hi) ∧ (-1000000000 ≤ y.Value ∧ y.Value ≤ 1000000000)) :
    ∃ sa sv, loopO (series_middle_x1 p) (api_Sample.mk [] [] 0 0, 0) = some (api_Sample.mk [] [] sa sv) ∧ loopO (fleetref2_ThinOf_x3 p) (0, 0, 0) = some (sa, sv) ∧
      ((p.length : Int) * lo ≤ sa ∧ sa ≤ (p.length : Int) * hi) ∧ ((p.length : Int) * (-1000000000) ≤ sv ∧ sv ≤ (p.length : Int) * 1000000000) := by
  let h : Int × Int → api_Sample → Int × Int := fun s y => (s.1 + y.At, s.2 + y.Value)
  let I : Nat → Int × Int → Prop := fun i s => ((i : Int) * lo ≤ s.1 ∧ s.1 ≤ (i : Int) * hi) ∧ ((i : Int) * (-1000000000) ≤ s.2 ∧ s.2 ≤ (i : Int) * 1000000000)
  have step : ∀ (i : Nat) (hi' : i < p.length) (s : Int × Int), I i s → I (i + 1) (h s p[i]) ∧ IntKind.wrap .i64 (s.1 + p[i].At) = s.1 + p[i].At ∧ IntKind.wrap .i64 (s.2 + p[i].Value) = s.2 + p[i].Value := by
    rintro i hi' s ⟨⟨a1, a2⟩, a3, a4⟩
    obtain ⟨⟨b1, b2⟩, b3, b4⟩ := hb p[i] (List.getElem_mem hi')
    have c1 : (i : Int) * hi ≤ 5000 * hi := Int.mul_le_mul_of_nonneg_right (by omega) (by omega)
    have c2 : 0 ≤ (i : Int) * lo := Int.mul_nonneg (by omega) hlo
    refine ⟨⟨⟨?_, ?_⟩, ?_, ?_⟩, wrap64 (by omega) (by omega), wrap64 (by omega) (by omega)⟩
    · show ((i + 1 : Nat) : Int) * lo ≤ s.1 + p[i].At
      rw [Int.natCast_add, Int.add_mul]; omega
    · show s.1 + p[i].At ≤ ((i + 1 : Nat) : Int) * hi
      rw [Int.natCast_add, Int.add_mul]; omega
    · show ((i + 1 : Nat) : Int) * (-1000000000) ≤ s.2 + p[i].Value
      omega
    · show s.2 + p[i].Value ≤ ((i + 1 : Nat) : Int) * 1000000000
      omega
  have z : I 0 (0, 0) := ⟨by simp, by simp⟩
  obtain ⟨e1, i1⟩ := fold_loop (l := p) (f := series_middle_x1 p) (fun s i => (api_Sample.mk [] [] s.1 s.2, i)) h (fun s => api_Sample.mk [] [] s.1 s.2) I (s0 := (0, 0)) (by omega) (fun i hi' s hs => by
      obtain ⟨g1, g2, g3⟩ := step i hi' s hs
      refine ⟨?_, g1⟩
      unfold series_middle_x1
      have : (i : Int) < p.length := by omega
      simp only [this, decide_true, cond_true, at_nat hi', Option.bind_some, g2, g3]
      rfl) (fun s _ => by unfold series_middle_x1; simp) z
  obtain ⟨e2, _⟩ := fold_loop (l := p) (f := fleetref2_ThinOf_x3 p) (fun s i => (s.1, s.2, i)) h (fun s => (s.1, s.2)) I (s0 := (0, 0)) (by omega) (fun i hi' s hs => by
      obtain ⟨g1, g2, g3⟩ := step i hi' s hs
      refine ⟨?_, g1⟩
      unfold fleetref2_ThinOf_x3
      have : (i : Int) < p.length := by omega
      simp only [this, decide_true, cond_true, at_nat hi', Option.bind_some, g2, g3]
      rfl) (fun s _ => by unfold fleetref2_ThinOf_x3; simp) z
  exact ⟨_, _, e1, e2, i1⟩

theorem middle_both {p : List api_Sample} {lo hi : Int} (h0 : 0 < p.length) (hp : p.length ≤ 5000) (hlo : 0 ≤ lo) (hhi : hi ≤ 345686399999) (hb : ∀ y ∈ p, (lo ≤ y.At ∧ y.At ≤ hi) ∧ (-1000000000 ≤ y.Value ∧ y.Value ≤ 1000000000)) :
    ∃ sa sv A V, series_middle p = some (api_Sample.mk [] [] A V) ∧ loopO (fleetref2_ThinOf_x3 p) (0, 0, 0) = some (sa, sv) ∧ fleetref2_floor sa p.length = some A ∧ fleetref2_floor sv p.length = some V ∧
      (lo ≤ A ∧ A ≤ hi) ∧ (-1000000000 ≤ V ∧ V ≤ 1000000000) := by
  obtain ⟨sa, sv, e1, e2, ⟨b1, b2⟩, b3, b4⟩ := sum_both hp hlo hhi hb
  have hn : (0 : Int) < p.length := by omega
  have c1 : (p.length : Int) * hi ≤ 5000 * hi := Int.mul_le_mul_of_nonneg_right (by omega) (by
    obtain ⟨⟨x1, x2⟩, _⟩ := hb p[0] (List.getElem_mem h0); omega)
  have c2 : 0 ≤ (p.length : Int) * lo := Int.mul_nonneg (by omega) hlo
  have m1 := mean_bnd hn b1 b2
  have m2 := mean_bnd hn b3 b4
  refine ⟨sa, sv, sa / p.length, sv / p.length, ?_, e2, floor_val hn (by omega), floor_val hn (by omega), m1, m2⟩
  unfold series_middle
  have g0 : (!((p.length : Int) == 0)) = true := by rw [Bool.not_eq_true', beq_eq_false_iff_ne]; omega
  rw [e1]
  simp only [Option.bind_some, gd_true g0]
  rw [down_val (a := sv) hn (by omega), Int.tdiv_eq_ediv_of_nonneg (show 0 ≤ sa by omega)]
  simp only [Option.bind_some]
  rw [wrap64 (by omega) (by omega)]

/-! ### The next middle -/
theorem mem_bnd {l : List api_Sample} (h : Right l) (hn : 0 < l.length) {y : api_Sample} (hy : y ∈ l) : ((l[0].At ≤ y.At ∧ y.At ≤ (l[l.length - 1]'(by omega)).At) ∧ (-1000000000 ≤ y.Value ∧ y.Value ≤ 1000000000)) := by
  obtain ⟨i, hi, rfl⟩ := List.mem_iff_getElem.1 hy
  refine ⟨⟨?_, ?_⟩, (h.bnd i hi).2⟩
  · by_cases h0 : i = 0
    · subst h0; exact Int.le_refl _
    · exact Int.le_of_lt (h.mono 0 i (by omega) hi)
  · by_cases h0 : i = l.length - 1
    · subst h0; exact Int.le_refl _
    · exact Int.le_of_lt (h.mono i (l.length - 1) (by omega) (by omega))

section
variable {l : List api_Sample} {many : Int}
theorem part_eq (hm : 3 ≤ many ∧ many ≤ 5000) (hn : many < l.length) (hl : l.length ≤ 5000) {k : Int} (hk : 0 ≤ k ∧ k ≤ many - 3) :
    ∃ p, series_Thin_1 k many l l.length = some p ∧ sub? l (1 + qn ((l.length : Int) - 2) (many - 2) k) (1 + qn ((l.length : Int) - 2) (many - 2) (k + 1)) = some p ∧ 0 < p.length ∧ (p.length : Int) = qn ((l.length : Int) - 2) (many - 2) (k + 1) - qn ((l.length : Int) - 2) (many - 2) k ∧
      (∀ (j : Nat) (hj : j < p.length), ∃ h : (1 + qn ((l.length : Int) - 2) (many - 2) k).toNat + j < l.length, p[j] = l[(1 + qn ((l.length : Int) - 2) (many - 2) k).toNat + j]) ∧ 0 ≤ qn ((l.length : Int) - 2) (many - 2) k := by
  have n0 := qn_nonneg (N := (l.length : Int) - 2) (M := many - 2) (k := k) (by omega) (by omega) hk.1
  have n1 := qn_next (N := (l.length : Int) - 2) (M := many - 2) (k := k) (by omega) (by omega)
  have n2 := qn_mono (N := (l.length : Int) - 2) (M := many - 2) (j := k + 1) (k := many - 2) (by omega) (by omega) (by omega)
  rw [qn_full (by omega)] at n2
  obtain ⟨p, e1, e2, e3⟩ := sub_ok (l := l) (a := 1 + qn ((l.length : Int) - 2) (many - 2) k) (b := 1 + qn ((l.length : Int) - 2) (many - 2) (k + 1)) (by omega) (by omega) (by omega)
  refine ⟨p, ?_, e1, by omega, by omega, e3, n0⟩
  unfold series_Thin_1
  have c : ¬ (many - 3 < k) := by omega
  rw [wrap64 (n := many - 3) (by omega) (by omega), wrap64 (n := k + 1) (by omega) (by omega)]
  simp only [c, decide_false, cond_false]
  rw [first_eq (n := (l.length : Int)) (by omega) hm (k := k) (by omega), first_eq (n := (l.length : Int)) (by omega) hm (k := k + 1) (by omega), e1]
  have g : (!(IntKind.wrap .i64 (many - 2) == 0)) = true := by rw [wrap64 (by omega) (by omega)]; simp; omega
  rw [gd_true g]
  rfl

theorem next_both (h : Right l) (hm : 3 ≤ many ∧ many ≤ 5000) (hn : many < l.length) {k : Int} (hk : 0 ≤ k ∧ k ≤ many - 3) :
    ∃ p m m2, series_Thin_1 (k + 1) many l l.length = some p ∧ series_middle p = some m ∧ fleetref2_ThinOf_x2 l many k (l[l.length - 1]'(by omega)) = some m2 ∧ m2.At = m.At ∧ m2.Value = m.Value ∧
      (((l[0]'(by omega)).At ≤ m.At ∧ m.At ≤ (l[l.length - 1]'(by omega)).At) ∧ (-1000000000 ≤ m.Value ∧ m.Value ≤ 1000000000)) := by
  have hlen := h.len
  have h0 := (h.bnd 0 (by omega)).1
  have h1 := (h.bnd (l.length - 1) (by omega)).1
  have g : (!(IntKind.wrap .i64 (many - 2) == 0)) = true := by rw [wrap64 (by omega) (by omega)]; simp; omega
  unfold fleetref2_ThinOf_x2
  rw [wrap64 (n := many - 3) (by omega) (by omega)]
  by_cases hc : k < many - 3
  · obtain ⟨p, e1, e2, e3, e4, e5, e6⟩ := part_eq (l := l) hm hn hlen (k := k + 1) (by omega)
    obtain ⟨sa, sv, A, V, f1, f2, f3, f4, f5, f6⟩ := middle_both (p := p) (lo := (l[0]'(by omega)).At) (hi := (l[l.length - 1]'(by omega)).At) e3 (by
        have n0 := qn_nonneg (N := (l.length : Int) - 2) (M := many - 2) (k := k + 1) (by omega) (by omega) (by omega)
        have n2 := qn_mono (N := (l.length : Int) - 2) (M := many - 2) (j := k + 1 + 1) (k := many - 2) (by omega) (by omega) (by omega)
        rw [qn_full (by omega)] at n2
        omega) h0.1 h1.2 (fun y hy => by
        obtain ⟨j, hj, rfl⟩ := List.mem_iff_getElem.1 hy
        obtain ⟨hx, hy'⟩ := e5 j hj
        rw [hy']
        exact mem_bnd h (by omega) (List.getElem_mem hx))
    refine ⟨p, _, api_Sample.mk (l[l.length - 1]'(by omega)).Device (l[l.length - 1]'(by omega)).Metric A V, e1, f1, ?_, rfl, rfl, f5, f6⟩
    unfold fleetref2_ThinOf_1
    simp only [hc, decide_true, cond_true, gd_true g, Option.bind_some]
    rw [wrap64 (n := k + 1) (by omega) (by omega), wrap64 (n := k + 2) (by omega) (by omega)]
    rw [first_eq (n := (l.length : Int)) (by omega) hm (k := k + 1) (by omega), first_eq (n := (l.length : Int)) (by omega) hm (k := k + 2) (by omega), show k + 2 = k + 1 + 1 by omega, e2]
    simp only [Option.bind_some, f2, f3, f4]
  · have hk3 : k = many - 3 := by omega
    obtain ⟨p, e1, e2, e3⟩ := sub_ok (l := l) (a := (l.length : Int) - 1) (b := l.length) (by omega) (by omega) (by omega)
    have hp1 : p.length = 1 := by omega
    obtain ⟨hx, hy'⟩ := e3 0 (by omega)
    have ei : ((l.length : Int) - 1).toNat + 0 = l.length - 1 := by omega
    have hl1 := mem_bnd h (by omega) (List.getElem_mem (show l.length - 1 < l.length by omega))
    have hpe : ∀ y ∈ p, y = l[l.length - 1]'(by omega) := fun y hy => by
      obtain ⟨j, hj, rfl⟩ := List.mem_iff_getElem.1 hy
      have : j = 0 := by omega
      subst this
      rw [hy']
      congr 1
    obtain ⟨sa, sv, A, V, f1, f2, f3, f4, f5, f6⟩ := middle_both (p := p) (lo := (l[l.length - 1]'(by omega)).At) (hi := (l[l.length - 1]'(by omega)).At) (by omega) (by omega) h1.1 h1.2 (fun y hy => by rw [hpe y hy]; exact ⟨⟨Int.le_refl _, Int.le_refl _⟩, hl1.2⟩)
    have hp : p = [l[l.length - 1]'(by omega)] := by
      obtain ⟨y, hy⟩ := List.length_eq_one_iff.1 hp1
      have := hpe y (by rw [hy]; simp)
      rw [hy, this]
    have hV : V = (l[l.length - 1]'(by omega)).Value := by
      rw [hp] at f2 f4
      have : loopO (fleetref2_ThinOf_x3 [l[l.length - 1]'(by omega)]) (0, 0, 0) = some (0 + (l[l.length - 1]'(by omega)).At, 0 + (l[l.length - 1]'(by omega)).Value) := by
        generalize l[l.length - 1]'(by omega) = z at *
        have x1 : fleetref2_ThinOf_x3 [z] (0, 0, 0) = some (.inl (0 + z.At, 0 + z.Value, 1)) := by
          unfold fleetref2_ThinOf_x3
          have : at? [z] 0 = some z := rfl
          simp only [this, Option.bind_some, wrap64 (n := 0 + z.At) (by omega) (by omega), wrap64 (n := 0 + z.Value) (by omega) (by omega)]
          rfl
        have x2 : fleetref2_ThinOf_x3 [z] (0 + z.At, 0 + z.Value, 1) = some (.inr (0 + z.At, 0 + z.Value)) := by
          unfold fleetref2_ThinOf_x3
          rfl
        rw [loopO_eq, x1]
        simp only [Option.bind_some]
        rw [loopO_eq, x2]
        rfl
      rw [this] at f2
      injection f2 with f2; injection f2 with f2 f2'
      subst f2'
      have hv := floor_val (a := 0 + (l[l.length - 1]'(by omega)).Value) (b := 1) (by omega) (by omega)
      rw [show (([l[l.length - 1]'(by omega)] : List api_Sample).length : Int) = 1 from rfl, hv] at f4
      injection f4 with f4
      rw [← f4, Int.ediv_one]; omega
    have hA : A = (l[l.length - 1]'(by omega)).At := by omega
    refine ⟨p, _, _, ?_, f1, ?_, hA.symm, hV.symm, ⟨by simp only; omega, by simp only; omega⟩, f6⟩
    · unfold series_Thin_1
      have c : many - 3 < k + 1 := by omega
      rw [wrap64 (n := many - 3) (by omega) (by omega), wrap64 (n := (l.length : Int) - 1) (by omega) (by omega)]
      simp only [c, decide_true, cond_true, e1, Option.bind_some]
    · simp only [hc, decide_false, cond_false]

/-! ### The one with the largest area -/
theorem best_both (h : Right l) (hm : 3 ≤ many ∧ many ≤ 5000) (hn : many < l.length) (hspan : (l[l.length - 1]'(by omega)).At - (l[0]'(by omega)).At ≤ 864000000) {k : Int} (hk : 0 ≤ k ∧ k ≤ many - 3) {a m m2 : api_Sample} (ha : a ∈ l)
    (e1 : m2.At = m.At) (e2 : m2.Value = m.Value) (hb : ((l[0]'(by omega)).At ≤ m.At ∧ m.At ≤ (l[l.length - 1]'(by omega)).At) ∧ (-1000000000 ≤ m.Value ∧ m.Value ≤ 1000000000)) :
    ∃ p y i, series_Thin_1 k many l l.length = some p ∧ loopO (series_Thin_x2 a m p) (api_Sample.mk [] [] 0 0, -1, 0) = some y ∧
      loopO (fleetref2_ThinOf_x4 l many k m2 a) (-1, -1, 1 + qn ((l.length : Int) - 2) (many - 2) k) = some i ∧ at? l i = some y ∧ y ∈ l := by
  have hlen := h.len
  have ba := mem_bnd h (by omega) ha
  obtain ⟨p, p1, p2, p3, p4, p5, p6⟩ := part_eq (l := l) hm hn hlen hk
  have g : (!(IntKind.wrap .i64 (many - 2) == 0)) = true := by rw [wrap64 (by omega) (by omega)]; simp; omega
  have n2 := qn_mono (N := (l.length : Int) - 2) (M := many - 2) (j := k + 1) (k := many - 2) (by omega) (by omega) (by omega)
  rw [qn_full (by omega)] at n2
  have hq := first_eq (n := (l.length : Int)) (many := many) (k := k + 1) (by omega) hm (by omega)
  generalize qn ((l.length : Int) - 2) (many - 2) k = q0 at *
  generalize qn ((l.length : Int) - 2) (many - 2) (k + 1) = q1 at *
  have step : ∀ (s : api_Sample × Int × Int) (t : Int × Int × Int), (s.2.1 = t.2.1 ∧ 0 ≤ s.2.2 ∧ s.2.2 ≤ (p.length : Int) ∧ t.2.2 = 1 + q0 + s.2.2 ∧ ((s.2.2 = 0 ∧ s.2.1 = -1) ∨ (at? l t.1 = some s.1 ∧ s.1 ∈ l))) →
      (∃ s' t', series_Thin_x2 a m p s = some (.inl s') ∧ fleetref2_ThinOf_x4 l many k m2 a t = some (.inl t') ∧ (s'.2.1 = t'.2.1 ∧ 0 ≤ s'.2.2 ∧ s'.2.2 ≤ (p.length : Int) ∧ t'.2.2 = 1 + q0 + s'.2.2 ∧ ((s'.2.2 = 0 ∧ s'.2.1 = -1) ∨ (at? l t'.1 = some s'.1 ∧ s'.1 ∈ l))) ∧
        ((p.length : Int) - s'.2.2).toNat < ((p.length : Int) - s.2.2).toNat) ∨
      (∃ r r', series_Thin_x2 a m p s = some (.inr r) ∧ fleetref2_ThinOf_x4 l many k m2 a t = some (.inr r') ∧ (at? l r' = some r ∧ r ∈ l)) := by
    rintro ⟨sb, mo, j⟩ ⟨bi, mo', i⟩ ⟨rfl, r1, r2, rfl, r3⟩
    simp only at r1 r2 r3
    unfold series_Thin_x2 fleetref2_ThinOf_x4 fleetref2_ThinOf_1
    rw [wrap64 (n := k + 1) (by omega) (by omega), hq]
    simp only [gd_true g, Option.bind_some]
    by_cases hj : j < p.length
    · left
      have hj' : 1 + q0 + j < 1 + q1 := by omega
      simp only [hj, hj', decide_true, cond_true]
      obtain ⟨x1, x2⟩ := p5 j.toNat (by omega)
      have ey : at? p j = some (l[(1 + q0).toNat + j.toNat]) := by rw [at_lt r1 hj, x2]
      have ei : at? l (1 + q0 + j) = some (l[(1 + q0).toNat + j.toNat]) := by
        rw [at_lt (by omega) (by omega)]
        congr 2
        omega
      have hy : l[(1 + q0).toNat + j.toNat] ∈ l := List.getElem_mem x1
      generalize l[(1 + q0).toNat + j.toNat] = y at ey ei hy
      have by' := mem_bnd h (by omega) hy
      have hpos := ar_nonneg (a := a) (b := y) (c := m) (by omega) (by omega) ba.2 by'.2 hb.2
      have x3 : series_Thin_x3 a m p sb mo j = some (cond (decide (mo < ar a y m)) (y, ar a y m) (sb, mo)) := by
        unfold series_Thin_x3 series_area
        rw [ey]
        simp only [Option.bind_some]
        show cond (decide (mo < ar a y m)) (some (y, ar a y m)) (some (sb, mo)) = _
        cases decide (mo < ar a y m) <;> rfl
      have x5 : fleetref2_ThinOf_x5 l m2 a bi mo (1 + q0 + j) = some (cond (decide (mo < ar a y m)) (1 + q0 + j, ar a y m) (bi, mo)) := by
        unfold fleetref2_ThinOf_x5
        rw [ei]
        simp only [Option.bind_some, e1, e2]
        rw [Int.mul_comm (IntKind.wrap .i64 (y.Value - a.Value)) (IntKind.wrap .i64 (m.At - a.At))]
        show cond (decide (mo < ar a y m)) (some (1 + q0 + j, ar a y m)) (some (bi, mo)) = _
        cases decide (mo < ar a y m) <;> rfl
      rw [x3, x5]
      simp only [Option.bind_some]
      rw [wrap64 (n := j + 1) (by omega) (by omega), wrap64 (n := 1 + q0 + j + 1) (by omega) (by omega)]
      cases hmo : decide (mo < ar a y m) with
      | true =>
        simp only [cond_true]
        exact ⟨_, _, rfl, rfl, ⟨rfl, by simp only; omega, by simp only; omega, by simp only; omega, .inr ⟨ei, hy⟩⟩, by simp only; omega⟩
      | false =>
        simp only [cond_false]
        refine ⟨_, _, rfl, rfl, ⟨rfl, by simp only; omega, by simp only; omega, by simp only; omega, .inr ?_⟩, by simp only; omega⟩
        rcases r3 with ⟨_, r4⟩ | r4
        · have := of_decide_eq_false hmo
          omega
        · exact r4
    · right
      have hj' : ¬ 1 + q0 + j < 1 + q1 := by omega
      simp only [hj, hj', decide_false, cond_false]
      refine ⟨_, _, rfl, rfl, ?_⟩
      rcases r3 with ⟨r4, _⟩ | r4
      · omega
      · exact r4
  obtain ⟨r, r', f1, f2, f3, f4⟩ := loop_sim _ (fun s : api_Sample × Int × Int => ((p.length : Int) - s.2.2).toNat) _ step (s := (api_Sample.mk [] [] 0 0, -1, 0)) (t := (-1, -1, 1 + q0)) ⟨rfl, by simp, by simp, by simp, .inl ⟨rfl, rfl⟩⟩
  exact ⟨p, r, r', p1, f1, f2, f3, f4⟩

theorem thin_both (h : Right l) (hm : 3 ≤ many ∧ many ≤ 5000) (hn : many < l.length) (hspan : (l[l.length - 1]'(by omega)).At - (l[0]'(by omega)).At ≤ 864000000) :
    ∃ out, loopO (series_Thin_x1 l many) ([l[0]'(by omega)], 0) = some out ∧ loopO (fleetref2_ThinOf_x1 l many) ([l[0]'(by omega)], 0) = some out ∧ out.length ≤ 10000 := by
  have hlen := h.len
  have step : ∀ s t : List api_Sample × Int, (s = t ∧ 0 ≤ s.2 ∧ s.2 ≤ many - 2 ∧ (s.1.length : Int) = s.2 + 1 ∧ ∀ x ∈ s.1, x ∈ l) →
      (∃ s' t', series_Thin_x1 l many s = some (.inl s') ∧ fleetref2_ThinOf_x1 l many t = some (.inl t') ∧ (s' = t' ∧ 0 ≤ s'.2 ∧ s'.2 ≤ many - 2 ∧ (s'.1.length : Int) = s'.2 + 1 ∧ ∀ x ∈ s'.1, x ∈ l) ∧ (many - s'.2).toNat < (many - s.2).toNat) ∨
      (∃ r r', series_Thin_x1 l many s = some (.inr r) ∧ fleetref2_ThinOf_x1 l many t = some (.inr r') ∧ (r = r' ∧ r.length ≤ 10000)) := by
    rintro ⟨out, k⟩ t ⟨rfl, h1, h2, h3, h4⟩
    simp only at h1 h2 h3 h4
    unfold series_Thin_x1 fleetref2_ThinOf_x1
    rw [wrap64 (n := many - 2) (by omega) (by omega)]
    by_cases hk : k < many - 2
    · left
      simp only [hk, decide_true, cond_true]
      rw [wrap64 (n := (out.length : Int) - 1) (by omega) (by omega), wrap64 (n := (l.length : Int) - 1) (by omega) (by omega), wrap64 (n := k + 1) (by omega) (by omega)]
      rw [at_lt (l := out) (n := (out.length : Int) - 1) (by omega) (by omega), at_lt (l := l) (n := (l.length : Int) - 1) (by omega) (by omega)]
      have ha : out[((out.length : Int) - 1).toNat]'(by omega) ∈ l := h4 _ (List.getElem_mem _)
      generalize out[((out.length : Int) - 1).toNat]'(by omega) = a at ha
      obtain ⟨p, m, m2, e1, e2, e3, e4, e5, e6⟩ := next_both h hm hn (k := k) (by omega)
      obtain ⟨p', y, i, f1, f2, f3, f4, f5⟩ := best_both h hm hn hspan (k := k) (by omega) ha e4 e5 e6
      have el : l[((l.length : Int) - 1).toNat]'(by omega) = l[l.length - 1]'(by omega) := by congr 1; omega
      have g : (!(IntKind.wrap .i64 (many - 2) == 0)) = true := by rw [wrap64 (by omega) (by omega)]; simp; omega
      have g1 : fleetref2_ThinOf_1 k l.length many = some () := by unfold fleetref2_ThinOf_1; rw [gd_true g]
      have hq := first_eq (n := (l.length : Int)) (many := many) (k := k) (by omega) hm (by omega)
      rw [wrap64 (n := many - 2) (by omega) (by omega)] at hq
      have hb : Nat.ble (out.length + ([y] : List api_Sample).length) LIM = true := ble_lim (by simp; omega)
      refine ⟨(out ++ [y], k + 1), (out ++ [y], k + 1), ?_, ?_, ⟨rfl, by simp only; omega, by simp only; omega, by simp; omega, fun x hx => ?_⟩, by simp only; omega⟩
      · simp only [Option.bind_some, e1, e2, f1, f2, gd_true hb]
      · simp only [Option.bind_some, el, e3, g1, hq, f3, f4, gd_true hb]
      · rcases List.mem_append.1 hx with hx | hx
        · exact h4 x hx
        · rw [List.mem_singleton.1 hx]; exact f5
    · right
      simp only [hk, decide_false, cond_false]
      exact ⟨_, _, rfl, rfl, rfl, by omega⟩
  obtain ⟨r, r', e1, e2, e3, e4⟩ := loop_sim _ (fun s : List api_Sample × Int => (many - s.2).toNat) _ step (s := ([l[0]'(by omega)], 0)) (t := ([l[0]'(by omega)], 0)) ⟨rfl, by omega, by simp only; omega, by simp, fun x hx => by rw [List.mem_singleton.1 hx]; exact List.getElem_mem _⟩
  subst e3
  exact ⟨r, e1, e2, e4⟩
end
end Go.Eng
