/-
The times for which values are held; means and what lies beyond.
-/
import Derived.Test.YtjfpceigbgnjgaaPlainR
namespace Go.Eng
open Go
set_option linter.unusedVariables false
set_option linter.unusedSimpArgs false

/-! ### Least common form of a fraction -/
theorem tmod_abs (a b : Int) : ((a.natAbs : Int)).tmod (b.natAbs : Int) = ((a.tmod b).natAbs : Int) := by
  rw [Int.natAbs_tmod]
  rfl
theorem gcd_both {a b : Int} (hb : 0 < b) (hm : (a.natAbs : Int) ≤ 9223372036854775807 ∧ b ≤ 9223372036854775807) :
    ∃ g g' : Int, base_Gcd (a.natAbs : Int) b = some g ∧ loopO fleetref2_Lowest_x1 (a, b) = some g' ∧ g = (g'.natAbs : Int) ∧ g ≠ 0 ∧ (g'.natAbs : Int) ≤ 9223372036854775807 := by
  have step : ∀ s t : Int × Int, (s.1 = (t.1.natAbs : Int) ∧ s.2 = (t.2.natAbs : Int) ∧ (s.1 ≠ 0 ∨ s.2 ≠ 0) ∧ s.1 ≤ 9223372036854775807 ∧ s.2 ≤ 9223372036854775807) →
      (∃ s' t', base_Gcd_x1 s = some (.inl s') ∧ fleetref2_Lowest_x1 t = some (.inl t') ∧ (s'.1 = (t'.1.natAbs : Int) ∧ s'.2 = (t'.2.natAbs : Int) ∧ (s'.1 ≠ 0 ∨ s'.2 ≠ 0) ∧ s'.1 ≤ 9223372036854775807 ∧ s'.2 ≤ 9223372036854775807) ∧ s'.2.toNat < s.2.toNat) ∨
      (∃ r r', base_Gcd_x1 s = some (.inr r) ∧ fleetref2_Lowest_x1 t = some (.inr r') ∧ (r = (r'.natAbs : Int) ∧ r ≠ 0 ∧ (r'.natAbs : Int) ≤ 9223372036854775807)) := by
    rintro ⟨x, y⟩ ⟨x', y'⟩ ⟨h1, h2, h3, h4, h5⟩
    simp only at h1 h2 h3 h4 h5
    subst h1 h2
    unfold base_Gcd_x1 fleetref2_Lowest_x1
    by_cases hy : y' = 0
    · right
      subst hy
      exact ⟨_, _, by simp, by simp, rfl, by simpa using h3, h4⟩
    · left
      have hy' : ¬ ((y'.natAbs : Int) = 0) := by omega
      have b1 : (!((y'.natAbs : Int) == 0)) = true := by rw [Bool.not_eq_true', beq_eq_false_iff_ne]; exact hy'
      have b2 : (!(y' == 0)) = true := by rw [Bool.not_eq_true', beq_eq_false_iff_ne]; exact hy
      simp only [hy, hy', decide_false, Bool.not_false, cond_true, gd_true b1, gd_true b2]
      have lt := Int.tmod_lt_of_pos (x'.natAbs : Int) (show 0 < (y'.natAbs : Int) by omega)
      have ge := Int.tmod_nonneg (y'.natAbs : Int) (show 0 ≤ (x'.natAbs : Int) by omega)
      exact ⟨_, _, rfl, rfl, ⟨rfl, tmod_abs _ _, .inl (by simp only; omega), by simp only; omega, by simp only; omega⟩, by simp only; omega⟩
  obtain ⟨r, r', e1, e2, e3, e4, e5⟩ := loop_sim _ (fun s : Int × Int => s.2.toNat) _ step (s := ((a.natAbs : Int), b)) (t := (a, b)) ⟨rfl, by simp only; omega, .inr (by simp only; omega), hm.1, hm.2⟩
  refine ⟨r, r', ?_, e2, e3, e4, e5⟩
  unfold base_Gcd
  rw [e1]; rfl
theorem frac_both {a b : Int} (hb : 0 < b) (hm : (a.natAbs : Int) ≤ 9223372036854775807 ∧ b ≤ 9223372036854775807) : ∃ f, base_Fraction a b = some f ∧ fleetref2_Lowest a b = some f := by
  obtain ⟨g, g', e1, e2, e3, e4, e5⟩ := gcd_both hb hm
  unfold base_Fraction fleetref2_Lowest fleetref2_Lowest_x2
  have ei : imax a (IntKind.wrap .i64 (0 - a)) = (a.natAbs : Int) := by
    rw [wrap64 (by omega) (by omega)]
    unfold imax
    split <;> omega
  have b1 : (!(g == 0)) = true := by rw [Bool.not_eq_true', beq_eq_false_iff_ne]; exact e4
  rw [ei, e1, e2]
  simp only [Option.bind_some, gd_true b1]
  by_cases hn : g' < 0
  · have eg : IntKind.wrap .i64 (0 - g') = g := by rw [wrap64 (by omega) (by omega)]; omega
    simp only [hn, decide_true, cond_true, Option.bind_some, eg, gd_true b1]
    exact ⟨_, rfl, rfl⟩
  · obtain rfl : g' = g := by omega
    simp only [hn, decide_false, cond_false, Option.bind_some, gd_true b1]
    exact ⟨_, rfl, rfl⟩

/-! ### Spans -/
structure Sp where
  a : Int
  b : Int
  v : Int
def Sp.s (x : Sp) : series_span := series_span.mk x.a x.b x.v
def Sp.t (x : Sp) : fleetref2_stretch := fleetref2_stretch.mk x.a x.b x.v
def SpOk (x : Sp) : Prop := (0 ≤ x.a ∧ x.a < x.b ∧ x.b ≤ 345686400000) ∧ (-1000000000 ≤ x.v ∧ x.v ≤ 1000000000)
def tot : List Sp → Int
  | [] => 0
  | x :: l => (x.b - x.a) + tot l
theorem tot_snoc : ∀ (l : List Sp) (x : Sp), tot (l ++ [x]) = tot l + (x.b - x.a)
  | [], x => by simp [tot]
  | y :: l, x => by simp only [List.cons_append, tot, tot_snoc l x]; omega
/-- How much of the window has passed at a place of a series. -/
def past (l : List api_Sample) (w : api_Window) (i : Nat) : Int := if h : i < l.length then (if l[i].At < w.From then 0 else if w.To < l[i].At then w.To - w.From else l[i].At - w.From) else w.To - w.From

theorem spans_both {l : List api_Sample} {w : api_Window} (h : Right l) (hw : windowB w = true) :
    ∃ L : List Sp, series_spans l w = some (L.map Sp.s) ∧ fleetref2_stretches l w = some (L.map Sp.t) ∧ L.length ≤ 5000 ∧ (∀ x ∈ L, SpOk x) ∧ tot L ≤ w.To - w.From := by
  have hlen := h.len
  have hw' : (0 ≤ w.From ∧ w.From ≤ w.To) ∧ w.To ≤ 345686400000 := by simpa [windowB] using hw
  have step : ∀ (s : List series_span × Int) (t : List fleetref2_stretch × Int), (∃ (L : List Sp) (i : Nat), s = (L.map Sp.s, (i : Int)) ∧ t = (L.map Sp.t, (i : Int)) ∧ i ≤ l.length ∧ L.length ≤ i ∧ (∀ x ∈ L, SpOk x) ∧ tot L ≤ past l w i) →
      (∃ s' t', series_spans_x1 l w s = some (.inl s') ∧ fleetref2_stretches_x1 l w t = some (.inl t') ∧ (∃ (L : List Sp) (i : Nat), s' = (L.map Sp.s, (i : Int)) ∧ t' = (L.map Sp.t, (i : Int)) ∧ i ≤ l.length ∧ L.length ≤ i ∧ (∀ x ∈ L, SpOk x) ∧ tot L ≤ past l w i) ∧
        ((l.length : Int) - s'.2).toNat < ((l.length : Int) - s.2).toNat) ∨
      (∃ r r', series_spans_x1 l w s = some (.inr r) ∧ fleetref2_stretches_x1 l w t = some (.inr r') ∧ ∃ L : List Sp, r = L.map Sp.s ∧ r' = L.map Sp.t ∧ L.length ≤ 5000 ∧ (∀ x ∈ L, SpOk x) ∧ tot L ≤ w.To - w.From) := by
    rintro s t ⟨L, i, rfl, rfl, h1, h2, h3, h4⟩
    unfold series_spans_x1 fleetref2_stretches_x1
    by_cases hi : i < l.length
    · left
      have hi' : (i : Int) < l.length := by omega
      have bi := (h.bnd i hi)
      -- the end of the span
      have he : ∃ e : Int, series_spans_x3 l w i = some e ∧ fleetref2_stretches_x3 l w i = some e ∧ e ≤ w.To ∧ (l[i].At ≤ e ∨ e = w.To) ∧ past l w (i + 1) = (if e < w.From then 0 else e - w.From) := by
        unfold series_spans_x3 fleetref2_stretches_x3
        rw [wrap64 (n := (i : Int) + 1) (by omega) (by omega)]
        by_cases hn : i + 1 < l.length
        · have hn' : (i : Int) + 1 < l.length := by omega
          have ha : at? l ((i : Int) + 1) = some l[i + 1] := by
            rw [show (i : Int) + 1 = ((i + 1 : Nat) : Int) by omega]; exact at_nat hn
          have hlt := h.next i hn
          simp only [hn', decide_true, cond_true, ha, Option.bind_some]
          refine ⟨_, rfl, rfl, ?_⟩
          unfold past imin
          rw [dif_pos hn]
          refine ⟨?_, ?_, ?_⟩
          · (repeat' split) <;> omega
          · (repeat' split) <;> omega
          · (repeat' split) <;> omega
        · have hn' : ¬ (i : Int) + 1 < l.length := by omega
          simp only [hn', decide_false, cond_false]
          refine ⟨_, rfl, rfl, Int.le_refl _, .inr rfl, ?_⟩
          unfold past
          rw [dif_neg hn]
          (repeat' split) <;> omega
      obtain ⟨e, e1, e2, e3, e4, e5⟩ := he
      have hp : past l w i ≤ past l w (i + 1) ∧ (imax l[i].At w.From < e → past l w i + (e - imax l[i].At w.From) ≤ past l w (i + 1)) ∧ w.From ≤ imax l[i].At w.From := by
        rw [e5]
        unfold past imax
        rw [dif_pos hi]
        refine ⟨?_, ?_, ?_⟩
        · (repeat' split) <;> omega
        · (repeat' split) <;> omega
        · (repeat' split) <;> omega
      have x2 : ∃ L' : List Sp, series_spans_x2 l w (L.map Sp.s) i = some (L'.map Sp.s) ∧ fleetref2_stretches_x2 l w (L.map Sp.t) i = some (L'.map Sp.t) ∧ L'.length ≤ i + 1 ∧ (∀ x ∈ L', SpOk x) ∧ tot L' ≤ past l w (i + 1) := by
        unfold series_spans_x2 fleetref2_stretches_x2
        simp only [at_nat hi, Option.bind_some, e1, e2]
        by_cases hc : imax l[i].At w.From < e
        · simp only [hc, decide_true, cond_true]
          rw [gd_true (ble_lim (by simp; omega)), gd_true (ble_lim (by simp; omega))]
          refine ⟨L ++ [⟨imax l[i].At w.From, e, l[i].Value⟩], by simp [Sp.s], by simp [Sp.t], by simp; omega, fun x hx => ?_, ?_⟩
          · rcases List.mem_append.1 hx with hx | hx
            · exact h3 x hx
            · rw [List.mem_singleton.1 hx]
              exact ⟨⟨by have := hp.2.2; simp only; omega, hc, by simp only; omega⟩, bi.2⟩
          · rw [tot_snoc]
            have := hp.2.1 hc
            simp only; omega
        · simp only [hc, decide_false, cond_false]
          exact ⟨L, rfl, rfl, by omega, h3, by have := hp.1; omega⟩
      obtain ⟨L', f1, f2, f3, f4, f5⟩ := x2
      refine ⟨(L'.map Sp.s, (i : Int) + 1), (L'.map Sp.t, (i : Int) + 1), ?_, ?_, ⟨L', i + 1, by simp, by simp, by omega, f3, f4, f5⟩, by simp only; omega⟩
      · simp only [hi', decide_true, cond_true, f1, Option.bind_some, wrap64 (n := (i : Int) + 1) (by omega) (by omega)]
      · simp only [hi', decide_true, cond_true, f2, Option.bind_some, wrap64 (n := (i : Int) + 1) (by omega) (by omega)]
    · right
      have hi' : ¬ (i : Int) < l.length := by omega
      refine ⟨_, _, by simp only [hi', decide_false, cond_false], by simp only [hi', decide_false, cond_false], L, rfl, rfl, by omega, h3, ?_⟩
      unfold past at h4
      rw [dif_neg hi] at h4
      exact h4
  obtain ⟨r, r', e1, e2, L, rfl, rfl, e3, e4, e5⟩ := loop_sim _ (fun s : List series_span × Int => ((l.length : Int) - s.2).toNat) _ step (s := ([], 0)) (t := ([], 0)) ⟨[], 0, rfl, rfl, by omega, by simp, by simp, by
    unfold past tot
    (repeat' split) <;> omega⟩
  refine ⟨L, ?_, ?_, e3, e4, e5⟩
  · unfold series_spans; rw [e1]; rfl
  · unfold fleetref2_stretches; rw [e2]; rfl

/-! ### The mean -/
theorem tot_nonneg : ∀ {L : List Sp}, (∀ x ∈ L, SpOk x) → 0 ≤ tot L
  | [], _ => by simp [tot]
  | x :: L, h => by
    have h1 := h x (by simp)
    have h2 := tot_nonneg fun y hy => h y (List.mem_cons_of_mem _ hy)
    unfold SpOk at h1
    simp only [tot]; omega
theorem tot_drop : ∀ {L : List Sp} {i : Nat} (hi : i < L.length), tot (L.drop i) = (L[i].b - L[i].a) + tot (L.drop (i + 1)) := by
  intro L i hi
  rw [drop_get hi]; rfl
theorem held_both {L : List Sp} {W : Int} (hl : L.length ≤ 5000) (hL : ∀ x ∈ L, SpOk x) (ht : tot L ≤ W) (hW : W ≤ 7776000000) :
    ∃ sum time : Int, loopO (series_Held_x1 (L.map Sp.s)) (0, 0, 0) = some (sum, time) ∧ loopO (fleetref2_HeldOf_x1 (L.map Sp.t)) (0, 0, 0) = some (sum, time) ∧ 0 ≤ time ∧ time ≤ 7776000000 ∧ -(time * 1000000000) ≤ sum ∧ sum ≤ time * 1000000000 := by
  let h : Int × Int → Sp → Int × Int := fun s x => (s.1 + x.v * (x.b - x.a), s.2 + (x.b - x.a))
  let I : Nat → Int × Int → Prop := fun i s => (0 ≤ s.2 ∧ s.2 + tot (L.drop i) ≤ 7776000000) ∧ -(s.2 * 1000000000) ≤ s.1 ∧ s.1 ≤ s.2 * 1000000000
  have step : ∀ (i : Nat) (hi : i < L.length) (s : Int × Int), I i s → I (i + 1) (h s L[i]) ∧ IntKind.wrap .i64 (L[i].b - L[i].a) = L[i].b - L[i].a ∧ IntKind.wrap .i64 (L[i].v * (L[i].b - L[i].a)) = L[i].v * (L[i].b - L[i].a) ∧
      IntKind.wrap .i64 (s.1 + L[i].v * (L[i].b - L[i].a)) = s.1 + L[i].v * (L[i].b - L[i].a) ∧ IntKind.wrap .i64 (s.2 + (L[i].b - L[i].a)) = s.2 + (L[i].b - L[i].a) := by
    rintro i hi s ⟨⟨i1, i2⟩, i3, i4⟩
    have ho := hL L[i] (List.getElem_mem hi)
    unfold SpOk at ho
    rw [tot_drop hi] at i2
    have hn := tot_nonneg (L := L.drop (i + 1)) fun x hx => hL x (List.mem_of_mem_drop hx)
    have hd : 0 ≤ L[i].b - L[i].a := by omega
    have m1 : L[i].v * (L[i].b - L[i].a) ≤ 1000000000 * (L[i].b - L[i].a) := Int.mul_le_mul_of_nonneg_right ho.2.2 hd
    have m2 : (-1000000000) * (L[i].b - L[i].a) ≤ L[i].v * (L[i].b - L[i].a) := Int.mul_le_mul_of_nonneg_right ho.2.1 hd
    rw [show h s L[i] = (s.1 + L[i].v * (L[i].b - L[i].a), s.2 + (L[i].b - L[i].a)) from rfl]
    generalize L[i].v * (L[i].b - L[i].a) = p at *
    have e0 : I (i + 1) (s.1 + p, s.2 + (L[i].b - L[i].a)) := ⟨⟨by simp only; omega, by simp only; omega⟩, by simp only; omega, by simp only; omega⟩
    exact ⟨e0, wrap64 (by omega) (by omega), wrap64 (by omega) (by omega), wrap64 (by omega) (by omega), wrap64 (by omega) (by omega)⟩
  have z : I 0 (0, 0) := ⟨⟨by simp, by simp only [List.drop_zero]; omega⟩, by simp, by simp⟩
  have hs : ∀ (i : Nat) (hi : i < L.length), at? (L.map Sp.s) (i : Int) = some L[i].s := fun i hi => by rw [at_nat (by simpa using hi)]; simp
  have ht' : ∀ (i : Nat) (hi : i < L.length), at? (L.map Sp.t) (i : Int) = some L[i].t := fun i hi => by rw [at_nat (by simpa using hi)]; simp
  obtain ⟨e1, i1⟩ := fold_loop (l := L) (f := series_Held_x1 (L.map Sp.s)) (fun s i => (s.1, s.2, i)) h (fun s => (s.1, s.2)) I (s0 := (0, 0)) (by omega) (fun i hi s hs' => by
      obtain ⟨g1, g2, g3, g4, g5⟩ := step i hi s hs'
      refine ⟨?_, g1⟩
      unfold series_Held_x1
      have hlt : (i : Int) < (L.map Sp.s).length := by simp; omega
      simp only [hlt, decide_true, cond_true, hs i hi, Option.bind_some, Sp.s, g2, g3, g4, g5]
      rfl) (fun s _ => by unfold series_Held_x1; simp) z
  obtain ⟨e2, _⟩ := fold_loop (l := L) (f := fleetref2_HeldOf_x1 (L.map Sp.t)) (fun s i => (s.1, s.2, i)) h (fun s => (s.1, s.2)) I (s0 := (0, 0)) (by omega) (fun i hi s hs' => by
      obtain ⟨g1, g2, g3, g4, g5⟩ := step i hi s hs'
      refine ⟨?_, g1⟩
      unfold fleetref2_HeldOf_x1
      have hlt : (i : Int) < (L.map Sp.t).length := by simp; omega
      simp only [hlt, decide_true, cond_true, ht' i hi, Option.bind_some, Sp.t, g2, g3, g4, g5]
      rfl) (fun s _ => by unfold fleetref2_HeldOf_x1; simp) z
  obtain ⟨⟨j1, j2⟩, j3, j4⟩ := i1
  refine ⟨_, _, e1, e2, j1, ?_, j3, j4⟩
  simp only [List.drop_length, tot] at j2
  omega

/-! ### What lies beyond -/
theorem beyond_both {L : List Sp} {lo hi : Int} (hl : L.length ≤ 5000) : ∃ out, loopO (series_Beyond_x1 lo hi (L.map Sp.s)) ([], 0) = some out ∧ loopO (fleetref2_BeyondOf_x1 lo hi (L.map Sp.t)) ([], 0) = some out ∧ out.length ≤ 5000 := by
  have step : ∀ s t : List api_Window × Int, (s = t ∧ 0 ≤ s.2 ∧ s.2 ≤ (L.length : Int) ∧ (s.1.length : Int) ≤ s.2) →
      (∃ s' t', series_Beyond_x1 lo hi (L.map Sp.s) s = some (.inl s') ∧ fleetref2_BeyondOf_x1 lo hi (L.map Sp.t) t = some (.inl t') ∧ (s' = t' ∧ 0 ≤ s'.2 ∧ s'.2 ≤ (L.length : Int) ∧ (s'.1.length : Int) ≤ s'.2) ∧ ((L.length : Int) - s'.2).toNat < ((L.length : Int) - s.2).toNat) ∨
      (∃ r r', series_Beyond_x1 lo hi (L.map Sp.s) s = some (.inr r) ∧ fleetref2_BeyondOf_x1 lo hi (L.map Sp.t) t = some (.inr r') ∧ (r = r' ∧ r.length ≤ 5000)) := by
    rintro ⟨out, i⟩ t ⟨rfl, h1, h2, h3⟩
    simp only at h1 h2 h3
    unfold series_Beyond_x1 fleetref2_BeyondOf_x1
    by_cases hc : i < L.length
    · left
      have hs : at? (L.map Sp.s) i = some (L[i.toNat]'(by omega)).s := by rw [at_lt h1 (by simp; omega)]; simp
      have ht : at? (L.map Sp.t) i = some (L[i.toNat]'(by omega)).t := by rw [at_lt h1 (by simp; omega)]; simp
      generalize L[i.toNat]'(by omega) = x at hs ht
      have c1 : i < ((L.map Sp.s).length : Int) := by simp; omega
      have c2 : i < ((L.map Sp.t).length : Int) := by simp; omega
      have x2 : ∃ out', series_Beyond_x2 lo hi (L.map Sp.s) out i = some out' ∧ fleetref2_BeyondOf_x2 lo hi (L.map Sp.t) out i = some out' ∧ out'.length ≤ out.length + 1 := by
        unfold series_Beyond_x2 fleetref2_BeyondOf_x2
        rw [hs, ht]
        simp only [Option.bind_some, Out_eq, in_eq, Sp.s, Sp.t]
        have hb : (!(decide (x.v < lo) || decide (hi < x.v))) = (decide (lo ≤ x.v) && decide (x.v ≤ hi)) := by
          by_cases a1 : x.v < lo <;> by_cases a2 : hi < x.v <;> simp [a1, a2] <;> omega
        rw [hb]
        cases (decide (lo ≤ x.v) && decide (x.v ≤ hi)) with
        | true => exact ⟨out, rfl, rfl, by omega⟩
        | false =>
          simp only [cond_false]
          unfold series_Beyond_x3 fleetref2_BeyondOf_x3
          simp only [wrap64 (n := (out.length : Int) - 1) (by omega) (by omega)]
          by_cases ho : 0 ≤ (out.length : Int) - 1
          · simp only [ho, decide_true, cond_true, at_lt (l := out) ho (by omega), Option.bind_some]
            generalize out[((out.length : Int) - 1).toNat]'(by omega) = y
            cases decide (y.To = x.a) with
            | true => exact ⟨_, rfl, rfl, by simp⟩
            | false =>
              simp only [cond_false]
              rw [gd_true (ble_lim (by simp; omega))]
              exact ⟨_, rfl, rfl, by simp⟩
          · simp only [ho, decide_false, cond_false, Option.bind_some]
            rw [gd_true (ble_lim (by simp; omega))]
            exact ⟨_, rfl, rfl, by simp⟩
      obtain ⟨out', f1, f2, f3⟩ := x2
      refine ⟨(out', i + 1), (out', i + 1), ?_, ?_, ⟨rfl, by simp only; omega, by simp only; omega, by simp only; omega⟩, by simp only; omega⟩
      · simp only [c1, decide_true, cond_true, f1, Option.bind_some, wrap64 (n := i + 1) (by omega) (by omega)]
      · simp only [c2, decide_true, cond_true, f2, Option.bind_some, wrap64 (n := i + 1) (by omega) (by omega)]
    · right
      have c1 : ¬ i < ((L.map Sp.s).length : Int) := by simp; omega
      have c2 : ¬ i < ((L.map Sp.t).length : Int) := by simp; omega
      exact ⟨out, out, by simp only [c1, decide_false, cond_false], by simp only [c2, decide_false, cond_false], rfl, by omega⟩
  obtain ⟨r, r', e1, e2, e3, e4⟩ := loop_sim _ (fun s : List api_Window × Int => ((L.length : Int) - s.2).toNat) _ step (s := ([], 0)) (t := ([], 0)) ⟨rfl, by omega, by simp, by simp⟩
  subst e3
  exact ⟨r, e1, e2, e4⟩
end Go.Eng
