/-
Fill and FillOf, whole.
-/
import Derived.Test.YtjfpceigbgnjgaaPlainG
namespace Go.Eng
open Go
set_option linter.unusedVariables false
set_option linter.unusedSimpArgs false

/-- Two loops side by side. -/
theorem loop_sim {σ τ ρ ρ' : Type} {f : σ → Option (σ ⊕ ρ)} {g : τ → Option (τ ⊕ ρ')} (R : σ → τ → Prop) (μ : σ → Nat) (E : ρ → ρ' → Prop)
    (step : ∀ s t, R s t → (∃ s' t', f s = some (.inl s') ∧ g t = some (.inl t') ∧ R s' t' ∧ μ s' < μ s) ∨ (∃ r r', f s = some (.inr r) ∧ g t = some (.inr r') ∧ E r r')) {s : σ} {t : τ} (h : R s t) :
    ∃ r r', loopO f s = some r ∧ loopO g t = some r' ∧ E r r' := by
  generalize hn : μ s = n
  induction n using Nat.strongRecOn generalizing s t with
  | _ n ih =>
    rcases step s t h with ⟨s', t', h1, h2, h3, h4⟩ | ⟨r, r', h1, h2, h3⟩
    · obtain ⟨r, r', g1, g2, g3⟩ := ih (μ s') (by omega) h3 rfl
      refine ⟨r, r', ?_, ?_, g3⟩
      · rw [loopO_eq, h1]; exact g1
      · rw [loopO_eq, h2]; exact g2
    · refine ⟨r, r', ?_, ?_, h3⟩
      · rw [loopO_eq, h1]; rfl
      · rw [loopO_eq, h2]; rfl

theorem Down_floor {a b : Int} (hb : b ≠ 0) : ∃ q, base_Down a b = some q ∧ fleetref2_floor a b = some q := by
  have h0 : (!(b == 0)) = true := by simpa using hb
  unfold base_Down base_Down_x1 fleetref2_floor
  simp only [gd, h0, cond_true]
  cases decide (a.tmod b < 0)
  · exact ⟨_, rfl, rfl⟩
  · exact ⟨_, rfl, rfl⟩

theorem fill_round {l : List api_Sample} (h : Right l) {t k how : Int} {out : List api_Sample} (h1 : -1 ≤ k) (h2 : k < l.length) (h3 : ∀ (j : Nat) (h : j < l.length), (j : Int) ≤ k → l[j].At ≤ t) (hout : out.length ≤ 100000) :
    ∃ out' k', series_Fill_x3 l how out k t = some (out', k') ∧ fleetref2_FillOf_x2 l how out t = some out' ∧ Place l t k' ∧ out'.length ≤ out.length + 1 := by
  have hlen := h.len
  obtain ⟨k', hk', hp⟩ := fill_inner h h1 h2 h3
  have hf := fillof_inner h hp
  obtain ⟨p1, p2, p3, p4⟩ := hp
  unfold series_Fill_x3 fleetref2_FillOf_x2
  rw [hk', hf]
  simp only [Option.bind_some]
  by_cases hneg : k' < 0
  · unfold fleetref2_FillOf_x7
    simp only [hneg, decide_true, cond_true, Option.bind_some]
    exact ⟨out, k', rfl, rfl, ⟨p1, p2, p3, p4⟩, by omega⟩
  obtain ⟨n, rfl⟩ : ∃ n : Nat, k' = (n : Int) := ⟨k'.toNat, by omega⟩
  have hnl : n < l.length := by omega
  have hyt := p3 n hnl (by omega)
  have app : ∀ x : api_Sample, Nat.ble (out.length + [x].length) LIM = true := fun x => ble_lim (by simp; omega)
  have aft : afterOf l t (n : Int) = if l[n].At = t then (n : Int) else if (n : Int) + 1 < l.length then (n : Int) + 1 else -1 := by
    unfold afterOf
    rw [dif_pos ⟨by omega, by omega⟩]
    simp only [Int.toNat_natCast]
  have fin : ∀ (x : api_Sample), ∃ out' k', (gd (Nat.ble (out.length + ([x] : List api_Sample).length) LIM) <| some (out ++ [x], (n : Int))) = some (out', k') ∧
      (gd (Nat.ble (out.length + ([x] : List api_Sample).length) LIM) <| some (out ++ [x])) = some out' ∧ Place l t k' ∧ out'.length ≤ out.length + 1 := fun x => by
    rw [gd_true (app x), gd_true (app x)]
    exact ⟨_, _, rfl, rfl, ⟨p1, p2, p3, p4⟩, by simp⟩
  have skip : ∃ out' k', (some (out, (n : Int))) = some (out', k') ∧ some out = some out' ∧ Place l t k' ∧ out'.length ≤ out.length + 1 := ⟨_, _, rfl, rfl, ⟨p1, p2, p3, p4⟩, by omega⟩
  unfold fleetref2_FillOf_x7 series_Fill_x6 series_Fill_x7 fleetref2_FillOf_x8 fleetref2_FillOf_x9
  simp only [hneg, decide_false, cond_false, at_nat hnl, Option.bind_some]
  by_cases hhow : how = 2
  · simp only [hhow, decide_true, cond_true, Option.bind_some, aft]
    by_cases he : l[n].At = t
    · have g1 : ¬ l[n].At < t := by omega
      have g2 : ¬ ((n : Int) < 0) := by omega
      simp only [Int.lt_irrefl, decide_false, cond_false, Option.bind_some, he, if_true, g2, decide_true, Bool.not_true]
      exact fin ⟨l[n].Device, l[n].Metric, t, l[n].Value⟩
    · have g1 : l[n].At < t := by omega
      simp only [g1, decide_true, cond_true, Option.bind_some, he, if_false]
      unfold series_Fill_x8
      rw [wrap64 (by omega) (by omega)]
      by_cases hend : (n : Int) + 1 < l.length
      · have g2 : ¬ ((n : Int) + 1 < 0) := by omega
        have g3 : ¬ ((n : Int) + 1 = l.length) := by omega
        have g4 : ¬ ((n : Int) + 1 = (n : Int)) := by omega
        have hn1 : n + 1 < l.length := by omega
        have hat : at? l ((n : Int) + 1) = some l[n + 1] := by
          have := at_nat hn1
          rw [← this]; congr 1
        have hlt := h.next n hn1
        have b1 := (h.bnd n hnl).1
        have b2 := (h.bnd (n + 1) hn1).1
        simp only [hend, if_true, g2, g3, g4, decide_false, cond_false, Option.bind_some, hat, Bool.not_false, cond_true]
        rw [wrap64 (n := l[n + 1].At - l[n].At) (by omega) (by omega)]
        by_cases hfar : (2592000000 : Int) < l[n + 1].At - l[n].At
        · simp only [hfar, decide_true, cond_true, Option.bind_some]
          exact skip
        · simp only [hfar, decide_false, cond_false, Option.bind_some]
          obtain ⟨q, q1, q2⟩ := Down_floor (a := IntKind.wrap .i64 ((IntKind.wrap .i64 (l[n + 1].Value - l[n].Value)) * (IntKind.wrap .i64 (t - l[n].At)))) (b := l[n + 1].At - l[n].At) (by omega)
          simp only [q1, q2, Option.bind_some]
          exact fin ⟨l[n].Device, l[n].Metric, t, IntKind.wrap .i64 (l[n].Value + q)⟩
      · have g3 : decide ((n : Int) + 1 = l.length) = true := by simp; omega
        have g5 : ((-1 : Int) < 0) := by omega
        simp only [hend, if_false, g5, decide_true, cond_true, Option.bind_some, g3]
        exact skip
  · simp only [hhow, decide_false, cond_false, Option.bind_some]
    exact fin ⟨l[n].Device, l[n].Metric, t, l[n].Value⟩

theorem fill_eq {l : List api_Sample} {w : api_Window} {step how : Int} (h : Right l) (hw : windowB w = true) (hs : 1 ≤ step ∧ step ≤ 345686400000) (hcount : ¬ (5000 : Int) < (w.To - w.From + step - 1).tdiv step) :
    ∃ out, loopO (series_Fill_x2 l w step how) ([], -1, w.From) = some out ∧ loopO (fleetref2_FillOf_x1 l w step how) ([], w.From) = some out ∧ out.length ≤ 100000 := by
  have hw' : (0 ≤ w.From ∧ w.From ≤ w.To) ∧ w.To ≤ 345686400000 := by simpa [windowB] using hw
  have hc : w.To - w.From ≤ 5000 * step := by
    have h1 : (w.To - w.From + step - 1).tdiv step = (w.To - w.From + step - 1) / step := Int.tdiv_eq_ediv_of_nonneg (by omega)
    rw [h1] at hcount
    have h2 : (w.To - w.From + step - 1) / step < 5001 := by omega
    have h3 := (Int.ediv_lt_iff_lt_mul (by omega : 0 < step)).1 h2
    omega
  have H : ∃ r r', loopO (series_Fill_x2 l w step how) ([], -1, w.From) = some r ∧ loopO (fleetref2_FillOf_x1 l w step how) ([], w.From) = some r' ∧ (r = r' ∧ r.length ≤ 100000) := by
   refine loop_sim (fun (s : List api_Sample × Int × Int) (t : List api_Sample × Int) => s.1 = t.1 ∧ s.2.2 = t.2 ∧ -1 ≤ s.2.1 ∧ s.2.1 < (l.length : Int) ∧ (∀ (j : Nat) (h : j < l.length), (j : Int) ≤ s.2.1 → l[j].At ≤ s.2.2) ∧ ∃ n : Nat, s.2.2 = w.From + n * step ∧ s.1.length ≤ n ∧ n ≤ 5001)
    (fun s : List api_Sample × Int × Int => (w.To - s.2.2).toNat) (fun (r r' : List api_Sample) => r = r' ∧ r.length ≤ 100000) ?_ ?_
   · rintro ⟨out, k, t⟩ ⟨out2, t2⟩ ⟨e1, e2, e3, e4, e5, n, e6, e7, e8⟩
     simp only at e1 e2 e3 e4 e5 e6 e7
     subst e1 e2
     unfold series_Fill_x2 fleetref2_FillOf_x1
     by_cases ht : t < w.To
     · have hn : (n : Int) < 5000 := by
         have : (n : Int) * step < 5000 * step := by omega
         exact Int.lt_of_mul_lt_mul_right this (by omega)
       obtain ⟨out', k', g1, g2, g3, g4⟩ := fill_round (how := how) (out := out) h e3 e4 e5 (by omega)
       simp only [ht, decide_true, cond_true, g1, g2, Option.bind_some]
       have hfrom : w.From ≤ t := by
         rw [e6]
         have : 0 ≤ (n : Int) * step := Int.mul_nonneg (by omega) (by omega)
         omega
       rw [wrap64 (n := t + step) (by omega) (by omega)]
       refine .inl ⟨_, _, rfl, rfl, ⟨rfl, rfl, g3.1, g3.2.1, fun j hj hjk => ?_, n + 1, ?_, ?_, ?_⟩, ?_⟩
       · have := g3.2.2.1 j hj hjk
         simp only; omega
       · simp only
         rw [e6]
         have : ((n + 1 : Nat) : Int) * step = n * step + step := by rw [Int.natCast_add, Int.add_mul]; simp
         omega
       · simp only; omega
       · omega
       · simp only; omega
     · simp only [ht, decide_false, cond_false]
       exact .inr ⟨_, _, rfl, rfl, rfl, by omega⟩
   · refine ⟨rfl, rfl, by simp, by simp only; omega, fun j hj hjk => by simp only at hjk; omega, 0, by simp, by simp, by omega⟩
  obtain ⟨r, r', h1, h2, h3, h4⟩ := H
  subst h3
  exact ⟨r, h1, h2, h4⟩

/-- Both at all arguments that the checks let in. -/
theorem Fill_both {l : List api_Sample} {w : api_Window} {step how : Int} (hb : SBnd l) (hl : (l.length : Int) ≤ 9223372036854775807) (h0 : seriesV l = 0) (hw : windowB w = true) (hs : 1 ≤ step ∧ step ≤ 345686400000) (hh : how = 1 ∨ how = 2) :
    ∃ out c, series_Fill l w step how = some (out, c) ∧ fleetref2_FillOf l w step how = some (out, c) ∧ out.length ≤ 100000 := by
  have hr := right_of h0
  have hw' : (0 ≤ w.From ∧ w.From ≤ w.To) ∧ w.To ≤ 345686400000 := by simpa [windowB] using hw
  have hz : (!(step == 0)) = true := by simp; omega
  have s1 : ¬ step < 1 := by omega
  have s2 : ¬ (345686400000 : Int) < step := by omega
  have hx1 : series_Fill_x1 how = some false := by
    unfold series_Fill_x1
    rcases hh with rfl | rfl <;> rfl
  have w1 : IntKind.wrap .i64 (w.To - w.From) = w.To - w.From := wrap64 (by omega) (by omega)
  have w2 : IntKind.wrap .i64 (w.To - w.From + step) = w.To - w.From + step := wrap64 (by omega) (by omega)
  have w3 : IntKind.wrap .i64 (w.To - w.From + step - 1) = w.To - w.From + step - 1 := wrap64 (by omega) (by omega)
  have w4 : IntKind.wrap .i64 ((w.To - w.From + step - 1).tdiv step) = (w.To - w.From + step - 1).tdiv step := by
    have h1 : (w.To - w.From + step - 1).tdiv step = (w.To - w.From + step - 1) / step := Int.tdiv_eq_ediv_of_nonneg (by omega)
    have h2 : 0 ≤ (w.To - w.From + step - 1) / step := Int.ediv_nonneg (by omega) (by omega)
    have h3 : (w.To - w.From + step - 1) / step ≤ (w.To - w.From + step - 1) := Int.ediv_le_self _ (by omega)
    rw [h1, wrap64 (by omega) (by omega)]
  unfold series_Fill fleetref2_FillOf
  rw [fault_eq w hb hl, h0, hw, Out_eq, hx1, w1, w2, w3, w4]
  simp only [or0, if_true, cond_true, Option.bind_some, decide_true, Bool.not_true, cond_false, s1, s2, decide_false, Bool.or_self, gd, hz]
  by_cases hc : (5000 : Int) < (w.To - w.From + step - 1).tdiv step
  · simp only [hc, decide_true, cond_true]
    exact ⟨_, _, rfl, rfl, by simp⟩
  · simp only [hc, decide_false, cond_false]
    obtain ⟨out, h1, h2, h3⟩ := fill_eq (how := how) hr hw hs hc
    rw [h1, h2]
    exact ⟨_, _, rfl, rfl, h3⟩
end Go.Eng
