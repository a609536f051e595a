/-
What the plain functions of the law TracksVisit answer, part 2.
-/
import Derived.Test.YtddkiphgahpfdaaPlainA
/-
Tracks: checks, visits, stays and lengths, both ways.
-/
namespace Go.Eng
open Go Geo
open scoped Classical
set_option linter.unusedVariables false
set_option linter.unusedSimpArgs false

/-- Two loops side by side, over states that belong together. -/
theorem loop_sim {σ τ ρ : Type} {f : σ → Option (σ ⊕ ρ)} {g : τ → Option (τ ⊕ ρ)} (R : σ → τ → Prop) (μ : σ → Nat)
    (step : ∀ s t, R s t → (∃ s' t', f s = some (.inl s') ∧ g t = some (.inl t') ∧ R s' t' ∧ μ s' < μ s) ∨ (∃ r, f s = some (.inr r) ∧ g t = some (.inr r))) {s : σ} {t : τ} (h : R s t) :
    ∃ r, loopO f s = some r ∧ loopO g t = some r := by
  generalize hn : μ s = n
  induction n using Nat.strongRecOn generalizing s t with
  | _ n ih =>
    rcases step s t h with ⟨s', t', h1, h2, h3, h4⟩ | ⟨r, h1, h2⟩
    · obtain ⟨r, g1, g2⟩ := ih (μ s') (by omega) h3 rfl
      exact ⟨r, by rw [loop_in h1]; exact g1, by rw [loop_in h2]; exact g2⟩
    · exact ⟨r, loop_out h1, loop_out h2⟩

/-! ### Tracks that streams make -/
theorem Track_ok {k : Nat} {s : fleetmake_Stream} (h : StrOk k s) (hk : k + 2000 < 1099511627776) : Ok (fleetmake_Stream_Track s 14) (fun r => StrOk (k + 250) r.1 ∧ r.2.length ≤ 14 ∧ All FB r.2) := by
  unfold fleetmake_Stream_Track
  refine (RightTrack_ok h (by omega)).bind fun ⟨s1, l⟩ ⟨h1, h2⟩ => ?_
  have h1 : StrOk (k + 200) s1 := h1
  have h2 : TrackR l := h2
  have hall : All FB l := fun x hx => by
    obtain ⟨d, -, a, -⟩ := h2.2.1 x hx
    unfold FB; rw [d]; simp; omega
  have hl := h2.1
  have key : Ok (fleetmake_Stream_Track_x1 s1 l) (fun r => StrOk (k + 250) r.1 ∧ r.2.length ≤ 14 ∧ All FB r.2) := by
    unfold fleetmake_Stream_Track_x1 fleetmake_Stream_Track_x2
    by_cases h0 : (0 : Int) < l.length
    · simp only [h0, decide_true, cond_true]
      have a1 := h1.nxt (by omega)
      have a2 := a1.nxt (by omega)
      have a3 := a2.nxt (by omega)
      obtain ⟨b, hb, -⟩ := Flip_ok (n := 12) h1 (by omega) (by unfold I64; omega)
      rw [hb]
      simp only [Option.bind_some]
      refine .cond (fun _ => ?_) (fun _ => .some ⟨a1.mono (by omega), hl, hall⟩)
      refine (Next_ok (n := (l.length : Int)) a1 (by omega) (by unfold I64; omega)).bind fun i hi => ?_
      have hi := hi.1 (by omega)
      refine (at_mem hi.1 hi.2).bind fun x hx => ?_
      have hFB := hall x hx
      unfold FB at hFB
      refine (Next_ok (n := 4) a2 (by omega) (by unfold I64; omega)).bind fun n _ => .cond (fun _ => ?_) (fun _ => .cond (fun _ => ?_) (fun _ => .cond (fun _ => ?_) (fun _ => ?_)))
      · refine (Some_ok a3 (by omega) (by simp) (by simp)).bind fun d hd => .some ⟨(a3.nxt (by omega)).mono (by omega), by simp [hl], hall.set ?_⟩
        simp only [List.mem_cons, List.not_mem_nil, or_false] at hd
        unfold FB
        refine ⟨?_, hFB.2⟩
        rcases hd with rfl | rfl | rfl <;> simp
      · refine (Odd_ok (low := 0) (high := 100) a3 (by omega) (by omega) (by omega) (by omega)).bind fun ⟨s', y⟩ ⟨y1, y2⟩ => .some ⟨StrOk.mono y1 (by omega), by simp [hl], hall.set ?_⟩
        simp only at y2
        unfold FB; simp only; omega
      · refine (Odd_ok (low := -10000) (high := 10000) a3 (by omega) (by omega) (by omega) (by omega)).bind fun ⟨s', y⟩ ⟨y1, y2⟩ => .some ⟨StrOk.mono y1 (by omega), by simp [hl], hall.set hFB⟩
      · refine (Odd_ok (low := 0) (high := 10000) a3 (by omega) (by omega) (by omega) (by omega)).bind fun ⟨s', y⟩ ⟨y1, y2⟩ => .some ⟨StrOk.mono y1 (by omega), by simp [hl], hall.set hFB⟩
    · simp only [h0, decide_false, cond_false, Option.bind_some]
      exact .some ⟨h1.mono (by omega), hl, hall⟩
  exact key.bind fun ⟨s2, m⟩ hm => .some hm

/-! ### Checks -/
/-- a fix that is right -/
def FixV (x : api_Fix) : Prop := (0 ≤ x.At ∧ x.At ≤ 345686399999) ∧ InB ⟨x.X, x.Y⟩ ∧ (0 ≤ x.Error ∧ x.Error ≤ 10000)
theorem x2_good {x : api_Fix} (h : place_CheckFixes_x2 x = some false) : FixV x := by
  have hx2 : place_CheckFixes_x2 x = some (!(decide (0 ≤ x.At) && decide (x.At ≤ 345686399999)) || (!((decide (-10000 ≤ x.X) && decide (x.X ≤ 10000)) && (decide (-10000 ≤ x.Y) && decide (x.Y ≤ 10000))) || (decide (x.Error < 0) || decide (10000 < x.Error)))) := by
    unfold place_CheckFixes_x2 place_spot
    simp only [Moment_eq, isSpot_eq, Out_eq, Option.bind_some]
    cases (decide (0 ≤ x.At) && decide (x.At ≤ 345686399999)) <;> cases ((decide (-10000 ≤ x.X) && decide (x.X ≤ 10000)) && (decide (-10000 ≤ x.Y) && decide (x.Y ≤ 10000))) <;> rfl
  rw [hx2] at h
  have hb := Option.some.inj h
  simp only [Bool.or_eq_false_iff, Bool.not_eq_false', decide_eq_false_iff_not] at hb
  obtain ⟨b0, b1, b2, b3⟩ := hb
  simp only [Bool.and_eq_true, decide_eq_true_iff] at b0
  exact ⟨b0, (inB_iff ⟨x.X, x.Y⟩).1 b1, by omega, by omega⟩
theorem checks_good {l : List api_Fix} (hp : All FB l) (hl : l.length ≤ 14) (h : place_CheckFixes l = some 0) : ∀ x ∈ l, FixV x := by
  have key : Ok (loopO (place_CheckFixes_x1 l) 0) (fun r => match r with | .inl _ => ∀ x ∈ l, FixV x | .inr e => e ≠ 0) := by
    refine loop_ok (fun q : Int => ∃ k : Nat, q = (k : Int) ∧ k ≤ l.length ∧ ∀ x ∈ l.take k, FixV x) (fun q => ((l.length : Int) - q).toNat) ?_ ⟨0, rfl, by omega, by simp⟩
    rintro q ⟨k, rfl, k1, k2⟩
    unfold place_CheckFixes_x1
    by_cases hk : k < l.length
    · have hk' : (k : Int) < l.length := by omega
      have hx := hp _ (List.getElem_mem hk)
      have w1 : IntKind.wrap .i64 ((k : Int) + 1) = ((k + 1 : Nat) : Int) := by rw [wrap64 (by omega) (by omega)]; omega
      have ht : l.take (k + 1) = l.take k ++ [l[k]] := List.take_succ_eq_append_getElem hk
      obtain ⟨b, b1, -⟩ := fx2_both l[k]
      have hx3 : ∃ c, place_CheckFixes_x3 l k l[k] = some c := by
        unfold place_CheckFixes_x3
        by_cases h0 : (0 : Int) < k
        · have w2 : IntKind.wrap .i64 ((k : Int) - 1) = ((k - 1 : Nat) : Int) := by rw [wrap64 (by omega) (by omega)]; omega
          simp only [h0, decide_true, cond_true, w2, at_nat (l := l) (n := k - 1) (by omega), Option.bind_some, fbyDevice_eq]
          exact ⟨_, rfl⟩
        · simp only [h0, decide_false, cond_false]; exact ⟨_, rfl⟩
      obtain ⟨c, hc⟩ := hx3
      simp only [hk', decide_true, cond_true, at_nat hk, Option.bind_some, Key_eq _ (show ((l[k].Device.length : Int)) ≤ 9223372036854775807 by have := hx.1; omega), b1, hc, w1]
      refine .cond (fun _ => .some (by show (5 : Int) ≠ 0; omega)) (fun _ => .cond (fun _ => .some (by show (1 : Int) ≠ 0; omega)) (fun hb => .cond (fun _ => .some (by show (7 : Int) ≠ 0; omega)) (fun _ => ?_)))
      refine .some ⟨⟨k + 1, rfl, by omega, ?_⟩, by omega⟩
      rw [ht]
      intro x hx
      rcases List.mem_append.1 hx with hx | hx
      · exact k2 x hx
      · rw [List.mem_singleton] at hx
        subst hx
        rw [hb] at b1
        exact x2_good b1
    · have hk' : ¬ (k : Int) < l.length := by omega
      simp only [hk', decide_false, cond_false]
      rw [List.take_of_length_le (by omega)] at k2
      exact .some k2
  unfold place_CheckFixes at h
  have h2000 : ¬ (2000 : Int) < l.length := by omega
  simp only [h2000, decide_false, cond_false] at h
  obtain ⟨r, r1, r2⟩ := key
  rw [r1] at h
  cases r with
  | inl _ => exact r2
  | inr e => exact absurd (Option.some.inj h) r2
theorem contains_same (l : List api_Fix) : slices_ContainsFunc_api_Fix_api_Fix_f1_fleetref2_TrackFault_1 l = slices_ContainsFunc_api_Fix_api_Fix_f1_place_trackFault_1 l := rfl
theorem contains_tot {l : List api_Fix} (hl : l.length ≤ 14) : Ok (slices_ContainsFunc_api_Fix_api_Fix_f1_place_trackFault_1 l) (fun _ => True) := by
  unfold slices_ContainsFunc_api_Fix_api_Fix_f1_place_trackFault_1 slices_IndexFunc_api_Fix_api_Fix_f1_place_trackFault_1
  refine Ok.bind (P := fun _ => True) (Ok.bind (P := fun _ => True) (loop_ok (fun q : Int => ∃ k : Nat, q = (k : Int) ∧ k ≤ l.length) (fun q => ((l.length : Int) - q).toNat) ?_ ⟨0, rfl, by omega⟩) fun r _ => ?_) fun r _ => .some trivial
  · rintro q ⟨k, rfl, k1⟩
    unfold slices_IndexFunc_api_Fix_api_Fix_f1_place_trackFault_1_x1 place_trackFault_1
    by_cases hk : k < l.length
    · have hk' : (k : Int) < l.length := by omega
      have w1 : IntKind.wrap .i64 ((k : Int) + 1) = ((k + 1 : Nat) : Int) := by rw [wrap64 (by omega) (by omega)]; omega
      have g0 : at? l 0 = some (l[0]'(by omega)) := at_nat (l := l) (n := 0) (by omega)
      simp only [hk', decide_true, cond_true, at_nat hk, g0, Option.bind_some, w1]
      exact .cond (fun _ => .some trivial) (fun _ => .some ⟨⟨k + 1, rfl, by omega⟩, by omega⟩)
    · have hk' : ¬ (k : Int) < l.length := by omega
      simp only [hk', decide_false, cond_false]
      exact .some trivial
  · cases r <;> exact .some trivial
theorem track_both {l : List api_Fix} (hp : All FB l) (hl : l.length ≤ 14) : ∃ e, place_trackFault l = some e ∧ fleetref2_TrackFault l = some e ∧ (e = 0 → ∀ x ∈ l, FixV x) := by
  obtain ⟨c, c1, c2⟩ := check_both hp (by omega)
  obtain ⟨b, b1, -⟩ := contains_tot hl
  unfold place_trackFault fleetref2_TrackFault
  rw [c1, c2, contains_same, b1]
  by_cases h0 : c = 0
  · subst h0
    have hg := checks_good hp hl c1
    cases b with
    | true => exact ⟨13, rfl, rfl, by omega⟩
    | false => exact ⟨0, rfl, rfl, fun _ => hg⟩
  · refine ⟨c, ?_, ?_, fun h => absurd h h0⟩
    · simp only [Option.bind_some, decide_eq_false h0]; rfl
    · simp only [Option.bind_some, decide_eq_false h0]; rfl

/-! ### Visits -/
theorem at_last' {α} (v : List α) (x : α) (hv : v.length ≤ 1000) : at? (v ++ [x]) (IntKind.wrap .i64 (((v ++ [x]).length : Int) - 1)) = some x := by
  have : ((v ++ [x]).length : Int) - 1 = (v.length : Int) := by simp
  rw [this, wrap64 (by omega) (by omega), at_nat (by simp)]
  simp
theorem set_last' {α} (v : List α) (x z : α) (hv : v.length ≤ 1000) : (v ++ [x]).set (IntKind.wrap .i64 (((v ++ [x]).length : Int) - 1)).toNat z = v ++ [z] := by
  have : ((v ++ [x]).length : Int) - 1 = (v.length : Int) := by simp
  rw [this, wrap64 (by omega) (by omega)]
  simp
theorem open_last {v : List api_Visit} {x : api_Visit} (hv : v.length ≤ 1000) : place_Visits_x3 (v ++ [x]) = some (decide (x.To < 0)) := by
  unfold place_Visits_x3
  have h0 : (0 : Int) < ((v ++ [x]).length : Int) := by simp
  simp only [h0, decide_true, cond_true, at_last' v x hv, Option.bind_some]
theorem visits_both {f : api_Fence} (hr : FRight f.Corners) {l : List api_Fix} (hl : l.length ≤ 14) (hg : ∀ x ∈ l, FixV x) :
    ∃ v, loopO (place_Visits_x1 f l) ([], 0) = some v ∧ loopO (fleetref2_VisitsOf_x1 f l) ([], false, 0) = some v ∧ v.length ≤ 14 := by
  have key : ∃ r : List api_Visit, loopO (place_Visits_x1 f l) ([], 0) = some r ∧ loopO (fleetref2_VisitsOf_x1 f l) ([], false, 0) = some r := by
    refine loop_sim (fun (s : List api_Visit × Int) (t : List api_Visit × Bool × Int) => ∃ k : Nat, s.2 = (k : Int) ∧ t.2.2 = (k : Int) ∧ k ≤ l.length ∧ s.1 = t.1 ∧ s.1.length ≤ k ∧ place_Visits_x3 s.1 = some t.2.1 ∧ (t.2.1 = true → ∃ c x, s.1 = c ++ [x])) (fun s => ((l.length : Int) - s.2).toNat) ?_
      ⟨0, rfl, rfl, by omega, rfl, by simp, rfl, by simp⟩
    rintro ⟨v, q⟩ ⟨v', b, q'⟩ ⟨k, rfl, rfl, k1, rfl, k2, k3, k4⟩
    simp only at k2 k3 k4
    unfold place_Visits_x1 fleetref2_VisitsOf_x1 place_Visits_x2 fleetref2_VisitsOf_x2 fleetref2_VisitsOf_x3 fleetref2_VisitsOf_x4
    by_cases hk : k < l.length
    · left
      have hk' : (k : Int) < l.length := by omega
      have hx := hg _ (List.getElem_mem hk)
      have w1 : IntKind.wrap .i64 ((k : Int) + 1) = ((k + 1 : Nat) : Int) := by rw [wrap64 (by omega) (by omega)]; omega
      have hxs : InB ⟨l[k].X, l[k].Y⟩ := hx.2.1
      simp only [hk', decide_true, cond_true, at_nat hk, Option.bind_some, k3, surely_p hr hxs hx.2.2, surely_r hr hxs hx.2.2, w1]
      by_cases h2 : sureV f.Corners l[k] = 2
      · simp only [h2, decide_true, cond_true]
        cases b with
        | false =>
          simp only [Bool.not_false, cond_true, Option.bind_some]
          rw [gd_true (ble_lim (by simp; omega)), gd_true (ble_lim (by simp; omega))]
          refine ⟨(v ++ [api_Visit.mk l[k].At (-1)], ((k + 1 : Nat) : Int)), (v ++ [api_Visit.mk l[k].At (-1)], true, ((k + 1 : Nat) : Int)), rfl, rfl, ⟨k + 1, rfl, rfl, by omega, rfl, by simp; omega, ?_, fun _ => ⟨v, _, rfl⟩⟩, by simp only; omega⟩
          rw [open_last (by omega)]; rfl
        | true =>
          simp only [Bool.not_true, cond_false, Option.bind_some, decide_false, show ¬ ((2 : Int) = 0) by omega]
          exact ⟨_, _, rfl, rfl, ⟨k + 1, rfl, rfl, by omega, rfl, by simp only; omega, k3, k4⟩, by simp only; omega⟩
      · simp only [h2, decide_false, cond_false, Option.bind_some]
        by_cases h0 : sureV f.Corners l[k] = 0
        · simp only [h0, decide_true, cond_true, Option.bind_some]
          cases b with
          | true =>
            obtain ⟨c, x, rfl⟩ := k4 rfl
            have hc : c.length ≤ 1000 := by simp at k2; omega
            simp only [cond_true, at_last' c x hc, Option.bind_some, set_last' c x _ hc]
            refine ⟨_, _, rfl, rfl, ⟨k + 1, rfl, rfl, by omega, rfl, by simp at k2 ⊢; omega, ?_, by simp⟩, by simp only; omega⟩
            rw [open_last hc]
            have : ¬ l[k].At < 0 := by have := hx.1.1; omega
            simp only [this, decide_false]
          | false =>
            simp only [cond_false, Option.bind_some]
            exact ⟨_, _, rfl, rfl, ⟨k + 1, rfl, rfl, by omega, rfl, by simp only; omega, k3, k4⟩, by simp only; omega⟩
        · simp only [h0, decide_false, cond_false, Option.bind_some]
          exact ⟨_, _, rfl, rfl, ⟨k + 1, rfl, rfl, by omega, rfl, by simp only; omega, k3, k4⟩, by simp only; omega⟩
    · right
      have hk' : ¬ (k : Int) < l.length := by omega
      simp only [hk', decide_false, cond_false]
      exact ⟨_, rfl, rfl⟩
  obtain ⟨v, v1, v2⟩ := key
  have hlen : Ok (loopO (place_Visits_x1 f l) ([], 0)) (fun v => v.length ≤ 14) := by
    refine loop_ok (fun s : List api_Visit × Int => ∃ k : Nat, s.2 = (k : Int) ∧ k ≤ l.length ∧ s.1.length ≤ k ∧ ∃ b, place_Visits_x3 s.1 = some b ∧ (b = true → ∃ c x, s.1 = c ++ [x])) (fun s => ((l.length : Int) - s.2).toNat) ?_ ⟨0, rfl, by omega, by simp, false, rfl, by simp⟩
    rintro ⟨v, q⟩ ⟨k, rfl, k1, k2, b, k3, k4⟩
    simp only at k2 k3 k4
    unfold place_Visits_x1 place_Visits_x2
    by_cases hk : k < l.length
    · have hk' : (k : Int) < l.length := by omega
      have hx := hg _ (List.getElem_mem hk)
      have w1 : IntKind.wrap .i64 ((k : Int) + 1) = ((k + 1 : Nat) : Int) := by rw [wrap64 (by omega) (by omega)]; omega
      have hxs : InB ⟨l[k].X, l[k].Y⟩ := hx.2.1
      simp only [hk', decide_true, cond_true, at_nat hk, Option.bind_some, k3, surely_p hr hxs hx.2.2, w1]
      refine Ok.bind (P := fun v' : List api_Visit => v'.length ≤ k + 1 ∧ ∃ b, place_Visits_x3 v' = some b ∧ (b = true → ∃ c x, v' = c ++ [x])) ?_ fun v' hv' => .some ⟨⟨k + 1, rfl, by omega, hv'.1, hv'.2⟩, by simp only; omega⟩
      have same : v.length ≤ k + 1 ∧ ∃ b, place_Visits_x3 v = some b ∧ (b = true → ∃ c x, v = c ++ [x]) := ⟨by omega, b, k3, k4⟩
      refine .cond (fun _ => .cond (fun _ => ?_) (fun _ => .some same)) (fun _ => .cond (fun _ => .cond (fun hb => ?_) (fun _ => .some same)) (fun _ => .some same))
      · exact .gd (ble_lim (by simp; omega)) (.some ⟨by simp; omega, _, open_last (by omega), fun _ => ⟨v, _, rfl⟩⟩)
      · obtain ⟨c, x, rfl⟩ := k4 hb
        have hc : c.length ≤ 1000 := by simp at k2; omega
        rw [at_last' c x hc]
        simp only [Option.bind_some, set_last' c x _ hc]
        exact .some ⟨by simp at k2 ⊢; omega, _, open_last hc, fun _ => ⟨c, _, rfl⟩⟩
    · have hk' : ¬ (k : Int) < l.length := by omega
      simp only [hk', decide_false, cond_false]
      exact .some (by show v.length ≤ 14; omega)
  obtain ⟨v', w1, w2⟩ := hlen
  rw [v1] at w1
  have := Option.some.inj w1
  subst this
  exact ⟨v, v1, v2, w2⟩
end Go.Eng

/-
The law TracksVisit.
-/
namespace Go.Eng
open Go Geo
open scoped Classical
set_option linter.unusedVariables false
set_option linter.unusedSimpArgs false

/-! ### Stays -/
def sqV (a b : api_Fix) : Int := (a.X - b.X) * (a.X - b.X) + (a.Y - b.Y) * (a.Y - b.Y)
theorem sqV_wrap {a b : api_Fix} (ha : FixV a) (hb : FixV b) :
    IntKind.wrap .i64 ((IntKind.wrap .i64 ((IntKind.wrap .i64 (a.X - b.X)) * (IntKind.wrap .i64 (a.X - b.X)))) + (IntKind.wrap .i64 ((IntKind.wrap .i64 (a.Y - b.Y)) * (IntKind.wrap .i64 (a.Y - b.Y))))) = sqV a b ∧ 0 ≤ sqV a b ∧ sqV a b ≤ 800000000 := by
  obtain ⟨-, a1, -⟩ := ha; obtain ⟨-, b1, -⟩ := hb
  unfold InB at a1 b1
  simp only at a1 b1
  rw [wrap64 (n := a.X - b.X) (by omega) (by omega), wrap64 (n := a.Y - b.Y) (by omega) (by omega)]
  have m := wdot (x := a.X - b.X) (y := a.X - b.X) (u := a.Y - b.Y) (v := a.Y - b.Y) (by omega) (by omega) (by omega) (by omega)
  have h1 := sq_nn (a.X - b.X)
  have h2 := sq_nn (a.Y - b.Y)
  unfold sqV
  exact ⟨m.1, by omega, by omega⟩
theorem sqV_comm (a b : api_Fix) : sqV a b = sqV b a := by unfold sqV; grind
/-- how far a stay reaches: from i to before k -/
def Reach (l : List api_Fix) (near : Int) (i k : Nat) : Prop := i < k ∧ k ≤ l.length ∧ (∀ j (hj : j < l.length) (hi : i < l.length), i ≤ j → j < k → sqV l[i] l[j] ≤ near * near) ∧ (∀ (hk : k < l.length) (hi : i < l.length), near * near < sqV l[i] l[k])
theorem Reach_uniq {l : List api_Fix} {near : Int} {i k k' : Nat} (h : Reach l near i k) (h' : Reach l near i k') : k = k' := by
  obtain ⟨a1, a2, a3, a4⟩ := h
  obtain ⟨b1, b2, b3, b4⟩ := h'
  by_cases hlt : k < k'
  · have := a4 (by omega) (by omega)
    have := b3 k (by omega) (by omega) (by omega) hlt
    omega
  · by_cases hgt : k' < k
    · have := b4 (by omega) (by omega)
      have := a3 k' (by omega) (by omega) (by omega) hgt
      omega
    · omega
theorem reach_p {l : List api_Fix} (hl : l.length ≤ 14) (hg : ∀ x ∈ l, FixV x) {near : Int} (hn : 0 ≤ near ∧ near ≤ 10000) {i : Nat} (hi : i < l.length) :
    Ok (loopO (place_Stays_x3 l near i) (IntKind.wrap .i64 ((i : Int) + 1))) (fun r => ∃ k : Nat, r = (k : Int) ∧ Reach l near i k) := by
  have hnn := mod_mul_bd hn hn
  rw [wrap64 (by omega) (by omega)]
  refine loop_ok (fun q : Int => ∃ k : Nat, q = (k : Int) ∧ i < k ∧ k ≤ l.length ∧ ∀ j (hj : j < l.length) (hi : i < l.length), i ≤ j → j < k → sqV l[i] l[j] ≤ near * near) (fun q => ((l.length : Int) - q).toNat) ?_ ⟨i + 1, by omega, by omega, by omega, fun j hj hi h1 h2 => ?_⟩
  · rintro q ⟨k, rfl, k1, k2, k3⟩
    unfold place_Stays_x3 place_Stays_x4 place_spot place_square
    by_cases hk : k < l.length
    · have hk' : (k : Int) < l.length := by omega
      have hs := sqV_wrap (hg _ (List.getElem_mem hi)) (hg _ (List.getElem_mem hk))
      simp only [hk', decide_true, cond_true, at_nat hi, at_nat hk, Option.bind_some, hs.1]
      rw [wrap64 (n := near * near) (by omega) (by omega)]
      refine .cond (fun hc => ?_) (fun hc => ?_)
      · have hc : sqV l[i] l[k] ≤ near * near := by simpa using hc
        have w1 : IntKind.wrap .i64 ((k : Int) + 1) = ((k + 1 : Nat) : Int) := by rw [wrap64 (by omega) (by omega)]; omega
        rw [w1]
        refine .some ⟨⟨k + 1, rfl, by omega, by omega, fun j hj hi h1 h2 => ?_⟩, by omega⟩
        by_cases hjk : j = k
        · subst hjk; exact hc
        · exact k3 j hj hi h1 (by omega)
      · have hc : ¬ sqV l[i] l[k] ≤ near * near := by simpa using hc
        exact .some ⟨k, rfl, k1, k2, k3, fun hk hi => by omega⟩
    · have hk' : ¬ (k : Int) < l.length := by omega
      simp only [hk', decide_false, cond_false, Option.bind_some]
      exact .some ⟨k, rfl, k1, k2, k3, fun hk2 => absurd hk2 hk⟩
  · have : j = i := by omega
    subst this
    have : sqV l[j] l[j] = 0 := by unfold sqV; simp
    omega
theorem reach_r {l : List api_Fix} (hl : l.length ≤ 14) (hg : ∀ x ∈ l, FixV x) {near : Int} (hn : 0 ≤ near ∧ near ≤ 10000) {i : Nat} (hi : i < l.length) :
    Ok ((slices_IndexFunc_api_Fix_api_Fix_f1_fleetref2_StaysOf_1 (l.drop i) near).bind fun r => fleetref2_StaysOf_x2 (l.drop i) r) (fun r => ∃ n : Nat, r = (n : Int) ∧ 1 ≤ n ∧ i + n ≤ l.length ∧ Reach l near i (i + n)) := by
  have hnn := mod_mul_bd hn hn
  have hdl : (l.drop i).length = l.length - i := List.length_drop
  unfold slices_IndexFunc_api_Fix_api_Fix_f1_fleetref2_StaysOf_1
  have key : Ok (loopO (slices_IndexFunc_api_Fix_api_Fix_f1_fleetref2_StaysOf_1_x1 (l.drop i) near) 0) (fun r => match r with
      | .inl _ => ∀ j (hj : j < l.length) (hi : i < l.length), i ≤ j → sqV l[i] l[j] ≤ near * near
      | .inr r => ∃ n : Nat, r = (n : Int) ∧ 1 ≤ n ∧ i + n ≤ l.length ∧ Reach l near i (i + n)) := by
    refine loop_ok (fun q : Int => ∃ k : Nat, q = (k : Int) ∧ i + k ≤ l.length ∧ ∀ j (hj : j < l.length) (hi : i < l.length), i ≤ j → j < i + k → sqV l[i] l[j] ≤ near * near) (fun q => ((l.length : Int) - q).toNat) ?_ ⟨0, rfl, by omega, fun j hj hi h1 h2 => by omega⟩
    rintro q ⟨k, rfl, k2, k3⟩
    unfold slices_IndexFunc_api_Fix_api_Fix_f1_fleetref2_StaysOf_1_x1 fleetref2_StaysOf_1 fleetref2_square fleetref2_spotOf fleetref2_minus fleetref2_dot_2
    by_cases hk : i + k < l.length
    · have hk' : (k : Int) < (l.drop i).length := by rw [hdl]; omega
      have g0 : at? (l.drop i) 0 = some l[i] := by
        rw [show (0 : Int) = ((0 : Nat) : Int) from rfl, at_nat (l := l.drop i) (n := 0) (by rw [hdl]; omega)]
        simp
      have gk : at? (l.drop i) (k : Int) = some l[i + k] := by
        rw [at_nat (l := l.drop i) (n := k) (by rw [hdl]; omega)]
        simp
      have hs := sqV_wrap (hg _ (List.getElem_mem hk)) (hg _ (List.getElem_mem hi))
      have w1 : IntKind.wrap .i64 ((k : Int) + 1) = ((k + 1 : Nat) : Int) := by rw [wrap64 (by omega) (by omega)]; omega
      simp only [hk', decide_true, cond_true, gk, g0, Option.bind_some, hs.1, w1]
      rw [wrap64 (n := near * near) (by omega) (by omega), sqV_comm]
      refine .cond (fun hc => ?_) (fun hc => ?_)
      · have hc : near * near < sqV l[i] l[i + k] := by simpa using hc
        have hk1 : 1 ≤ k := by
          by_cases h0 : k = 0
          · subst h0
            have : sqV l[i] l[i + 0] = 0 := by unfold sqV; simp
            omega
          · omega
        exact .some ⟨k, rfl, hk1, by omega, by omega, by omega, fun j hj hi h1 h2 => k3 j hj hi h1 h2, fun _ _ => hc⟩
      · have hc : ¬ near * near < sqV l[i] l[i + k] := by simpa using hc
        refine .some ⟨⟨k + 1, rfl, by omega, fun j hj hi h1 h2 => ?_⟩, by omega⟩
        by_cases hjk : j = i + k
        · subst hjk; omega
        · exact k3 j hj hi h1 (by omega)
    · have hk' : ¬ (k : Int) < (l.drop i).length := by rw [hdl]; omega
      simp only [hk', decide_false, cond_false]
      exact .some fun j hj hi h1 => k3 j hj hi h1 (by omega)
  obtain ⟨r, r1, r2⟩ := key
  rw [r1]
  cases r with
  | inl _ =>
    refine ⟨((l.length - i : Nat) : Int), ?_, l.length - i, rfl, by omega, by omega, by omega, by omega, fun j hj hi h1 _ => r2 j hj hi h1, fun hk => by omega⟩
    unfold fleetref2_StaysOf_x2
    simp only [Option.bind_some, show ((-1 : Int) < 0) by omega, decide_true, cond_true, hdl]
  | inr r =>
    obtain ⟨n, rfl, n1, n2, n3⟩ := r2
    refine ⟨(n : Int), ?_, n, rfl, n1, n2, n3⟩
    unfold fleetref2_StaysOf_x2
    have : ¬ (n : Int) < 0 := by omega
    simp only [Option.bind_some, this, decide_false, cond_false]
theorem sub_drop (l : List api_Fix) (i n : Nat) (h : n ≤ l.length - i) : sub? (l.drop i) (n : Int) ((l.drop i).length : Int) = some (l.drop (i + n)) := by
  unfold sub?
  rw [if_pos (by rw [List.length_drop]; omega), Int.toNat_natCast, Int.toNat_natCast, List.take_length, List.drop_drop]
theorem stays_both {l : List api_Fix} (hl : l.length ≤ 14) (hg : ∀ x ∈ l, FixV x) {near long : Int} (hn : 0 ≤ near ∧ near ≤ 10000) :
    ∃ v, loopO (place_Stays_x2 l near long) ([], 0) = some v ∧ loopO (fleetref2_StaysOf_x1 near long) (l, []) = some v ∧ v.length ≤ 14 := by
  have key : ∃ r : List api_Stay, loopO (place_Stays_x2 l near long) ([], 0) = some r ∧ loopO (fleetref2_StaysOf_x1 near long) (l, []) = some r := by
    exact loop_sim (f := place_Stays_x2 l near long) (g := fleetref2_StaysOf_x1 near long) (fun (s : List api_Stay × Int) (t : List api_Fix × List api_Stay) => ∃ i : Nat, s.2 = (i : Int) ∧ i ≤ l.length ∧ t.1 = l.drop i ∧ t.2 = s.1 ∧ s.1.length ≤ i) (fun s => ((l.length : Int) - s.2).toNat) (by
      rintro ⟨v, q⟩ ⟨d, v'⟩ ⟨i, rfl, i1, rfl, e, i2⟩
      have e : v' = v := e
      subst v'
      simp only at i2
      unfold place_Stays_x2 fleetref2_StaysOf_x1
      have hdl : (l.drop i).length = l.length - i := List.length_drop
      by_cases hi : i < l.length
      · left
        have hi' : (i : Int) < l.length := by omega
        have hd0 : (0 : Int) < ((l.drop i).length : Int) := by rw [hdl]; omega
        obtain ⟨r, r1, k, rfl, hR⟩ := reach_p hl hg hn hi
        obtain ⟨r', r1', n, rfl, n1, n2, hR'⟩ := reach_r hl hg hn hi
        have hk : k = i + n := Reach_uniq hR hR'
        subst hk
        have hbind : (slices_IndexFunc_api_Fix_api_Fix_f1_fleetref2_StaysOf_1 (l.drop i) near).bind (fun r => (fleetref2_StaysOf_x2 (l.drop i) r).bind fun vn2_1 =>
            (at? (l.drop i) (IntKind.wrap .i64 (vn2_1 - 1))).bind fun vy2 => (at? (l.drop i) 0).bind fun vy3 =>
            cond (decide ((IntKind.wrap .i64 (vy2.At - vy3.At)) < long)) ((sub? (l.drop i) 1 ((l.drop i).length : Int)).bind fun vl3 => some (Sum.inl (vl3, v)))
              ((fleetref2_spotOf vy3).bind fun _ => gd (Nat.ble (v.length + ([api_Stay.mk vy3.At vy2.At (api_Spot.mk vy3.X vy3.Y)] : List api_Stay).length) LIM) <|
              (sub? (l.drop i) vn2_1 ((l.drop i).length : Int)).bind fun vl4 => some (Sum.inl (vl4, v ++ ([api_Stay.mk vy3.At vy2.At (api_Spot.mk vy3.X vy3.Y)] : List api_Stay)) : (List api_Fix × List api_Stay) ⊕ List api_Stay))) =
            ((slices_IndexFunc_api_Fix_api_Fix_f1_fleetref2_StaysOf_1 (l.drop i) near).bind fun r => fleetref2_StaysOf_x2 (l.drop i) r).bind fun vn2_1 =>
            (at? (l.drop i) (IntKind.wrap .i64 (vn2_1 - 1))).bind fun vy2 => (at? (l.drop i) 0).bind fun vy3 =>
            cond (decide ((IntKind.wrap .i64 (vy2.At - vy3.At)) < long)) ((sub? (l.drop i) 1 ((l.drop i).length : Int)).bind fun vl3 => some (Sum.inl (vl3, v)))
              ((fleetref2_spotOf vy3).bind fun _ => gd (Nat.ble (v.length + ([api_Stay.mk vy3.At vy2.At (api_Spot.mk vy3.X vy3.Y)] : List api_Stay).length) LIM) <|
              (sub? (l.drop i) vn2_1 ((l.drop i).length : Int)).bind fun vl4 => some (Sum.inl (vl4, v ++ ([api_Stay.mk vy3.At vy2.At (api_Spot.mk vy3.X vy3.Y)] : List api_Stay)) : (List api_Fix × List api_Stay) ⊕ List api_Stay)) := by
          cases slices_IndexFunc_api_Fix_api_Fix_f1_fleetref2_StaysOf_1 (l.drop i) near <;> rfl
        have g0 : at? (l.drop i) 0 = some l[i] := by
          rw [show (0 : Int) = ((0 : Nat) : Int) from rfl, at_nat (l := l.drop i) (n := 0) (by rw [hdl]; omega)]
          simp
        have w2 : IntKind.wrap .i64 ((n : Int) - 1) = ((n - 1 : Nat) : Int) := by rw [wrap64 (by omega) (by omega)]; omega
        have w3 : IntKind.wrap .i64 (((i + n : Nat) : Int) - 1) = ((i + n - 1 : Nat) : Int) := by rw [wrap64 (by omega) (by omega)]; omega
        have gn : at? (l.drop i) ((n - 1 : Nat) : Int) = some (l[i + n - 1]'(by omega)) := by
          rw [at_nat (l := l.drop i) (n := n - 1) (by rw [hdl]; omega)]
          simp only [List.getElem_drop]
          congr 2
          omega
        have s1 : sub? (l.drop i) 1 ((l.drop i).length : Int) = some (l.drop (i + 1)) := sub_drop l i 1 (by omega)
        have sn : sub? (l.drop i) (n : Int) ((l.drop i).length : Int) = some (l.drop (i + n)) := sub_drop l i n (by omega)
        have hflip : ∀ x : Int, decide (long ≤ x) = !decide (x < long) := fun x => by
          by_cases hx : x < long
          · rw [decide_eq_true hx, decide_eq_false (by omega)]; rfl
          · rw [decide_eq_false hx, decide_eq_true (by omega)]; rfl
        simp only [hi', hd0, decide_true, cond_true, r1, Option.bind_some, w3, at_nat (l := l) (n := i + n - 1) (by omega), at_nat hi, place_spot, hflip]
        rw [hbind, r1']
        simp only [Option.bind_some, w2, gn, g0, s1, sn, fleetref2_spotOf]
        have w1 : IntKind.wrap .i64 ((i : Int) + 1) = ((i + 1 : Nat) : Int) := by rw [wrap64 (by omega) (by omega)]; omega
        cases decide (IntKind.wrap .i64 ((l[i + n - 1]'(by omega)).At - l[i].At) < long) with
        | true =>
          simp only [Bool.not_true, cond_true, cond_false, w1]
          exact ⟨_, _, rfl, rfl, ⟨i + 1, rfl, by omega, rfl, rfl, by simp only; omega⟩, by simp only; omega⟩
        | false =>
          simp only [Bool.not_false, cond_true, cond_false]
          rw [gd_true (ble_lim (by simp; omega)), gd_true (ble_lim (by simp; omega))]
          exact ⟨_, _, rfl, rfl, ⟨i + n, rfl, by omega, rfl, rfl, by simp; omega⟩, by simp only; omega⟩
      · right
        have hi' : ¬ (i : Int) < l.length := by omega
        have hd0 : ¬ (0 : Int) < ((l.drop i).length : Int) := by rw [hdl]; omega
        simp only [hi', hd0, decide_false, cond_false]
        exact ⟨_, rfl, rfl⟩) (s := ([], 0)) (t := (l, [])) ⟨0, rfl, by omega, rfl, rfl, by simp⟩
  obtain ⟨v, v1, v2⟩ := key
  have hlen : Ok (loopO (place_Stays_x2 l near long) ([], 0)) (fun v => v.length ≤ 14) := by
    refine loop_ok (fun s : List api_Stay × Int => ∃ i : Nat, s.2 = (i : Int) ∧ i ≤ l.length ∧ s.1.length ≤ i) (fun s => ((l.length : Int) - s.2).toNat) ?_ ⟨0, rfl, by omega, by simp⟩
    rintro ⟨v, q⟩ ⟨i, rfl, i1, i2⟩
    simp only at i2
    unfold place_Stays_x2
    by_cases hi : i < l.length
    · have hi' : (i : Int) < l.length := by omega
      obtain ⟨r, r1, k, rfl, hR⟩ := reach_p hl hg hn hi
      obtain ⟨hR1, hR2, -⟩ := hR
      have w3 : IntKind.wrap .i64 ((k : Int) - 1) = ((k - 1 : Nat) : Int) := by rw [wrap64 (by omega) (by omega)]; omega
      have w1 : IntKind.wrap .i64 ((i : Int) + 1) = ((i + 1 : Nat) : Int) := by rw [wrap64 (by omega) (by omega)]; omega
      simp only [hi', decide_true, cond_true, r1, Option.bind_some, w3, at_nat (l := l) (n := k - 1) (by omega), at_nat hi, place_spot]
      simp only [w1]
      refine .cond (fun _ => .gd (ble_lim (by simp; omega)) (.some ⟨⟨k, rfl, by omega, by simp; omega⟩, by simp only; omega⟩)) (fun _ => .some ⟨⟨i + 1, rfl, by omega, by simp only; omega⟩, by simp only; omega⟩)
    · have hi' : ¬ (i : Int) < l.length := by omega
      simp only [hi', decide_false, cond_false]
      exact .some (by show v.length ≤ 14; omega)
  obtain ⟨v', w1, w2⟩ := hlen
  rw [v1] at w1
  have := Option.some.inj w1
  subst this
  exact ⟨v, v1, v2, w2⟩

/-! ### Lengths -/
theorem root_uniq {n r s : Int} (hr : 0 ≤ r ∧ r * r ≤ n ∧ n < (r + 1) * (r + 1)) (hs : 0 ≤ s ∧ s * s ≤ n ∧ n < (s + 1) * (s + 1)) : r = s := by
  have mono : ∀ x y : Int, 0 ≤ x → x ≤ y → x * x ≤ y * y := fun x y h1 h2 => Int.mul_le_mul h2 h2 h1 (by omega)
  by_cases h1 : r < s
  · have := mono (r + 1) s (by omega) (by omega); omega
  · by_cases h2 : s < r
    · have := mono (s + 1) r (by omega) (by omega); omega
    · omega
theorem root_p {n : Int} (h : 0 ≤ n ∧ n ≤ 800000000) : Ok (place_root n) (fun r => 0 ≤ r ∧ r * r ≤ n ∧ n < (r + 1) * (r + 1)) := by
  unfold place_root
  refine Ok.bind (P := fun r : Int => 0 ≤ r ∧ r * r ≤ n ∧ n < (r + 1) * (r + 1)) (loop_ok (fun q : Int × Int => (0 ≤ q.1 ∧ q.1 < q.2 ∧ q.2 ≤ 2147483648) ∧ q.1 * q.1 ≤ n ∧ n < q.2 * q.2) (fun q => (q.2 - q.1).toNat) ?_ ⟨by simp, by simp; omega, by simp; omega⟩) fun r hr => .some hr
  rintro ⟨lo, hi⟩ ⟨h1, h2, h3⟩
  simp only at h1 h2 h3
  unfold place_root_x1
  dsimp only
  rw [wrap64 (n := hi - lo) (by omega) (by omega), wrap64 (n := lo + hi) (by omega) (by omega)]
  have ht : (lo + hi).tdiv 2 = (lo + hi) / 2 := Int.tdiv_eq_ediv_of_nonneg (by omega)
  rw [ht, wrap64 (n := (lo + hi) / 2) (by omega) (by omega)]
  have hm : lo ≤ (lo + hi) / 2 ∧ (lo + hi) / 2 ≤ hi := by omega
  have hm2 : 1 < hi - lo → lo < (lo + hi) / 2 ∧ (lo + hi) / 2 < hi := by omega
  generalize (lo + hi) / 2 = m at *
  have hmb := mod_mul_bd (a := m) (b := m) (m := 2147483648) (k := 2147483648) (by omega) (by omega)
  rw [wrap64 (n := m * m) (by omega) (by omega)]
  refine .cond (fun hc => .cond (fun hd => ?_) (fun hd => ?_)) (fun hc => ?_)
  · have hc := hm2 (of_decide_eq_true hc)
    have hd := of_decide_eq_true hd
    exact .some ⟨⟨by simp only; omega, hd, h3⟩, by simp only; omega⟩
  · have hc := hm2 (of_decide_eq_true hc)
    have hd := of_decide_eq_false hd
    exact .some ⟨⟨by simp only; omega, h2, by simp only; omega⟩, by simp only; omega⟩
  · have hc := of_decide_eq_false hc
    have : hi = lo + 1 := by omega
    subst this
    exact .some ⟨h1.1, h2, h3⟩
theorem root_r {n : Int} (h : 0 ≤ n ∧ n ≤ 800000000) : Ok (fleetref2_root n) (fun r => 0 ≤ r ∧ r * r ≤ n ∧ n < (r + 1) * (r + 1)) := by
  unfold fleetref2_root
  refine Ok.bind (P := fun r : Int => 0 ≤ r ∧ r * r ≤ n ∧ n < (r + 1) * (r + 1)) (loop_ok (fun q : Int × Int => (0 ≤ q.1 ∧ q.1 ≤ q.2 ∧ q.2 ≤ 100000) ∧ q.1 * q.1 ≤ n ∧ n < (q.2 + 1) * (q.2 + 1)) (fun q => (q.2 - q.1).toNat) ?_ ⟨by simp, by simp; omega, by simp; omega⟩) fun r hr => .some hr
  rintro ⟨lo, hi⟩ ⟨h1, h2, h3⟩
  simp only at h1 h2 h3
  unfold fleetref2_root_x1
  dsimp only
  rw [wrap64 (n := lo + hi) (by omega) (by omega), wrap64 (n := lo + hi + 1) (by omega) (by omega)]
  have ht : (lo + hi + 1).tdiv 2 = (lo + hi + 1) / 2 := Int.tdiv_eq_ediv_of_nonneg (by omega)
  rw [ht, wrap64 (n := (lo + hi + 1) / 2) (by omega) (by omega)]
  have hm : lo ≤ (lo + hi + 1) / 2 ∧ (lo + hi + 1) / 2 ≤ hi + 1 ∧ 0 ≤ (lo + hi + 1) / 2 := by omega
  have hm2 : lo < hi → lo < (lo + hi + 1) / 2 ∧ (lo + hi + 1) / 2 ≤ hi := by omega
  generalize (lo + hi + 1) / 2 = m at *
  have hmb := mod_mul_bd (a := m) (b := m) (m := 100001) (k := 100001) (by omega) (by omega)
  rw [wrap64 (n := m * m) (by omega) (by omega), wrap64 (n := m - 1) (by omega) (by omega)]
  refine .cond (fun hc => .cond (fun hd => ?_) (fun hd => ?_)) (fun hc => ?_)
  · have hc := hm2 (of_decide_eq_true hc)
    have hd := of_decide_eq_true hd
    exact .some ⟨⟨by simp only; omega, hd, h3⟩, by simp only; omega⟩
  · have hc := hm2 (of_decide_eq_true hc)
    have hd := of_decide_eq_false hd
    exact .some ⟨⟨by simp only; omega, h2, by simp only; rw [show m - 1 + 1 = m by omega]; omega⟩, by simp only; omega⟩
  · have hc := of_decide_eq_false hc
    have : hi = lo := by omega
    subst this
    exact .some ⟨h1.1, h2, h3⟩
theorem root_both {n : Int} (h : 0 ≤ n ∧ n ≤ 800000000) : ∃ r, place_root n = some r ∧ fleetref2_root n = some r ∧ 0 ≤ r ∧ r ≤ 800000000 := by
  obtain ⟨r, r1, r2⟩ := root_p h
  obtain ⟨s, s1, s2⟩ := root_r h
  have := root_uniq r2 s2
  subst this
  refine ⟨r, r1, s1, r2.1, ?_⟩
  by_cases hr : r ≤ 1
  · omega
  · have := mle (show 0 < r by omega) (show 1 ≤ r by omega)
    omega
theorem length_both {l : List api_Fix} (hl : l.length ≤ 14) (hg : ∀ x ∈ l, FixV x) : ∃ n, loopO (place_Length_x1 l) (0, 1) = some n ∧ loopO (fleetref2_LengthOf_x1 l) (0, 1) = some n := by
  refine loop_sim (fun (s t : Int × Int) => s = t ∧ ∃ k : Nat, s.2 = ((k + 1 : Nat) : Int)) (fun s => ((l.length : Int) - s.2).toNat) ?_ ⟨rfl, 0, rfl⟩
  rintro ⟨v, q⟩ ⟨v', q'⟩ ⟨e, k, hk⟩
  cases e
  simp only at hk
  subst hk
  unfold place_Length_x1 fleetref2_LengthOf_x1 place_spot place_square fleetref2_square fleetref2_spotOf fleetref2_minus fleetref2_dot_2
  by_cases hk : k + 1 < l.length
  · left
    have hk' : ((k + 1 : Nat) : Int) < l.length := by omega
    have w1 : IntKind.wrap .i64 (((k + 1 : Nat) : Int) - 1) = (k : Int) := by rw [wrap64 (by omega) (by omega)]; omega
    have w2 : IntKind.wrap .i64 (((k + 1 : Nat) : Int) + 1) = ((k + 1 + 1 : Nat) : Int) := by rw [wrap64 (by omega) (by omega)]; omega
    have s1 := sqV_wrap (hg _ (List.getElem_mem (show k < l.length by omega))) (hg _ (List.getElem_mem hk))
    have s2 := sqV_wrap (hg _ (List.getElem_mem hk)) (hg _ (List.getElem_mem (show k < l.length by omega)))
    obtain ⟨r, r1, r2, r3⟩ := root_both s1.2
    have r2' : fleetref2_root (sqV l[k + 1] l[k]) = some r := by rw [sqV_comm]; exact r2
    simp only [hk', decide_true, cond_true, w1, w2, at_nat hk, at_nat (show k < l.length by omega), Option.bind_some, s1.1, s2.1, r1, r2']
    exact ⟨_, _, rfl, rfl, ⟨rfl, k + 1, rfl⟩, by simp only; omega⟩
  · right
    have hk' : ¬ ((k + 1 : Nat) : Int) < l.length := by omega
    simp only [hk', decide_false, cond_false]
    exact ⟨_, rfl, rfl⟩

/-! ### The law -/
theorem vequal_self {l : List api_Visit} (h : l.length ≤ 1000) : slices_Equal_api_Visit_api_Visit l l = some true := by
  unfold slices_Equal_api_Visit_api_Visit
  simp only [decide_true, Bool.not_true, cond_false]
  rw [range_loop (l := l) (fun _ _ => none) (.inl ()) (by omega), scan_const_none]
  · rfl
  · intro i hi
    unfold slices_Equal_api_Visit_api_Visit_x1
    have : (i : Int) < l.length := by omega
    simp [this, at_nat hi]
  · unfold slices_Equal_api_Visit_api_Visit_x1
    simp
theorem sequal_self {l : List api_Stay} (h : l.length ≤ 1000) : slices_Equal_api_Stay_api_Stay l l = some true := by
  unfold slices_Equal_api_Stay_api_Stay
  simp only [decide_true, Bool.not_true, cond_false]
  rw [range_loop (l := l) (fun _ _ => none) (.inl ()) (by omega), scan_const_none]
  · rfl
  · intro i hi
    unfold slices_Equal_api_Stay_api_Stay_x1
    have : (i : Int) < l.length := by omega
    simp [this, at_nat hi]
  · unfold slices_Equal_api_Stay_api_Stay_x1
    simp
theorem x1_eq (near long te : Int) : fleetlaw2_TracksVisit_x1 near long te = some (or0 te (if (0 ≤ near ∧ near ≤ 10000) ∧ (1 ≤ long ∧ long ≤ 345686400000) then 0 else 1)) := by
  unfold fleetlaw2_TracksVisit_x1
  by_cases h1 : near < 0
  · rw [if_neg (by omega)]
    simp only [h1, decide_true, cond_true, when_eq, errs2, Option.bind_some]
  · by_cases h2 : (10000 : Int) < near
    · rw [if_neg (by omega)]
      simp only [h1, h2, decide_true, decide_false, cond_true, cond_false, when_eq, errs2, Option.bind_some]
    · by_cases h3 : long < 1
      · rw [if_neg (by omega)]
        simp only [h1, h2, h3, decide_true, decide_false, cond_true, cond_false, when_eq, errs2, Option.bind_some]
      · by_cases h4 : (345686400000 : Int) < long
        · rw [if_neg (by omega)]
          simp only [h1, h2, h3, h4, decide_true, decide_false, cond_true, cond_false, when_eq, errs2, Option.bind_some]
        · rw [if_pos (by omega)]
          simp only [h1, h2, h3, h4, decide_false, cond_true, cond_false, when_eq, errs2, Option.bind_some]
theorem TracksVisit_true (L : List Int) (hL : L.length ≤ 9223372036854775807) (hI : ∀ n ∈ L, -9223372036854775808 ≤ n ∧ n ≤ 9223372036854775807) : fleetlaw2_TracksVisit L = some true := by
  apply Ok.eq
  unfold fleetlaw2_TracksVisit
  have h0 : StrOk 0 (fleetmake_Stream.mk L 0) := ⟨Int.le_refl _, by simp, hL, hI⟩
  refine (Fence_ok h0 (by omega)).bind fun ⟨s1, f⟩ ⟨f1, f2⟩ => ?_
  refine (Track_ok f1 (by omega)).bind fun ⟨s2, l⟩ ⟨a1, a2, a3⟩ => ?_
  simp only at f2
  have a2 : l.length ≤ 14 := a2
  have a3 : All FB l := a3
  refine (Pick_ok a1 (by omega) (by simp) (by simp)).bind fun near hnear => ?_
  refine (Pick_ok (a1.nxt (by omega)) (by omega) (by simp) (by simp)).bind fun long hlong => ?_
  obtain ⟨c, c1, c2, c3, c4⟩ := fence_both f (by omega)
  generalize he : cond (keyB f.Key) c 5 = e at c3 c4
  have hr : e = 0 → FRight f.Corners := by
    intro h
    cases hk : keyB f.Key with
    | true => rw [hk] at he; exact c2 (he.trans h)
    | false => rw [hk] at he; simp only [cond_false] at he; omega
  obtain ⟨te, t1, t2, t3⟩ := track_both a3 a2
  -- visits
  have hV : ∃ v, v.length ≤ 14 ∧ place_Visits f l = some (v, or0 e te) ∧ fleetlaw2_TracksVisit_x2 f l (or0 e te) = some v := by
    unfold place_Visits fleetlaw2_TracksVisit_x2 fleetref2_VisitsOf
    simp only [c3, t1, first2, Option.bind_some]
    by_cases ho : or0 e te = 0
    · have h1 : e = 0 ∧ te = 0 := by unfold or0 at ho; split at ho <;> omega
      obtain ⟨v, v1, v2, v3⟩ := visits_both (hr h1.1) a2 (t3 h1.2)
      refine ⟨v, v3, ?_, ?_⟩
      · rw [ho, v1]; rfl
      · rw [ho, v2]; rfl
    · refine ⟨[], by simp, ?_, ?_⟩
      · rw [decide_eq_false ho]; rfl
      · rw [decide_eq_false ho]; rfl
  have hS : ∃ v, v.length ≤ 14 ∧ place_Stays l near long = some (v, or0 te (if (0 ≤ near ∧ near ≤ 10000) ∧ (1 ≤ long ∧ long ≤ 345686400000) then 0 else 1)) ∧
      fleetlaw2_TracksVisit_x3 l near long (or0 te (if (0 ≤ near ∧ near ≤ 10000) ∧ (1 ≤ long ∧ long ≤ 345686400000) then 0 else 1)) = some v := by
    unfold place_Stays fleetlaw2_TracksVisit_x3 fleetref2_StaysOf place_Stays_x1
    simp only [t1, Option.bind_some, Out_eq]
    by_cases ht : te = 0
    · subst ht
      have ho : ∀ x, or0 0 x = x := fun x => by unfold or0; simp
      simp only [ho, decide_true, Bool.not_true, cond_false]
      by_cases hb : (0 ≤ near ∧ near ≤ 10000) ∧ (1 ≤ long ∧ long ≤ 345686400000)
      · rw [if_pos hb]
        have o1 : (decide (near < 0) || decide (10000 < near)) = false := by simp; omega
        have o2 : (decide (long < 1) || decide (345686400000 < long)) = false := by simp; omega
        obtain ⟨v, v1, v2, v3⟩ := stays_both (long := long) a2 (t3 rfl) hb.1
        refine ⟨v, v3, ?_, ?_⟩
        · simp only [o1, o2, cond_false, Option.bind_some, v1]
        · simp only [decide_true, cond_true, v2, Option.bind_some]
      · rw [if_neg hb]
        refine ⟨[], by simp, ?_, by simp⟩
        by_cases o1 : (decide (near < 0) || decide (10000 < near)) = true
        · simp only [o1, cond_true, Option.bind_some]
        · rw [Bool.not_eq_true] at o1
          have o2 : (decide (long < 1) || decide (345686400000 < long)) = true := by
            simp only [Bool.or_eq_false_iff, decide_eq_false_iff_not] at o1
            simp only [Bool.or_eq_true, decide_eq_true_iff]
            omega
          simp only [o1, o2, cond_true, cond_false, Option.bind_some]
    · have ho : ∀ x, or0 te x = te := fun x => by unfold or0; rw [if_neg ht]
      simp only [ho, ht, decide_false, Bool.not_false, cond_true, cond_false]
      exact ⟨[], by simp, rfl, rfl⟩
  have hN : ∃ n, place_Length l = some (n, te) ∧ fleetlaw2_TracksVisit_x4 l te = some n := by
    unfold place_Length fleetlaw2_TracksVisit_x4 fleetref2_LengthOf
    simp only [t1, Option.bind_some]
    by_cases ht : te = 0
    · subst ht
      obtain ⟨n, n1, n2⟩ := length_both a2 (t3 rfl)
      exact ⟨n, by simp only [decide_true, Bool.not_true, cond_false, n1, Option.bind_some], by simp only [decide_true, cond_true, n2, Option.bind_some]⟩
    · exact ⟨0, by simp only [ht, decide_false, Bool.not_false, cond_true], by simp only [ht, decide_false, cond_false]⟩
  obtain ⟨v, v0, v1, v2⟩ := hV
  obtain ⟨t, u0, u1, u2⟩ := hS
  obtain ⟨n, n1, n2⟩ := hN
  simp only [v1, u1, n1, t2, c4, errs2, x1_eq, v2, u2, n2, Option.bind_some]
  unfold fleetlaw2_TracksVisit_x5
  simp only [decide_true, cond_true, vequal_self (l := v) (by omega), sequal_self (l := t) (by omega), placed_eq, Option.bind_some]
  exact .some rfl
end Go.Eng

