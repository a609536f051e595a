/-
The law SeriesPacked.
-/
import Derived.Test.YtjfpceigbgnjgaaPlainW
namespace Go.Eng
open Go
set_option linter.unusedVariables false
set_option linter.unusedSimpArgs false

theorem Bytes_ok {k : Nat} {s : fleetmake_Stream} {b : List Int} (h : StrOk k s) (hk : k + 40 < 1099511627776) (hb : b.length ≤ 10000) :
    Ok (fleetmake_Stream_Bytes s b) (fun r => StrOk (k + 40) r.1 ∧ r.2.length ≤ 10010) := by
  unfold fleetmake_Stream_Bytes
  refine .gd (ble_lim (by omega)) ?_
  refine (Range_ok h (by omega) (by omega) (by omega)).bind fun ⟨s1, n⟩ ⟨g1, g2, g3, _⟩ => ?_
  have g3 := g3 (by omega)
  simp only at g1 g2 g3
  refine Ok.bind (P := fun r => match r with | .inl r => StrOk (k + 40) r.1 ∧ r.2.length ≤ 10010 | .inr r => StrOk (k + 40) r.1 ∧ r.2.length ≤ 10010) ?_ fun x h2 => ?_
  · refine loop_ok (fun q : fleetmake_Stream × List Int × Int => ∃ i : Nat, q.2.2 = i ∧ i ≤ n ∧ StrOk (k + 1 + 10 * i) q.1 ∧ q.2.1.length ≤ 10000 + i) (fun q => (n - q.2.2).toNat) ?_ ⟨0, rfl, by omega, g1.mono (by omega), by simpa using hb⟩
    rintro ⟨s2, out, i0⟩ ⟨i, e1, e2, e3, e4⟩
    simp only at e1 e3 e4
    subst e1
    unfold fleetmake_Stream_Bytes_x1
    refine .cond (fun hc => ?_) (fun hc => ?_)
    · have hc' : (i : Int) < n := by simpa using hc
      have w1 : IntKind.wrap .i64 ((i : Int) + 1) = (i : Int) + 1 := wrap64 (by omega) (by omega)
      refine Ok.bind (P := fun x => match x with | .inl r => StrOk (k + 1 + 10 * i + 10) r.1 ∧ r.2.length ≤ 10001 + i | .inr r => r.length ≤ 10001 + i) ?_ fun x hx => ?_
      · unfold fleetmake_Stream_Bytes_x2
        refine .cond (fun _ => ?_) (fun h0 => ?_)
        · refine (Next_ok e3 (by omega) (by unfold I64; omega)).bind fun r hr => ?_
          exact .gd (ble_lim (by simp; omega)) (.some (by simp; omega))
        · have h0' : ¬ (out.length : Int) = 0 := by simpa using h0
          refine (Next_ok e3 (by omega) (by unfold I64; omega)).bind fun j hj => ?_
          have hj := hj.1 (by omega)
          have s3 := e3.nxt (by omega)
          refine (Next_ok s3 (by omega) (by unfold I64; omega)).bind fun c _ => ?_
          have s4 := s3.nxt (by omega)
          have w2 : IntKind.wrap .i64 (j + 1) = j + 1 := wrap64 (by omega) (by omega)
          rw [w2]
          refine .cond (fun _ => ?_) fun _ => .cond (fun _ => ?_) fun _ => .cond (fun _ => ?_) fun _ => ?_
          · refine .gd (by simp; omega) (.gd (by simp; omega) (.gd (ble_lim (by simp; omega)) (.some ⟨s4.mono (by omega), by simp; omega⟩)))
          · refine .gd (by simp; omega) (.gd (by simp; omega) (.gd (ble_lim (by simp; omega)) (.some ⟨s4.mono (by omega), by simp; omega⟩)))
          · refine .gd (by simp; omega) (.some ⟨s4.mono (by omega), by simp; omega⟩)
          · refine (at_mem (by omega) (by omega)).bind fun y _ => ?_
            refine (Next_ok s4 (by omega) (by unfold I64; omega)).bind fun c hc => ?_
            have hc := hc.1 (by omega)
            exact .gd (by simp; omega) (.some ⟨(s4.nxt (by omega)).mono (by omega), by simp; omega⟩)
      · cases x with
        | inl r => 
          obtain ⟨x1, x2⟩ := hx
          refine .some ⟨⟨i + 1, by simp only [w1]; omega, by omega, x1.mono (by omega), by simp only; omega⟩, by simp only [w1]; omega⟩
        | inr r =>
          have hx : r.length ≤ 10001 + i := hx
          exact .some ⟨(e3.nxt (by omega)).mono (by omega), by simp only; omega⟩
    · have hc' : ¬ (i : Int) < n := by simpa using hc
      exact .some ⟨e3.mono (by omega), by simp only; omega⟩
  · cases x with
    | inl r => exact .some h2
    | inr r => exact .some h2

theorem Packed_ok {k : Nat} {s : fleetmake_Stream} (h : StrOk k s) (hk : k + 400 < 1099511627776) :
    Ok (fleetmake_Stream_Packed s) (fun r => StrOk (k + 400) r.1 ∧ r.2.length ≤ 10010) := by
  unfold fleetmake_Stream_Packed
  refine (RightSeries_ok h (by omega) (by omega) (by omega)).bind fun ⟨s1, l⟩ ⟨g1, g2, g3⟩ => ?_
  simp only at g1 g2 g3
  have hpl : (packed l).length ≤ 10000 := by
    have h1 := body_len l 0 0 0 true
    have h2 := sev_len 8 (l.length : Int)
    unfold packed
    rw [List.length_append]; omega
  refine (Ok.of_eq (P := fun p => p.length ≤ 10000) (pack_both g2 (by omega)).2.2 hpl).bind fun p hp => ?_
  refine Ok.bind (P := fun r => StrOk (k + 350) r.1 ∧ r.2.length ≤ 10010) ?_ fun ⟨s2, b⟩ ⟨f1, f2⟩ => Ok.bind (P := fun r => StrOk (k + 400) r.1 ∧ r.2.length ≤ 10010) ?_ fun ⟨s3, c⟩ h3 => .some h3
  · unfold fleetmake_Stream_Packed_x1
    refine (Flip_ok g1 (by omega) (by unfold I64; omega)).bind fun c _ => .cond (fun _ => ?_) (fun _ => .some ⟨(g1.nxt (by omega)).mono (by omega), by simp only; omega⟩)
    refine (Bytes_ok (g1.nxt (by omega)) (by omega) hp).bind fun ⟨s2, b⟩ ⟨f1, f2⟩ => .some ⟨f1.mono (by omega), f2⟩
  · unfold fleetmake_Stream_Packed_x2
    simp only at f1 f2
    refine (Flip_ok f1 (by omega) (by unfold I64; omega)).bind fun c _ => .cond (fun _ => ?_) (fun _ => .some ⟨(f1.nxt (by omega)).mono (by omega), f2⟩)
    refine (Next_ok (f1.nxt (by omega)) (by omega) (by unfold I64; omega)).bind fun j hj => ?_
    have hj := hj.1 (by omega)
    refine (at_mem hj.1 (by simpa using hj.2)).bind fun y hy => .some ⟨((f1.nxt (by omega)).nxt (by omega)).mono (by omega), ?_⟩
    simp only
    simp at hy
    rcases hy with rfl | rfl | rfl | rfl | rfl | rfl <;> simp

theorem Flip_tot {k : Nat} {s : fleetmake_Stream} {n : Int} (h : StrOk k s) (hk : k < 1099511627776) (hn : I64 n) : Ok (fleetmake_Stream_Flip s n) (fun _ => True) := Flip_ok h hk hn

theorem SeriesPacked_true (L : List Int) (hL : L.length ≤ 9223372036854775807) (hI : ∀ n ∈ L, -9223372036854775808 ≤ n ∧ n ≤ 9223372036854775807) : fleetlaw2_SeriesPacked L = some true := by
  refine Ok.eq ?_
  unfold fleetlaw2_SeriesPacked
  have s0 : StrOk 0 (fleetmake_Stream.mk L 0) := ⟨Int.le_refl _, Int.le_refl _, hL, hI⟩
  refine (Series_ok s0 (by omega) (by omega)).bind fun ⟨s1, l⟩ ⟨g1, g2, g3⟩ => ?_
  simp only at g1 g2 g3
  refine (Packed_ok g1 (by omega)).bind fun ⟨s2, b⟩ ⟨f1, f2⟩ => ?_
  simp only at f1 f2
  refine (Some_ok f1 (by omega) (by simp) (by simp)).bind fun d hd => ?_
  refine (Some_ok (f1.nxt (by omega)) (by omega) (by simp) (by simp)).bind fun m hm => ?_
  have hd' : (d.length : Int) ≤ 1000 := by simp at hd; rcases hd with rfl | rfl | rfl <;> simp
  have hm' : (m.length : Int) ≤ 1000 := by simp at hm; rcases hm with rfl | rfl <;> simp
  refine Ok.bind (P := fun x => x.length ≤ 1000000) ?_ fun x hx => ?_
  · unfold fleetlaw2_SeriesPacked_x1
    refine (Flip_ok ((f1.nxt (by omega)).nxt (by omega)) (by omega) (by unfold I64; omega)).bind fun b _ => .cond (fun _ => .gd (by decide) (.some (by rw [List.length_replicate]; omega))) (fun _ => .some (by omega))
  -- packing
  have hp : series_Pack l = some (cond (decide (seriesV l = 0)) (packed l) [], seriesV l) := by
    unfold series_Pack
    rw [CheckSeries_eq g2 (by omega), (pack_both g2 (by omega)).1]
    by_cases h0 : seriesV l = 0 <;> simp [h0]
  have hq : fleetlaw2_SeriesPacked_x3 l (seriesV l) = some (cond (decide (seriesV l = 0)) (packed l) []) := by
    unfold fleetlaw2_SeriesPacked_x3
    rw [(pack_both g2 (by omega)).2.1]
    by_cases h0 : seriesV l = 0 <;> simp [h0]
  have hpl : ((cond (decide (seriesV l = 0)) (packed l) []).length : Int) ≤ 9223372036854775807 := by
    have h1 := body_len l 0 0 0 true
    have h2 := sev_len 8 (l.length : Int)
    have : (packed l).length ≤ 10000 := by
      unfold packed
      rw [List.length_append]; omega
    cases decide (seriesV l = 0)
    · simp
    · simp only [cond_true]; omega
  -- unpacking
  have hu : ∃ r e, series_Unpack x d m = some (r, e) ∧ ∃ e', fleetlaw2_SeriesPacked_x2 d m x = some e' ∧ fleetlaw2_SeriesPacked_x4 d m x e' = some (e, r) ∧ r.length ≤ 5000 := by
    have e2 : fleetlaw2_SeriesPacked_x2 d m x = some (if keyB d && keyB m then (if 100000 < x.length then 2 else 0) else 5) := by
      unfold fleetlaw2_SeriesPacked_x2
      rw [QKey_eq d (by omega), QKey_eq m (by omega)]
      simp only [Option.bind_some, when_eq]
      have er : ∀ a b : Int, fleetlaw2_errs [a, b] = some (or0 a b) := by
        intro a b
        rw [errs_eq _ (by simp)]
        unfold or0
        by_cases ha : a = 0 <;> by_cases hb : b = 0 <;> simp [ha, hb]
      rw [er, er]
      have hcast : decide ((100000 : Int) < x.length) = decide (100000 < x.length) := by
        by_cases h : 100000 < x.length
        · have : (100000 : Int) < x.length := by omega
          simp [h, this]
        · have : ¬ (100000 : Int) < x.length := by omega
          simp [h, this]
      rw [hcast]
      by_cases h1 : keyB d = true <;> by_cases h2 : keyB m = true <;> by_cases h3 : 100000 < x.length <;> simp [h1, h2, h3, or0]
    by_cases hk : (keyB d && keyB m) = true
    · have hk' := hk
      simp at hk'
      by_cases hx2 : 100000 < x.length
      · refine ⟨[], 2, ?_, 2, by rw [e2]; simp [hk, hx2], by simp [fleetlaw2_SeriesPacked_x4], by simp⟩
        unfold series_Unpack series_Unpack_x1
        have : (100000 : Int) < x.length := by omega
        rw [Key_eq d (by omega), Key_eq m (by omega), hk'.1, hk'.2]
        simp [this]
      · obtain ⟨r, u1, u2, u3⟩ := unpack_both hd' hm' hk'.1 hk'.2 (show x.length ≤ 100000 by omega)
        refine ⟨r.1, r.2, u1, 0, by rw [e2]; simp [hk, hx2], ?_, u3⟩
        unfold fleetlaw2_SeriesPacked_x4
        simp [u2]
    · refine ⟨[], 5, ?_, 5, by rw [e2]; simp [hk], by simp [fleetlaw2_SeriesPacked_x4], by simp⟩
      unfold series_Unpack series_Unpack_x1
      rw [Key_eq d (by omega), Key_eq m (by omega)]
      by_cases h1 : keyB d = true
      · have h2 : keyB m = false := by simpa [h1] using hk
        simp [h1, h2]
      · simp [h1]
  obtain ⟨r, e, u1, e', u2, u3, u4⟩ := hu
  rw [hp, u1, SeriesFault_eq g2 (by omega)]
  simp only [Option.bind_some]
  rw [u2]
  simp only [Option.bind_some]
  rw [hq]
  simp only [Option.bind_some]
  rw [u3]
  simp only [Option.bind_some]
  unfold fleetlaw2_SeriesPacked_x5
  rw [EqualI_self hpl, EqualS_self (by omega), measured_eq]
  simp only [decide_true, cond_true, Option.bind_some]
  exact .some rfl
end Go.Eng
