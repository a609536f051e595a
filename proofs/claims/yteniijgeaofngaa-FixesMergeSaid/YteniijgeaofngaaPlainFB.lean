/-
The law FixesMerge.
-/
import Derived.Test.YteniijgeaofngaaPlainFA
import Derived.Test.YteniijgeaofngaaPlainB
namespace Go.Eng
open Go
set_option linter.unusedVariables false
set_option linter.unusedSimpArgs false

theorem fcom_t : ∀ x y : api_Fix, FB x → FB y → ∃ b, fleetmake_Stream_Fixes_1 x y = some b := fun x y hx hy => by
  unfold fleetmake_Stream_Fixes_1
  rw [FixOrder_eq hx hy]
  exact ⟨_, rfl⟩

theorem Fixes_ok {k : Nat} {s : fleetmake_Stream} {n : Int} (h : StrOk k s) (hk : k + 100 < 1099511627776) (hn : 0 ≤ n ∧ n ≤ 8) : Ok (fleetmake_Stream_Fixes s n) (fun r => StrOk (k + 100) r.1 ∧ All FB r.2 ∧ (r.2.length : Int) ≤ n) := by
  unfold fleetmake_Stream_Fixes
  refine Ok.bind (P := fun q : fleetmake_Stream × List api_Fix => StrOk (k + 32) q.1 ∧ All FB q.2 ∧ (q.2.length : Int) ≤ n) ?_ fun ⟨s1, l⟩ ⟨g1, g2, g3⟩ => ?_
  · refine loop_ok (fun q : fleetmake_Stream × List api_Fix × Int => ∃ i : Nat, q.2.2 = i ∧ (i : Int) ≤ n ∧ StrOk (k + 4 * i) q.1 ∧ All FB q.2.1 ∧ q.2.1.length = i) (fun q => (n - q.2.2).toNat) ?_ ⟨0, rfl, by omega, h, All.nil, rfl⟩
    rintro ⟨s1, out, i0⟩ ⟨i, e1, e2, e3, e4, e5⟩
    simp only at e1 e3 e4 e5
    subst e1
    unfold fleetmake_Stream_Fixes_x1
    refine .cond (fun hc => ?_) (fun hc => .some ⟨e3.mono (by omega), e4, by simp only; omega⟩)
    have hc : (i : Int) < n := by simpa using hc
    refine (Some_ok e3 (by omega) (by simp) (by simp)).bind fun d hd => ?_
    refine (Pick_ok (e3.nxt (by omega)) (by omega) (by simp) (by simp)).bind fun a ha => ?_
    refine (Pick_ok ((e3.nxt (by omega)).nxt (by omega)) (by omega) (by simp) (by simp)).bind fun x hx => ?_
    refine (Pick_ok (((e3.nxt (by omega)).nxt (by omega)).nxt (by omega)) (by omega) (by simp) (by simp)).bind fun y hy => ?_
    have ha' : 0 ≤ a ∧ a ≤ 10 := by simp at ha; omega
    have hd' : d.length ≤ 1 := by simp at hd; rcases hd with rfl | rfl <;> simp
    rw [wrap64 (n := (i : Int) + 1) (by omega) (by omega)]
    refine .gd (ble_lim (by simp; omega)) (.some ⟨⟨i + 1, by simp, by omega, ?_, ?_, by simp [e5]⟩, by simp only; omega⟩)
    · exact ((((e3.nxt (by omega)).nxt (by omega)).nxt (by omega)).nxt (by omega)).mono (by omega)
    · intro z hz
      rcases List.mem_append.1 hz with hz | hz
      · exact e4 z hz
      · rw [List.mem_singleton.1 hz]
        exact ⟨by simp only; omega, by simp only; omega⟩
  · simp only at g1 g2 g3
    obtain ⟨r, r1, _, r3, r4⟩ := gSort_both fcmp_ref (l := l) (by omega) g2
    rw [sort2_eq]
    simp only [r1, Option.bind_some]
    refine .gd (by simp [r3]) ?_
    refine Ok.bind (P := fun q : List api_Fix => All FB q ∧ (q.length : Int) ≤ n) ?_ fun m ⟨m1, m2⟩ => ?_
    · unfold fleetmake_Stream_Fixes_x2
      refine (Flip_ok g1 (by omega) (by unfold I64; omega)).bind fun b _ => ?_
      refine .cond (fun _ => ?_) (fun _ => .some ⟨r4, by omega⟩)
      rw [com2_eq]
      refine (gCom_ok fcom_t (by omega) r4).bind fun c ⟨c1, c2⟩ => .some ⟨c2, by omega⟩
    · refine Ok.bind (P := fun q : fleetmake_Stream × List api_Fix => StrOk (k + 100) q.1 ∧ All FB q.2 ∧ (q.2.length : Int) ≤ n) ?_ fun ⟨s3, m'⟩ h3 => .some h3
      unfold fleetmake_Stream_Fixes_x3 fleetmake_Stream_Fixes_x4
      refine Ok.bind (P := fun q : fleetmake_Stream × Bool => StrOk (k + 34) q.1 ∧ (q.2 = true → 0 < m.length)) ?_ fun ⟨s2, b⟩ ⟨f1, f2⟩ => ?_
      · refine .cond (fun hc => ?_) (fun _ => .some ⟨(g1.nxt (by omega)).mono (by omega), fun h => by cases h⟩)
        have hc : (0 : Int) < m.length := by simpa using hc
        exact (Flip_ok (g1.nxt (by omega)) (by omega) (by unfold I64; omega)).bind fun b _ => .some ⟨((g1.nxt (by omega)).nxt (by omega)).mono (by omega), fun _ => by omega⟩
      · simp only at f1 f2
        refine .cond (fun hb => ?_) (fun _ => .some ⟨f1.mono (by omega), m1, m2⟩)
        have hlen := f2 hb
        refine (Next_ok f1 (by omega) (by unfold I64; omega)).bind fun r hr => ?_
        have hr := hr.1 (by omega)
        refine (at_mem hr.1 hr.2).bind fun y hy => ?_
        have hy1 := m1 y hy
        refine (Some_ok (f1.nxt (by omega)) (by omega) (by simp) (by simp)).bind fun d hd => ?_
        have hd' : (d.length : Int) ≤ 1000 := by
          simp at hd
          rcases hd with rfl | rfl | rfl
          · exact hy1.1
          · simp
          · simp
        refine (Odd_ok ((f1.nxt (by omega)).nxt (by omega)) (by omega) (by omega) (by omega) (by omega)).bind fun ⟨s3, v⟩ ⟨d1, d2⟩ => ?_
        simp only at d1 d2
        refine (Odd_ok d1 (by omega) (by omega) (by omega) (by omega)).bind fun ⟨s4, v2⟩ ⟨d3, d4⟩ => ?_
        refine .some ⟨d3.mono (by omega), ?_, by simpa using m2⟩
        simp only
        refine ((m1.set ?_).set ?_).set ?_
        · exact ⟨hd', hy1.2⟩
        · exact ⟨hd', by simp only; omega⟩
        · exact ⟨hd', by simp only; omega⟩

theorem fwhen_eq (b : Bool) (e : Int) : fleetlaw2_when b e = some (cond b e 0) := by unfold fleetlaw2_when; cases b <;> rfl
theorem ferrs2 (a b : Int) : fleetlaw2_errs [a, b] = some (or0 a b) := by
  have h := first2 a b
  exact h

theorem FixesMerge_true (L : List Int) (hL : L.length ≤ 9223372036854775807) (hI : ∀ n ∈ L, -9223372036854775808 ≤ n ∧ n ≤ 9223372036854775807) : fleetlaw2_FixesMerge L = some true := by
  refine Ok.eq ?_
  unfold fleetlaw2_FixesMerge
  have s0 : StrOk 0 (fleetmake_Stream.mk L 0) := ⟨Int.le_refl _, Int.le_refl _, hL, hI⟩
  refine (Range_ok s0 (by omega) (by omega) (by omega)).bind fun ⟨s1, n⟩ ⟨a1, a2, a3, _⟩ => ?_
  have a3 := a3 (by omega)
  simp only at a1 a2 a3
  refine (Fixes_ok a1 (by omega) ⟨by omega, by omega⟩).bind fun ⟨s2, a⟩ ⟨b1, b2, b3⟩ => ?_
  simp only at b1 b2 b3
  refine (Range_ok b1 (by omega) (by omega) (by omega)).bind fun ⟨s3, n2⟩ ⟨c1, c2, c3, _⟩ => ?_
  have c3 := c3 (by omega)
  simp only at c1 c2 c3
  refine (Fixes_ok c1 (by omega) ⟨by omega, by omega⟩).bind fun ⟨s4, b⟩ ⟨d1, d2, d3⟩ => ?_
  simp only at d1 d2 d3
  refine (Some_ok d1 (by omega) (by simp) (by simp)).bind fun d hd => ?_
  have hd' : (d.length : Int) ≤ 1000 := by
    simp at hd
    rcases hd with rfl | rfl | rfl | rfl | rfl <;> simp
  refine Ok.bind (P := fun q : List api_Fix => All FB q ∧ (q.length : Int) ≤ 6) ?_ fun c ⟨e1, e2⟩ => ?_
  · unfold fleetlaw2_FixesMerge_x1 fleetlaw2_FixesMerge_x2
    refine Ok.bind (P := fun q : fleetmake_Stream × Bool => StrOk 1000 q.1 ∧ (q.2 = true → 0 < a.length)) ?_ fun ⟨s5, b5⟩ ⟨f1, f2⟩ => ?_
    · refine .cond (fun hc => ?_) (fun _ => .some ⟨(d1.nxt (by omega)).mono (by omega), fun h => by cases h⟩)
      have hc : (0 : Int) < a.length := by simpa using hc
      exact (Flip_ok (d1.nxt (by omega)) (by omega) (by unfold I64; omega)).bind fun b _ => .some ⟨((d1.nxt (by omega)).nxt (by omega)).mono (by omega), fun _ => by omega⟩
    · simp only at f1 f2
      refine .cond (fun hb => ?_) (fun _ => .some ⟨d2, by omega⟩)
      have hlen := f2 hb
      refine (Next_ok f1 (by omega) (by unfold I64; omega)).bind fun r hr => ?_
      have hr := hr.1 (by omega)
      have hs : sub? a r (a.length : Int) = some ((a.take a.length).drop r.toNat) := by
        unfold sub?
        rw [if_pos ⟨hr.1, by omega, Int.le_refl _⟩]
        simp
      rw [hs]
      simp only [Option.bind_some]
      rw [clone_eq (by simp; omega)]
      refine .some ⟨fun x hx => b2 x ?_, by simp; omega⟩
      exact List.mem_of_mem_take (List.mem_of_mem_drop hx)
  · obtain ⟨r, e, v1, v2, m1, m2, m3, m4, m5, m6, m7, m8⟩ := merge_both b2 e1 (by omega) (by omega)
    have hof := of_both d hd' (by omega) m2
    rw [m1, hof, m4, m2]
    simp only [Option.bind_some, decide_true, Bool.not_true, cond_false, QKey_eq d (by omega), fwhen_eq, ferrs2]
    have hk : (bif !keyB d then (5 : Int) else 0) = cond (keyB d) 0 5 := by cases keyB d <;> rfl
    rw [hk]
    have hx3 : fleetlaw2_FixesMerge_x3 a c v1 = some (e, r) := by
      unfold fleetlaw2_FixesMerge_x3
      rw [m5]
      simp only [Option.bind_some, ferrs2]
      by_cases h0 : or0 v1 v2 = 0
      · simp [h0, m7 h0]
      · obtain ⟨g1, g2⟩ := m6 h0
        simp [h0, g1, g2]
    have hx4 : fleetlaw2_FixesMerge_x4 a d (or0 v1 (cond (keyB d) 0 5)) = some (cond (decide (or0 v1 (cond (keyB d) 0 5) = 0)) (ofD d a) []) := by
      unfold fleetlaw2_FixesMerge_x4
      rw [clone_eq (by omega)]
      simp only [Option.bind_some, del_eq d (show a.length ≤ 100000 by omega)]
      cases decide (or0 v1 (cond (keyB d) 0 5) = 0) <;> rfl
    rw [hx3]
    simp only [Option.bind_some, hx4]
    have hlen : ((cond (decide (or0 v1 (cond (keyB d) 0 5) = 0)) (ofD d a) []).length : Int) ≤ 9223372036854775807 := by
      have : (ofD d a).length ≤ a.length := List.length_filter_le _ _
      cases decide (or0 v1 (cond (keyB d) 0 5) = 0)
      · simp
      · simp only [cond_true]; omega
    unfold fleetlaw2_FixesMerge_x5
    simp only [decide_true, cond_true, fequal_self (l := r) (by omega), fequal_self hlen, placed_eq, Option.bind_some]
    exact .some rfl
end Go.Eng
