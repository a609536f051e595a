/-
What streams make: series and windows.
-/
import Derived.Test.YtjfpceigbgnjgaaPlainB
import Derived.Test.YtjfpceigbgnjgaaPlainE
namespace Go.Eng
open Go
set_option linter.unusedVariables false
set_option linter.unusedSimpArgs false

def S1 (x : api_Sample) : Prop := (x.Device.length : Int) ≤ 1000 ∧ (x.Metric.length : Int) ≤ 1000 ∧ (-2199023255552 ≤ x.At ∧ x.At ≤ 2199023255552) ∧ (-2199023255552 ≤ x.Value ∧ x.Value ≤ 2199023255552)
theorem SBnd.set {l : List api_Sample} (h : SBnd l) {i : Nat} {x : api_Sample} (hx : S1 x) : SBnd (l.set i x) := by
  intro y hy
  rcases List.mem_or_eq_of_mem_set hy with hy | rfl
  · exact h y hy
  · exact hx
theorem SBnd.snoc {l : List api_Sample} (h : SBnd l) {x : api_Sample} (hx : S1 x) : SBnd (l ++ [x]) := by
  intro y hy
  rcases List.mem_append.1 hy with hy | hy
  · exact h y hy
  · rw [List.mem_singleton.1 hy]; exact hx
theorem SBnd.at {l : List api_Sample} (h : SBnd l) {i : Nat} {x : api_Sample} (hx : l[i]? = some x) : S1 x := h x (List.mem_of_getElem? hx)

/-- A stream behind n more numbers, and what was made of them. -/
theorem RightSeries_ok {k : Nat} {s : fleetmake_Stream} {most low : Int} (h : StrOk k s) (hk : k + 300 < 1099511627776) (hm : 0 ≤ most ∧ most ≤ 100) (hlow : -1000000000 ≤ low ∧ low ≤ 1000000000) :
    Ok (fleetmake_Stream_RightSeries s most low) (fun r => StrOk (k + 300) r.1 ∧ SBnd r.2 ∧ (r.2.length : Int) ≤ most) := by
  unfold fleetmake_Stream_RightSeries
  refine (Range_ok h (by omega) (by omega) (by omega)).bind fun ⟨s1, n⟩ ⟨g1, g2, g3, _⟩ => ?_
  have g3 := g3 (by omega)
  simp only at g1 g2 g3
  refine Ok.bind (P := fun r => StrOk (k + 300) r.1 ∧ SBnd r.2 ∧ (r.2.length : Int) ≤ most) ?_ fun ⟨s2, out⟩ h2 => .some h2
  refine loop_ok (fun q : fleetmake_Stream × List api_Sample × Int × Int => ∃ i : Nat, q.2.2.2 = i ∧ i ≤ n ∧ StrOk (k + 1 + 2 * i) q.1 ∧ q.2.1.length = i ∧ (0 ≤ q.2.2.1 ∧ q.2.2.1 ≤ 1000 * i) ∧ SBnd q.2.1) (fun q => (n - q.2.2.2).toNat) ?_ ?_
  · rintro ⟨s2, out, a, i0⟩ ⟨i, e1, e2, e3, e4, e5, e6⟩
    simp only at e1 e3 e4 e5 e6
    subst e1
    unfold fleetmake_Stream_RightSeries_x1
    refine .cond (fun hc => ?_) (fun hc => ?_)
    · have hc' : (i : Int) < n := by simpa using hc
      refine (Pick_ok e3 (by omega) (by simp) (by simp)).bind fun d hd => ?_
      refine (Pick_ok (e3.nxt (by omega)) (by omega) (by simp) (by simp)).bind fun v hv => ?_
      have hd' : 1 ≤ d ∧ d ≤ 1000 := by simp at hd; omega
      have hv' : -70 ≤ v ∧ v ≤ 1000 := by simp at hv; omega
      rw [wrap64 (n := a + d) (by omega) (by omega), wrap64 (n := (i : Int) + 1) (by omega) (by omega)]
      refine .gd (ble_lim (by simp; omega)) (.some ⟨⟨i + 1, by simp, by omega, ?_, by simp [e4], ?_, ?_⟩, ?_⟩)
      · exact ((e3.nxt (by omega)).nxt (by omega)).mono (by omega)
      · simp only; omega
      · refine e6.snoc ⟨by simp, by simp, by simp only; omega, ?_⟩
        simp only
        unfold imax
        split <;> omega
      · simp only; omega
    · have hc' : ¬ (i : Int) < n := by simpa using hc
      exact .some ⟨e3.mono (by omega), e6, by simp only; omega⟩
  · exact ⟨0, rfl, by omega, g1.mono (by omega), rfl, by simp, fun x hx => by cases hx⟩

theorem Series_ok {k : Nat} {s : fleetmake_Stream} {most : Int} (h : StrOk k s) (hk : k + 320 < 1099511627776) (hm : 0 ≤ most ∧ most ≤ 100) :
    Ok (fleetmake_Stream_Series s most) (fun r => StrOk (k + 320) r.1 ∧ SBnd r.2 ∧ (r.2.length : Int) ≤ most) := by
  unfold fleetmake_Stream_Series
  refine (Pick_ok h (by omega) (by simp) (by simp)).bind fun low hlow => ?_
  refine (RightSeries_ok (h.nxt (by omega)) (by omega) hm (by simp at hlow; omega)).bind fun ⟨s1, l⟩ ⟨g1, g2, g3⟩ => ?_
  simp only at g1 g2 g3
  refine Ok.bind (P := fun r => StrOk (k + 310) r.1 ∧ SBnd r.2 ∧ (r.2.length : Int) ≤ most) ?_ fun ⟨s2, l2⟩ ⟨f1, f2, f3⟩ => ?_
  · unfold fleetmake_Stream_Series_x1 fleetmake_Stream_Series_x2
    refine Ok.bind (P := fun r => StrOk (k + 302) r.1 ∧ (r.2 = true → 0 < l.length)) ?_ fun ⟨s2, b⟩ ⟨f1, f2⟩ => ?_
    · refine .cond (fun hc => ?_) (fun hc => ?_)
      · refine (Flip_ok g1 (by omega) (by unfold I64; omega)).bind fun b _ => .some ⟨(g1.nxt (by omega)).mono (by omega), fun _ => ?_⟩
        simpa using hc
      · exact .some ⟨g1.mono (by omega), fun h => by cases h⟩
    · simp only at f1 f2
      refine .cond (fun hb => ?_) (fun hb => .some ⟨f1.mono (by omega), g2, g3⟩)
      have hlen := f2 hb
      refine (Next_ok f1 (by omega) (by unfold I64; omega)).bind fun r hr => ?_
      have hr := hr.1 (by omega)
      refine (at_ok hr.1 hr.2).bind fun y hy => ?_
      have hy1 := g2.at hy
      obtain ⟨y1, y2, y3, y4⟩ := hy1
      refine (Next_ok (f1.nxt (by omega)) (by omega) (by unfold I64; omega)).bind fun q hq => ?_
      have f3 := (f1.nxt (by omega)).nxt (by omega)
      refine .cond (fun _ => ?_) (fun _ => .cond (fun _ => ?_) (fun _ => .cond (fun _ => ?_) (fun _ => ?_)))
      · refine (Some_ok f3 (by omega) (by simp) (by simp)).bind fun d hd => .some ⟨(f3.nxt (by omega)).mono (by omega), g2.set ⟨?_, y2, y3, y4⟩, by simpa using g3⟩
        simp at hd
        rcases hd with rfl | rfl | rfl <;> simp
      · refine (Some_ok f3 (by omega) (by simp) (by simp)).bind fun d hd => .some ⟨(f3.nxt (by omega)).mono (by omega), g2.set ⟨y1, ?_, y3, y4⟩, by simpa using g3⟩
        simp at hd
        rcases hd with rfl | rfl <;> simp
      · refine (Odd_ok f3 (by omega) (by omega) (by omega) (by omega)).bind fun ⟨s3, v⟩ ⟨d1, d2⟩ => .some ⟨d1.mono (by omega), g2.set ⟨y1, y2, ?_, y4⟩, by simpa using g3⟩
        simp only at d2 ⊢
        omega
      · refine (Odd_ok f3 (by omega) (by omega) (by omega) (by omega)).bind fun ⟨s3, v⟩ ⟨d1, d2⟩ => .some ⟨d1.mono (by omega), g2.set ⟨y1, y2, y3, ?_⟩, by simpa using g3⟩
        simp only at d2 ⊢
        omega
  · simp only at f1 f2 f3
    refine Ok.bind (P := fun r => StrOk (k + 320) r.1 ∧ SBnd r.2 ∧ (r.2.length : Int) ≤ most) ?_ fun ⟨s3, l3⟩ h3 => .some h3
    unfold fleetmake_Stream_Series_x3 fleetmake_Stream_Series_x4
    refine Ok.bind (P := fun r => StrOk (k + 312) r.1 ∧ (r.2 = true → 0 < l2.length)) ?_ fun ⟨s3, b⟩ ⟨d1, d2⟩ => ?_
    · refine .cond (fun hc => ?_) (fun hc => ?_)
      · refine (Flip_ok f1 (by omega) (by unfold I64; omega)).bind fun b _ => .some ⟨(f1.nxt (by omega)).mono (by omega), fun _ => ?_⟩
        simpa using hc
      · exact .some ⟨f1.mono (by omega), fun h => by cases h⟩
    · simp only at d1 d2
      refine .cond (fun hb => ?_) (fun hb => .some ⟨d1.mono (by omega), f2, f3⟩)
      have hlen := d2 hb
      rw [wrap64 (by omega) (by omega)]
      refine (at_ok (by omega) (by omega)).bind fun y hy => ?_
      obtain ⟨y1, y2, y3, y4⟩ := f2.at hy
      refine (Pick_ok d1 (by omega) (by simp) (by simp)).bind fun a ha => ?_
      refine (Pick_ok (d1.nxt (by omega)) (by omega) (by simp) (by simp)).bind fun v hv => ?_
      have ha' : 0 ≤ a ∧ a ≤ 345686399999 := by simp at ha; omega
      have hv' : -1000000000 ≤ v ∧ v ≤ 1000000000 := by simp at hv; omega
      refine .some ⟨((d1.nxt (by omega)).nxt (by omega)).mono (by omega), (f2.set (x := ⟨y.Device, y.Metric, a, y.Value⟩) ?_).set (x := ⟨y.Device, y.Metric, a, v⟩) ?_, by simpa using f3⟩
      · exact ⟨y1, y2, by simp only; omega, y4⟩
      · exact ⟨y1, y2, by simp only; omega, by simp only; omega⟩

def WBnd (w : api_Window) : Prop := (-2199023255552 ≤ w.From ∧ w.From ≤ 2199023255552) ∧ (-2199023255552 ≤ w.To ∧ w.To ≤ 2199023255552)
theorem Frame_ok {k : Nat} {s : fleetmake_Stream} (h : StrOk k s) (hk : k + 20 < 1099511627776) : Ok (fleetmake_Stream_Frame s) (fun r => StrOk (k + 20) r.1 ∧ WBnd r.2) := by
  unfold fleetmake_Stream_Frame
  refine (Pick_ok h (by omega) (by simp) (by simp)).bind fun a ha => ?_
  refine (Pick_ok (h.nxt (by omega)) (by omega) (by simp) (by simp)).bind fun b hb => ?_
  have ha' : 0 ≤ a ∧ a ≤ 50 := by simp at ha; omega
  have hb' : 0 ≤ b ∧ b ≤ 3000 := by simp at hb; omega
  have g1 := (h.nxt (by omega)).nxt (by omega)
  refine Ok.bind (P := fun r => StrOk (k + 3) r.1 ∧ WBnd r.2) ?_ fun ⟨s1, w1⟩ ⟨f1, f2⟩ => Ok.bind (P := fun r => StrOk (k + 10) r.1 ∧ WBnd r.2) ?_ fun ⟨s2, w2⟩ ⟨d1, d2⟩ => Ok.bind (P := fun r => StrOk (k + 20) r.1 ∧ WBnd r.2) ?_ fun ⟨s3, w3⟩ h3 => .some h3
  · unfold fleetmake_Stream_Frame_x1 fleetmake_Stream_Frame_x2
    refine Ok.bind (P := fun r => StrOk (k + 3) r.1) ?_ fun ⟨s1, c⟩ f1 => ?_
    · refine .cond (fun _ => ?_) (fun _ => .some (g1.mono (by omega)))
      exact (Flip_ok g1 (by omega) (by unfold I64; omega)).bind fun b _ => .some ((g1.nxt (by omega)).mono (by omega))
    · refine .cond (fun _ => .some ⟨f1, ?_⟩) (fun _ => .some ⟨f1, ?_⟩)
      · unfold WBnd; simp only; omega
      · unfold WBnd; simp only; omega
  · unfold fleetmake_Stream_Frame_x3
    simp only at f1 f2
    refine (Flip_ok f1 (by omega) (by unfold I64; omega)).bind fun c _ => .cond (fun _ => ?_) (fun _ => .some ⟨(f1.nxt (by omega)).mono (by omega), f2⟩)
    refine (Odd_ok (f1.nxt (by omega)) (by omega) (by omega) (by omega) (by omega)).bind fun ⟨s3, x⟩ ⟨e1, e2⟩ => ?_
    refine (Odd_ok e1 (by omega) (by omega) (by omega) (by omega)).bind fun ⟨s4, y⟩ ⟨e3, e4⟩ => .some ⟨e3.mono (by omega), ?_⟩
    unfold WBnd
    simp only at e2 e4 ⊢
    omega
  · unfold fleetmake_Stream_Frame_x4
    simp only at d1 d2
    refine (Flip_ok d1 (by omega) (by unfold I64; omega)).bind fun c _ => .cond (fun _ => ?_) (fun _ => .some ⟨(d1.nxt (by omega)).mono (by omega), d2⟩)
    refine (Pick_ok (d1.nxt (by omega)) (by omega) (by simp) (by simp)).bind fun x hx => ?_
    refine (Pick_ok ((d1.nxt (by omega)).nxt (by omega)) (by omega) (by simp) (by simp)).bind fun y hy => ?_
    have hx' : 0 ≤ x ∧ x ≤ 5 := by simp at hx; omega
    have hy' : 0 ≤ y ∧ y ≤ 345686400001 := by simp at hy; omega
    refine .some ⟨(((d1.nxt (by omega)).nxt (by omega)).nxt (by omega)).mono (by omega), ?_⟩
    unfold WBnd
    simp only
    omega
end Go.Eng
