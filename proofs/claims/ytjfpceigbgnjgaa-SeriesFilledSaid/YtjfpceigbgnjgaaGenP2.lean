/-
The code of the Go functions that the law SeriesFilled reaches does what the plain functions say, part 2.
-/
import Derived.Test.YtjfpceigbgnjgaaGenP1

namespace Go.Eng

open Go Go.Proofs.Try

set_option linter.unusedVariables false

set_option maxRecDepth 20000

set_option maxHeartbeats 0

/-! ### slices.IndexFunc[[]beaconfleet/api.Sample,beaconfleet/api.Sample] -/
def slices_IndexFunc_api_Sample_api_Sample_f1_series_CheckSeries_1_x1_k : Unit ⊕ Int → AEx
  | .inl _ => .exit 0
  | .inr _ => .ret

def slices_IndexFunc_api_Sample_api_Sample_f1_series_CheckSeries_1_x1_S (qs : List api_Sample) : Unit ⊕ Int → St
  | .inl _ => Mem.st ⟨[], [(0, [.d (.lst (List.map api_Sample.enc qs))])]⟩ (tl []) 1
  | .inr vx1 => Mem.st ⟨[], [(0, [.d (.lst (List.map api_Sample.enc qs))])]⟩ (tl [(4, .v (.one (.d (.int .i64 vx1))))]) 1

def slices_IndexFunc_api_Sample_api_Sample_f1_series_CheckSeries_1_x1_H (qs : List api_Sample) : Int → St
  | vx => Mem.st ⟨[], [(0, [.d (.lst (List.map api_Sample.enc qs))])]⟩ (tl [(0, .v (.one (.d (.lst (List.map api_Sample.enc qs))))), (1, .v (.one (.fn 212 [0]))), (7, .v (.one (.d (.int .i64 (qs.length : Int))))), (8, .v (.one (.d (.int .i64 vx))))]) 1

theorem slices_IndexFunc_api_Sample_api_Sample_f1_series_CheckSeries_1_x1_ok (qs : List api_Sample) (vx : Int) (r : (Int) ⊕ (Unit ⊕ Int)) (hF : slices_IndexFunc_api_Sample_api_Sample_f1_series_CheckSeries_1_x1 qs vx = some r) : Awp prog 1 19 (cL (cL (cR (cL (cR (cB f210)))))) (Out 1 (kk slices_IndexFunc_api_Sample_api_Sample_f1_series_CheckSeries_1_x1_k) (SS (slices_IndexFunc_api_Sample_api_Sample_f1_series_CheckSeries_1_x1_H qs) (slices_IndexFunc_api_Sample_api_Sample_f1_series_CheckSeries_1_x1_S qs)) r) (slices_IndexFunc_api_Sample_api_Sample_f1_series_CheckSeries_1_x1_H qs vx) := by
  unfold slices_IndexFunc_api_Sample_api_Sample_f1_series_CheckSeries_1_x1 at hF
  refine awp_seq ?_
  refine awp_region' 1 1001 (by kernel_rfl) (by kernel_rfl) ?_
  refine aops_eff hΓ (.v (.one (.d (.bool (decide (vx < (qs.length : Int))))))) [] [] (by kernel_rfl) ?_
  refine aops_nil ?_
  refine awp_seq ?_
  rcases cond_or hF with ⟨h1, hF⟩ | ⟨h1, hF⟩
  · refine awp_true (by kernel_rfl) h1 ?_
    refine awp_skip ?_
    refine awp_seq ?_
    refine awp_block ?_
    refine awp_seq ?_
    refine awp_region' 1001 3001 (by kernel_rfl) (by kernel_rfl) ?_
    refine aops_eff hΓ (.v (.one (.d (.int .i64 vx)))) [] [] (by kernel_rfl) ?_
    refine aops_eff hΓ (.v (.one (.d (.int .i64 vx)))) [] [] (by kernel_rfl) ?_
    refine aops_nil ?_
    refine awp_seq ?_
    obtain ⟨vy1, h2, hF⟩ := bind_some hF
    obtain ⟨vr1, h3, hF⟩ := bind_some hF
    refine awp_region' 3001 9001 (by kernel_rfl) (by kernel_rfl) ?_
    refine aops_eff hΓ (.v (.one (.fn 212 [0]))) [] [] (by kernel_rfl) ?_
    refine aops_eff hΓ (.v (.one (.d (.lst (List.map api_Sample.enc qs))))) [] [] (by kernel_rfl) ?_
    refine aops_eff hΓ (.v (.one (.d (.int .i64 vx)))) [] [] (by kernel_rfl) ?_
    refine aops_eff hΓ (.v (.one (.cp [.str vy1.Device, .str vy1.Metric, .int .i64 vy1.At, .int .i64 vy1.Value]))) [] [] (opx_of (by kernel_rfl) (by kernel_rfl) (eff_indexAddr (k := .i64) (ti := ti26) (te := ti42) (l := qs) (f := api_Sample.enc) (y := vy1) (by kernel_rfl) rfl (by kernel_rfl) (by kernel_rfl) (by kernel_rfl) h2 (by kernel_rfl))) ?_
    refine aops_eff hΓ (.v (.agg [.d (.str vy1.Device), .d (.str vy1.Metric), .d (.int .i64 vy1.At), .d (.int .i64 vy1.Value)])) [] [] (by kernel_rfl) ?_
    refine aops_call (by kernel_rfl) (by kernel_rfl) (does_call (f := (.tmp 11)) (g := 212) (caps := [0]) (tvs := [.v (.agg [.d (.str vy1.Device), .d (.str vy1.Metric), .d (.int .i64 vy1.At), .d (.int .i64 vy1.Value)])]) (al := [.v (.agg [.d (.str vy1.Device), .d (.str vy1.Metric), .d (.int .i64 vy1.At), .d (.int .i64 vy1.Value)]), .v (.one (.box 0 0))]) (m := ⟨[], [(0, [.d (.lst (List.map api_Sample.enc qs))])]⟩) (m' := ⟨[], [(0, [.d (.lst (List.map api_Sample.enc qs))])]⟩) (tv := .v (.one (.d (.bool vr1)))) (lens := []) rfl (by kernel_rfl) (by kernel_rfl) (sees_of (rl := []) (nl := []) (by kernel_rfl) trivial (⟨⟨by kernel_rfl, [.d (.lst (List.map api_Sample.enc qs))], by kernel_rfl, l2_same (by kernel_rfl) (by kernel_rfl)⟩, trivial⟩)) (⟨t_same (by kernel_rfl) (by kernel_rfl), t_same (by kernel_rfl) (by kernel_rfl), trivial⟩) (series_CheckSeries_1_ok _ _ _ h3) (left_of (by kernel_rfl))) (.v (.one (.d (.bool vr1)))) [] [(0, some [.d (.lst (List.map api_Sample.enc qs))])] (by kernel_rfl) ?_
    refine aops_nil ?_
    rcases cond_or hF with ⟨h4, hF⟩ | ⟨h4, hF⟩
    · refine awp_true (by kernel_rfl) h4 ?_
      refine awp_seq ?_
      refine awp_region' 9001 11001 (by kernel_rfl) (by kernel_rfl) ?_
      refine aops_eff hΓ (.v (.one (.d (.int .i64 vx)))) [] [] (by kernel_rfl) ?_
      refine aops_eff hΓ (.v (.one (.d (.int .i64 vx)))) [] [] (by kernel_rfl) ?_
      refine aops_nil ?_
      refine awp_ret ?_
      obtain rfl := some_eq hF
      exact out_intro rfl (to_see [] [] ⟨[], [(0, [.d (.lst (List.map api_Sample.enc qs))])]⟩ [(4, .v (.one (.d (.int .i64 vx))))] 1 (by kernel_rfl) (by kernel_rfl) (lowc_of (by kernel_rfl)) trivial (⟨⟨by kernel_rfl, [.d (.lst (List.map api_Sample.enc qs))], by kernel_rfl, l2_same (by kernel_rfl) (by kernel_rfl)⟩, trivial⟩) (⟨t_same (by kernel_rfl) (by kernel_rfl), trivial⟩))
    · refine awp_false (by kernel_rfl) h4 ?_
      refine awp_skip ?_
      refine awp_region' 9001 11001 (by kernel_rfl) (by kernel_rfl) ?_
      refine aops_eff hΓ (.v (.one (.d (.int .i64 (IntKind.wrap .i64 (vx + 1)))))) [] [] (by kernel_rfl) ?_
      refine aops_eff hΓ (.v (.one (.d (.int .i64 (IntKind.wrap .i64 (vx + 1)))))) [] [] (by kernel_rfl) ?_
      refine aops_nil ?_
      obtain rfl := some_eq hF
      exact out_intro rfl (to_see [] [] ⟨[], [(0, [.d (.lst (List.map api_Sample.enc qs))])]⟩ [(0, .v (.one (.d (.lst (List.map api_Sample.enc qs))))), (1, .v (.one (.fn 212 [0]))), (7, .v (.one (.d (.int .i64 (qs.length : Int))))), (8, .v (.one (.d (.int .i64 (IntKind.wrap .i64 (vx + 1))))))] 1 (by kernel_rfl) (by kernel_rfl) (lowc_of (by kernel_rfl)) trivial (⟨⟨by kernel_rfl, [.d (.lst (List.map api_Sample.enc qs))], by kernel_rfl, l2_same (by kernel_rfl) (by kernel_rfl)⟩, trivial⟩) (⟨t_same (by kernel_rfl) (by kernel_rfl), t_same (by kernel_rfl) (by kernel_rfl), t_same (by kernel_rfl) (by kernel_rfl), t_same (by kernel_rfl) (by kernel_rfl), trivial⟩))
  · refine awp_false (by kernel_rfl) h1 ?_
    refine awp_exit ?_
    obtain rfl := some_eq hF
    exact out_intro rfl (to_see [] [] ⟨[], [(0, [.d (.lst (List.map api_Sample.enc qs))])]⟩ [] 1 (by kernel_rfl) (by kernel_rfl) (lowc_of (by kernel_rfl)) trivial (⟨⟨by kernel_rfl, [.d (.lst (List.map api_Sample.enc qs))], by kernel_rfl, l2_same (by kernel_rfl) (by kernel_rfl)⟩, trivial⟩) trivial)

theorem slices_IndexFunc_api_Sample_api_Sample_f1_series_CheckSeries_1_ok (qs : List api_Sample) (r : Int) (hF : slices_IndexFunc_api_Sample_api_Sample_f1_series_CheckSeries_1 qs = some r) : Holds prog 210 [.v (.one (.d (.lst (List.map api_Sample.enc qs)))), .v (.one (.fn 212 [0]))] ⟨[], [(0, [.d (.lst (List.map api_Sample.enc qs))])]⟩ (fun tv m => tv = .v (.one (.d (.int .i64 r))) ∧ m = ⟨[], [(0, [.d (.lst (List.map api_Sample.enc qs))])]⟩) := by
  unfold slices_IndexFunc_api_Sample_api_Sample_f1_series_CheckSeries_1 at hF
  refine holds_of_awp hΓ (fn := f210) (c := cB f210) (A := 1) (nx := 1) (by kernel_rfl) (by kernel_rfl) (by kernel_rfl) (by kernel_rfl) (by kernel_rfl) (by kernel_rfl) (lowc_of (by kernel_rfl)) ?_
  show Awp prog 1 19 (cB f210) _ _
  refine awp_seq ?_
  refine awp_region' 1 1001 (by kernel_rfl) (by kernel_rfl) ?_
  refine aops_eff hΓ (.v (.one (.d (.int .i64 0)))) [] [] (by kernel_rfl) ?_
  refine aops_nil ?_
  refine awp_seq ?_
  refine awp_seq ?_
  refine awp_region' 1001 4001 (by kernel_rfl) (by kernel_rfl) ?_
  refine aops_eff hΓ (.v (.one (.d (.lst (List.map api_Sample.enc qs))))) [] [] (by kernel_rfl) ?_
  refine aops_eff hΓ (.v (.one (.d (.int .i64 (qs.length : Int))))) [] [] (opx_len (f := api_Sample.enc) (l := qs) (by kernel_rfl)) ?_
  refine aops_eff hΓ (.v (.one (.d (.int .i64 0)))) [] [] (by kernel_rfl) ?_
  refine aops_nil ?_
  refine awp_block ?_
  refine awp_to (st' := slices_IndexFunc_api_Sample_api_Sample_f1_series_CheckSeries_1_x1_H qs 0) (to_see [] [] ⟨[], [(0, [.d (.lst (List.map api_Sample.enc qs))])]⟩ [(0, .v (.one (.d (.lst (List.map api_Sample.enc qs))))), (1, .v (.one (.fn 212 [0]))), (7, .v (.one (.d (.int .i64 (qs.length : Int))))), (8, .v (.one (.d (.int .i64 0))))] 1 (by kernel_rfl) (by kernel_rfl) (lowc_of (by kernel_rfl)) trivial (⟨⟨by kernel_rfl, [.d (.lst (List.map api_Sample.enc qs))], by kernel_rfl, l2_same (by kernel_rfl) (by kernel_rfl)⟩, trivial⟩) (⟨t_same (by kernel_rfl) (by kernel_rfl), t_same (by kernel_rfl) (by kernel_rfl), t_same (by kernel_rfl) (by kernel_rfl), t_same (by kernel_rfl) (by kernel_rfl), trivial⟩)) ?_
  obtain ⟨(_ | vx1_1), h5, hF⟩ := bind_some hF
  · refine awp_sub (awp_loop' (slices_IndexFunc_api_Sample_api_Sample_f1_series_CheckSeries_1_x1_H qs) slices_IndexFunc_api_Sample_api_Sample_f1_series_CheckSeries_1_x1_k (slices_IndexFunc_api_Sample_api_Sample_f1_series_CheckSeries_1_x1_S qs) (by intro x; rcases x with x | x <;> exact fun h => nomatch h) h5 (slices_IndexFunc_api_Sample_api_Sample_f1_series_CheckSeries_1_x1_ok qs)) ?_
    refine awp_seq ?_
    refine awp_region' 1 1001 (by kernel_rfl) (by kernel_rfl) ?_
    refine aops_eff hΓ (.v (.one (.d (.int .i64 (-1))))) [] [] (by kernel_rfl) ?_
    refine aops_nil ?_
    refine awp_ret ?_
    obtain rfl := some_eq hF
    exact fin_intro (xs := [.one (.d (.int .i64 (-1)))]) (m' := ⟨[], [(0, [.d (.lst (List.map api_Sample.enc qs))])]⟩) (tv := (.v (.one (.d (.int .i64 (-1)))))) (rl := []) (nl := []) (by kernel_rfl) (by kernel_rfl) (by kernel_rfl) (sees_of (by kernel_rfl) trivial (⟨⟨by kernel_rfl, [.d (.lst (List.map api_Sample.enc qs))], by kernel_rfl, l2_same (by kernel_rfl) (by kernel_rfl)⟩, trivial⟩)) (t_same (by kernel_rfl) (by kernel_rfl)) ⟨rfl, rfl⟩
  · refine awp_sub (awp_loop' (slices_IndexFunc_api_Sample_api_Sample_f1_series_CheckSeries_1_x1_H qs) slices_IndexFunc_api_Sample_api_Sample_f1_series_CheckSeries_1_x1_k (slices_IndexFunc_api_Sample_api_Sample_f1_series_CheckSeries_1_x1_S qs) (by intro x; rcases x with x | x <;> exact fun h => nomatch h) h5 (slices_IndexFunc_api_Sample_api_Sample_f1_series_CheckSeries_1_x1_ok qs)) ?_
    obtain rfl := some_eq hF
    exact fin_intro (xs := [.one (.d (.int .i64 vx1_1))]) (m' := ⟨[], [(0, [.d (.lst (List.map api_Sample.enc qs))])]⟩) (tv := (.v (.one (.d (.int .i64 vx1_1))))) (rl := []) (nl := []) (by kernel_rfl) (by kernel_rfl) (by kernel_rfl) (sees_of (by kernel_rfl) trivial (⟨⟨by kernel_rfl, [.d (.lst (List.map api_Sample.enc qs))], by kernel_rfl, l2_same (by kernel_rfl) (by kernel_rfl)⟩, trivial⟩)) (t_same (by kernel_rfl) (by kernel_rfl)) ⟨rfl, rfl⟩

/-! ### slices.ContainsFunc[[]beaconfleet/api.Sample,beaconfleet/api.Sample] -/
theorem slices_ContainsFunc_api_Sample_api_Sample_f1_series_CheckSeries_1_ok (qs : List api_Sample) (r : Bool) (hF : slices_ContainsFunc_api_Sample_api_Sample_f1_series_CheckSeries_1 qs = some r) : Holds prog 117 [.v (.one (.d (.lst (List.map api_Sample.enc qs)))), .v (.one (.fn 212 [0]))] ⟨[], [(0, [.d (.lst (List.map api_Sample.enc qs))])]⟩ (fun tv m => tv = .v (.one (.d (.bool r))) ∧ m = ⟨[], [(0, [.d (.lst (List.map api_Sample.enc qs))])]⟩) := by
  unfold slices_ContainsFunc_api_Sample_api_Sample_f1_series_CheckSeries_1 at hF
  refine holds_of_awp hΓ (fn := f117) (c := cB f117) (A := 1) (nx := 1) (by kernel_rfl) (by kernel_rfl) (by kernel_rfl) (by kernel_rfl) (by kernel_rfl) (by kernel_rfl) (lowc_of (by kernel_rfl)) ?_
  show Awp prog 1 9 (cB f117) _ _
  refine awp_seq ?_
  refine awp_region' 1 1001 (by kernel_rfl) (by kernel_rfl) ?_
  refine aops_eff hΓ (.v (.one (.d (.bool false)))) [] [] (by kernel_rfl) ?_
  refine aops_nil ?_
  refine awp_seq ?_
  obtain ⟨vr2, h1, hF⟩ := bind_some hF
  refine awp_region' 1001 6001 (by kernel_rfl) (by kernel_rfl) ?_
  refine aops_eff hΓ (.v (.one (.d (.lst (List.map api_Sample.enc qs))))) [] [] (by kernel_rfl) ?_
  refine aops_eff hΓ (.v (.one (.fn 212 [0]))) [] [] (by kernel_rfl) ?_
  refine aops_call (by kernel_rfl) (by kernel_rfl) (does_call (f := (.func 210)) (g := 210) (caps := []) (tvs := [.v (.one (.d (.lst (List.map api_Sample.enc qs)))), .v (.one (.fn 212 [0]))]) (al := [.v (.one (.d (.lst (List.map api_Sample.enc qs)))), .v (.one (.fn 212 [0]))]) (m := ⟨[], [(0, [.d (.lst (List.map api_Sample.enc qs))])]⟩) (m' := ⟨[], [(0, [.d (.lst (List.map api_Sample.enc qs))])]⟩) (tv := .v (.one (.d (.int .i64 vr2)))) (lens := []) rfl (by kernel_rfl) (by kernel_rfl) (sees_of (rl := []) (nl := []) (by kernel_rfl) trivial (⟨⟨by kernel_rfl, [.d (.lst (List.map api_Sample.enc qs))], by kernel_rfl, l2_same (by kernel_rfl) (by kernel_rfl)⟩, trivial⟩)) (⟨t_same (by kernel_rfl) (by kernel_rfl), t_same (by kernel_rfl) (by kernel_rfl), trivial⟩) (slices_IndexFunc_api_Sample_api_Sample_f1_series_CheckSeries_1_ok _ _ h1) (left_of (by kernel_rfl))) (.v (.one (.d (.int .i64 vr2)))) [] [(0, some [.d (.lst (List.map api_Sample.enc qs))])] (by kernel_rfl) ?_
  refine aops_eff hΓ (.v (.one (.d (.bool (decide (0 ≤ vr2)))))) [] [] (by kernel_rfl) ?_
  refine aops_eff hΓ (.v (.one (.d (.bool (decide (0 ≤ vr2)))))) [] [] (by kernel_rfl) ?_
  refine aops_nil ?_
  refine awp_ret ?_
  obtain rfl := some_eq hF
  exact fin_intro (xs := [.one (.d (.bool (decide (0 ≤ vr2))))]) (m' := ⟨[], [(0, [.d (.lst (List.map api_Sample.enc qs))])]⟩) (tv := (.v (.one (.d (.bool (decide (0 ≤ vr2))))))) (rl := []) (nl := []) (by kernel_rfl) (by kernel_rfl) (by kernel_rfl) (sees_of (by kernel_rfl) trivial (⟨⟨by kernel_rfl, [.d (.lst (List.map api_Sample.enc qs))], by kernel_rfl, l2_same (by kernel_rfl) (by kernel_rfl)⟩, trivial⟩)) (t_same (by kernel_rfl) (by kernel_rfl)) ⟨rfl, rfl⟩

/-! ### beaconfleet/series.CheckSeries -/
theorem series_CheckSeries_ok (ql : List api_Sample) (r : Int) (hF : series_CheckSeries ql = some r) : Holds prog 122 [.v (.one (.d (.lst (List.map api_Sample.enc ql))))] ⟨[], []⟩ (fun tv m => tv = .v (.one (.d (.int .i64 r))) ∧ m = ⟨[], []⟩) := by
  unfold series_CheckSeries at hF
  refine holds_of_awp hΓ (fn := f122) (c := cB f122) (A := 0) (nx := 0) (by kernel_rfl) (by kernel_rfl) (by kernel_rfl) (by kernel_rfl) (by kernel_rfl) (by kernel_rfl) (lowc_of (by kernel_rfl)) ?_
  show Awp prog 0 12 (cB f122) _ _
  refine awp_seq ?_
  refine awp_region' 0 2000 (by kernel_rfl) (by kernel_rfl) ?_
  refine aops_eff hΓ (.v (.one (.box 0 0))) [] [(0, some [.d (.lst (List.map api_Sample.enc ql))])] (by kernel_rfl) ?_
  refine aops_eff hΓ (.v (.one (.d (.int .i64 0)))) [] [] (by kernel_rfl) ?_
  refine aops_nil ?_
  refine awp_seq ?_
  refine awp_seq ?_
  obtain ⟨vr6, h1, hF⟩ := bind_some hF
  refine awp_region' 2000 5000 (by kernel_rfl) (by kernel_rfl) ?_
  refine aops_eff hΓ (.v (.one (.d (.lst (List.map api_Sample.enc ql))))) [] [] (by kernel_rfl) ?_
  refine aops_call (by kernel_rfl) (by kernel_rfl) (does_call (f := (.func 211)) (g := 211) (caps := []) (tvs := [.v (.one (.d (.lst (List.map api_Sample.enc ql))))]) (al := [.v (.one (.d (.lst (List.map api_Sample.enc ql))))]) (m := ⟨[], []⟩) (m' := ⟨[], []⟩) (tv := .v (.one (.d (.int .i64 vr6)))) (lens := []) rfl (by kernel_rfl) (by kernel_rfl) (sees_of (rl := []) (nl := []) (by kernel_rfl) trivial trivial) (⟨t_same (by kernel_rfl) (by kernel_rfl), trivial⟩) (series_Check_ok _ _ h1) (left_of (by kernel_rfl))) (.v (.one (.d (.int .i64 vr6)))) [] [] (by kernel_rfl) ?_
  refine aops_eff hΓ (.v (.one (.d (.int .i64 vr6)))) [] [] (by kernel_rfl) ?_
  refine aops_nil ?_
  refine awp_seq ?_
  refine awp_region' 5000 7000 (by kernel_rfl) (by kernel_rfl) ?_
  refine aops_eff hΓ (.v (.one (.d (.int .i64 vr6)))) [] [] (by kernel_rfl) ?_
  refine aops_eff hΓ (.v (.one (.d (.bool (!decide (vr6 = 0)))))) [] [] (by kernel_rfl) ?_
  refine aops_nil ?_
  rcases cond_or hF with ⟨h2, hF⟩ | ⟨h2, hF⟩
  · refine awp_true (by kernel_rfl) h2 ?_
    refine awp_seq ?_
    refine awp_region' 7000 9000 (by kernel_rfl) (by kernel_rfl) ?_
    refine aops_eff hΓ (.v (.one (.d (.int .i64 vr6)))) [] [] (by kernel_rfl) ?_
    refine aops_eff hΓ (.v (.one (.d (.int .i64 vr6)))) [] [] (by kernel_rfl) ?_
    refine aops_nil ?_
    refine awp_ret ?_
    obtain rfl := some_eq hF
    exact fin_intro (xs := [.one (.d (.int .i64 vr6))]) (m' := ⟨[], []⟩) (tv := (.v (.one (.d (.int .i64 vr6))))) (rl := []) (nl := []) (by kernel_rfl) (by kernel_rfl) (by kernel_rfl) (sees_of (by kernel_rfl) trivial trivial) (t_same (by kernel_rfl) (by kernel_rfl)) ⟨rfl, rfl⟩
  · refine awp_false (by kernel_rfl) h2 ?_
    refine awp_skip ?_
    refine awp_seq ?_
    refine awp_seq ?_
    obtain ⟨vr, h3, hF⟩ := bind_some hF
    refine awp_region' 7000 10000 (by kernel_rfl) (by kernel_rfl) ?_
    refine aops_eff hΓ (.v (.one (.d (.lst (List.map api_Sample.enc ql))))) [] [] (by kernel_rfl) ?_
    refine aops_eff hΓ (.v (.one (.fn 212 [0]))) [] [] (by kernel_rfl) ?_
    refine aops_call (by kernel_rfl) (by kernel_rfl) (does_call (f := (.func 117)) (g := 117) (caps := []) (tvs := [.v (.one (.d (.lst (List.map api_Sample.enc ql)))), .v (.one (.fn 212 [0]))]) (al := [.v (.one (.d (.lst (List.map api_Sample.enc ql)))), .v (.one (.fn 212 [0]))]) (m := ⟨[], [(0, [.d (.lst (List.map api_Sample.enc ql))])]⟩) (m' := ⟨[], [(0, [.d (.lst (List.map api_Sample.enc ql))])]⟩) (tv := .v (.one (.d (.bool vr)))) (lens := []) rfl (by kernel_rfl) (by kernel_rfl) (sees_of (rl := []) (nl := []) (by kernel_rfl) trivial (⟨⟨by kernel_rfl, [.d (.lst (List.map api_Sample.enc ql))], by kernel_rfl, l2_same (by kernel_rfl) (by kernel_rfl)⟩, trivial⟩)) (⟨t_same (by kernel_rfl) (by kernel_rfl), t_same (by kernel_rfl) (by kernel_rfl), trivial⟩) (slices_ContainsFunc_api_Sample_api_Sample_f1_series_CheckSeries_1_ok _ _ h3) (left_of (by kernel_rfl))) (.v (.one (.d (.bool vr)))) [] [(0, some [.d (.lst (List.map api_Sample.enc ql))])] (by kernel_rfl) ?_
    refine aops_nil ?_
    rcases cond_or hF with ⟨h4, hF⟩ | ⟨h4, hF⟩
    · refine awp_true (by kernel_rfl) h4 ?_
      refine awp_seq ?_
      refine awp_region' 10000 11000 (by kernel_rfl) (by kernel_rfl) ?_
      refine aops_eff hΓ (.v (.one (.d (.int .i64 13)))) [] [] (by kernel_rfl) ?_
      refine aops_nil ?_
      refine awp_ret ?_
      obtain rfl := some_eq hF
      exact fin_intro (xs := [.one (.d (.int .i64 13))]) (m' := ⟨[], []⟩) (tv := (.v (.one (.d (.int .i64 13))))) (rl := []) (nl := []) (by kernel_rfl) (by kernel_rfl) (by kernel_rfl) (sees_of (by kernel_rfl) trivial trivial) (t_same (by kernel_rfl) (by kernel_rfl)) ⟨rfl, rfl⟩
    · refine awp_false (by kernel_rfl) h4 ?_
      refine awp_skip ?_
      refine awp_seq ?_
      refine awp_region' 10000 11000 (by kernel_rfl) (by kernel_rfl) ?_
      refine aops_eff hΓ (.v (.one (.d (.int .i64 0)))) [] [] (by kernel_rfl) ?_
      refine aops_nil ?_
      refine awp_ret ?_
      obtain rfl := some_eq hF
      exact fin_intro (xs := [.one (.d (.int .i64 0))]) (m' := ⟨[], []⟩) (tv := (.v (.one (.d (.int .i64 0))))) (rl := []) (nl := []) (by kernel_rfl) (by kernel_rfl) (by kernel_rfl) (sees_of (by kernel_rfl) trivial trivial) (t_same (by kernel_rfl) (by kernel_rfl)) ⟨rfl, rfl⟩

/-! ### beaconfleet/base.Window -/
def base_Window_x1_k : Bool → AEx
  | _ => .normal

def base_Window_x1_S (qw : api_Window) : Bool → St
  | vx => Mem.st ⟨[], []⟩ (tl [(2, .v (.one (.d (.bool vx))))]) 0

theorem base_Window_x1_ok (qw : api_Window) (r : Bool) (hF : base_Window_x1 qw = some r) : Awp prog 0 14 (cL (cR (cB f208))) (Out 0 base_Window_x1_k (base_Window_x1_S qw) r) (Mem.st ⟨[], [(0, [.d (.int .i64 qw.From), .d (.int .i64 qw.To)])]⟩ (tl [(1, .v (.one (.box 0 0)))]) 1) := by
  unfold base_Window_x1 at hF
  obtain ⟨vr, h1, hF⟩ := bind_some hF
  rcases cond_or hF with ⟨h2, hF⟩ | ⟨h2, hF⟩
  · refine awp_region' 1 12001 (by kernel_rfl) (by kernel_rfl) ?_
    refine aops_eff hΓ (.v (.one (.box 0 0))) [] [] (by kernel_rfl) ?_
    refine aops_eff hΓ (.v (.one (.d (.int .i64 qw.From)))) [] [] (by kernel_rfl) ?_
    refine aops_eff hΓ (.v (.one (.box 0 1))) [] [] (by kernel_rfl) ?_
    refine aops_eff hΓ (.v (.one (.d (.int .i64 qw.To)))) [] [] (by kernel_rfl) ?_
    refine aops_call (by kernel_rfl) (by kernel_rfl) (does_call (f := (.func 114)) (g := 114) (caps := []) (tvs := [.v (.one (.d (.int .i64 qw.From))), .v (.one (.d (.int .i64 0))), .v (.one (.d (.int .i64 qw.To)))]) (al := [.v (.one (.d (.int .i64 qw.From))), .v (.one (.d (.int .i64 0))), .v (.one (.d (.int .i64 qw.To)))]) (m := ⟨[], []⟩) (m' := ⟨[], []⟩) (tv := .v (.one (.d (.bool vr)))) (lens := []) rfl (by kernel_rfl) (by kernel_rfl) (sees_of (rl := []) (nl := []) (by kernel_rfl) trivial trivial) (⟨t_same (by kernel_rfl) (by kernel_rfl), t_same (by kernel_rfl) (by kernel_rfl), t_same (by kernel_rfl) (by kernel_rfl), trivial⟩) (base_Out_ok _ _ _ _ h1) (left_of (by kernel_rfl))) (.v (.one (.d (.bool vr)))) [] [] (by kernel_rfl) ?_
    refine aops_eff hΓ (.v (.one (.d (.bool true)))) [] [] (opx_b (by kernel_rfl) h2) ?_
    refine aops_eff hΓ (.v (.one (.d (.bool true)))) [] [] (by kernel_rfl) ?_
    refine aops_eff hΓ (.v (.one (.box 0 1))) [] [] (by kernel_rfl) ?_
    refine aops_eff hΓ (.v (.one (.d (.int .i64 qw.To)))) [] [] (by kernel_rfl) ?_
    refine aops_eff hΓ (.v (.one (.d (.bool (decide (qw.To ≤ 345686400000)))))) [] [] (by kernel_rfl) ?_
    refine aops_eff hΓ (.v (.one (.d (.bool (decide (qw.To ≤ 345686400000)))))) [] [] (by kernel_rfl) ?_
    refine aops_eff hΓ (.v (.one (.d (.bool (decide (qw.To ≤ 345686400000)))))) [] [] (by kernel_rfl) ?_
    refine aops_nil ?_
    obtain rfl := some_eq hF
    exact out_intro rfl (to_see [] [] ⟨[], []⟩ [(2, .v (.one (.d (.bool (decide (qw.To ≤ 345686400000))))))] 0 (by kernel_rfl) (by kernel_rfl) (lowc_of (by kernel_rfl)) trivial trivial (⟨t_same (by kernel_rfl) (by kernel_rfl), trivial⟩))
  · refine awp_region' 1 12001 (by kernel_rfl) (by kernel_rfl) ?_
    refine aops_eff hΓ (.v (.one (.box 0 0))) [] [] (by kernel_rfl) ?_
    refine aops_eff hΓ (.v (.one (.d (.int .i64 qw.From)))) [] [] (by kernel_rfl) ?_
    refine aops_eff hΓ (.v (.one (.box 0 1))) [] [] (by kernel_rfl) ?_
    refine aops_eff hΓ (.v (.one (.d (.int .i64 qw.To)))) [] [] (by kernel_rfl) ?_
    refine aops_call (by kernel_rfl) (by kernel_rfl) (does_call (f := (.func 114)) (g := 114) (caps := []) (tvs := [.v (.one (.d (.int .i64 qw.From))), .v (.one (.d (.int .i64 0))), .v (.one (.d (.int .i64 qw.To)))]) (al := [.v (.one (.d (.int .i64 qw.From))), .v (.one (.d (.int .i64 0))), .v (.one (.d (.int .i64 qw.To)))]) (m := ⟨[], []⟩) (m' := ⟨[], []⟩) (tv := .v (.one (.d (.bool vr)))) (lens := []) rfl (by kernel_rfl) (by kernel_rfl) (sees_of (rl := []) (nl := []) (by kernel_rfl) trivial trivial) (⟨t_same (by kernel_rfl) (by kernel_rfl), t_same (by kernel_rfl) (by kernel_rfl), t_same (by kernel_rfl) (by kernel_rfl), trivial⟩) (base_Out_ok _ _ _ _ h1) (left_of (by kernel_rfl))) (.v (.one (.d (.bool vr)))) [] [] (by kernel_rfl) ?_
    refine aops_eff hΓ (.v (.one (.d (.bool false)))) [] [] (opx_b (by kernel_rfl) h2) ?_
    refine aops_eff hΓ (.v (.one (.d (.bool false)))) [] [] (by kernel_rfl) ?_
    refine aops_skip' (by kernel_rfl) ?_
    refine aops_skip' (by kernel_rfl) ?_
    refine aops_skip' (by kernel_rfl) ?_
    refine aops_eff hΓ (.v (.one (.d (.bool false)))) [] [] (by kernel_rfl) ?_
    refine aops_eff hΓ (.v (.one (.d (.bool false)))) [] [] (by kernel_rfl) ?_
    refine aops_nil ?_
    obtain rfl := some_eq hF
    exact out_intro rfl (to_see [] [] ⟨[], []⟩ [(2, .v (.one (.d (.bool false))))] 0 (by kernel_rfl) (by kernel_rfl) (lowc_of (by kernel_rfl)) trivial trivial (⟨t_same (by kernel_rfl) (by kernel_rfl), trivial⟩))

theorem base_Window_ok (qw : api_Window) (r : Bool) (hF : base_Window qw = some r) : Holds prog 208 [.v (.agg [.d (.int .i64 qw.From), .d (.int .i64 qw.To)])] ⟨[], []⟩ (fun tv m => tv = .v (.one (.d (.bool r))) ∧ m = ⟨[], []⟩) := by
  unfold base_Window at hF
  refine holds_of_awp hΓ (fn := f208) (c := cB f208) (A := 0) (nx := 0) (by kernel_rfl) (by kernel_rfl) (by kernel_rfl) (by kernel_rfl) (by kernel_rfl) (by kernel_rfl) (lowc_of (by kernel_rfl)) ?_
  show Awp prog 0 14 (cB f208) _ _
  refine awp_seq ?_
  refine awp_region' 0 2000 (by kernel_rfl) (by kernel_rfl) ?_
  refine aops_eff hΓ (.v (.one (.box 0 0))) [] [(0, some [.d (.int .i64 qw.From), .d (.int .i64 qw.To)])] (by kernel_rfl) ?_
  refine aops_eff hΓ (.v (.one (.d (.bool false)))) [] [] (by kernel_rfl) ?_
  refine aops_nil ?_
  refine awp_seq ?_
  refine awp_to (to_see [] [] ⟨[], [(0, [.d (.int .i64 qw.From), .d (.int .i64 qw.To)])]⟩ [(1, .v (.one (.box 0 0)))] 1 (by kernel_rfl) (by kernel_rfl) (lowc_of (by kernel_rfl)) trivial (⟨⟨by kernel_rfl, [.d (.int .i64 qw.From), .d (.int .i64 qw.To)], by kernel_rfl, l2_same (by kernel_rfl) (by kernel_rfl)⟩, trivial⟩) (⟨t_same (by kernel_rfl) (by kernel_rfl), trivial⟩)) ?_
  obtain ⟨vx1, h3, hF⟩ := bind_some hF
  refine awp_sub (base_Window_x1_ok qw _ h3) ?_
  refine awp_ret ?_
  obtain rfl := some_eq hF
  exact fin_intro (xs := [.one (.d (.bool vx1))]) (m' := ⟨[], []⟩) (tv := (.v (.one (.d (.bool vx1))))) (rl := []) (nl := []) (by kernel_rfl) (by kernel_rfl) (by kernel_rfl) (sees_of (by kernel_rfl) trivial trivial) (t_same (by kernel_rfl) (by kernel_rfl)) ⟨rfl, rfl⟩

/-! ### beaconfleet/series.fault -/
def series_fault_x2_k : Bool → AEx
  | _ => .normal

def series_fault_x2_S (qw : api_Window) (vr1 : Int) : Bool → St
  | vx => Mem.st ⟨[], []⟩ (tl [(5, .v (.one (.d (.int .i64 vr1)))), (14, .v (.one (.d (.bool vx))))]) 0

theorem series_fault_x2_ok (qw : api_Window) (vr1 : Int) (r : Bool) (hF : series_fault_x2 qw vr1 = some r) : Awp prog 0 16 (cL (cL (cR (cR (cB f113))))) (Out 0 series_fault_x2_k (series_fault_x2_S qw vr1) r) (Mem.st ⟨[], [(0, [.d (.int .i64 qw.From), .d (.int .i64 qw.To)])]⟩ (tl [(3, .v (.one (.box 0 0))), (5, .v (.one (.d (.int .i64 vr1))))]) 1) := by
  unfold series_fault_x2 at hF
  rcases cond_or hF with ⟨h2, hF⟩ | ⟨h2, hF⟩
  · obtain ⟨vr1_1, h3, hF⟩ := bind_some hF
    refine awp_region' 1 7001 (by kernel_rfl) (by kernel_rfl) ?_
    refine aops_eff hΓ (.v (.one (.d (.int .i64 vr1)))) [] [] (by kernel_rfl) ?_
    refine aops_eff hΓ (.v (.one (.d (.bool true)))) [] [] (opx_b (by kernel_rfl) h2) ?_
    refine aops_eff hΓ (.v (.one (.d (.bool true)))) [] [] (by kernel_rfl) ?_
    refine aops_eff hΓ (.v (.agg [.d (.int .i64 qw.From), .d (.int .i64 qw.To)])) [] [] (by kernel_rfl) ?_
    refine aops_call (by kernel_rfl) (by kernel_rfl) (does_call (f := (.func 208)) (g := 208) (caps := []) (tvs := [.v (.agg [.d (.int .i64 qw.From), .d (.int .i64 qw.To)])]) (al := [.v (.agg [.d (.int .i64 qw.From), .d (.int .i64 qw.To)])]) (m := ⟨[], []⟩) (m' := ⟨[], []⟩) (tv := .v (.one (.d (.bool vr1_1)))) (lens := []) rfl (by kernel_rfl) (by kernel_rfl) (sees_of (rl := []) (nl := []) (by kernel_rfl) trivial trivial) (⟨t_same (by kernel_rfl) (by kernel_rfl), trivial⟩) (base_Window_ok _ _ h3) (left_of (by kernel_rfl))) (.v (.one (.d (.bool vr1_1)))) [] [] (by kernel_rfl) ?_
    refine aops_eff hΓ (.v (.one (.d (.bool (!vr1_1))))) [] [] (by kernel_rfl) ?_
    refine aops_eff hΓ (.v (.one (.d (.bool (!vr1_1))))) [] [] (by kernel_rfl) ?_
    refine aops_nil ?_
    obtain rfl := some_eq hF
    exact out_intro rfl (to_see [] [] ⟨[], []⟩ [(5, .v (.one (.d (.int .i64 vr1)))), (14, .v (.one (.d (.bool (!vr1_1)))))] 0 (by kernel_rfl) (by kernel_rfl) (lowc_of (by kernel_rfl)) trivial trivial (⟨t_same (by kernel_rfl) (by kernel_rfl), t_same (by kernel_rfl) (by kernel_rfl), trivial⟩))
  · refine awp_region' 1 7001 (by kernel_rfl) (by kernel_rfl) ?_
    refine aops_eff hΓ (.v (.one (.d (.int .i64 vr1)))) [] [] (by kernel_rfl) ?_
    refine aops_eff hΓ (.v (.one (.d (.bool false)))) [] [] (opx_b (by kernel_rfl) h2) ?_
    refine aops_eff hΓ (.v (.one (.d (.bool false)))) [] [] (by kernel_rfl) ?_
    refine aops_skip' (by kernel_rfl) ?_
    refine aops_skip' (by kernel_rfl) ?_
    refine aops_skip' (by kernel_rfl) ?_
    refine aops_eff hΓ (.v (.one (.d (.bool false)))) [] [] (by kernel_rfl) ?_
    refine aops_nil ?_
    obtain rfl := some_eq hF
    exact out_intro rfl (to_see [] [] ⟨[], []⟩ [(5, .v (.one (.d (.int .i64 vr1)))), (14, .v (.one (.d (.bool false))))] 0 (by kernel_rfl) (by kernel_rfl) (lowc_of (by kernel_rfl)) trivial trivial (⟨t_same (by kernel_rfl) (by kernel_rfl), t_same (by kernel_rfl) (by kernel_rfl), trivial⟩))

def series_fault_x1_k : Int → AEx
  | _ => .normal

def series_fault_x1_S (qw : api_Window) (vr1 : Int) : Int → St
  | ve => Mem.st ⟨[], []⟩ (tl [(5, .v (.one (.d (.int .i64 ve))))]) 0

theorem series_fault_x1_ok (qw : api_Window) (vr1 : Int) (r : Int) (hF : series_fault_x1 qw vr1 = some r) : Awp prog 0 16 (cL (cR (cR (cB f113)))) (Out 0 series_fault_x1_k (series_fault_x1_S qw vr1) r) (Mem.st ⟨[], [(0, [.d (.int .i64 qw.From), .d (.int .i64 qw.To)])]⟩ (tl [(3, .v (.one (.box 0 0))), (5, .v (.one (.d (.int .i64 vr1))))]) 1) := by
  unfold series_fault_x1 at hF
  refine awp_seq ?_
  refine awp_to (to_see [] [] ⟨[], [(0, [.d (.int .i64 qw.From), .d (.int .i64 qw.To)])]⟩ [(3, .v (.one (.box 0 0))), (5, .v (.one (.d (.int .i64 vr1))))] 1 (by kernel_rfl) (by kernel_rfl) (lowc_of (by kernel_rfl)) trivial (⟨⟨by kernel_rfl, [.d (.int .i64 qw.From), .d (.int .i64 qw.To)], by kernel_rfl, l2_same (by kernel_rfl) (by kernel_rfl)⟩, trivial⟩) (⟨t_same (by kernel_rfl) (by kernel_rfl), t_same (by kernel_rfl) (by kernel_rfl), trivial⟩)) ?_
  obtain ⟨vx1, h4, hF⟩ := bind_some hF
  refine awp_sub (series_fault_x2_ok qw vr1 _ h4) ?_
  rcases cond_or hF with ⟨h5, hF⟩ | ⟨h5, hF⟩
  · refine awp_true (by kernel_rfl) h5 ?_
    refine awp_region' 0 1000 (by kernel_rfl) (by kernel_rfl) ?_
    refine aops_eff hΓ (.v (.one (.d (.int .i64 1)))) [] [] (by kernel_rfl) ?_
    refine aops_nil ?_
    obtain rfl := some_eq hF
    exact out_intro rfl (to_see [] [] ⟨[], []⟩ [(5, .v (.one (.d (.int .i64 1))))] 0 (by kernel_rfl) (by kernel_rfl) (lowc_of (by kernel_rfl)) trivial trivial (⟨t_same (by kernel_rfl) (by kernel_rfl), trivial⟩))
  · refine awp_false (by kernel_rfl) h5 ?_
    refine awp_skip ?_
    obtain rfl := some_eq hF
    exact out_intro rfl (to_see [] [] ⟨[], []⟩ [(5, .v (.one (.d (.int .i64 vr1))))] 0 (by kernel_rfl) (by kernel_rfl) (lowc_of (by kernel_rfl)) trivial trivial (⟨t_same (by kernel_rfl) (by kernel_rfl), trivial⟩))

theorem series_fault_ok (ql : List api_Sample) (qw : api_Window) (r : Int) (hF : series_fault ql qw = some r) : Holds prog 113 [.v (.one (.d (.lst (List.map api_Sample.enc ql)))), .v (.agg [.d (.int .i64 qw.From), .d (.int .i64 qw.To)])] ⟨[], []⟩ (fun tv m => tv = .v (.one (.d (.int .i64 r))) ∧ m = ⟨[], []⟩) := by
  unfold series_fault at hF
  refine holds_of_awp hΓ (fn := f113) (c := cB f113) (A := 0) (nx := 0) (by kernel_rfl) (by kernel_rfl) (by kernel_rfl) (by kernel_rfl) (by kernel_rfl) (by kernel_rfl) (lowc_of (by kernel_rfl)) ?_
  show Awp prog 0 16 (cB f113) _ _
  refine awp_seq ?_
  refine awp_region' 0 2000 (by kernel_rfl) (by kernel_rfl) ?_
  refine aops_eff hΓ (.v (.one (.box 0 0))) [] [(0, some [.d (.int .i64 qw.From), .d (.int .i64 qw.To)])] (by kernel_rfl) ?_
  refine aops_eff hΓ (.v (.one (.d (.int .i64 0)))) [] [] (by kernel_rfl) ?_
  refine aops_nil ?_
  refine awp_seq ?_
  obtain ⟨vr1, h1, hF⟩ := bind_some hF
  refine awp_region' 2000 5000 (by kernel_rfl) (by kernel_rfl) ?_
  refine aops_eff hΓ (.v (.one (.d (.lst (List.map api_Sample.enc ql))))) [] [] (by kernel_rfl) ?_
  refine aops_call (by kernel_rfl) (by kernel_rfl) (does_call (f := (.func 122)) (g := 122) (caps := []) (tvs := [.v (.one (.d (.lst (List.map api_Sample.enc ql))))]) (al := [.v (.one (.d (.lst (List.map api_Sample.enc ql))))]) (m := ⟨[], []⟩) (m' := ⟨[], []⟩) (tv := .v (.one (.d (.int .i64 vr1)))) (lens := []) rfl (by kernel_rfl) (by kernel_rfl) (sees_of (rl := []) (nl := []) (by kernel_rfl) trivial trivial) (⟨t_same (by kernel_rfl) (by kernel_rfl), trivial⟩) (series_CheckSeries_ok _ _ h1) (left_of (by kernel_rfl))) (.v (.one (.d (.int .i64 vr1)))) [] [] (by kernel_rfl) ?_
  refine aops_eff hΓ (.v (.one (.d (.int .i64 vr1)))) [] [] (by kernel_rfl) ?_
  refine aops_nil ?_
  refine awp_seq ?_
  refine awp_to (to_see [] [] ⟨[], [(0, [.d (.int .i64 qw.From), .d (.int .i64 qw.To)])]⟩ [(3, .v (.one (.box 0 0))), (5, .v (.one (.d (.int .i64 vr1))))] 1 (by kernel_rfl) (by kernel_rfl) (lowc_of (by kernel_rfl)) trivial (⟨⟨by kernel_rfl, [.d (.int .i64 qw.From), .d (.int .i64 qw.To)], by kernel_rfl, l2_same (by kernel_rfl) (by kernel_rfl)⟩, trivial⟩) (⟨t_same (by kernel_rfl) (by kernel_rfl), t_same (by kernel_rfl) (by kernel_rfl), trivial⟩)) ?_
  obtain ⟨ve1, h6, hF⟩ := bind_some hF
  refine awp_sub (series_fault_x1_ok qw vr1 _ h6) ?_
  refine awp_seq ?_
  refine awp_region' 0 2000 (by kernel_rfl) (by kernel_rfl) ?_
  refine aops_eff hΓ (.v (.one (.d (.int .i64 ve1)))) [] [] (by kernel_rfl) ?_
  refine aops_eff hΓ (.v (.one (.d (.int .i64 ve1)))) [] [] (by kernel_rfl) ?_
  refine aops_nil ?_
  refine awp_ret ?_
  obtain rfl := some_eq hF
  exact fin_intro (xs := [.one (.d (.int .i64 ve1))]) (m' := ⟨[], []⟩) (tv := (.v (.one (.d (.int .i64 ve1))))) (rl := []) (nl := []) (by kernel_rfl) (by kernel_rfl) (by kernel_rfl) (sees_of (by kernel_rfl) trivial trivial) (t_same (by kernel_rfl) (by kernel_rfl)) ⟨rfl, rfl⟩

/-! ### beaconfleet/base.Down -/
def base_Down_x1_k : Int → AEx
  | _ => .normal

def base_Down_x1_S (qa : Int) (qb : Int) : Int → St
  | vq => Mem.st ⟨[], []⟩ (tl [(5, .v (.one (.d (.int .i64 vq))))]) 0

theorem base_Down_x1_ok (qa : Int) (qb : Int) (r : Int) (hF : base_Down_x1 qa qb = some r) : Awp prog 0 16 (cL (cR (cR (cB f115)))) (Out 0 base_Down_x1_k (base_Down_x1_S qa qb) r) (Mem.st ⟨[], []⟩ (tl [(0, .v (.one (.d (.int .i64 qa)))), (1, .v (.one (.d (.int .i64 qb)))), (5, .v (.one (.d (.int .i64 (IntKind.wrap .i64 (qa.tdiv qb))))))]) 0) := by
  unfold base_Down_x1 at hF
  refine awp_seq ?_
  obtain ⟨h2, hF⟩ := gd_some hF
  refine awp_region' 0 4000 (by kernel_rfl) (by kernel_rfl) ?_
  refine aops_eff hΓ (.v (.one (.d (.int .i64 qa)))) [] [] (by kernel_rfl) ?_
  refine aops_eff hΓ (.v (.one (.d (.int .i64 qb)))) [] [] (by kernel_rfl) ?_
  refine aops_eff hΓ (.v (.one (.d (.int .i64 (qa.tmod qb))))) [] [] (opx_of (by kernel_rfl) (by kernel_rfl) (eff_rem (ti := ti3) (by kernel_rfl) (by kernel_rfl) (by kernel_rfl) (notB h2))) ?_
  refine aops_eff hΓ (.v (.one (.d (.bool (decide ((qa.tmod qb) < 0)))))) [] [] (by kernel_rfl) ?_
  refine aops_nil ?_
  rcases cond_or hF with ⟨h3, hF⟩ | ⟨h3, hF⟩
  · refine awp_true (by kernel_rfl) h3 ?_
    refine awp_region' 4000 7000 (by kernel_rfl) (by kernel_rfl) ?_
    refine aops_eff hΓ (.v (.one (.d (.int .i64 (IntKind.wrap .i64 (qa.tdiv qb)))))) [] [] (by kernel_rfl) ?_
    refine aops_eff hΓ (.v (.one (.d (.int .i64 (IntKind.wrap .i64 ((IntKind.wrap .i64 (qa.tdiv qb)) - 1)))))) [] [] (by kernel_rfl) ?_
    refine aops_eff hΓ (.v (.one (.d (.int .i64 (IntKind.wrap .i64 ((IntKind.wrap .i64 (qa.tdiv qb)) - 1)))))) [] [] (by kernel_rfl) ?_
    refine aops_nil ?_
    obtain rfl := some_eq hF
    exact out_intro rfl (to_see [] [] ⟨[], []⟩ [(5, .v (.one (.d (.int .i64 (IntKind.wrap .i64 ((IntKind.wrap .i64 (qa.tdiv qb)) - 1))))))] 0 (by kernel_rfl) (by kernel_rfl) (lowc_of (by kernel_rfl)) trivial trivial (⟨t_same (by kernel_rfl) (by kernel_rfl), trivial⟩))
  · refine awp_false (by kernel_rfl) h3 ?_
    refine awp_skip ?_
    obtain rfl := some_eq hF
    exact out_intro rfl (to_see [] [] ⟨[], []⟩ [(5, .v (.one (.d (.int .i64 (IntKind.wrap .i64 (qa.tdiv qb))))))] 0 (by kernel_rfl) (by kernel_rfl) (lowc_of (by kernel_rfl)) trivial trivial (⟨t_same (by kernel_rfl) (by kernel_rfl), trivial⟩))

theorem base_Down_ok (qa : Int) (qb : Int) (r : Int) (hF : base_Down qa qb = some r) : Holds prog 115 [.v (.one (.d (.int .i64 qa))), .v (.one (.d (.int .i64 qb)))] ⟨[], []⟩ (fun tv m => tv = .v (.one (.d (.int .i64 r))) ∧ m = ⟨[], []⟩) := by
  unfold base_Down at hF
  refine holds_of_awp hΓ (fn := f115) (c := cB f115) (A := 0) (nx := 0) (by kernel_rfl) (by kernel_rfl) (by kernel_rfl) (by kernel_rfl) (by kernel_rfl) (by kernel_rfl) (lowc_of (by kernel_rfl)) ?_
  show Awp prog 0 16 (cB f115) _ _
  refine awp_seq ?_
  refine awp_region' 0 1000 (by kernel_rfl) (by kernel_rfl) ?_
  refine aops_eff hΓ (.v (.one (.d (.int .i64 0)))) [] [] (by kernel_rfl) ?_
  refine aops_nil ?_
  refine awp_seq ?_
  obtain ⟨h1, hF⟩ := gd_some hF
  refine awp_region' 1000 5000 (by kernel_rfl) (by kernel_rfl) ?_
  refine aops_eff hΓ (.v (.one (.d (.int .i64 qa)))) [] [] (by kernel_rfl) ?_
  refine aops_eff hΓ (.v (.one (.d (.int .i64 qb)))) [] [] (by kernel_rfl) ?_
  refine aops_eff hΓ (.v (.one (.d (.int .i64 (IntKind.wrap .i64 (qa.tdiv qb)))))) [] [] (opx_of (by kernel_rfl) (by kernel_rfl) (eff_quo (ti := ti3) (by kernel_rfl) (by kernel_rfl) (by kernel_rfl) (notB h1))) ?_
  refine aops_eff hΓ (.v (.one (.d (.int .i64 (IntKind.wrap .i64 (qa.tdiv qb)))))) [] [] (by kernel_rfl) ?_
  refine aops_nil ?_
  refine awp_seq ?_
  refine awp_to (to_see [] [] ⟨[], []⟩ [(0, .v (.one (.d (.int .i64 qa)))), (1, .v (.one (.d (.int .i64 qb)))), (5, .v (.one (.d (.int .i64 (IntKind.wrap .i64 (qa.tdiv qb))))))] 0 (by kernel_rfl) (by kernel_rfl) (lowc_of (by kernel_rfl)) trivial trivial (⟨t_same (by kernel_rfl) (by kernel_rfl), t_same (by kernel_rfl) (by kernel_rfl), t_same (by kernel_rfl) (by kernel_rfl), trivial⟩)) ?_
  obtain ⟨vq1, h4, hF⟩ := bind_some hF
  refine awp_sub (base_Down_x1_ok qa qb _ h4) ?_
  refine awp_seq ?_
  refine awp_region' 0 2000 (by kernel_rfl) (by kernel_rfl) ?_
  refine aops_eff hΓ (.v (.one (.d (.int .i64 vq1)))) [] [] (by kernel_rfl) ?_
  refine aops_eff hΓ (.v (.one (.d (.int .i64 vq1)))) [] [] (by kernel_rfl) ?_
  refine aops_nil ?_
  refine awp_ret ?_
  obtain rfl := some_eq hF
  exact fin_intro (xs := [.one (.d (.int .i64 vq1))]) (m' := ⟨[], []⟩) (tv := (.v (.one (.d (.int .i64 vq1))))) (rl := []) (nl := []) (by kernel_rfl) (by kernel_rfl) (by kernel_rfl) (sees_of (by kernel_rfl) trivial trivial) (t_same (by kernel_rfl) (by kernel_rfl)) ⟨rfl, rfl⟩

/-! ### beaconfleet/series.Fill -/
def series_Fill_x1_k : Bool → AEx
  | _ => .normal

def series_Fill_x1_S (qx : List api_Sample) (qx1 : api_Window) (qx2 : Int) (qx3 : Int) : Bool → St
  | vx => Mem.st ⟨[], [(0, [.d (.int .i64 qx1.From), .d (.int .i64 qx1.To)])]⟩ (tl [(0, .v (.one (.d (.lst (List.map api_Sample.enc qx))))), (2, .v (.one (.d (.int .i64 qx2)))), (3, .v (.one (.d (.int .i64 qx3)))), (5, .v (.one (.box 0 0))), (25, .v (.one (.d (.bool vx))))]) 1

theorem series_Fill_x1_ok (qx : List api_Sample) (qx1 : api_Window) (qx2 : Int) (qx3 : Int) (r : Bool) (hF : series_Fill_x1 qx3 = some r) : Awp prog 0 133 (cL (cR (cR (cL (cL (cR (cR (cB f19)))))))) (Out 0 series_Fill_x1_k (series_Fill_x1_S qx qx1 qx2 qx3) r) (Mem.st ⟨[], [(0, [.d (.int .i64 qx1.From), .d (.int .i64 qx1.To)])]⟩ (tl [(0, .v (.one (.d (.lst (List.map api_Sample.enc qx))))), (2, .v (.one (.d (.int .i64 qx2)))), (3, .v (.one (.d (.int .i64 qx3)))), (5, .v (.one (.box 0 0)))]) 1) := by
  unfold series_Fill_x1 at hF
  rcases cond_or hF with ⟨h5, hF⟩ | ⟨h5, hF⟩
  · refine awp_region' 1 7001 (by kernel_rfl) (by kernel_rfl) ?_
    refine aops_eff hΓ (.v (.one (.d (.int .i64 qx3)))) [] [] (by kernel_rfl) ?_
    refine aops_eff hΓ (.v (.one (.d (.bool true)))) [] [] (opx_b (by kernel_rfl) h5) ?_
    refine aops_eff hΓ (.v (.one (.d (.bool true)))) [] [] (by kernel_rfl) ?_
    refine aops_eff hΓ (.v (.one (.d (.int .i64 qx3)))) [] [] (by kernel_rfl) ?_
    refine aops_eff hΓ (.v (.one (.d (.bool (!decide (qx3 = 2)))))) [] [] (by kernel_rfl) ?_
    refine aops_eff hΓ (.v (.one (.d (.bool (!decide (qx3 = 2)))))) [] [] (by kernel_rfl) ?_
    refine aops_eff hΓ (.v (.one (.d (.bool (!decide (qx3 = 2)))))) [] [] (by kernel_rfl) ?_
    refine aops_nil ?_
    obtain rfl := some_eq hF
    exact out_intro rfl (to_see [] [] ⟨[], [(0, [.d (.int .i64 qx1.From), .d (.int .i64 qx1.To)])]⟩ [(0, .v (.one (.d (.lst (List.map api_Sample.enc qx))))), (2, .v (.one (.d (.int .i64 qx2)))), (3, .v (.one (.d (.int .i64 qx3)))), (5, .v (.one (.box 0 0))), (25, .v (.one (.d (.bool (!decide (qx3 = 2))))))] 1 (by kernel_rfl) (by kernel_rfl) (lowc_of (by kernel_rfl)) trivial (⟨⟨by kernel_rfl, [.d (.int .i64 qx1.From), .d (.int .i64 qx1.To)], by kernel_rfl, l2_same (by kernel_rfl) (by kernel_rfl)⟩, trivial⟩) (⟨t_same (by kernel_rfl) (by kernel_rfl), t_same (by kernel_rfl) (by kernel_rfl), t_same (by kernel_rfl) (by kernel_rfl), t_same (by kernel_rfl) (by kernel_rfl), t_same (by kernel_rfl) (by kernel_rfl), trivial⟩))
  · refine awp_region' 1 7001 (by kernel_rfl) (by kernel_rfl) ?_
    refine aops_eff hΓ (.v (.one (.d (.int .i64 qx3)))) [] [] (by kernel_rfl) ?_
    refine aops_eff hΓ (.v (.one (.d (.bool false)))) [] [] (opx_b (by kernel_rfl) h5) ?_
    refine aops_eff hΓ (.v (.one (.d (.bool false)))) [] [] (by kernel_rfl) ?_
    refine aops_skip' (by kernel_rfl) ?_
    refine aops_skip' (by kernel_rfl) ?_
    refine aops_eff hΓ (.v (.one (.d (.bool false)))) [] [] (by kernel_rfl) ?_
    refine aops_eff hΓ (.v (.one (.d (.bool false)))) [] [] (by kernel_rfl) ?_
    refine aops_nil ?_
    obtain rfl := some_eq hF
    exact out_intro rfl (to_see [] [] ⟨[], [(0, [.d (.int .i64 qx1.From), .d (.int .i64 qx1.To)])]⟩ [(0, .v (.one (.d (.lst (List.map api_Sample.enc qx))))), (2, .v (.one (.d (.int .i64 qx2)))), (3, .v (.one (.d (.int .i64 qx3)))), (5, .v (.one (.box 0 0))), (25, .v (.one (.d (.bool false))))] 1 (by kernel_rfl) (by kernel_rfl) (lowc_of (by kernel_rfl)) trivial (⟨⟨by kernel_rfl, [.d (.int .i64 qx1.From), .d (.int .i64 qx1.To)], by kernel_rfl, l2_same (by kernel_rfl) (by kernel_rfl)⟩, trivial⟩) (⟨t_same (by kernel_rfl) (by kernel_rfl), t_same (by kernel_rfl) (by kernel_rfl), t_same (by kernel_rfl) (by kernel_rfl), t_same (by kernel_rfl) (by kernel_rfl), t_same (by kernel_rfl) (by kernel_rfl), trivial⟩))

def series_Fill_x5_k : Bool → AEx
  | _ => .normal

def series_Fill_x5_S (qx : List api_Sample) (qx1 : api_Window) (qx2 : Int) (qx3 : Int) (vx2 : List api_Sample) (vx4 : Int) (vx14 : Int) : Bool → St
  | vx16 => Mem.st ⟨[(1, ⟨42, 4, List.map api_Sample.enc vx2⟩)], [(0, [.d (.int .i64 qx1.From), .d (.int .i64 qx1.To)])]⟩ (tl [(0, .v (.one (.d (.lst (List.map api_Sample.enc qx))))), (2, .v (.one (.d (.int .i64 qx2)))), (3, .v (.one (.d (.int .i64 qx3)))), (5, .v (.one (.box 0 0))), (11, .v (.one (.own 1 none))), (12, .v (.one (.d (.int .i64 vx14)))), (13, .v (.one (.d (.int .i64 vx4)))), (67, .v (.one (.d (.bool vx16))))]) 2

theorem series_Fill_x5_ok (qx : List api_Sample) (qx1 : api_Window) (qx2 : Int) (qx3 : Int) (vx2 : List api_Sample) (vx4 : Int) (vx14 : Int) (r : Bool) (hF : series_Fill_x5 qx vx4 vx14 = some r) : Awp prog 0 133 (cL (cL (cL (cL (cL (cL (cL (cR (cL (cL (cR (cL (cR (cR (cR (cR (cR (cB f19)))))))))))))))))) (Out 0 series_Fill_x5_k (series_Fill_x5_S qx qx1 qx2 qx3 vx2 vx4 vx14) r) (Mem.st ⟨[(1, ⟨42, 4, List.map api_Sample.enc vx2⟩)], [(0, [.d (.int .i64 qx1.From), .d (.int .i64 qx1.To)])]⟩ (tl [(0, .v (.one (.d (.lst (List.map api_Sample.enc qx))))), (2, .v (.one (.d (.int .i64 qx2)))), (3, .v (.one (.d (.int .i64 qx3)))), (5, .v (.one (.box 0 0))), (11, .v (.one (.own 1 none))), (12, .v (.one (.d (.int .i64 vx14)))), (13, .v (.one (.d (.int .i64 vx4))))]) 2) := by
  unfold series_Fill_x5 at hF
  rcases cond_or hF with ⟨h11, hF⟩ | ⟨h11, hF⟩
  · obtain ⟨vy6, h12, hF⟩ := bind_some hF
    refine awp_region' 2 15002 (by kernel_rfl) (by kernel_rfl) ?_
    refine aops_eff hΓ (.v (.one (.d (.int .i64 vx14)))) [] [] (by kernel_rfl) ?_
    refine aops_eff hΓ (.v (.one (.d (.int .i64 (IntKind.wrap .i64 (vx14 + 1)))))) [] [] (by kernel_rfl) ?_
    refine aops_eff hΓ (.v (.one (.d (.lst (List.map api_Sample.enc qx))))) [] [] (by kernel_rfl) ?_
    refine aops_eff hΓ (.v (.one (.d (.int .i64 (qx.length : Int))))) [] [] (opx_len (f := api_Sample.enc) (l := qx) (by kernel_rfl)) ?_
    refine aops_eff hΓ (.v (.one (.d (.bool true)))) [] [] (opx_b (by kernel_rfl) h11) ?_
    refine aops_eff hΓ (.v (.one (.d (.bool true)))) [] [] (by kernel_rfl) ?_
    refine aops_eff hΓ (.v (.one (.d (.lst (List.map api_Sample.enc qx))))) [] [] (by kernel_rfl) ?_
    refine aops_eff hΓ (.v (.one (.d (.int .i64 vx14)))) [] [] (by kernel_rfl) ?_
    refine aops_eff hΓ (.v (.one (.d (.int .i64 (IntKind.wrap .i64 (vx14 + 1)))))) [] [] (by kernel_rfl) ?_
    refine aops_eff hΓ (.v (.one (.cp [.str vy6.Device, .str vy6.Metric, .int .i64 vy6.At, .int .i64 vy6.Value]))) [] [] (opx_of (by kernel_rfl) (by kernel_rfl) (eff_indexAddr (k := .i64) (ti := ti26) (te := ti42) (l := qx) (f := api_Sample.enc) (y := vy6) (by kernel_rfl) rfl (by kernel_rfl) (by kernel_rfl) (by kernel_rfl) h12 (by kernel_rfl))) ?_
    refine aops_eff hΓ (.v (.one (.cp [.int .i64 vy6.At, .int .i64 vy6.Value]))) [] [] (by kernel_rfl) ?_
    refine aops_eff hΓ (.v (.one (.d (.int .i64 vy6.At)))) [] [] (by kernel_rfl) ?_
    refine aops_eff hΓ (.v (.one (.d (.int .i64 vx4)))) [] [] (by kernel_rfl) ?_
    refine aops_eff hΓ (.v (.one (.d (.bool (decide (vy6.At ≤ vx4)))))) [] [] (by kernel_rfl) ?_
    refine aops_eff hΓ (.v (.one (.d (.bool (decide (vy6.At ≤ vx4)))))) [] [] (by kernel_rfl) ?_
    refine aops_nil ?_
    obtain rfl := some_eq hF
    exact out_intro rfl (to_see [] [] ⟨[(1, ⟨42, 4, List.map api_Sample.enc vx2⟩)], [(0, [.d (.int .i64 qx1.From), .d (.int .i64 qx1.To)])]⟩ [(0, .v (.one (.d (.lst (List.map api_Sample.enc qx))))), (2, .v (.one (.d (.int .i64 qx2)))), (3, .v (.one (.d (.int .i64 qx3)))), (5, .v (.one (.box 0 0))), (11, .v (.one (.own 1 none))), (12, .v (.one (.d (.int .i64 vx14)))), (13, .v (.one (.d (.int .i64 vx4)))), (67, .v (.one (.d (.bool (decide (vy6.At ≤ vx4))))))] 2 (by kernel_rfl) (by kernel_rfl) (lowc_of (by kernel_rfl)) (⟨.inr ⟨by kernel_rfl, by kernel_rfl⟩, trivial⟩) (⟨⟨by kernel_rfl, [.d (.int .i64 qx1.From), .d (.int .i64 qx1.To)], by kernel_rfl, l2_same (by kernel_rfl) (by kernel_rfl)⟩, trivial⟩) (⟨t_same (by kernel_rfl) (by kernel_rfl), t_same (by kernel_rfl) (by kernel_rfl), t_same (by kernel_rfl) (by kernel_rfl), t_same (by kernel_rfl) (by kernel_rfl), t_same (by kernel_rfl) (by kernel_rfl), t_same (by kernel_rfl) (by kernel_rfl), t_same (by kernel_rfl) (by kernel_rfl), t_same (by kernel_rfl) (by kernel_rfl), trivial⟩))
  · refine awp_region' 2 15002 (by kernel_rfl) (by kernel_rfl) ?_
    refine aops_eff hΓ (.v (.one (.d (.int .i64 vx14)))) [] [] (by kernel_rfl) ?_
    refine aops_eff hΓ (.v (.one (.d (.int .i64 (IntKind.wrap .i64 (vx14 + 1)))))) [] [] (by kernel_rfl) ?_
    refine aops_eff hΓ (.v (.one (.d (.lst (List.map api_Sample.enc qx))))) [] [] (by kernel_rfl) ?_
    refine aops_eff hΓ (.v (.one (.d (.int .i64 (qx.length : Int))))) [] [] (opx_len (f := api_Sample.enc) (l := qx) (by kernel_rfl)) ?_
    refine aops_eff hΓ (.v (.one (.d (.bool false)))) [] [] (opx_b (by kernel_rfl) h11) ?_
    refine aops_eff hΓ (.v (.one (.d (.bool false)))) [] [] (by kernel_rfl) ?_
    refine aops_skip' (by kernel_rfl) ?_
    refine aops_skip' (by kernel_rfl) ?_
    refine aops_skip' (by kernel_rfl) ?_
    refine aops_skip' (by kernel_rfl) ?_
    refine aops_skip' (by kernel_rfl) ?_
    refine aops_skip' (by kernel_rfl) ?_
    refine aops_skip' (by kernel_rfl) ?_
    refine aops_skip' (by kernel_rfl) ?_
    refine aops_eff hΓ (.v (.one (.d (.bool false)))) [] [] (by kernel_rfl) ?_
    refine aops_nil ?_
    obtain rfl := some_eq hF
    exact out_intro rfl (to_see [] [] ⟨[(1, ⟨42, 4, List.map api_Sample.enc vx2⟩)], [(0, [.d (.int .i64 qx1.From), .d (.int .i64 qx1.To)])]⟩ [(0, .v (.one (.d (.lst (List.map api_Sample.enc qx))))), (2, .v (.one (.d (.int .i64 qx2)))), (3, .v (.one (.d (.int .i64 qx3)))), (5, .v (.one (.box 0 0))), (11, .v (.one (.own 1 none))), (12, .v (.one (.d (.int .i64 vx14)))), (13, .v (.one (.d (.int .i64 vx4)))), (67, .v (.one (.d (.bool false))))] 2 (by kernel_rfl) (by kernel_rfl) (lowc_of (by kernel_rfl)) (⟨.inr ⟨by kernel_rfl, by kernel_rfl⟩, trivial⟩) (⟨⟨by kernel_rfl, [.d (.int .i64 qx1.From), .d (.int .i64 qx1.To)], by kernel_rfl, l2_same (by kernel_rfl) (by kernel_rfl)⟩, trivial⟩) (⟨t_same (by kernel_rfl) (by kernel_rfl), t_same (by kernel_rfl) (by kernel_rfl), t_same (by kernel_rfl) (by kernel_rfl), t_same (by kernel_rfl) (by kernel_rfl), t_same (by kernel_rfl) (by kernel_rfl), t_same (by kernel_rfl) (by kernel_rfl), t_same (by kernel_rfl) (by kernel_rfl), t_same (by kernel_rfl) (by kernel_rfl), trivial⟩))

def series_Fill_x4_k : Int → AEx
  | _ => .exit 3

def series_Fill_x4_S (qx : List api_Sample) (qx1 : api_Window) (qx2 : Int) (qx3 : Int) (vx2 : List api_Sample) (vx4 : Int) : Int → St
  | vx17 => Mem.st ⟨[(1, ⟨42, 4, List.map api_Sample.enc vx2⟩)], [(0, [.d (.int .i64 qx1.From), .d (.int .i64 qx1.To)])]⟩ (tl [(0, .v (.one (.d (.lst (List.map api_Sample.enc qx))))), (2, .v (.one (.d (.int .i64 qx2)))), (3, .v (.one (.d (.int .i64 qx3)))), (5, .v (.one (.box 0 0))), (11, .v (.one (.own 1 none))), (12, .v (.one (.d (.int .i64 vx17)))), (13, .v (.one (.d (.int .i64 vx4))))]) 2

def series_Fill_x4_H (qx : List api_Sample) (qx1 : api_Window) (qx2 : Int) (qx3 : Int) (vx2 : List api_Sample) (vx4 : Int) : Int → St
  | vx14 => Mem.st ⟨[(1, ⟨42, 4, List.map api_Sample.enc vx2⟩)], [(0, [.d (.int .i64 qx1.From), .d (.int .i64 qx1.To)])]⟩ (tl [(0, .v (.one (.d (.lst (List.map api_Sample.enc qx))))), (2, .v (.one (.d (.int .i64 qx2)))), (3, .v (.one (.d (.int .i64 qx3)))), (5, .v (.one (.box 0 0))), (11, .v (.one (.own 1 none))), (12, .v (.one (.d (.int .i64 vx14)))), (13, .v (.one (.d (.int .i64 vx4))))]) 2

theorem series_Fill_x4_ok (qx : List api_Sample) (qx1 : api_Window) (qx2 : Int) (qx3 : Int) (vx2 : List api_Sample) (vx4 : Int) (vx14 : Int) (r : (Int) ⊕ (Int)) (hF : series_Fill_x4 qx vx4 vx14 = some r) : Awp prog 0 133 (cL (cL (cL (cL (cL (cR (cL (cL (cR (cL (cR (cR (cR (cR (cR (cB f19)))))))))))))))) (Out 0 (kk series_Fill_x4_k) (SS (series_Fill_x4_H qx qx1 qx2 qx3 vx2 vx4) (series_Fill_x4_S qx qx1 qx2 qx3 vx2 vx4)) r) (series_Fill_x4_H qx qx1 qx2 qx3 vx2 vx4 vx14) := by
  unfold series_Fill_x4 at hF
  refine awp_seq ?_
  refine awp_seq ?_
  refine awp_to (to_see [] [] ⟨[(1, ⟨42, 4, List.map api_Sample.enc vx2⟩)], [(0, [.d (.int .i64 qx1.From), .d (.int .i64 qx1.To)])]⟩ [(0, .v (.one (.d (.lst (List.map api_Sample.enc qx))))), (2, .v (.one (.d (.int .i64 qx2)))), (3, .v (.one (.d (.int .i64 qx3)))), (5, .v (.one (.box 0 0))), (11, .v (.one (.own 1 none))), (12, .v (.one (.d (.int .i64 vx14)))), (13, .v (.one (.d (.int .i64 vx4))))] 2 (by kernel_rfl) (by kernel_rfl) (lowc_of (by kernel_rfl)) (⟨.inr ⟨by kernel_rfl, by kernel_rfl⟩, trivial⟩) (⟨⟨by kernel_rfl, [.d (.int .i64 qx1.From), .d (.int .i64 qx1.To)], by kernel_rfl, l2_same (by kernel_rfl) (by kernel_rfl)⟩, trivial⟩) (⟨t_same (by kernel_rfl) (by kernel_rfl), t_same (by kernel_rfl) (by kernel_rfl), t_same (by kernel_rfl) (by kernel_rfl), t_same (by kernel_rfl) (by kernel_rfl), t_same (by kernel_rfl) (by kernel_rfl), t_same (by kernel_rfl) (by kernel_rfl), t_same (by kernel_rfl) (by kernel_rfl), trivial⟩)) ?_
  obtain ⟨vx16_1, h13, hF⟩ := bind_some hF
  refine awp_sub (series_Fill_x5_ok qx qx1 qx2 qx3 vx2 vx4 vx14 _ h13) ?_
  rcases cond_or hF with ⟨h14, hF⟩ | ⟨h14, hF⟩
  · refine awp_true (by kernel_rfl) h14 ?_
    refine awp_skip ?_
    refine awp_block ?_
    refine awp_region' 2 3002 (by kernel_rfl) (by kernel_rfl) ?_
    refine aops_eff hΓ (.v (.one (.d (.int .i64 vx14)))) [] [] (by kernel_rfl) ?_
    refine aops_eff hΓ (.v (.one (.d (.int .i64 (IntKind.wrap .i64 (vx14 + 1)))))) [] [] (by kernel_rfl) ?_
    refine aops_eff hΓ (.v (.one (.d (.int .i64 (IntKind.wrap .i64 (vx14 + 1)))))) [] [] (by kernel_rfl) ?_
    refine aops_nil ?_
    obtain rfl := some_eq hF
    exact out_intro rfl (to_see [] [] ⟨[(1, ⟨42, 4, List.map api_Sample.enc vx2⟩)], [(0, [.d (.int .i64 qx1.From), .d (.int .i64 qx1.To)])]⟩ [(0, .v (.one (.d (.lst (List.map api_Sample.enc qx))))), (2, .v (.one (.d (.int .i64 qx2)))), (3, .v (.one (.d (.int .i64 qx3)))), (5, .v (.one (.box 0 0))), (11, .v (.one (.own 1 none))), (12, .v (.one (.d (.int .i64 (IntKind.wrap .i64 (vx14 + 1)))))), (13, .v (.one (.d (.int .i64 vx4))))] 2 (by kernel_rfl) (by kernel_rfl) (lowc_of (by kernel_rfl)) (⟨.inr ⟨by kernel_rfl, by kernel_rfl⟩, trivial⟩) (⟨⟨by kernel_rfl, [.d (.int .i64 qx1.From), .d (.int .i64 qx1.To)], by kernel_rfl, l2_same (by kernel_rfl) (by kernel_rfl)⟩, trivial⟩) (⟨t_same (by kernel_rfl) (by kernel_rfl), t_same (by kernel_rfl) (by kernel_rfl), t_same (by kernel_rfl) (by kernel_rfl), t_same (by kernel_rfl) (by kernel_rfl), t_same (by kernel_rfl) (by kernel_rfl), t_same (by kernel_rfl) (by kernel_rfl), t_same (by kernel_rfl) (by kernel_rfl), trivial⟩))
  · refine awp_false (by kernel_rfl) h14 ?_
    refine awp_exit ?_
    obtain rfl := some_eq hF
    exact out_intro rfl (to_see [] [] ⟨[(1, ⟨42, 4, List.map api_Sample.enc vx2⟩)], [(0, [.d (.int .i64 qx1.From), .d (.int .i64 qx1.To)])]⟩ [(0, .v (.one (.d (.lst (List.map api_Sample.enc qx))))), (2, .v (.one (.d (.int .i64 qx2)))), (3, .v (.one (.d (.int .i64 qx3)))), (5, .v (.one (.box 0 0))), (11, .v (.one (.own 1 none))), (12, .v (.one (.d (.int .i64 vx14)))), (13, .v (.one (.d (.int .i64 vx4))))] 2 (by kernel_rfl) (by kernel_rfl) (lowc_of (by kernel_rfl)) (⟨.inr ⟨by kernel_rfl, by kernel_rfl⟩, trivial⟩) (⟨⟨by kernel_rfl, [.d (.int .i64 qx1.From), .d (.int .i64 qx1.To)], by kernel_rfl, l2_same (by kernel_rfl) (by kernel_rfl)⟩, trivial⟩) (⟨t_same (by kernel_rfl) (by kernel_rfl), t_same (by kernel_rfl) (by kernel_rfl), t_same (by kernel_rfl) (by kernel_rfl), t_same (by kernel_rfl) (by kernel_rfl), t_same (by kernel_rfl) (by kernel_rfl), t_same (by kernel_rfl) (by kernel_rfl), t_same (by kernel_rfl) (by kernel_rfl), trivial⟩))

def series_Fill_x7_k : Bool → AEx
  | _ => .normal

def series_Fill_x7_S (qx : List api_Sample) (qx1 : api_Window) (qx2 : Int) (qx3 : Int) (vx2 : List api_Sample) (vx4 : Int) (vx17_1 : Int) (vy7 : api_Sample) : Bool → St
  | vx18 => Mem.st ⟨[(1, ⟨42, 4, List.map api_Sample.enc vx2⟩)], [(0, [.d (.int .i64 qx1.From), .d (.int .i64 qx1.To)]), (2, [.d (.str vy7.Device), .d (.str vy7.Metric), .d (.int .i64 vy7.At), .d (.int .i64 vy7.Value)])]⟩ (tl [(0, .v (.one (.d (.lst (List.map api_Sample.enc qx))))), (2, .v (.one (.d (.int .i64 qx2)))), (3, .v (.one (.d (.int .i64 qx3)))), (5, .v (.one (.box 0 0))), (11, .v (.one (.own 1 none))), (12, .v (.one (.d (.int .i64 vx17_1)))), (13, .v (.one (.d (.int .i64 vx4)))), (14, .v (.one (.box 2 0))), (83, .v (.one (.d (.bool vx18))))]) 3

theorem series_Fill_x7_ok (qx : List api_Sample) (qx1 : api_Window) (qx2 : Int) (qx3 : Int) (vx2 : List api_Sample) (vx4 : Int) (vx17_1 : Int) (vy7 : api_Sample) (r : Bool) (hF : series_Fill_x7 qx3 vx4 vy7 = some r) : Awp prog 0 133 (cL (cL (cR (cR (cR (cL (cL (cR (cL (cL (cR (cL (cR (cR (cR (cR (cR (cB f19)))))))))))))))))) (Out 0 series_Fill_x7_k (series_Fill_x7_S qx qx1 qx2 qx3 vx2 vx4 vx17_1 vy7) r) (Mem.st ⟨[(1, ⟨42, 4, List.map api_Sample.enc vx2⟩)], [(0, [.d (.int .i64 qx1.From), .d (.int .i64 qx1.To)]), (2, [.d (.str vy7.Device), .d (.str vy7.Metric), .d (.int .i64 vy7.At), .d (.int .i64 vy7.Value)])]⟩ (tl [(0, .v (.one (.d (.lst (List.map api_Sample.enc qx))))), (2, .v (.one (.d (.int .i64 qx2)))), (3, .v (.one (.d (.int .i64 qx3)))), (5, .v (.one (.box 0 0))), (11, .v (.one (.own 1 none))), (12, .v (.one (.d (.int .i64 vx17_1)))), (13, .v (.one (.d (.int .i64 vx4)))), (14, .v (.one (.box 2 0)))]) 3) := by
  unfold series_Fill_x7 at hF
  rcases cond_or hF with ⟨h18, hF⟩ | ⟨h18, hF⟩
  · refine awp_region' 3 8003 (by kernel_rfl) (by kernel_rfl) ?_
    refine aops_eff hΓ (.v (.one (.d (.int .i64 qx3)))) [] [] (by kernel_rfl) ?_
    refine aops_eff hΓ (.v (.one (.d (.bool true)))) [] [] (opx_b (by kernel_rfl) h18) ?_
    refine aops_eff hΓ (.v (.one (.d (.bool true)))) [] [] (by kernel_rfl) ?_
    refine aops_eff hΓ (.v (.one (.box 2 2))) [] [] (by kernel_rfl) ?_
    refine aops_eff hΓ (.v (.one (.d (.int .i64 vy7.At)))) [] [] (by kernel_rfl) ?_
    refine aops_eff hΓ (.v (.one (.d (.int .i64 vx4)))) [] [] (by kernel_rfl) ?_
    refine aops_eff hΓ (.v (.one (.d (.bool (decide (vy7.At < vx4)))))) [] [] (by kernel_rfl) ?_
    refine aops_eff hΓ (.v (.one (.d (.bool (decide (vy7.At < vx4)))))) [] [] (by kernel_rfl) ?_
    refine aops_nil ?_
    obtain rfl := some_eq hF
    exact out_intro rfl (to_see [] [] ⟨[(1, ⟨42, 4, List.map api_Sample.enc vx2⟩)], [(0, [.d (.int .i64 qx1.From), .d (.int .i64 qx1.To)]), (2, [.d (.str vy7.Device), .d (.str vy7.Metric), .d (.int .i64 vy7.At), .d (.int .i64 vy7.Value)])]⟩ [(0, .v (.one (.d (.lst (List.map api_Sample.enc qx))))), (2, .v (.one (.d (.int .i64 qx2)))), (3, .v (.one (.d (.int .i64 qx3)))), (5, .v (.one (.box 0 0))), (11, .v (.one (.own 1 none))), (12, .v (.one (.d (.int .i64 vx17_1)))), (13, .v (.one (.d (.int .i64 vx4)))), (14, .v (.one (.box 2 0))), (83, .v (.one (.d (.bool (decide (vy7.At < vx4))))))] 3 (by kernel_rfl) (by kernel_rfl) (lowc_of (by kernel_rfl)) (⟨.inr ⟨by kernel_rfl, by kernel_rfl⟩, trivial⟩) (⟨⟨by kernel_rfl, [.d (.int .i64 qx1.From), .d (.int .i64 qx1.To)], by kernel_rfl, l2_same (by kernel_rfl) (by kernel_rfl)⟩, ⟨by kernel_rfl, [.d (.str vy7.Device), .d (.str vy7.Metric), .d (.int .i64 vy7.At), .d (.int .i64 vy7.Value)], by kernel_rfl, l2_same (by kernel_rfl) (by kernel_rfl)⟩, trivial⟩) (⟨t_same (by kernel_rfl) (by kernel_rfl), t_same (by kernel_rfl) (by kernel_rfl), t_same (by kernel_rfl) (by kernel_rfl), t_same (by kernel_rfl) (by kernel_rfl), t_same (by kernel_rfl) (by kernel_rfl), t_same (by kernel_rfl) (by kernel_rfl), t_same (by kernel_rfl) (by kernel_rfl), t_same (by kernel_rfl) (by kernel_rfl), t_same (by kernel_rfl) (by kernel_rfl), trivial⟩))
  · refine awp_region' 3 8003 (by kernel_rfl) (by kernel_rfl) ?_
    refine aops_eff hΓ (.v (.one (.d (.int .i64 qx3)))) [] [] (by kernel_rfl) ?_
    refine aops_eff hΓ (.v (.one (.d (.bool false)))) [] [] (opx_b (by kernel_rfl) h18) ?_
    refine aops_eff hΓ (.v (.one (.d (.bool false)))) [] [] (by kernel_rfl) ?_
    refine aops_skip' (by kernel_rfl) ?_
    refine aops_skip' (by kernel_rfl) ?_
    refine aops_skip' (by kernel_rfl) ?_
    refine aops_skip' (by kernel_rfl) ?_
    refine aops_eff hΓ (.v (.one (.d (.bool false)))) [] [] (by kernel_rfl) ?_
    refine aops_nil ?_
    obtain rfl := some_eq hF
    exact out_intro rfl (to_see [] [] ⟨[(1, ⟨42, 4, List.map api_Sample.enc vx2⟩)], [(0, [.d (.int .i64 qx1.From), .d (.int .i64 qx1.To)]), (2, [.d (.str vy7.Device), .d (.str vy7.Metric), .d (.int .i64 vy7.At), .d (.int .i64 vy7.Value)])]⟩ [(0, .v (.one (.d (.lst (List.map api_Sample.enc qx))))), (2, .v (.one (.d (.int .i64 qx2)))), (3, .v (.one (.d (.int .i64 qx3)))), (5, .v (.one (.box 0 0))), (11, .v (.one (.own 1 none))), (12, .v (.one (.d (.int .i64 vx17_1)))), (13, .v (.one (.d (.int .i64 vx4)))), (14, .v (.one (.box 2 0))), (83, .v (.one (.d (.bool false))))] 3 (by kernel_rfl) (by kernel_rfl) (lowc_of (by kernel_rfl)) (⟨.inr ⟨by kernel_rfl, by kernel_rfl⟩, trivial⟩) (⟨⟨by kernel_rfl, [.d (.int .i64 qx1.From), .d (.int .i64 qx1.To)], by kernel_rfl, l2_same (by kernel_rfl) (by kernel_rfl)⟩, ⟨by kernel_rfl, [.d (.str vy7.Device), .d (.str vy7.Metric), .d (.int .i64 vy7.At), .d (.int .i64 vy7.Value)], by kernel_rfl, l2_same (by kernel_rfl) (by kernel_rfl)⟩, trivial⟩) (⟨t_same (by kernel_rfl) (by kernel_rfl), t_same (by kernel_rfl) (by kernel_rfl), t_same (by kernel_rfl) (by kernel_rfl), t_same (by kernel_rfl) (by kernel_rfl), t_same (by kernel_rfl) (by kernel_rfl), t_same (by kernel_rfl) (by kernel_rfl), t_same (by kernel_rfl) (by kernel_rfl), t_same (by kernel_rfl) (by kernel_rfl), t_same (by kernel_rfl) (by kernel_rfl), trivial⟩))

def series_Fill_x8_k : Bool → AEx
  | _ => .normal

def series_Fill_x8_S (qx : List api_Sample) (qx1 : api_Window) (qx2 : Int) (qx3 : Int) (vx2 : List api_Sample) (vx4 : Int) (vx17_1 : Int) (vy7 : api_Sample) : Bool → St
  | vx19 => Mem.st ⟨[(1, ⟨42, 4, List.map api_Sample.enc vx2⟩)], [(0, [.d (.int .i64 qx1.From), .d (.int .i64 qx1.To)]), (2, [.d (.str vy7.Device), .d (.str vy7.Metric), .d (.int .i64 vy7.At), .d (.int .i64 vy7.Value)])]⟩ (tl [(0, .v (.one (.d (.lst (List.map api_Sample.enc qx))))), (2, .v (.one (.d (.int .i64 qx2)))), (3, .v (.one (.d (.int .i64 qx3)))), (5, .v (.one (.box 0 0))), (11, .v (.one (.own 1 none))), (12, .v (.one (.d (.int .i64 vx17_1)))), (13, .v (.one (.d (.int .i64 vx4)))), (14, .v (.one (.box 2 0))), (100, .v (.one (.d (.bool vx19))))]) 3

theorem series_Fill_x8_ok (qx : List api_Sample) (qx1 : api_Window) (qx2 : Int) (qx3 : Int) (vx2 : List api_Sample) (vx4 : Int) (vx17_1 : Int) (vy7 : api_Sample) (r : Bool) (hF : series_Fill_x8 qx vx17_1 vy7 = some r) : Awp prog 0 133 (cL (cL (cL (cR (cL (cR (cR (cR (cL (cL (cR (cL (cL (cR (cL (cR (cR (cR (cR (cR (cB f19))))))))))))))))))))) (Out 0 series_Fill_x8_k (series_Fill_x8_S qx qx1 qx2 qx3 vx2 vx4 vx17_1 vy7) r) (Mem.st ⟨[(1, ⟨42, 4, List.map api_Sample.enc vx2⟩)], [(0, [.d (.int .i64 qx1.From), .d (.int .i64 qx1.To)]), (2, [.d (.str vy7.Device), .d (.str vy7.Metric), .d (.int .i64 vy7.At), .d (.int .i64 vy7.Value)])]⟩ (tl [(0, .v (.one (.d (.lst (List.map api_Sample.enc qx))))), (2, .v (.one (.d (.int .i64 qx2)))), (3, .v (.one (.d (.int .i64 qx3)))), (5, .v (.one (.box 0 0))), (11, .v (.one (.own 1 none))), (12, .v (.one (.d (.int .i64 vx17_1)))), (13, .v (.one (.d (.int .i64 vx4)))), (14, .v (.one (.box 2 0)))]) 3) := by
  unfold series_Fill_x8 at hF
  rcases cond_or hF with ⟨h21, hF⟩ | ⟨h21, hF⟩
  · refine awp_region_any' hm 3 17003 [(some ⟨.v (.one (.d (.int .i64 vx17_1))), [], [], []⟩, []), (some ⟨.v (.one (.d (.int .i64 (IntKind.wrap .i64 (vx17_1 + 1))))), [], [], []⟩, []), (some ⟨.v (.one (.d (.lst (List.map api_Sample.enc qx)))), [], [], []⟩, []), (some ⟨.v (.one (.d (.int .i64 (qx.length : Int)))), [], [], []⟩, []), (some ⟨.v (.one (.d (.bool true))), [], [], []⟩, []), (some ⟨.v (.one (.d (.bool true))), [], [], []⟩, []), (none, []), (none, []), (none, []), (none, []), (none, []), (none, []), (none, []), (none, []), (none, []), (none, []), (some ⟨.v (.one (.d (.bool true))), [], [], []⟩, [])] [[], [0], [], [2], [0, 1, 2, 3], [0, 1, 2, 3, 4], [0, 1, 2, 3, 4, 5], [0, 1, 2, 3, 4, 5], [0, 1, 2, 3, 4, 5, 7], [0, 1, 2, 3, 4, 5, 6, 7, 8], [0, 1, 2, 3, 4, 5, 6, 7, 8, 9], [0, 1, 2, 3, 4, 5, 6, 7, 8, 9, 10], [0, 1, 2, 3, 4, 5], [0, 1, 2, 3, 4, 5, 12], [0, 1, 2, 3, 4, 5, 6, 7, 8, 9, 10, 11, 12, 13], [0, 1, 2, 3, 4, 5, 6, 7, 8, 9, 10, 11, 12, 13, 14], [0, 1, 2, 3, 4, 5, 6, 7, 8, 9, 10, 11, 12, 13, 14, 15]] (by kernel_rfl) (by kernel_rfl) (by kernel_rfl) (by kernel_rfl) ?_
    refine And.intro (step_eff hΓ (.v (.one (.d (.int .i64 vx17_1)))) [] [] (by kernel_rfl) (by kernel_rfl)) ?_
    refine And.intro (step_eff hΓ (.v (.one (.d (.int .i64 (IntKind.wrap .i64 (vx17_1 + 1)))))) [] [] (by kernel_rfl) (by kernel_rfl)) ?_
    refine And.intro (step_eff hΓ (.v (.one (.d (.lst (List.map api_Sample.enc qx))))) [] [] (by kernel_rfl) (by kernel_rfl)) ?_
    refine And.intro (step_eff hΓ (.v (.one (.d (.int .i64 (qx.length : Int))))) [] [] (opx_len (f := api_Sample.enc) (l := qx) (by kernel_rfl)) (by kernel_rfl)) ?_
    refine And.intro (step_eff hΓ (.v (.one (.d (.bool true)))) [] [] (opx_b (by kernel_rfl) h21) (by kernel_rfl)) ?_
    refine And.intro (step_eff hΓ (.v (.one (.d (.bool true)))) [] [] (by kernel_rfl) (by kernel_rfl)) ?_
    refine And.intro (step_skip' (by kernel_rfl)) ?_
    refine And.intro (step_skip' (by kernel_rfl)) ?_
    refine And.intro (step_skip' (by kernel_rfl)) ?_
    refine And.intro (step_skip' (by kernel_rfl)) ?_
    refine And.intro (step_skip' (by kernel_rfl)) ?_
    refine And.intro (step_skip' (by kernel_rfl)) ?_
    refine And.intro (step_skip' (by kernel_rfl)) ?_
    refine And.intro (step_skip' (by kernel_rfl)) ?_
    refine And.intro (step_skip' (by kernel_rfl)) ?_
    refine And.intro (step_skip' (by kernel_rfl)) ?_
    refine And.intro (step_eff hΓ (.v (.one (.d (.bool true)))) [] [] (by kernel_rfl) (by kernel_rfl)) ?_
    obtain rfl := some_eq hF
    exact out_intro rfl (to_see [] [] ⟨[(1, ⟨42, 4, List.map api_Sample.enc vx2⟩)], [(0, [.d (.int .i64 qx1.From), .d (.int .i64 qx1.To)]), (2, [.d (.str vy7.Device), .d (.str vy7.Metric), .d (.int .i64 vy7.At), .d (.int .i64 vy7.Value)])]⟩ [(0, .v (.one (.d (.lst (List.map api_Sample.enc qx))))), (2, .v (.one (.d (.int .i64 qx2)))), (3, .v (.one (.d (.int .i64 qx3)))), (5, .v (.one (.box 0 0))), (11, .v (.one (.own 1 none))), (12, .v (.one (.d (.int .i64 vx17_1)))), (13, .v (.one (.d (.int .i64 vx4)))), (14, .v (.one (.box 2 0))), (100, .v (.one (.d (.bool true))))] 3 (by kernel_rfl) (by kernel_rfl) (lowc_of (by kernel_rfl)) (⟨.inr ⟨by kernel_rfl, by kernel_rfl⟩, trivial⟩) (⟨⟨by kernel_rfl, [.d (.int .i64 qx1.From), .d (.int .i64 qx1.To)], by kernel_rfl, l2_same (by kernel_rfl) (by kernel_rfl)⟩, ⟨by kernel_rfl, [.d (.str vy7.Device), .d (.str vy7.Metric), .d (.int .i64 vy7.At), .d (.int .i64 vy7.Value)], by kernel_rfl, l2_same (by kernel_rfl) (by kernel_rfl)⟩, trivial⟩) (⟨t_same (by kernel_rfl) (by kernel_rfl), t_same (by kernel_rfl) (by kernel_rfl), t_same (by kernel_rfl) (by kernel_rfl), t_same (by kernel_rfl) (by kernel_rfl), t_same (by kernel_rfl) (by kernel_rfl), t_same (by kernel_rfl) (by kernel_rfl), t_same (by kernel_rfl) (by kernel_rfl), t_same (by kernel_rfl) (by kernel_rfl), t_same (by kernel_rfl) (by kernel_rfl), trivial⟩))
  · obtain ⟨vy8, h22, hF⟩ := bind_some hF
    refine awp_region_any' hm 3 17003 [(some ⟨.v (.one (.d (.int .i64 vx17_1))), [], [], []⟩, []), (some ⟨.v (.one (.d (.int .i64 (IntKind.wrap .i64 (vx17_1 + 1))))), [], [], []⟩, []), (some ⟨.v (.one (.d (.lst (List.map api_Sample.enc qx)))), [], [], []⟩, []), (some ⟨.v (.one (.d (.int .i64 (qx.length : Int)))), [], [], []⟩, []), (some ⟨.v (.one (.d (.bool false))), [], [], []⟩, []), (some ⟨.v (.one (.d (.bool false))), [], [], []⟩, []), (some ⟨.v (.one (.d (.lst (List.map api_Sample.enc qx)))), [], [], []⟩, []), (some ⟨.v (.one (.d (.int .i64 vx17_1))), [], [], []⟩, []), (some ⟨.v (.one (.d (.int .i64 (IntKind.wrap .i64 (vx17_1 + 1))))), [], [], []⟩, []), (some ⟨.v (.one (.cp [.str vy8.Device, .str vy8.Metric, .int .i64 vy8.At, .int .i64 vy8.Value])), [], [], []⟩, []), (some ⟨.v (.one (.cp [.int .i64 vy8.At, .int .i64 vy8.Value])), [], [], []⟩, []), (some ⟨.v (.one (.d (.int .i64 vy8.At))), [], [], []⟩, []), (some ⟨.v (.one (.box 2 2)), [], [], []⟩, [2]), (some ⟨.v (.one (.d (.int .i64 vy7.At))), [], [], []⟩, [2]), (some ⟨.v (.one (.d (.int .i64 (IntKind.wrap .i64 (vy8.At - vy7.At))))), [], [], []⟩, []), (some ⟨.v (.one (.d (.bool (decide (2592000000 < (IntKind.wrap .i64 (vy8.At - vy7.At))))))), [], [], []⟩, []), (some ⟨.v (.one (.d (.bool (decide (2592000000 < (IntKind.wrap .i64 (vy8.At - vy7.At))))))), [], [], []⟩, [])] [[], [0], [], [2], [0, 1, 2, 3], [0, 1, 2, 3, 4], [0, 1, 2, 3, 4, 5], [0, 1, 2, 3, 4, 5], [0, 1, 2, 3, 4, 5, 7], [0, 1, 2, 3, 4, 5, 6, 7, 8], [0, 1, 2, 3, 4, 5, 6, 7, 8, 9], [0, 1, 2, 3, 4, 5, 6, 7, 8, 9, 10], [0, 1, 2, 3, 4, 5], [0, 1, 2, 3, 4, 5, 12], [0, 1, 2, 3, 4, 5, 6, 7, 8, 9, 10, 11, 12, 13], [0, 1, 2, 3, 4, 5, 6, 7, 8, 9, 10, 11, 12, 13, 14], [0, 1, 2, 3, 4, 5, 6, 7, 8, 9, 10, 11, 12, 13, 14, 15]] (by kernel_rfl) (by kernel_rfl) (by kernel_rfl) (by kernel_rfl) ?_
    refine And.intro (step_eff hΓ (.v (.one (.d (.int .i64 vx17_1)))) [] [] (by kernel_rfl) (by kernel_rfl)) ?_
    refine And.intro (step_eff hΓ (.v (.one (.d (.int .i64 (IntKind.wrap .i64 (vx17_1 + 1)))))) [] [] (by kernel_rfl) (by kernel_rfl)) ?_
    refine And.intro (step_eff hΓ (.v (.one (.d (.lst (List.map api_Sample.enc qx))))) [] [] (by kernel_rfl) (by kernel_rfl)) ?_
    refine And.intro (step_eff hΓ (.v (.one (.d (.int .i64 (qx.length : Int))))) [] [] (opx_len (f := api_Sample.enc) (l := qx) (by kernel_rfl)) (by kernel_rfl)) ?_
    refine And.intro (step_eff hΓ (.v (.one (.d (.bool false)))) [] [] (opx_b (by kernel_rfl) h21) (by kernel_rfl)) ?_
    refine And.intro (step_eff hΓ (.v (.one (.d (.bool false)))) [] [] (by kernel_rfl) (by kernel_rfl)) ?_
    refine And.intro (step_eff hΓ (.v (.one (.d (.lst (List.map api_Sample.enc qx))))) [] [] (by kernel_rfl) (by kernel_rfl)) ?_
    refine And.intro (step_eff hΓ (.v (.one (.d (.int .i64 vx17_1)))) [] [] (by kernel_rfl) (by kernel_rfl)) ?_
    refine And.intro (step_eff hΓ (.v (.one (.d (.int .i64 (IntKind.wrap .i64 (vx17_1 + 1)))))) [] [] (by kernel_rfl) (by kernel_rfl)) ?_
    refine And.intro (step_eff hΓ (.v (.one (.cp [.str vy8.Device, .str vy8.Metric, .int .i64 vy8.At, .int .i64 vy8.Value]))) [] [] (opx_of (by kernel_rfl) (by kernel_rfl) (eff_indexAddr (k := .i64) (ti := ti26) (te := ti42) (l := qx) (f := api_Sample.enc) (y := vy8) (by kernel_rfl) rfl (by kernel_rfl) (by kernel_rfl) (by kernel_rfl) h22 (by kernel_rfl))) (by kernel_rfl)) ?_
    refine And.intro (step_eff hΓ (.v (.one (.cp [.int .i64 vy8.At, .int .i64 vy8.Value]))) [] [] (by kernel_rfl) (by kernel_rfl)) ?_
    refine And.intro (step_eff hΓ (.v (.one (.d (.int .i64 vy8.At)))) [] [] (by kernel_rfl) (by kernel_rfl)) ?_
    refine And.intro (step_eff hΓ (.v (.one (.box 2 2))) [] [] (by kernel_rfl) (by kernel_rfl)) ?_
    refine And.intro (step_eff hΓ (.v (.one (.d (.int .i64 vy7.At)))) [] [] (by kernel_rfl) (by kernel_rfl)) ?_
    refine And.intro (step_eff hΓ (.v (.one (.d (.int .i64 (IntKind.wrap .i64 (vy8.At - vy7.At)))))) [] [] (by kernel_rfl) (by kernel_rfl)) ?_
    refine And.intro (step_eff hΓ (.v (.one (.d (.bool (decide (2592000000 < (IntKind.wrap .i64 (vy8.At - vy7.At)))))))) [] [] (by kernel_rfl) (by kernel_rfl)) ?_
    refine And.intro (step_eff hΓ (.v (.one (.d (.bool (decide (2592000000 < (IntKind.wrap .i64 (vy8.At - vy7.At)))))))) [] [] (by kernel_rfl) (by kernel_rfl)) ?_
    obtain rfl := some_eq hF
    exact out_intro rfl (to_see [] [] ⟨[(1, ⟨42, 4, List.map api_Sample.enc vx2⟩)], [(0, [.d (.int .i64 qx1.From), .d (.int .i64 qx1.To)]), (2, [.d (.str vy7.Device), .d (.str vy7.Metric), .d (.int .i64 vy7.At), .d (.int .i64 vy7.Value)])]⟩ [(0, .v (.one (.d (.lst (List.map api_Sample.enc qx))))), (2, .v (.one (.d (.int .i64 qx2)))), (3, .v (.one (.d (.int .i64 qx3)))), (5, .v (.one (.box 0 0))), (11, .v (.one (.own 1 none))), (12, .v (.one (.d (.int .i64 vx17_1)))), (13, .v (.one (.d (.int .i64 vx4)))), (14, .v (.one (.box 2 0))), (100, .v (.one (.d (.bool (decide (2592000000 < (IntKind.wrap .i64 (vy8.At - vy7.At))))))))] 3 (by kernel_rfl) (by kernel_rfl) (lowc_of (by kernel_rfl)) (⟨.inr ⟨by kernel_rfl, by kernel_rfl⟩, trivial⟩) (⟨⟨by kernel_rfl, [.d (.int .i64 qx1.From), .d (.int .i64 qx1.To)], by kernel_rfl, l2_same (by kernel_rfl) (by kernel_rfl)⟩, ⟨by kernel_rfl, [.d (.str vy7.Device), .d (.str vy7.Metric), .d (.int .i64 vy7.At), .d (.int .i64 vy7.Value)], by kernel_rfl, l2_same (by kernel_rfl) (by kernel_rfl)⟩, trivial⟩) (⟨t_same (by kernel_rfl) (by kernel_rfl), t_same (by kernel_rfl) (by kernel_rfl), t_same (by kernel_rfl) (by kernel_rfl), t_same (by kernel_rfl) (by kernel_rfl), t_same (by kernel_rfl) (by kernel_rfl), t_same (by kernel_rfl) (by kernel_rfl), t_same (by kernel_rfl) (by kernel_rfl), t_same (by kernel_rfl) (by kernel_rfl), t_same (by kernel_rfl) (by kernel_rfl), trivial⟩))

def series_Fill_x6_k : api_Sample ⊕ Unit → AEx
  | .inl _ => .normal
  | .inr _ => .exit 2

def series_Fill_x6_S (qx : List api_Sample) (qx1 : api_Window) (qx2 : Int) (qx3 : Int) (vx2 : List api_Sample) (vx4 : Int) (vx17_1 : Int) (vy7 : api_Sample) : api_Sample ⊕ Unit → St
  | .inl vx20 => Mem.st ⟨[(1, ⟨42, 4, List.map api_Sample.enc vx2⟩)], [(0, [.d (.int .i64 qx1.From), .d (.int .i64 qx1.To)]), (2, [.d (.str vx20.Device), .d (.str vx20.Metric), .d (.int .i64 vx20.At), .d (.int .i64 vx20.Value)])]⟩ (tl [(0, .v (.one (.d (.lst (List.map api_Sample.enc qx))))), (2, .v (.one (.d (.int .i64 qx2)))), (3, .v (.one (.d (.int .i64 qx3)))), (5, .v (.one (.box 0 0))), (11, .v (.one (.own 1 none))), (12, .v (.one (.d (.int .i64 vx17_1)))), (13, .v (.one (.d (.int .i64 vx4)))), (14, .v (.one (.box 2 0)))]) 3
  | .inr _ => Mem.st ⟨[(1, ⟨42, 4, List.map api_Sample.enc vx2⟩)], [(0, [.d (.int .i64 qx1.From), .d (.int .i64 qx1.To)])]⟩ (tl [(0, .v (.one (.d (.lst (List.map api_Sample.enc qx))))), (2, .v (.one (.d (.int .i64 qx2)))), (3, .v (.one (.d (.int .i64 qx3)))), (5, .v (.one (.box 0 0))), (11, .v (.one (.own 1 none))), (12, .v (.one (.d (.int .i64 vx17_1)))), (13, .v (.one (.d (.int .i64 vx4))))]) 2

theorem series_Fill_x6_ok (qx : List api_Sample) (qx1 : api_Window) (qx2 : Int) (qx3 : Int) (vx2 : List api_Sample) (vx4 : Int) (vx17_1 : Int) (vy7 : api_Sample) (r : api_Sample ⊕ Unit) (hF : series_Fill_x6 qx qx3 vx4 vx17_1 vy7 = some r) : Awp prog 0 133 (cL (cR (cR (cR (cL (cL (cR (cL (cL (cR (cL (cR (cR (cR (cR (cR (cB f19))))))))))))))))) (Out 0 series_Fill_x6_k (series_Fill_x6_S qx qx1 qx2 qx3 vx2 vx4 vx17_1 vy7) r) (Mem.st ⟨[(1, ⟨42, 4, List.map api_Sample.enc vx2⟩)], [(0, [.d (.int .i64 qx1.From), .d (.int .i64 qx1.To)]), (2, [.d (.str vy7.Device), .d (.str vy7.Metric), .d (.int .i64 vy7.At), .d (.int .i64 vy7.Value)])]⟩ (tl [(0, .v (.one (.d (.lst (List.map api_Sample.enc qx))))), (2, .v (.one (.d (.int .i64 qx2)))), (3, .v (.one (.d (.int .i64 qx3)))), (5, .v (.one (.box 0 0))), (11, .v (.one (.own 1 none))), (12, .v (.one (.d (.int .i64 vx17_1)))), (13, .v (.one (.d (.int .i64 vx4)))), (14, .v (.one (.box 2 0)))]) 3) := by
  unfold series_Fill_x6 at hF
  refine awp_seq ?_
  refine awp_to (to_see [] [] ⟨[(1, ⟨42, 4, List.map api_Sample.enc vx2⟩)], [(0, [.d (.int .i64 qx1.From), .d (.int .i64 qx1.To)]), (2, [.d (.str vy7.Device), .d (.str vy7.Metric), .d (.int .i64 vy7.At), .d (.int .i64 vy7.Value)])]⟩ [(0, .v (.one (.d (.lst (List.map api_Sample.enc qx))))), (2, .v (.one (.d (.int .i64 qx2)))), (3, .v (.one (.d (.int .i64 qx3)))), (5, .v (.one (.box 0 0))), (11, .v (.one (.own 1 none))), (12, .v (.one (.d (.int .i64 vx17_1)))), (13, .v (.one (.d (.int .i64 vx4)))), (14, .v (.one (.box 2 0)))] 3 (by kernel_rfl) (by kernel_rfl) (lowc_of (by kernel_rfl)) (⟨.inr ⟨by kernel_rfl, by kernel_rfl⟩, trivial⟩) (⟨⟨by kernel_rfl, [.d (.int .i64 qx1.From), .d (.int .i64 qx1.To)], by kernel_rfl, l2_same (by kernel_rfl) (by kernel_rfl)⟩, ⟨by kernel_rfl, [.d (.str vy7.Device), .d (.str vy7.Metric), .d (.int .i64 vy7.At), .d (.int .i64 vy7.Value)], by kernel_rfl, l2_same (by kernel_rfl) (by kernel_rfl)⟩, trivial⟩) (⟨t_same (by kernel_rfl) (by kernel_rfl), t_same (by kernel_rfl) (by kernel_rfl), t_same (by kernel_rfl) (by kernel_rfl), t_same (by kernel_rfl) (by kernel_rfl), t_same (by kernel_rfl) (by kernel_rfl), t_same (by kernel_rfl) (by kernel_rfl), t_same (by kernel_rfl) (by kernel_rfl), t_same (by kernel_rfl) (by kernel_rfl), trivial⟩)) ?_
  obtain ⟨vx18_1, h19, hF⟩ := bind_some hF
  refine awp_sub (series_Fill_x7_ok qx qx1 qx2 qx3 vx2 vx4 vx17_1 vy7 _ h19) ?_
  rcases cond_or hF with ⟨h20, hF⟩ | ⟨h20, hF⟩
  · refine awp_true (by kernel_rfl) h20 ?_
    refine awp_seq ?_
    refine awp_seq ?_
    refine awp_to (to_see [] [] ⟨[(1, ⟨42, 4, List.map api_Sample.enc vx2⟩)], [(0, [.d (.int .i64 qx1.From), .d (.int .i64 qx1.To)]), (2, [.d (.str vy7.Device), .d (.str vy7.Metric), .d (.int .i64 vy7.At), .d (.int .i64 vy7.Value)])]⟩ [(0, .v (.one (.d (.lst (List.map api_Sample.enc qx))))), (2, .v (.one (.d (.int .i64 qx2)))), (3, .v (.one (.d (.int .i64 qx3)))), (5, .v (.one (.box 0 0))), (11, .v (.one (.own 1 none))), (12, .v (.one (.d (.int .i64 vx17_1)))), (13, .v (.one (.d (.int .i64 vx4)))), (14, .v (.one (.box 2 0)))] 3 (by kernel_rfl) (by kernel_rfl) (lowc_of (by kernel_rfl)) (⟨.inr ⟨by kernel_rfl, by kernel_rfl⟩, trivial⟩) (⟨⟨by kernel_rfl, [.d (.int .i64 qx1.From), .d (.int .i64 qx1.To)], by kernel_rfl, l2_same (by kernel_rfl) (by kernel_rfl)⟩, ⟨by kernel_rfl, [.d (.str vy7.Device), .d (.str vy7.Metric), .d (.int .i64 vy7.At), .d (.int .i64 vy7.Value)], by kernel_rfl, l2_same (by kernel_rfl) (by kernel_rfl)⟩, trivial⟩) (⟨t_same (by kernel_rfl) (by kernel_rfl), t_same (by kernel_rfl) (by kernel_rfl), t_same (by kernel_rfl) (by kernel_rfl), t_same (by kernel_rfl) (by kernel_rfl), t_same (by kernel_rfl) (by kernel_rfl), t_same (by kernel_rfl) (by kernel_rfl), t_same (by kernel_rfl) (by kernel_rfl), t_same (by kernel_rfl) (by kernel_rfl), trivial⟩)) ?_
    obtain ⟨vx19_1, h23, hF⟩ := bind_some hF
    refine awp_sub (series_Fill_x8_ok qx qx1 qx2 qx3 vx2 vx4 vx17_1 vy7 _ h23) ?_
    rcases cond_or hF with ⟨h24, hF⟩ | ⟨h24, hF⟩
    · refine awp_true (by kernel_rfl) h24 ?_
      refine awp_exit ?_
      obtain rfl := some_eq hF
      exact out_intro rfl (to_see [] [] ⟨[(1, ⟨42, 4, List.map api_Sample.enc vx2⟩)], [(0, [.d (.int .i64 qx1.From), .d (.int .i64 qx1.To)])]⟩ [(0, .v (.one (.d (.lst (List.map api_Sample.enc qx))))), (2, .v (.one (.d (.int .i64 qx2)))), (3, .v (.one (.d (.int .i64 qx3)))), (5, .v (.one (.box 0 0))), (11, .v (.one (.own 1 none))), (12, .v (.one (.d (.int .i64 vx17_1)))), (13, .v (.one (.d (.int .i64 vx4))))] 2 (by kernel_rfl) (by kernel_rfl) (lowc_of (by kernel_rfl)) (⟨.inr ⟨by kernel_rfl, by kernel_rfl⟩, trivial⟩) (⟨⟨by kernel_rfl, [.d (.int .i64 qx1.From), .d (.int .i64 qx1.To)], by kernel_rfl, l2_same (by kernel_rfl) (by kernel_rfl)⟩, trivial⟩) (⟨t_same (by kernel_rfl) (by kernel_rfl), t_same (by kernel_rfl) (by kernel_rfl), t_same (by kernel_rfl) (by kernel_rfl), t_same (by kernel_rfl) (by kernel_rfl), t_same (by kernel_rfl) (by kernel_rfl), t_same (by kernel_rfl) (by kernel_rfl), t_same (by kernel_rfl) (by kernel_rfl), trivial⟩))
    · refine awp_false (by kernel_rfl) h24 ?_
      refine awp_skip ?_
      refine awp_seq ?_
      obtain ⟨vy9, h25, hF⟩ := bind_some hF
      refine awp_region' 3 7003 (by kernel_rfl) (by kernel_rfl) ?_
      refine aops_eff hΓ (.v (.one (.d (.lst (List.map api_Sample.enc qx))))) [] [] (by kernel_rfl) ?_
      refine aops_eff hΓ (.v (.one (.d (.int .i64 vx17_1)))) [] [] (by kernel_rfl) ?_
      refine aops_eff hΓ (.v (.one (.d (.int .i64 (IntKind.wrap .i64 (vx17_1 + 1)))))) [] [] (by kernel_rfl) ?_
      refine aops_eff hΓ (.v (.one (.cp [.str vy9.Device, .str vy9.Metric, .int .i64 vy9.At, .int .i64 vy9.Value]))) [] [] (opx_of (by kernel_rfl) (by kernel_rfl) (eff_indexAddr (k := .i64) (ti := ti26) (te := ti42) (l := qx) (f := api_Sample.enc) (y := vy9) (by kernel_rfl) rfl (by kernel_rfl) (by kernel_rfl) (by kernel_rfl) h25 (by kernel_rfl))) ?_
      refine aops_eff hΓ (.v (.agg [.d (.str vy9.Device), .d (.str vy9.Metric), .d (.int .i64 vy9.At), .d (.int .i64 vy9.Value)])) [] [] (by kernel_rfl) ?_
      refine aops_eff hΓ (.v (.one (.box 5003 0))) [] [(5003, some [.d (.str ([] : List UInt8)), .d (.str ([] : List UInt8)), .d (.int .i64 0), .d (.int .i64 0)])] (by kernel_rfl) ?_
      refine aops_eff hΓ (.undef) [] [(5003, some [.d (.str vy9.Device), .d (.str vy9.Metric), .d (.int .i64 vy9.At), .d (.int .i64 vy9.Value)])] (by kernel_rfl) ?_
      refine aops_nil ?_
      obtain ⟨vr3, h26, hF⟩ := bind_some hF
      refine awp_region_any' hm 7003 28003 [(some ⟨.v (.one (.box 2 3)), [], [], []⟩, [2]), (some ⟨.v (.one (.d (.int .i64 vy7.Value))), [], [], []⟩, [2]), (some ⟨.v (.one (.box 5003 3)), [], [], []⟩, [5003]), (some ⟨.v (.one (.d (.int .i64 vy9.Value))), [], [], []⟩, [5003]), (some ⟨.v (.one (.box 2 3)), [], [], []⟩, [2]), (some ⟨.v (.one (.d (.int .i64 vy7.Value))), [], [], []⟩, [2]), (some ⟨.v (.one (.d (.int .i64 (IntKind.wrap .i64 (vy9.Value - vy7.Value))))), [], [], []⟩, []), (some ⟨.v (.one (.d (.int .i64 vx4))), [], [], []⟩, []), (some ⟨.v (.one (.box 2 2)), [], [], []⟩, [2]), (some ⟨.v (.one (.d (.int .i64 vy7.At))), [], [], []⟩, [2]), (some ⟨.v (.one (.d (.int .i64 (IntKind.wrap .i64 (vx4 - vy7.At))))), [], [], []⟩, []), (some ⟨.v (.one (.d (.int .i64 (IntKind.wrap .i64 ((IntKind.wrap .i64 (vy9.Value - vy7.Value)) * (IntKind.wrap .i64 (vx4 - vy7.At))))))), [], [], []⟩, []), (some ⟨.v (.one (.box 5003 2)), [], [], []⟩, [5003]), (some ⟨.v (.one (.d (.int .i64 vy9.At))), [], [], []⟩, [5003]), (some ⟨.v (.one (.box 2 2)), [], [], []⟩, [2]), (some ⟨.v (.one (.d (.int .i64 vy7.At))), [], [], []⟩, [2]), (some ⟨.v (.one (.d (.int .i64 (IntKind.wrap .i64 (vy9.At - vy7.At))))), [], [], []⟩, []), (some ⟨.v (.one (.d (.int .i64 vr3))), [], [], []⟩, []), (some ⟨.v (.one (.d (.int .i64 (IntKind.wrap .i64 (vy7.Value + vr3))))), [], [], []⟩, []), (some ⟨.v (.one (.box 2 3)), [], [], []⟩, [2]), (some ⟨.undef, [], [(2, some [.d (.str vy7.Device), .d (.str vy7.Metric), .d (.int .i64 vy7.At), .d (.int .i64 (IntKind.wrap .i64 (vy7.Value + vr3)))])], []⟩, [2])] [[], [0], [], [2], [], [4], [2, 3, 4, 5], [], [], [8], [7, 8, 9], [2, 3, 4, 5, 6, 7, 8, 9, 10], [], [12], [], [14], [12, 13, 14, 15], [2, 3, 4, 5, 6, 7, 8, 9, 10, 11, 12, 13, 14, 15, 16], [0, 1, 2, 3, 4, 5, 6, 7, 8, 9, 10, 11, 12, 13, 14, 15, 16, 17], [0, 1, 2, 3, 4, 5, 6, 7, 8, 9, 10, 11, 12, 13, 14, 15, 16, 17, 18], [0, 1, 2, 3, 4, 5, 6, 7, 8, 9, 10, 11, 12, 13, 14, 15, 16, 17, 18, 19]] (by kernel_rfl) (by kernel_rfl) (by kernel_rfl) (by kernel_rfl) ?_
      refine And.intro (step_eff hΓ (.v (.one (.box 2 3))) [] [] (by kernel_rfl) (by kernel_rfl)) ?_
      refine And.intro (step_eff hΓ (.v (.one (.d (.int .i64 vy7.Value)))) [] [] (by kernel_rfl) (by kernel_rfl)) ?_
      refine And.intro (step_eff hΓ (.v (.one (.box 5003 3))) [] [] (by kernel_rfl) (by kernel_rfl)) ?_
      refine And.intro (step_eff hΓ (.v (.one (.d (.int .i64 vy9.Value)))) [] [] (by kernel_rfl) (by kernel_rfl)) ?_
      refine And.intro (step_eff hΓ (.v (.one (.box 2 3))) [] [] (by kernel_rfl) (by kernel_rfl)) ?_
      refine And.intro (step_eff hΓ (.v (.one (.d (.int .i64 vy7.Value)))) [] [] (by kernel_rfl) (by kernel_rfl)) ?_
      refine And.intro (step_eff hΓ (.v (.one (.d (.int .i64 (IntKind.wrap .i64 (vy9.Value - vy7.Value)))))) [] [] (by kernel_rfl) (by kernel_rfl)) ?_
      refine And.intro (step_eff hΓ (.v (.one (.d (.int .i64 vx4)))) [] [] (by kernel_rfl) (by kernel_rfl)) ?_
      refine And.intro (step_eff hΓ (.v (.one (.box 2 2))) [] [] (by kernel_rfl) (by kernel_rfl)) ?_
      refine And.intro (step_eff hΓ (.v (.one (.d (.int .i64 vy7.At)))) [] [] (by kernel_rfl) (by kernel_rfl)) ?_
      refine And.intro (step_eff hΓ (.v (.one (.d (.int .i64 (IntKind.wrap .i64 (vx4 - vy7.At)))))) [] [] (by kernel_rfl) (by kernel_rfl)) ?_
      refine And.intro (step_eff hΓ (.v (.one (.d (.int .i64 (IntKind.wrap .i64 ((IntKind.wrap .i64 (vy9.Value - vy7.Value)) * (IntKind.wrap .i64 (vx4 - vy7.At)))))))) [] [] (by kernel_rfl) (by kernel_rfl)) ?_
      refine And.intro (step_eff hΓ (.v (.one (.box 5003 2))) [] [] (by kernel_rfl) (by kernel_rfl)) ?_
      refine And.intro (step_eff hΓ (.v (.one (.d (.int .i64 vy9.At)))) [] [] (by kernel_rfl) (by kernel_rfl)) ?_
      refine And.intro (step_eff hΓ (.v (.one (.box 2 2))) [] [] (by kernel_rfl) (by kernel_rfl)) ?_
      refine And.intro (step_eff hΓ (.v (.one (.d (.int .i64 vy7.At)))) [] [] (by kernel_rfl) (by kernel_rfl)) ?_
      refine And.intro (step_eff hΓ (.v (.one (.d (.int .i64 (IntKind.wrap .i64 (vy9.At - vy7.At)))))) [] [] (by kernel_rfl) (by kernel_rfl)) ?_
      refine And.intro (step_call (by kernel_rfl) (by kernel_rfl) (stable_call (f := (.func 115)) (g := 115) (caps := []) (tvs := [.v (.one (.d (.int .i64 (IntKind.wrap .i64 ((IntKind.wrap .i64 (vy9.Value - vy7.Value)) * (IntKind.wrap .i64 (vx4 - vy7.At))))))), .v (.one (.d (.int .i64 (IntKind.wrap .i64 (vy9.At - vy7.At)))))]) (al := [.v (.one (.d (.int .i64 (IntKind.wrap .i64 ((IntKind.wrap .i64 (vy9.Value - vy7.Value)) * (IntKind.wrap .i64 (vx4 - vy7.At))))))), .v (.one (.d (.int .i64 (IntKind.wrap .i64 (vy9.At - vy7.At)))))]) (m := ⟨[], []⟩) (m' := ⟨[], []⟩) (tv := .v (.one (.d (.int .i64 vr3)))) (lens := []) rfl (by kernel_rfl) (by kernel_rfl) (sees_of (rl := []) (nl := []) (by kernel_rfl) trivial trivial) (⟨t_same (by kernel_rfl) (by kernel_rfl), t_same (by kernel_rfl) (by kernel_rfl), trivial⟩) (base_Down_ok _ _ _ h26) (left_of (by kernel_rfl)) (by kernel_rfl)) (.v (.one (.d (.int .i64 vr3)))) [] [] (by kernel_rfl)) ?_
      refine And.intro (step_eff hΓ (.v (.one (.d (.int .i64 (IntKind.wrap .i64 (vy7.Value + vr3)))))) [] [] (by kernel_rfl) (by kernel_rfl)) ?_
      refine And.intro (step_eff hΓ (.v (.one (.box 2 3))) [] [] (by kernel_rfl) (by kernel_rfl)) ?_
      refine And.intro (step_eff hΓ (.undef) [] [(2, some [.d (.str vy7.Device), .d (.str vy7.Metric), .d (.int .i64 vy7.At), .d (.int .i64 (IntKind.wrap .i64 (vy7.Value + vr3)))])] (by kernel_rfl) (by kernel_rfl)) ?_
      obtain rfl := some_eq hF
      exact out_intro rfl (to_see [] [] ⟨[(1, ⟨42, 4, List.map api_Sample.enc vx2⟩)], [(0, [.d (.int .i64 qx1.From), .d (.int .i64 qx1.To)]), (2, [.d (.str vy7.Device), .d (.str vy7.Metric), .d (.int .i64 vy7.At), .d (.int .i64 (IntKind.wrap .i64 (vy7.Value + vr3)))])]⟩ [(0, .v (.one (.d (.lst (List.map api_Sample.enc qx))))), (2, .v (.one (.d (.int .i64 qx2)))), (3, .v (.one (.d (.int .i64 qx3)))), (5, .v (.one (.box 0 0))), (11, .v (.one (.own 1 none))), (12, .v (.one (.d (.int .i64 vx17_1)))), (13, .v (.one (.d (.int .i64 vx4)))), (14, .v (.one (.box 2 0)))] 3 (by kernel_rfl) (by kernel_rfl) (lowc_of (by kernel_rfl)) (⟨.inr ⟨by kernel_rfl, by kernel_rfl⟩, trivial⟩) (⟨⟨by kernel_rfl, [.d (.int .i64 qx1.From), .d (.int .i64 qx1.To)], by kernel_rfl, l2_same (by kernel_rfl) (by kernel_rfl)⟩, ⟨by kernel_rfl, [.d (.str vy7.Device), .d (.str vy7.Metric), .d (.int .i64 vy7.At), .d (.int .i64 (IntKind.wrap .i64 (vy7.Value + vr3)))], by kernel_rfl, l2_same (by kernel_rfl) (by kernel_rfl)⟩, trivial⟩) (⟨t_same (by kernel_rfl) (by kernel_rfl), t_same (by kernel_rfl) (by kernel_rfl), t_same (by kernel_rfl) (by kernel_rfl), t_same (by kernel_rfl) (by kernel_rfl), t_same (by kernel_rfl) (by kernel_rfl), t_same (by kernel_rfl) (by kernel_rfl), t_same (by kernel_rfl) (by kernel_rfl), t_same (by kernel_rfl) (by kernel_rfl), trivial⟩))
  · refine awp_false (by kernel_rfl) h20 ?_
    refine awp_skip ?_
    obtain rfl := some_eq hF
    exact out_intro rfl (to_see [] [] ⟨[(1, ⟨42, 4, List.map api_Sample.enc vx2⟩)], [(0, [.d (.int .i64 qx1.From), .d (.int .i64 qx1.To)]), (2, [.d (.str vy7.Device), .d (.str vy7.Metric), .d (.int .i64 vy7.At), .d (.int .i64 vy7.Value)])]⟩ [(0, .v (.one (.d (.lst (List.map api_Sample.enc qx))))), (2, .v (.one (.d (.int .i64 qx2)))), (3, .v (.one (.d (.int .i64 qx3)))), (5, .v (.one (.box 0 0))), (11, .v (.one (.own 1 none))), (12, .v (.one (.d (.int .i64 vx17_1)))), (13, .v (.one (.d (.int .i64 vx4)))), (14, .v (.one (.box 2 0)))] 3 (by kernel_rfl) (by kernel_rfl) (lowc_of (by kernel_rfl)) (⟨.inr ⟨by kernel_rfl, by kernel_rfl⟩, trivial⟩) (⟨⟨by kernel_rfl, [.d (.int .i64 qx1.From), .d (.int .i64 qx1.To)], by kernel_rfl, l2_same (by kernel_rfl) (by kernel_rfl)⟩, ⟨by kernel_rfl, [.d (.str vy7.Device), .d (.str vy7.Metric), .d (.int .i64 vy7.At), .d (.int .i64 vy7.Value)], by kernel_rfl, l2_same (by kernel_rfl) (by kernel_rfl)⟩, trivial⟩) (⟨t_same (by kernel_rfl) (by kernel_rfl), t_same (by kernel_rfl) (by kernel_rfl), t_same (by kernel_rfl) (by kernel_rfl), t_same (by kernel_rfl) (by kernel_rfl), t_same (by kernel_rfl) (by kernel_rfl), t_same (by kernel_rfl) (by kernel_rfl), t_same (by kernel_rfl) (by kernel_rfl), t_same (by kernel_rfl) (by kernel_rfl), trivial⟩))

def series_Fill_x3_k : ((List api_Sample) × Int) → AEx
  | _ => .normal

def series_Fill_x3_S (qx : List api_Sample) (qx1 : api_Window) (qx2 : Int) (qx3 : Int) (vx2 : List api_Sample) (vx3 : Int) (vx4 : Int) : ((List api_Sample) × Int) → St
  | (vx21, vx22) => Mem.st ⟨[(1, ⟨42, 4, List.map api_Sample.enc vx21⟩)], [(0, [.d (.int .i64 qx1.From), .d (.int .i64 qx1.To)])]⟩ (tl [(0, .v (.one (.d (.lst (List.map api_Sample.enc qx))))), (2, .v (.one (.d (.int .i64 qx2)))), (3, .v (.one (.d (.int .i64 qx3)))), (5, .v (.one (.box 0 0))), (11, .v (.one (.own 1 none))), (12, .v (.one (.d (.int .i64 vx22)))), (13, .v (.one (.d (.int .i64 vx4))))]) 2

theorem series_Fill_x3_ok (qx : List api_Sample) (qx1 : api_Window) (qx2 : Int) (qx3 : Int) (vx2 : List api_Sample) (vx3 : Int) (vx4 : Int) (r : ((List api_Sample) × Int)) (hF : series_Fill_x3 qx qx3 vx2 vx3 vx4 = some r) : Awp prog 0 133 (cL (cR (cL (cL (cR (cL (cR (cR (cR (cR (cR (cB f19)))))))))))) (Out 0 series_Fill_x3_k (series_Fill_x3_S qx qx1 qx2 qx3 vx2 vx3 vx4) r) (Mem.st ⟨[(1, ⟨42, 4, List.map api_Sample.enc vx2⟩)], [(0, [.d (.int .i64 qx1.From), .d (.int .i64 qx1.To)])]⟩ (tl [(0, .v (.one (.d (.lst (List.map api_Sample.enc qx))))), (2, .v (.one (.d (.int .i64 qx2)))), (3, .v (.one (.d (.int .i64 qx3)))), (5, .v (.one (.box 0 0))), (11, .v (.one (.own 1 none))), (12, .v (.one (.d (.int .i64 vx3)))), (13, .v (.one (.d (.int .i64 vx4))))]) 2) := by
  unfold series_Fill_x3 at hF
  refine awp_block ?_
  refine awp_seq ?_
  refine awp_block ?_
  refine awp_to (st' := series_Fill_x4_H qx qx1 qx2 qx3 vx2 vx4 vx3) (to_see [] [] ⟨[(1, ⟨42, 4, List.map api_Sample.enc vx2⟩)], [(0, [.d (.int .i64 qx1.From), .d (.int .i64 qx1.To)])]⟩ [(0, .v (.one (.d (.lst (List.map api_Sample.enc qx))))), (2, .v (.one (.d (.int .i64 qx2)))), (3, .v (.one (.d (.int .i64 qx3)))), (5, .v (.one (.box 0 0))), (11, .v (.one (.own 1 none))), (12, .v (.one (.d (.int .i64 vx3)))), (13, .v (.one (.d (.int .i64 vx4))))] 2 (by kernel_rfl) (by kernel_rfl) (lowc_of (by kernel_rfl)) (⟨.inr ⟨by kernel_rfl, by kernel_rfl⟩, trivial⟩) (⟨⟨by kernel_rfl, [.d (.int .i64 qx1.From), .d (.int .i64 qx1.To)], by kernel_rfl, l2_same (by kernel_rfl) (by kernel_rfl)⟩, trivial⟩) (⟨t_same (by kernel_rfl) (by kernel_rfl), t_same (by kernel_rfl) (by kernel_rfl), t_same (by kernel_rfl) (by kernel_rfl), t_same (by kernel_rfl) (by kernel_rfl), t_same (by kernel_rfl) (by kernel_rfl), t_same (by kernel_rfl) (by kernel_rfl), t_same (by kernel_rfl) (by kernel_rfl), trivial⟩)) ?_
  obtain ⟨vx17_1, h15, hF⟩ := bind_some hF
  refine awp_sub (awp_loop' (series_Fill_x4_H qx qx1 qx2 qx3 vx2 vx4) series_Fill_x4_k (series_Fill_x4_S qx qx1 qx2 qx3 vx2 vx4) (by intro x; exact fun h => nomatch h) h15 (series_Fill_x4_ok qx qx1 qx2 qx3 vx2 vx4)) ?_
  refine awp_seq ?_
  refine awp_seq ?_
  refine awp_region' 2 2002 (by kernel_rfl) (by kernel_rfl) ?_
  refine aops_eff hΓ (.v (.one (.d (.int .i64 vx17_1)))) [] [] (by kernel_rfl) ?_
  refine aops_eff hΓ (.v (.one (.d (.bool (decide (vx17_1 < 0)))))) [] [] (by kernel_rfl) ?_
  refine aops_nil ?_
  rcases cond_or hF with ⟨h16, hF⟩ | ⟨h16, hF⟩
  · refine awp_true (by kernel_rfl) h16 ?_
    refine awp_exit ?_
    obtain rfl := some_eq hF
    exact out_intro rfl (to_see [] [] ⟨[(1, ⟨42, 4, List.map api_Sample.enc vx2⟩)], [(0, [.d (.int .i64 qx1.From), .d (.int .i64 qx1.To)])]⟩ [(0, .v (.one (.d (.lst (List.map api_Sample.enc qx))))), (2, .v (.one (.d (.int .i64 qx2)))), (3, .v (.one (.d (.int .i64 qx3)))), (5, .v (.one (.box 0 0))), (11, .v (.one (.own 1 none))), (12, .v (.one (.d (.int .i64 vx17_1)))), (13, .v (.one (.d (.int .i64 vx4))))] 2 (by kernel_rfl) (by kernel_rfl) (lowc_of (by kernel_rfl)) (⟨.inr ⟨by kernel_rfl, by kernel_rfl⟩, trivial⟩) (⟨⟨by kernel_rfl, [.d (.int .i64 qx1.From), .d (.int .i64 qx1.To)], by kernel_rfl, l2_same (by kernel_rfl) (by kernel_rfl)⟩, trivial⟩) (⟨t_same (by kernel_rfl) (by kernel_rfl), t_same (by kernel_rfl) (by kernel_rfl), t_same (by kernel_rfl) (by kernel_rfl), t_same (by kernel_rfl) (by kernel_rfl), t_same (by kernel_rfl) (by kernel_rfl), t_same (by kernel_rfl) (by kernel_rfl), t_same (by kernel_rfl) (by kernel_rfl), trivial⟩))
  · refine awp_false (by kernel_rfl) h16 ?_
    refine awp_skip ?_
    refine awp_seq ?_
    obtain ⟨vy7, h17, hF⟩ := bind_some hF
    refine awp_region' 2002 8002 (by kernel_rfl) (by kernel_rfl) ?_
    refine aops_eff hΓ (.v (.one (.d (.lst (List.map api_Sample.enc qx))))) [] [] (by kernel_rfl) ?_
    refine aops_eff hΓ (.v (.one (.d (.int .i64 vx17_1)))) [] [] (by kernel_rfl) ?_
    refine aops_eff hΓ (.v (.one (.cp [.str vy7.Device, .str vy7.Metric, .int .i64 vy7.At, .int .i64 vy7.Value]))) [] [] (opx_of (by kernel_rfl) (by kernel_rfl) (eff_indexAddr (k := .i64) (ti := ti26) (te := ti42) (l := qx) (f := api_Sample.enc) (y := vy7) (by kernel_rfl) rfl (by kernel_rfl) (by kernel_rfl) (by kernel_rfl) h17 (by kernel_rfl))) ?_
    refine aops_eff hΓ (.v (.agg [.d (.str vy7.Device), .d (.str vy7.Metric), .d (.int .i64 vy7.At), .d (.int .i64 vy7.Value)])) [] [] (by kernel_rfl) ?_
    refine aops_eff hΓ (.v (.one (.box 6002 0))) [] [(6002, some [.d (.str ([] : List UInt8)), .d (.str ([] : List UInt8)), .d (.int .i64 0), .d (.int .i64 0)])] (by kernel_rfl) ?_
    refine aops_eff hΓ (.undef) [] [(6002, some [.d (.str vy7.Device), .d (.str vy7.Metric), .d (.int .i64 vy7.At), .d (.int .i64 vy7.Value)])] (by kernel_rfl) ?_
    refine aops_nil ?_
    refine awp_seq ?_
    refine awp_to (to_see [(2, 6002)] [] ⟨[(1, ⟨42, 4, List.map api_Sample.enc vx2⟩)], [(0, [.d (.int .i64 qx1.From), .d (.int .i64 qx1.To)]), (2, [.d (.str vy7.Device), .d (.str vy7.Metric), .d (.int .i64 vy7.At), .d (.int .i64 vy7.Value)])]⟩ [(0, .v (.one (.d (.lst (List.map api_Sample.enc qx))))), (2, .v (.one (.d (.int .i64 qx2)))), (3, .v (.one (.d (.int .i64 qx3)))), (5, .v (.one (.box 0 0))), (11, .v (.one (.own 1 none))), (12, .v (.one (.d (.int .i64 vx17_1)))), (13, .v (.one (.d (.int .i64 vx4)))), (14, .v (.one (.box 2 0)))] 3 (by kernel_rfl) (by kernel_rfl) (lowc_of (by kernel_rfl)) (⟨.inr ⟨by kernel_rfl, by kernel_rfl⟩, trivial⟩) (⟨⟨by kernel_rfl, [.d (.int .i64 qx1.From), .d (.int .i64 qx1.To)], by kernel_rfl, l2_same (by kernel_rfl) (by kernel_rfl)⟩, ⟨by kernel_rfl, [.d (.str vy7.Device), .d (.str vy7.Metric), .d (.int .i64 vy7.At), .d (.int .i64 vy7.Value)], by kernel_rfl, l2_same (by kernel_rfl) (by kernel_rfl)⟩, trivial⟩) (⟨t_same (by kernel_rfl) (by kernel_rfl), t_same (by kernel_rfl) (by kernel_rfl), t_same (by kernel_rfl) (by kernel_rfl), t_same (by kernel_rfl) (by kernel_rfl), t_same (by kernel_rfl) (by kernel_rfl), t_same (by kernel_rfl) (by kernel_rfl), t_same (by kernel_rfl) (by kernel_rfl), t_same (by kernel_rfl) (by kernel_rfl), trivial⟩)) ?_
    obtain ⟨(vx20_1 | _), h27, hF⟩ := bind_some hF
    · refine awp_sub (series_Fill_x6_ok qx qx1 qx2 qx3 vx2 vx4 vx17_1 vy7 _ h27) ?_
      refine awp_seq ?_
      refine awp_region' 3 3003 (by kernel_rfl) (by kernel_rfl) ?_
      refine aops_eff hΓ (.v (.one (.d (.int .i64 vx4)))) [] [] (by kernel_rfl) ?_
      refine aops_eff hΓ (.v (.one (.box 2 2))) [] [] (by kernel_rfl) ?_
      refine aops_eff hΓ (.undef) [] [(2, some [.d (.str vx20_1.Device), .d (.str vx20_1.Metric), .d (.int .i64 vx4), .d (.int .i64 vx20_1.Value)])] (by kernel_rfl) ?_
      refine aops_nil ?_
      obtain ⟨h28, hF⟩ := gd_some hF
      refine awp_region' 3003 8003 (by kernel_rfl) (by kernel_rfl) ?_
      refine aops_eff hΓ (.v (.one (.own 1 none))) [] [] (by kernel_rfl) ?_
      refine aops_eff hΓ (.v (.agg [.d (.str vx20_1.Device), .d (.str vx20_1.Metric), .d (.int .i64 vx4), .d (.int .i64 vx20_1.Value)])) [] [] (by kernel_rfl) ?_
      refine aops_eff hΓ (.v (.one (.own 5003 none))) [(5003, some ⟨42, 4, List.map api_Sample.enc ([api_Sample.mk vx20_1.Device vx20_1.Metric vx4 vx20_1.Value] : List api_Sample)⟩)] [] (by kernel_rfl) ?_
      refine aops_eff hΓ (.v (.one (.own 6003 none))) [(1, none), (6003, some ⟨42, 4, List.map api_Sample.enc (vx2 ++ ([api_Sample.mk vx20_1.Device vx20_1.Metric vx4 vx20_1.Value] : List api_Sample))⟩)] [] (opx_of (by kernel_rfl) (by kernel_rfl) (eff_append (ti := ti26) (te := ti42) (tv := .v (.one (.own 5003 none))) (id := 1) (l := vx2) (ys := ([api_Sample.mk vx20_1.Device vx20_1.Metric vx4 vx20_1.Value] : List api_Sample)) (us := [5003]) (f := api_Sample.enc) (by kernel_rfl) rfl (by kernel_rfl) (by kernel_rfl) (by kernel_rfl) (by kernel_rfl) (by kernel_rfl) (fun _ => rfl) ⟨Nat.zero_lt_succ _, Nat.le_of_ble_eq_true (by kernel_rfl), Nat.zero_lt_succ _⟩ h28)) ?_
      refine aops_eff hΓ (.v (.one (.own 6003 none))) [] [] (by kernel_rfl) ?_
      refine aops_nil ?_
      obtain rfl := some_eq hF
      exact out_intro rfl (to_see [(1, 6003)] [] ⟨[(1, ⟨42, 4, List.map api_Sample.enc (vx2 ++ ([api_Sample.mk vx20_1.Device vx20_1.Metric vx4 vx20_1.Value] : List api_Sample))⟩)], [(0, [.d (.int .i64 qx1.From), .d (.int .i64 qx1.To)])]⟩ [(0, .v (.one (.d (.lst (List.map api_Sample.enc qx))))), (2, .v (.one (.d (.int .i64 qx2)))), (3, .v (.one (.d (.int .i64 qx3)))), (5, .v (.one (.box 0 0))), (11, .v (.one (.own 1 none))), (12, .v (.one (.d (.int .i64 vx17_1)))), (13, .v (.one (.d (.int .i64 vx4))))] 2 (by kernel_rfl) (by kernel_rfl) (lowc_of (by kernel_rfl)) (⟨.inr ⟨by kernel_rfl, by kernel_rfl⟩, trivial⟩) (⟨⟨by kernel_rfl, [.d (.int .i64 qx1.From), .d (.int .i64 qx1.To)], by kernel_rfl, l2_same (by kernel_rfl) (by kernel_rfl)⟩, trivial⟩) (⟨t_same (by kernel_rfl) (by kernel_rfl), t_same (by kernel_rfl) (by kernel_rfl), t_same (by kernel_rfl) (by kernel_rfl), t_same (by kernel_rfl) (by kernel_rfl), t_same (by kernel_rfl) (by kernel_rfl), t_same (by kernel_rfl) (by kernel_rfl), t_same (by kernel_rfl) (by kernel_rfl), trivial⟩))
    · refine awp_sub (series_Fill_x6_ok qx qx1 qx2 qx3 vx2 vx4 vx17_1 vy7 _ h27) ?_
      obtain rfl := some_eq hF
      exact out_intro rfl (to_see [] [] ⟨[(1, ⟨42, 4, List.map api_Sample.enc vx2⟩)], [(0, [.d (.int .i64 qx1.From), .d (.int .i64 qx1.To)])]⟩ [(0, .v (.one (.d (.lst (List.map api_Sample.enc qx))))), (2, .v (.one (.d (.int .i64 qx2)))), (3, .v (.one (.d (.int .i64 qx3)))), (5, .v (.one (.box 0 0))), (11, .v (.one (.own 1 none))), (12, .v (.one (.d (.int .i64 vx17_1)))), (13, .v (.one (.d (.int .i64 vx4))))] 2 (by kernel_rfl) (by kernel_rfl) (lowc_of (by kernel_rfl)) (⟨.inr ⟨by kernel_rfl, by kernel_rfl⟩, trivial⟩) (⟨⟨by kernel_rfl, [.d (.int .i64 qx1.From), .d (.int .i64 qx1.To)], by kernel_rfl, l2_same (by kernel_rfl) (by kernel_rfl)⟩, trivial⟩) (⟨t_same (by kernel_rfl) (by kernel_rfl), t_same (by kernel_rfl) (by kernel_rfl), t_same (by kernel_rfl) (by kernel_rfl), t_same (by kernel_rfl) (by kernel_rfl), t_same (by kernel_rfl) (by kernel_rfl), t_same (by kernel_rfl) (by kernel_rfl), t_same (by kernel_rfl) (by kernel_rfl), trivial⟩))

def series_Fill_x2_k : (List api_Sample) → AEx
  | _ => .exit 1

def series_Fill_x2_S (qx : List api_Sample) (qx1 : api_Window) (qx2 : Int) (qx3 : Int) : (List api_Sample) → St
  | vx23 => Mem.st ⟨[(0, ⟨42, 4, List.map api_Sample.enc vx23⟩)], []⟩ (tl [(11, .v (.one (.own 0 none)))]) 1

def series_Fill_x2_H (qx : List api_Sample) (qx1 : api_Window) (qx2 : Int) (qx3 : Int) : (List api_Sample) × Int × Int → St
  | (vx2, vx3, vx4) => Mem.st ⟨[(1, ⟨42, 4, List.map api_Sample.enc vx2⟩)], [(0, [.d (.int .i64 qx1.From), .d (.int .i64 qx1.To)])]⟩ (tl [(0, .v (.one (.d (.lst (List.map api_Sample.enc qx))))), (2, .v (.one (.d (.int .i64 qx2)))), (3, .v (.one (.d (.int .i64 qx3)))), (5, .v (.one (.box 0 0))), (11, .v (.one (.own 1 none))), (12, .v (.one (.d (.int .i64 vx3)))), (13, .v (.one (.d (.int .i64 vx4))))]) 2

theorem series_Fill_x2_ok (qx : List api_Sample) (qx1 : api_Window) (qx2 : Int) (qx3 : Int) (s : (List api_Sample) × Int × Int) (r : ((List api_Sample) × Int × Int) ⊕ ((List api_Sample))) (hF : series_Fill_x2 qx qx1 qx2 qx3 s = some r) : Awp prog 0 133 (cL (cL (cR (cL (cR (cR (cR (cR (cR (cB f19)))))))))) (Out 0 (kk series_Fill_x2_k) (SS (series_Fill_x2_H qx qx1 qx2 qx3) (series_Fill_x2_S qx qx1 qx2 qx3)) r) (series_Fill_x2_H qx qx1 qx2 qx3 s) := by
  obtain ⟨vx2, vx3, vx4⟩ := s
  unfold series_Fill_x2 at hF
  refine awp_seq ?_
  refine awp_seq ?_
  refine awp_region' 2 4002 (by kernel_rfl) (by kernel_rfl) ?_
  refine aops_eff hΓ (.v (.one (.d (.int .i64 vx4)))) [] [] (by kernel_rfl) ?_
  refine aops_eff hΓ (.v (.one (.box 0 1))) [] [] (by kernel_rfl) ?_
  refine aops_eff hΓ (.v (.one (.d (.int .i64 qx1.To)))) [] [] (by kernel_rfl) ?_
  refine aops_eff hΓ (.v (.one (.d (.bool (decide (vx4 < qx1.To)))))) [] [] (by kernel_rfl) ?_
  refine aops_nil ?_
  rcases cond_or hF with ⟨h10, hF⟩ | ⟨h10, hF⟩
  · refine awp_true (by kernel_rfl) h10 ?_
    refine awp_skip ?_
    refine awp_seq ?_
    refine awp_to (to_see [] [] ⟨[(1, ⟨42, 4, List.map api_Sample.enc vx2⟩)], [(0, [.d (.int .i64 qx1.From), .d (.int .i64 qx1.To)])]⟩ [(0, .v (.one (.d (.lst (List.map api_Sample.enc qx))))), (2, .v (.one (.d (.int .i64 qx2)))), (3, .v (.one (.d (.int .i64 qx3)))), (5, .v (.one (.box 0 0))), (11, .v (.one (.own 1 none))), (12, .v (.one (.d (.int .i64 vx3)))), (13, .v (.one (.d (.int .i64 vx4))))] 2 (by kernel_rfl) (by kernel_rfl) (lowc_of (by kernel_rfl)) (⟨.inr ⟨by kernel_rfl, by kernel_rfl⟩, trivial⟩) (⟨⟨by kernel_rfl, [.d (.int .i64 qx1.From), .d (.int .i64 qx1.To)], by kernel_rfl, l2_same (by kernel_rfl) (by kernel_rfl)⟩, trivial⟩) (⟨t_same (by kernel_rfl) (by kernel_rfl), t_same (by kernel_rfl) (by kernel_rfl), t_same (by kernel_rfl) (by kernel_rfl), t_same (by kernel_rfl) (by kernel_rfl), t_same (by kernel_rfl) (by kernel_rfl), t_same (by kernel_rfl) (by kernel_rfl), t_same (by kernel_rfl) (by kernel_rfl), trivial⟩)) ?_
    obtain ⟨⟨vx21_1, vx22_1⟩, h29, hF⟩ := bind_some hF
    refine awp_sub (series_Fill_x3_ok qx qx1 qx2 qx3 vx2 vx3 vx4 _ h29) ?_
    refine awp_region' 2 4002 (by kernel_rfl) (by kernel_rfl) ?_
    refine aops_eff hΓ (.v (.one (.d (.int .i64 vx4)))) [] [] (by kernel_rfl) ?_
    refine aops_eff hΓ (.v (.one (.d (.int .i64 qx2)))) [] [] (by kernel_rfl) ?_
    refine aops_eff hΓ (.v (.one (.d (.int .i64 (IntKind.wrap .i64 (vx4 + qx2)))))) [] [] (by kernel_rfl) ?_
    refine aops_eff hΓ (.v (.one (.d (.int .i64 (IntKind.wrap .i64 (vx4 + qx2)))))) [] [] (by kernel_rfl) ?_
    refine aops_nil ?_
    obtain rfl := some_eq hF
    exact out_intro rfl (to_see [] [] ⟨[(1, ⟨42, 4, List.map api_Sample.enc vx21_1⟩)], [(0, [.d (.int .i64 qx1.From), .d (.int .i64 qx1.To)])]⟩ [(0, .v (.one (.d (.lst (List.map api_Sample.enc qx))))), (2, .v (.one (.d (.int .i64 qx2)))), (3, .v (.one (.d (.int .i64 qx3)))), (5, .v (.one (.box 0 0))), (11, .v (.one (.own 1 none))), (12, .v (.one (.d (.int .i64 vx22_1)))), (13, .v (.one (.d (.int .i64 (IntKind.wrap .i64 (vx4 + qx2))))))] 2 (by kernel_rfl) (by kernel_rfl) (lowc_of (by kernel_rfl)) (⟨.inr ⟨by kernel_rfl, by kernel_rfl⟩, trivial⟩) (⟨⟨by kernel_rfl, [.d (.int .i64 qx1.From), .d (.int .i64 qx1.To)], by kernel_rfl, l2_same (by kernel_rfl) (by kernel_rfl)⟩, trivial⟩) (⟨t_same (by kernel_rfl) (by kernel_rfl), t_same (by kernel_rfl) (by kernel_rfl), t_same (by kernel_rfl) (by kernel_rfl), t_same (by kernel_rfl) (by kernel_rfl), t_same (by kernel_rfl) (by kernel_rfl), t_same (by kernel_rfl) (by kernel_rfl), t_same (by kernel_rfl) (by kernel_rfl), trivial⟩))
  · refine awp_false (by kernel_rfl) h10 ?_
    refine awp_exit ?_
    obtain rfl := some_eq hF
    exact out_intro rfl (to_see [(0, 1)] [] ⟨[(0, ⟨42, 4, List.map api_Sample.enc vx2⟩)], []⟩ [(11, .v (.one (.own 0 none)))] 1 (by kernel_rfl) (by kernel_rfl) (lowc_of (by kernel_rfl)) (⟨.inr ⟨by kernel_rfl, by kernel_rfl⟩, trivial⟩) trivial (⟨t_same (by kernel_rfl) (by kernel_rfl), trivial⟩))

theorem series_Fill_ok (qx : List api_Sample) (qx1 : api_Window) (qx2 : Int) (qx3 : Int) (r : (List api_Sample) × Int) (hF : series_Fill qx qx1 qx2 qx3 = some r) : Holds prog 19 [.v (.one (.d (.lst (List.map api_Sample.enc qx)))), .v (.agg [.d (.int .i64 qx1.From), .d (.int .i64 qx1.To)]), .v (.one (.d (.int .i64 qx2))), .v (.one (.d (.int .i64 qx3)))] ⟨[], []⟩ (fun tv m => tv = .tup [.one (.own 0 none), .one (.d (.int .i64 r.2))] ∧ m = ⟨[(0, ⟨42, 4, List.map api_Sample.enc r.1⟩)], []⟩) := by
  unfold series_Fill at hF
  refine holds_of_awp hΓ (fn := f19) (c := cB f19) (A := 0) (nx := 0) (by kernel_rfl) (by kernel_rfl) (by kernel_rfl) (by kernel_rfl) (by kernel_rfl) (by kernel_rfl) (lowc_of (by kernel_rfl)) ?_
  show Awp prog 0 133 (cB f19) _ _
  refine awp_seq ?_
  refine awp_region' 0 3000 (by kernel_rfl) (by kernel_rfl) ?_
  refine aops_eff hΓ (.v (.one (.box 0 0))) [] [(0, some [.d (.int .i64 qx1.From), .d (.int .i64 qx1.To)])] (by kernel_rfl) ?_
  refine aops_eff hΓ (.v (.one (.nil))) [] [] (by kernel_rfl) ?_
  refine aops_eff hΓ (.v (.one (.d (.int .i64 0)))) [] [] (by kernel_rfl) ?_
  refine aops_nil ?_
  refine awp_seq ?_
  refine awp_seq ?_
  obtain ⟨vr, h1, hF⟩ := bind_some hF
  refine awp_region' 3000 7000 (by kernel_rfl) (by kernel_rfl) ?_
  refine aops_eff hΓ (.v (.one (.d (.lst (List.map api_Sample.enc qx))))) [] [] (by kernel_rfl) ?_
  refine aops_eff hΓ (.v (.agg [.d (.int .i64 qx1.From), .d (.int .i64 qx1.To)])) [] [] (by kernel_rfl) ?_
  refine aops_call (by kernel_rfl) (by kernel_rfl) (does_call (f := (.func 113)) (g := 113) (caps := []) (tvs := [.v (.one (.d (.lst (List.map api_Sample.enc qx)))), .v (.agg [.d (.int .i64 qx1.From), .d (.int .i64 qx1.To)])]) (al := [.v (.one (.d (.lst (List.map api_Sample.enc qx)))), .v (.agg [.d (.int .i64 qx1.From), .d (.int .i64 qx1.To)])]) (m := ⟨[], []⟩) (m' := ⟨[], []⟩) (tv := .v (.one (.d (.int .i64 vr)))) (lens := []) rfl (by kernel_rfl) (by kernel_rfl) (sees_of (rl := []) (nl := []) (by kernel_rfl) trivial trivial) (⟨t_same (by kernel_rfl) (by kernel_rfl), t_same (by kernel_rfl) (by kernel_rfl), trivial⟩) (series_fault_ok _ _ _ h1) (left_of (by kernel_rfl))) (.v (.one (.d (.int .i64 vr)))) [] [] (by kernel_rfl) ?_
  refine aops_eff hΓ (.v (.one (.d (.int .i64 vr)))) [] [] (by kernel_rfl) ?_
  refine aops_nil ?_
  refine awp_seq ?_
  refine awp_region' 7000 9000 (by kernel_rfl) (by kernel_rfl) ?_
  refine aops_eff hΓ (.v (.one (.d (.int .i64 vr)))) [] [] (by kernel_rfl) ?_
  refine aops_eff hΓ (.v (.one (.d (.bool (!decide (vr = 0)))))) [] [] (by kernel_rfl) ?_
  refine aops_nil ?_
  rcases cond_or hF with ⟨h2, hF⟩ | ⟨h2, hF⟩
  · refine awp_true (by kernel_rfl) h2 ?_
    refine awp_seq ?_
    refine awp_region' 9000 12000 (by kernel_rfl) (by kernel_rfl) ?_
    refine aops_eff hΓ (.v (.one (.d (.int .i64 vr)))) [] [] (by kernel_rfl) ?_
    refine aops_eff hΓ (.v (.one (.nil))) [] [] (by kernel_rfl) ?_
    refine aops_eff hΓ (.v (.one (.d (.int .i64 vr)))) [] [] (by kernel_rfl) ?_
    refine aops_nil ?_
    refine awp_ret ?_
    obtain rfl := some_eq hF
    exact fin_intro (xs := [.one (.nil), .one (.d (.int .i64 vr))]) (m' := ⟨[(0, ⟨42, 4, List.map api_Sample.enc []⟩)], []⟩) (tv := (.tup [.one (.own 0 none), .one (.d (.int .i64 vr))])) (rl := []) (nl := [0]) (by kernel_rfl) (by kernel_rfl) (by kernel_rfl) (sees_of (by kernel_rfl) (⟨.inl ⟨by kernel_rfl, by kernel_rfl, Nat.zero_lt_succ _⟩, trivial⟩) trivial) (t_tup (cs := [.one (.nil), .one (.d (.int .i64 vr))]) (by kernel_rfl) ⟨(see_nilown rfl (by kernel_rfl) (by kernel_rfl)), (see_same (by kernel_rfl) (by kernel_rfl)), trivial⟩) ⟨rfl, rfl⟩
  · refine awp_false (by kernel_rfl) h2 ?_
    refine awp_skip ?_
    refine awp_seq ?_
    refine awp_block ?_
    refine awp_seq ?_
    obtain ⟨vr1, h3, hF⟩ := bind_some hF
    refine awp_region' 9000 12000 (by kernel_rfl) (by kernel_rfl) ?_
    refine aops_eff hΓ (.v (.one (.d (.int .i64 qx2)))) [] [] (by kernel_rfl) ?_
    refine aops_call (by kernel_rfl) (by kernel_rfl) (does_call (f := (.func 114)) (g := 114) (caps := []) (tvs := [.v (.one (.d (.int .i64 qx2))), .v (.one (.d (.int .i64 1))), .v (.one (.d (.int .i64 345686400000)))]) (al := [.v (.one (.d (.int .i64 qx2))), .v (.one (.d (.int .i64 1))), .v (.one (.d (.int .i64 345686400000)))]) (m := ⟨[], []⟩) (m' := ⟨[], []⟩) (tv := .v (.one (.d (.bool vr1)))) (lens := []) rfl (by kernel_rfl) (by kernel_rfl) (sees_of (rl := []) (nl := []) (by kernel_rfl) trivial trivial) (⟨t_same (by kernel_rfl) (by kernel_rfl), t_same (by kernel_rfl) (by kernel_rfl), t_same (by kernel_rfl) (by kernel_rfl), trivial⟩) (base_Out_ok _ _ _ _ h3) (left_of (by kernel_rfl))) (.v (.one (.d (.bool vr1)))) [] [] (by kernel_rfl) ?_
    refine aops_eff hΓ (.v (.one (.d (.bool vr1)))) [] [] (by kernel_rfl) ?_
    refine aops_nil ?_
    rcases cond_or hF with ⟨h4, hF⟩ | ⟨h4, hF⟩
    · refine awp_true (by kernel_rfl) h4 ?_
      refine awp_seq ?_
      refine awp_region' 12000 14000 (by kernel_rfl) (by kernel_rfl) ?_
      refine aops_eff hΓ (.v (.one (.nil))) [] [] (by kernel_rfl) ?_
      refine aops_eff hΓ (.v (.one (.d (.int .i64 1)))) [] [] (by kernel_rfl) ?_
      refine aops_nil ?_
      refine awp_ret ?_
      obtain rfl := some_eq hF
      exact fin_intro (xs := [.one (.nil), .one (.d (.int .i64 1))]) (m' := ⟨[(0, ⟨42, 4, List.map api_Sample.enc []⟩)], []⟩) (tv := (.tup [.one (.own 0 none), .one (.d (.int .i64 1))])) (rl := []) (nl := [0]) (by kernel_rfl) (by kernel_rfl) (by kernel_rfl) (sees_of (by kernel_rfl) (⟨.inl ⟨by kernel_rfl, by kernel_rfl, Nat.zero_lt_succ _⟩, trivial⟩) trivial) (t_tup (cs := [.one (.nil), .one (.d (.int .i64 1))]) (by kernel_rfl) ⟨(see_nilown rfl (by kernel_rfl) (by kernel_rfl)), (see_same (by kernel_rfl) (by kernel_rfl)), trivial⟩) ⟨rfl, rfl⟩
    · refine awp_false (by kernel_rfl) h4 ?_
      refine awp_seq ?_
      refine awp_to (to_see [] [] ⟨[], [(0, [.d (.int .i64 qx1.From), .d (.int .i64 qx1.To)])]⟩ [(0, .v (.one (.d (.lst (List.map api_Sample.enc qx))))), (2, .v (.one (.d (.int .i64 qx2)))), (3, .v (.one (.d (.int .i64 qx3)))), (5, .v (.one (.box 0 0)))] 1 (by kernel_rfl) (by kernel_rfl) (lowc_of (by kernel_rfl)) trivial (⟨⟨by kernel_rfl, [.d (.int .i64 qx1.From), .d (.int .i64 qx1.To)], by kernel_rfl, l2_same (by kernel_rfl) (by kernel_rfl)⟩, trivial⟩) (⟨t_same (by kernel_rfl) (by kernel_rfl), t_same (by kernel_rfl) (by kernel_rfl), t_same (by kernel_rfl) (by kernel_rfl), t_same (by kernel_rfl) (by kernel_rfl), trivial⟩)) ?_
      obtain ⟨vx1, h6, hF⟩ := bind_some hF
      refine awp_sub (series_Fill_x1_ok qx qx1 qx2 qx3 _ h6) ?_
      rcases cond_or hF with ⟨h7, hF⟩ | ⟨h7, hF⟩
      · refine awp_true (by kernel_rfl) h7 ?_
        refine awp_seq ?_
        refine awp_region' 1 2001 (by kernel_rfl) (by kernel_rfl) ?_
        refine aops_eff hΓ (.v (.one (.nil))) [] [] (by kernel_rfl) ?_
        refine aops_eff hΓ (.v (.one (.d (.int .i64 4)))) [] [] (by kernel_rfl) ?_
        refine aops_nil ?_
        refine awp_ret ?_
        obtain rfl := some_eq hF
        exact fin_intro (xs := [.one (.nil), .one (.d (.int .i64 4))]) (m' := ⟨[(0, ⟨42, 4, List.map api_Sample.enc []⟩)], []⟩) (tv := (.tup [.one (.own 0 none), .one (.d (.int .i64 4))])) (rl := []) (nl := [0]) (by kernel_rfl) (by kernel_rfl) (by kernel_rfl) (sees_of (by kernel_rfl) (⟨.inl ⟨by kernel_rfl, by kernel_rfl, Nat.zero_lt_succ _⟩, trivial⟩) trivial) (t_tup (cs := [.one (.nil), .one (.d (.int .i64 4))]) (by kernel_rfl) ⟨(see_nilown rfl (by kernel_rfl) (by kernel_rfl)), (see_same (by kernel_rfl) (by kernel_rfl)), trivial⟩) ⟨rfl, rfl⟩
      · refine awp_false (by kernel_rfl) h7 ?_
        refine awp_seq ?_
        obtain ⟨h8, hF⟩ := gd_some hF
        refine awp_region' 1 12001 (by kernel_rfl) (by kernel_rfl) ?_
        refine aops_eff hΓ (.v (.one (.box 0 1))) [] [] (by kernel_rfl) ?_
        refine aops_eff hΓ (.v (.one (.d (.int .i64 qx1.To)))) [] [] (by kernel_rfl) ?_
        refine aops_eff hΓ (.v (.one (.box 0 0))) [] [] (by kernel_rfl) ?_
        refine aops_eff hΓ (.v (.one (.d (.int .i64 qx1.From)))) [] [] (by kernel_rfl) ?_
        refine aops_eff hΓ (.v (.one (.d (.int .i64 (IntKind.wrap .i64 (qx1.To - qx1.From)))))) [] [] (by kernel_rfl) ?_
        refine aops_eff hΓ (.v (.one (.d (.int .i64 qx2)))) [] [] (by kernel_rfl) ?_
        refine aops_eff hΓ (.v (.one (.d (.int .i64 (IntKind.wrap .i64 ((IntKind.wrap .i64 (qx1.To - qx1.From)) + qx2)))))) [] [] (by kernel_rfl) ?_
        refine aops_eff hΓ (.v (.one (.d (.int .i64 (IntKind.wrap .i64 ((IntKind.wrap .i64 ((IntKind.wrap .i64 (qx1.To - qx1.From)) + qx2)) - 1)))))) [] [] (by kernel_rfl) ?_
        refine aops_eff hΓ (.v (.one (.d (.int .i64 qx2)))) [] [] (by kernel_rfl) ?_
        refine aops_eff hΓ (.v (.one (.d (.int .i64 (IntKind.wrap .i64 ((IntKind.wrap .i64 ((IntKind.wrap .i64 ((IntKind.wrap .i64 (qx1.To - qx1.From)) + qx2)) - 1)).tdiv qx2)))))) [] [] (opx_of (by kernel_rfl) (by kernel_rfl) (eff_quo (ti := ti3) (by kernel_rfl) (by kernel_rfl) (by kernel_rfl) (notB h8))) ?_
        refine aops_eff hΓ (.v (.one (.d (.bool (decide (5000 < (IntKind.wrap .i64 ((IntKind.wrap .i64 ((IntKind.wrap .i64 ((IntKind.wrap .i64 (qx1.To - qx1.From)) + qx2)) - 1)).tdiv qx2)))))))) [] [] (by kernel_rfl) ?_
        refine aops_eff hΓ (.v (.one (.d (.bool (decide (5000 < (IntKind.wrap .i64 ((IntKind.wrap .i64 ((IntKind.wrap .i64 ((IntKind.wrap .i64 (qx1.To - qx1.From)) + qx2)) - 1)).tdiv qx2)))))))) [] [] (by kernel_rfl) ?_
        refine aops_nil ?_
        rcases cond_or hF with ⟨h9, hF⟩ | ⟨h9, hF⟩
        · refine awp_true (by kernel_rfl) h9 ?_
          refine awp_seq ?_
          refine awp_region' 12001 14001 (by kernel_rfl) (by kernel_rfl) ?_
          refine aops_eff hΓ (.v (.one (.nil))) [] [] (by kernel_rfl) ?_
          refine aops_eff hΓ (.v (.one (.d (.int .i64 2)))) [] [] (by kernel_rfl) ?_
          refine aops_nil ?_
          refine awp_ret ?_
          obtain rfl := some_eq hF
          exact fin_intro (xs := [.one (.nil), .one (.d (.int .i64 2))]) (m' := ⟨[(0, ⟨42, 4, List.map api_Sample.enc []⟩)], []⟩) (tv := (.tup [.one (.own 0 none), .one (.d (.int .i64 2))])) (rl := []) (nl := [0]) (by kernel_rfl) (by kernel_rfl) (by kernel_rfl) (sees_of (by kernel_rfl) (⟨.inl ⟨by kernel_rfl, by kernel_rfl, Nat.zero_lt_succ _⟩, trivial⟩) trivial) (t_tup (cs := [.one (.nil), .one (.d (.int .i64 2))]) (by kernel_rfl) ⟨(see_nilown rfl (by kernel_rfl) (by kernel_rfl)), (see_same (by kernel_rfl) (by kernel_rfl)), trivial⟩) ⟨rfl, rfl⟩
        · refine awp_false (by kernel_rfl) h9 ?_
          refine awp_skip ?_
          refine awp_seq ?_
          refine awp_region' 12001 13001 (by kernel_rfl) (by kernel_rfl) ?_
          refine aops_eff hΓ (.v (.one (.nil))) [] [] (by kernel_rfl) ?_
          refine aops_nil ?_
          refine awp_seq ?_
          refine awp_region' 13001 14001 (by kernel_rfl) (by kernel_rfl) ?_
          refine aops_eff hΓ (.v (.one (.d (.int .i64 (-1))))) [] [] (by kernel_rfl) ?_
          refine aops_nil ?_
          refine awp_seq ?_
          refine awp_seq ?_
          refine awp_region' 14001 17001 (by kernel_rfl) (by kernel_rfl) ?_
          refine aops_eff hΓ (.v (.one (.box 0 0))) [] [] (by kernel_rfl) ?_
          refine aops_eff hΓ (.v (.one (.d (.int .i64 qx1.From)))) [] [] (by kernel_rfl) ?_
          refine aops_eff hΓ (.v (.one (.d (.int .i64 qx1.From)))) [] [] (by kernel_rfl) ?_
          refine aops_nil ?_
          refine awp_block ?_
          refine awp_to (st' := series_Fill_x2_H qx qx1 qx2 qx3 ([], (-1), qx1.From)) (to_see [] [1] ⟨[(1, ⟨42, 4, List.map api_Sample.enc []⟩)], [(0, [.d (.int .i64 qx1.From), .d (.int .i64 qx1.To)])]⟩ [(0, .v (.one (.d (.lst (List.map api_Sample.enc qx))))), (2, .v (.one (.d (.int .i64 qx2)))), (3, .v (.one (.d (.int .i64 qx3)))), (5, .v (.one (.box 0 0))), (11, .v (.one (.own 1 none))), (12, .v (.one (.d (.int .i64 (-1))))), (13, .v (.one (.d (.int .i64 qx1.From))))] 2 (by kernel_rfl) (by kernel_rfl) (lowc_of (by kernel_rfl)) (⟨.inl ⟨by kernel_rfl, by kernel_rfl, Nat.zero_lt_succ _⟩, trivial⟩) (⟨⟨by kernel_rfl, [.d (.int .i64 qx1.From), .d (.int .i64 qx1.To)], by kernel_rfl, l2_same (by kernel_rfl) (by kernel_rfl)⟩, trivial⟩) (⟨t_same (by kernel_rfl) (by kernel_rfl), t_same (by kernel_rfl) (by kernel_rfl), t_same (by kernel_rfl) (by kernel_rfl), t_same (by kernel_rfl) (by kernel_rfl), t_cell (c := .nil) (by kernel_rfl) (see_nilown rfl (by kernel_rfl) (by kernel_rfl)), t_same (by kernel_rfl) (by kernel_rfl), t_same (by kernel_rfl) (by kernel_rfl), trivial⟩)) ?_
          obtain ⟨vx23_1, h30, hF⟩ := bind_some hF
          refine awp_sub (awp_loop' (series_Fill_x2_H qx qx1 qx2 qx3) series_Fill_x2_k (series_Fill_x2_S qx qx1 qx2 qx3) (by intro x; exact fun h => nomatch h) h30 (series_Fill_x2_ok qx qx1 qx2 qx3)) ?_
          refine awp_seq ?_
          refine awp_region' 1 3001 (by kernel_rfl) (by kernel_rfl) ?_
          refine aops_eff hΓ (.v (.one (.own 0 none))) [] [] (by kernel_rfl) ?_
          refine aops_eff hΓ (.v (.one (.own 0 none))) [] [] (by kernel_rfl) ?_
          refine aops_eff hΓ (.v (.one (.d (.int .i64 0)))) [] [] (by kernel_rfl) ?_
          refine aops_nil ?_
          refine awp_ret ?_
          obtain rfl := some_eq hF
          exact fin_intro (xs := [.one (.own 0 none), .one (.d (.int .i64 0))]) (m' := ⟨[(0, ⟨42, 4, List.map api_Sample.enc vx23_1⟩)], []⟩) (tv := (.tup [.one (.own 0 none), .one (.d (.int .i64 0))])) (rl := []) (nl := []) (by kernel_rfl) (by kernel_rfl) (by kernel_rfl) (sees_of (by kernel_rfl) (⟨.inr ⟨by kernel_rfl, by kernel_rfl⟩, trivial⟩) trivial) (t_same (by kernel_rfl) (by kernel_rfl)) ⟨rfl, rfl⟩

/-! ### beaconfleet/fleetref2.in -/
def fleetref2_in_x1_k : Bool → AEx
  | _ => .normal

def fleetref2_in_x1_S (qn : Int) (qlow : Int) (qhigh : Int) : Bool → St
  | vx => Mem.st ⟨[], []⟩ (tl [(6, .v (.one (.d (.bool vx))))]) 0

theorem fleetref2_in_x1_ok (qn : Int) (qlow : Int) (qhigh : Int) (r : Bool) (hF : fleetref2_in_x1 qn qlow qhigh = some r) : Awp prog 0 15 (cL (cR (cB f119))) (Out 0 fleetref2_in_x1_k (fleetref2_in_x1_S qn qlow qhigh) r) (Mem.st ⟨[], []⟩ (tl [(0, .v (.one (.d (.int .i64 qn)))), (1, .v (.one (.d (.int .i64 qlow)))), (2, .v (.one (.d (.int .i64 qhigh))))]) 0) := by
  unfold fleetref2_in_x1 at hF
  rcases cond_or hF with ⟨h1, hF⟩ | ⟨h1, hF⟩
  · refine awp_region' 0 9000 (by kernel_rfl) (by kernel_rfl) ?_
    refine aops_eff hΓ (.v (.one (.d (.int .i64 qlow)))) [] [] (by kernel_rfl) ?_
    refine aops_eff hΓ (.v (.one (.d (.int .i64 qn)))) [] [] (by kernel_rfl) ?_
    refine aops_eff hΓ (.v (.one (.d (.bool true)))) [] [] (opx_b (by kernel_rfl) h1) ?_
    refine aops_eff hΓ (.v (.one (.d (.bool true)))) [] [] (by kernel_rfl) ?_
    refine aops_eff hΓ (.v (.one (.d (.int .i64 qn)))) [] [] (by kernel_rfl) ?_
    refine aops_eff hΓ (.v (.one (.d (.int .i64 qhigh)))) [] [] (by kernel_rfl) ?_
    refine aops_eff hΓ (.v (.one (.d (.bool (decide (qn ≤ qhigh)))))) [] [] (by kernel_rfl) ?_
    refine aops_eff hΓ (.v (.one (.d (.bool (decide (qn ≤ qhigh)))))) [] [] (by kernel_rfl) ?_
    refine aops_eff hΓ (.v (.one (.d (.bool (decide (qn ≤ qhigh)))))) [] [] (by kernel_rfl) ?_
    refine aops_nil ?_
    obtain rfl := some_eq hF
    exact out_intro rfl (to_see [] [] ⟨[], []⟩ [(6, .v (.one (.d (.bool (decide (qn ≤ qhigh))))))] 0 (by kernel_rfl) (by kernel_rfl) (lowc_of (by kernel_rfl)) trivial trivial (⟨t_same (by kernel_rfl) (by kernel_rfl), trivial⟩))
  · refine awp_region' 0 9000 (by kernel_rfl) (by kernel_rfl) ?_
    refine aops_eff hΓ (.v (.one (.d (.int .i64 qlow)))) [] [] (by kernel_rfl) ?_
    refine aops_eff hΓ (.v (.one (.d (.int .i64 qn)))) [] [] (by kernel_rfl) ?_
    refine aops_eff hΓ (.v (.one (.d (.bool false)))) [] [] (opx_b (by kernel_rfl) h1) ?_
    refine aops_eff hΓ (.v (.one (.d (.bool false)))) [] [] (by kernel_rfl) ?_
    refine aops_skip' (by kernel_rfl) ?_
    refine aops_skip' (by kernel_rfl) ?_
    refine aops_skip' (by kernel_rfl) ?_
    refine aops_eff hΓ (.v (.one (.d (.bool false)))) [] [] (by kernel_rfl) ?_
    refine aops_eff hΓ (.v (.one (.d (.bool false)))) [] [] (by kernel_rfl) ?_
    refine aops_nil ?_
    obtain rfl := some_eq hF
    exact out_intro rfl (to_see [] [] ⟨[], []⟩ [(6, .v (.one (.d (.bool false))))] 0 (by kernel_rfl) (by kernel_rfl) (lowc_of (by kernel_rfl)) trivial trivial (⟨t_same (by kernel_rfl) (by kernel_rfl), trivial⟩))

theorem fleetref2_in_ok (qn : Int) (qlow : Int) (qhigh : Int) (r : Bool) (hF : fleetref2_in qn qlow qhigh = some r) : Holds prog 119 [.v (.one (.d (.int .i64 qn))), .v (.one (.d (.int .i64 qlow))), .v (.one (.d (.int .i64 qhigh)))] ⟨[], []⟩ (fun tv m => tv = .v (.one (.d (.bool r))) ∧ m = ⟨[], []⟩) := by
  unfold fleetref2_in at hF
  refine holds_of_awp hΓ (fn := f119) (c := cB f119) (A := 0) (nx := 0) (by kernel_rfl) (by kernel_rfl) (by kernel_rfl) (by kernel_rfl) (by kernel_rfl) (by kernel_rfl) (lowc_of (by kernel_rfl)) ?_
  show Awp prog 0 15 (cB f119) _ _
  refine awp_seq ?_
  refine awp_region' 0 1000 (by kernel_rfl) (by kernel_rfl) ?_
  refine aops_eff hΓ (.v (.one (.d (.bool false)))) [] [] (by kernel_rfl) ?_
  refine aops_nil ?_
  refine awp_seq ?_
  refine awp_to (to_see [] [] ⟨[], []⟩ [(0, .v (.one (.d (.int .i64 qn)))), (1, .v (.one (.d (.int .i64 qlow)))), (2, .v (.one (.d (.int .i64 qhigh))))] 0 (by kernel_rfl) (by kernel_rfl) (lowc_of (by kernel_rfl)) trivial trivial (⟨t_same (by kernel_rfl) (by kernel_rfl), t_same (by kernel_rfl) (by kernel_rfl), t_same (by kernel_rfl) (by kernel_rfl), trivial⟩)) ?_
  obtain ⟨vx1, h2, hF⟩ := bind_some hF
  refine awp_sub (fleetref2_in_x1_ok qn qlow qhigh _ h2) ?_
  refine awp_ret ?_
  obtain rfl := some_eq hF
  exact fin_intro (xs := [.one (.d (.bool vx1))]) (m' := ⟨[], []⟩) (tv := (.v (.one (.d (.bool vx1))))) (rl := []) (nl := []) (by kernel_rfl) (by kernel_rfl) (by kernel_rfl) (sees_of (by kernel_rfl) trivial trivial) (t_same (by kernel_rfl) (by kernel_rfl)) ⟨rfl, rfl⟩

/-! ### internal/stringslite.IndexByte -/
theorem stringslite_IndexByte_ok (qs : List UInt8) (qc : Int) (r : Unit) (hF : stringslite_IndexByte qs qc = some r) : Holds prog 247 [.v (.one (.d (.str qs))), .v (.one (.d (.int .u8 qc)))] ⟨[], []⟩ (fun tv m => tv = .v (.one (.d (.int .i64 (Lib.indexByte qs qc.toNat.toUInt8)))) ∧ m = ⟨[], []⟩) := by
  unfold stringslite_IndexByte at hF
  refine holds_of_awp hΓ (fn := f247) (c := cB f247) (A := 0) (nx := 0) (by kernel_rfl) (by kernel_rfl) (by kernel_rfl) (by kernel_rfl) (by kernel_rfl) (by kernel_rfl) (lowc_of (by kernel_rfl)) ?_
  show Awp prog 0 8 (cB f247) _ _
  refine awp_seq ?_
  refine awp_region' 0 1000 (by kernel_rfl) (by kernel_rfl) ?_
  refine aops_eff hΓ (.v (.one (.d (.int .i64 0)))) [] [] (by kernel_rfl) ?_
  refine aops_nil ?_
  refine awp_seq ?_
  refine awp_region' 1000 5000 (by kernel_rfl) (by kernel_rfl) ?_
  refine aops_eff hΓ (.v (.one (.d (.str qs)))) [] [] (by kernel_rfl) ?_
  refine aops_eff hΓ (.v (.one (.d (.int .u8 qc)))) [] [] (by kernel_rfl) ?_
  refine aops_call (by kernel_rfl) (by kernel_rfl) (does_indexByte (g := 264) (fn := f264) (a := qs) (c := qc) rfl (by kernel_rfl) (by kernel_rfl) (by kernel_rfl) (by kernel_rfl) (by kernel_rfl) (by kernel_rfl)) (.v (.one (.d (.int .i64 (Lib.indexByte qs qc.toNat.toUInt8))))) [] [] (by kernel_rfl) ?_
  refine aops_eff hΓ (.v (.one (.d (.int .i64 (Lib.indexByte qs qc.toNat.toUInt8))))) [] [] (by kernel_rfl) ?_
  refine aops_nil ?_
  refine awp_ret ?_
  obtain rfl := some_eq hF
  exact fin_intro (xs := [.one (.d (.int .i64 (Lib.indexByte qs qc.toNat.toUInt8)))]) (m' := ⟨[], []⟩) (tv := (.v (.one (.d (.int .i64 (Lib.indexByte qs qc.toNat.toUInt8)))))) (rl := []) (nl := []) (by kernel_rfl) (by kernel_rfl) (by kernel_rfl) (sees_of (by kernel_rfl) trivial trivial) (t_same (by kernel_rfl) (by kernel_rfl)) ⟨rfl, rfl⟩

/-! ### strings.IndexByte -/
theorem strings_IndexByte_ok (qs : List UInt8) (qc : Int) (r : Unit) (hF : strings_IndexByte qs qc = some r) : Holds prog 215 [.v (.one (.d (.str qs))), .v (.one (.d (.int .u8 qc)))] ⟨[], []⟩ (fun tv m => tv = .v (.one (.d (.int .i64 (Lib.indexByte qs qc.toNat.toUInt8)))) ∧ m = ⟨[], []⟩) := by
  unfold strings_IndexByte at hF
  refine holds_of_awp hΓ (fn := f215) (c := cB f215) (A := 0) (nx := 0) (by kernel_rfl) (by kernel_rfl) (by kernel_rfl) (by kernel_rfl) (by kernel_rfl) (by kernel_rfl) (lowc_of (by kernel_rfl)) ?_
  show Awp prog 0 8 (cB f215) _ _
  refine awp_seq ?_
  refine awp_region' 0 1000 (by kernel_rfl) (by kernel_rfl) ?_
  refine aops_eff hΓ (.v (.one (.d (.int .i64 0)))) [] [] (by kernel_rfl) ?_
  refine aops_nil ?_
  refine awp_seq ?_
  obtain ⟨_, h1, hF⟩ := bind_some hF
  refine awp_region' 1000 5000 (by kernel_rfl) (by kernel_rfl) ?_
  refine aops_eff hΓ (.v (.one (.d (.str qs)))) [] [] (by kernel_rfl) ?_
  refine aops_eff hΓ (.v (.one (.d (.int .u8 qc)))) [] [] (by kernel_rfl) ?_
  refine aops_call (by kernel_rfl) (by kernel_rfl) (does_call (f := (.func 247)) (g := 247) (caps := []) (tvs := [.v (.one (.d (.str qs))), .v (.one (.d (.int .u8 qc)))]) (al := [.v (.one (.d (.str qs))), .v (.one (.d (.int .u8 qc)))]) (m := ⟨[], []⟩) (m' := ⟨[], []⟩) (tv := .v (.one (.d (.int .i64 (Lib.indexByte qs qc.toNat.toUInt8))))) (lens := []) rfl (by kernel_rfl) (by kernel_rfl) (sees_of (rl := []) (nl := []) (by kernel_rfl) trivial trivial) (⟨t_same (by kernel_rfl) (by kernel_rfl), t_same (by kernel_rfl) (by kernel_rfl), trivial⟩) (stringslite_IndexByte_ok _ _ _ h1) (left_of (by kernel_rfl))) (.v (.one (.d (.int .i64 (Lib.indexByte qs qc.toNat.toUInt8))))) [] [] (by kernel_rfl) ?_
  refine aops_eff hΓ (.v (.one (.d (.int .i64 (Lib.indexByte qs qc.toNat.toUInt8))))) [] [] (by kernel_rfl) ?_
  refine aops_nil ?_
  refine awp_ret ?_
  obtain rfl := some_eq hF
  exact fin_intro (xs := [.one (.d (.int .i64 (Lib.indexByte qs qc.toNat.toUInt8)))]) (m' := ⟨[], []⟩) (tv := (.v (.one (.d (.int .i64 (Lib.indexByte qs qc.toNat.toUInt8)))))) (rl := []) (nl := []) (by kernel_rfl) (by kernel_rfl) (by kernel_rfl) (sees_of (by kernel_rfl) trivial trivial) (t_same (by kernel_rfl) (by kernel_rfl)) ⟨rfl, rfl⟩

/-! ### beaconfleet/fleetref2.only -/
def fleetref2_only_x1_k : Unit ⊕ Unit → AEx
  | .inl _ => .exit 0
  | .inr _ => .ret

def fleetref2_only_x1_S (qs : List UInt8) (qsome : List UInt8) : Unit ⊕ Unit → St
  | .inl _ => Mem.st ⟨[], []⟩ (tl []) 0
  | .inr _ => Mem.st ⟨[], []⟩ (tl [(4, .v (.one (.d (.bool false))))]) 0

def fleetref2_only_x1_H (qs : List UInt8) (qsome : List UInt8) : Int → St
  | vx => Mem.st ⟨[], []⟩ (tl [(0, .v (.one (.d (.str qs)))), (1, .v (.one (.d (.str qsome)))), (7, .v (.one (.d (.int .i64 (qs.length : Int))))), (8, .v (.one (.d (.int .i64 vx))))]) 0

theorem fleetref2_only_x1_ok (qs : List UInt8) (qsome : List UInt8) (vx : Int) (r : (Int) ⊕ (Unit ⊕ Unit)) (hF : fleetref2_only_x1 qs qsome vx = some r) : Awp prog 0 18 (cL (cL (cR (cL (cR (cB f128)))))) (Out 0 (kk fleetref2_only_x1_k) (SS (fleetref2_only_x1_H qs qsome) (fleetref2_only_x1_S qs qsome)) r) (fleetref2_only_x1_H qs qsome vx) := by
  unfold fleetref2_only_x1 at hF
  refine awp_seq ?_
  refine awp_region' 0 1000 (by kernel_rfl) (by kernel_rfl) ?_
  refine aops_eff hΓ (.v (.one (.d (.bool (decide (vx < (qs.length : Int))))))) [] [] (by kernel_rfl) ?_
  refine aops_nil ?_
  refine awp_seq ?_
  rcases cond_or hF with ⟨h1, hF⟩ | ⟨h1, hF⟩
  · refine awp_true (by kernel_rfl) h1 ?_
    refine awp_skip ?_
    refine awp_seq ?_
    refine awp_block ?_
    refine awp_seq ?_
    refine awp_region' 1000 3000 (by kernel_rfl) (by kernel_rfl) ?_
    refine aops_eff hΓ (.v (.one (.d (.int .i64 vx)))) [] [] (by kernel_rfl) ?_
    refine aops_eff hΓ (.v (.one (.d (.int .i64 vx)))) [] [] (by kernel_rfl) ?_
    refine aops_nil ?_
    refine awp_seq ?_
    obtain ⟨vc1, h2, hF⟩ := bind_some hF
    obtain ⟨_, h3, hF⟩ := bind_some hF
    refine awp_region' 3000 9000 (by kernel_rfl) (by kernel_rfl) ?_
    refine aops_eff hΓ (.v (.one (.d (.str qsome)))) [] [] (by kernel_rfl) ?_
    refine aops_eff hΓ (.v (.one (.d (.str qs)))) [] [] (by kernel_rfl) ?_
    refine aops_eff hΓ (.v (.one (.d (.int .i64 vx)))) [] [] (by kernel_rfl) ?_
    refine aops_eff hΓ (.v (.one (.d (.int .u8 (vc1.toNat : Int))))) [] [] (opx_of (by kernel_rfl) (by kernel_rfl) (eff_indexS (k := .i64) (ti := ti9) (l := qs) (y := vc1) (by kernel_rfl) rfl (by kernel_rfl) (by kernel_rfl) h2)) ?_
    refine aops_call (by kernel_rfl) (by kernel_rfl) (does_call (f := (.func 215)) (g := 215) (caps := []) (tvs := [.v (.one (.d (.str qsome))), .v (.one (.d (.int .u8 (vc1.toNat : Int))))]) (al := [.v (.one (.d (.str qsome))), .v (.one (.d (.int .u8 (vc1.toNat : Int))))]) (m := ⟨[], []⟩) (m' := ⟨[], []⟩) (tv := .v (.one (.d (.int .i64 (Lib.indexByte qsome (vc1.toNat : Int).toNat.toUInt8))))) (lens := []) rfl (by kernel_rfl) (by kernel_rfl) (sees_of (rl := []) (nl := []) (by kernel_rfl) trivial trivial) (⟨t_same (by kernel_rfl) (by kernel_rfl), t_same (by kernel_rfl) (by kernel_rfl), trivial⟩) (strings_IndexByte_ok _ _ _ h3) (left_of (by kernel_rfl))) (.v (.one (.d (.int .i64 (Lib.indexByte qsome (vc1.toNat : Int).toNat.toUInt8))))) [] [] (by kernel_rfl) ?_
    refine aops_eff hΓ (.v (.one (.d (.bool (decide ((Lib.indexByte qsome (vc1.toNat : Int).toNat.toUInt8) < 0)))))) [] [] (by kernel_rfl) ?_
    refine aops_nil ?_
    rcases cond_or hF with ⟨h4, hF⟩ | ⟨h4, hF⟩
    · refine awp_true (by kernel_rfl) h4 ?_
      refine awp_seq ?_
      refine awp_region' 9000 10000 (by kernel_rfl) (by kernel_rfl) ?_
      refine aops_eff hΓ (.v (.one (.d (.bool false)))) [] [] (by kernel_rfl) ?_
      refine aops_nil ?_
      refine awp_ret ?_
      obtain rfl := some_eq hF
      exact out_intro rfl (to_see [] [] ⟨[], []⟩ [(4, .v (.one (.d (.bool false))))] 0 (by kernel_rfl) (by kernel_rfl) (lowc_of (by kernel_rfl)) trivial trivial (⟨t_same (by kernel_rfl) (by kernel_rfl), trivial⟩))
    · refine awp_false (by kernel_rfl) h4 ?_
      refine awp_skip ?_
      refine awp_region' 9000 11000 (by kernel_rfl) (by kernel_rfl) ?_
      refine aops_eff hΓ (.v (.one (.d (.int .i64 (IntKind.wrap .i64 (vx + 1)))))) [] [] (by kernel_rfl) ?_
      refine aops_eff hΓ (.v (.one (.d (.int .i64 (IntKind.wrap .i64 (vx + 1)))))) [] [] (by kernel_rfl) ?_
      refine aops_nil ?_
      obtain rfl := some_eq hF
      exact out_intro rfl (to_see [] [] ⟨[], []⟩ [(0, .v (.one (.d (.str qs)))), (1, .v (.one (.d (.str qsome)))), (7, .v (.one (.d (.int .i64 (qs.length : Int))))), (8, .v (.one (.d (.int .i64 (IntKind.wrap .i64 (vx + 1))))))] 0 (by kernel_rfl) (by kernel_rfl) (lowc_of (by kernel_rfl)) trivial trivial (⟨t_same (by kernel_rfl) (by kernel_rfl), t_same (by kernel_rfl) (by kernel_rfl), t_same (by kernel_rfl) (by kernel_rfl), t_same (by kernel_rfl) (by kernel_rfl), trivial⟩))
  · refine awp_false (by kernel_rfl) h1 ?_
    refine awp_exit ?_
    obtain rfl := some_eq hF
    exact out_intro rfl (to_see [] [] ⟨[], []⟩ [] 0 (by kernel_rfl) (by kernel_rfl) (lowc_of (by kernel_rfl)) trivial trivial trivial)

theorem fleetref2_only_ok (qs : List UInt8) (qsome : List UInt8) (r : Bool) (hF : fleetref2_only qs qsome = some r) : Holds prog 128 [.v (.one (.d (.str qs))), .v (.one (.d (.str qsome)))] ⟨[], []⟩ (fun tv m => tv = .v (.one (.d (.bool r))) ∧ m = ⟨[], []⟩) := by
  unfold fleetref2_only at hF
  refine holds_of_awp hΓ (fn := f128) (c := cB f128) (A := 0) (nx := 0) (by kernel_rfl) (by kernel_rfl) (by kernel_rfl) (by kernel_rfl) (by kernel_rfl) (by kernel_rfl) (lowc_of (by kernel_rfl)) ?_
  show Awp prog 0 18 (cB f128) _ _
  refine awp_seq ?_
  refine awp_region' 0 1000 (by kernel_rfl) (by kernel_rfl) ?_
  refine aops_eff hΓ (.v (.one (.d (.bool false)))) [] [] (by kernel_rfl) ?_
  refine aops_nil ?_
  refine awp_seq ?_
  refine awp_seq ?_
  refine awp_region' 1000 4000 (by kernel_rfl) (by kernel_rfl) ?_
  refine aops_eff hΓ (.v (.one (.d (.str qs)))) [] [] (by kernel_rfl) ?_
  refine aops_eff hΓ (.v (.one (.d (.int .i64 (qs.length : Int))))) [] [] (by kernel_rfl) ?_
  refine aops_eff hΓ (.v (.one (.d (.int .i64 0)))) [] [] (by kernel_rfl) ?_
  refine aops_nil ?_
  refine awp_block ?_
  refine awp_to (st' := fleetref2_only_x1_H qs qsome 0) (to_see [] [] ⟨[], []⟩ [(0, .v (.one (.d (.str qs)))), (1, .v (.one (.d (.str qsome)))), (7, .v (.one (.d (.int .i64 (qs.length : Int))))), (8, .v (.one (.d (.int .i64 0))))] 0 (by kernel_rfl) (by kernel_rfl) (lowc_of (by kernel_rfl)) trivial trivial (⟨t_same (by kernel_rfl) (by kernel_rfl), t_same (by kernel_rfl) (by kernel_rfl), t_same (by kernel_rfl) (by kernel_rfl), t_same (by kernel_rfl) (by kernel_rfl), trivial⟩)) ?_
  obtain ⟨(_ | _), h5, hF⟩ := bind_some hF
  · refine awp_sub (awp_loop' (fleetref2_only_x1_H qs qsome) fleetref2_only_x1_k (fleetref2_only_x1_S qs qsome) (by intro x; rcases x with x | x <;> exact fun h => nomatch h) h5 (fleetref2_only_x1_ok qs qsome)) ?_
    refine awp_seq ?_
    refine awp_region' 0 1000 (by kernel_rfl) (by kernel_rfl) ?_
    refine aops_eff hΓ (.v (.one (.d (.bool true)))) [] [] (by kernel_rfl) ?_
    refine aops_nil ?_
    refine awp_ret ?_
    obtain rfl := some_eq hF
    exact fin_intro (xs := [.one (.d (.bool true))]) (m' := ⟨[], []⟩) (tv := (.v (.one (.d (.bool true))))) (rl := []) (nl := []) (by kernel_rfl) (by kernel_rfl) (by kernel_rfl) (sees_of (by kernel_rfl) trivial trivial) (t_same (by kernel_rfl) (by kernel_rfl)) ⟨rfl, rfl⟩
  · refine awp_sub (awp_loop' (fleetref2_only_x1_H qs qsome) fleetref2_only_x1_k (fleetref2_only_x1_S qs qsome) (by intro x; rcases x with x | x <;> exact fun h => nomatch h) h5 (fleetref2_only_x1_ok qs qsome)) ?_
    obtain rfl := some_eq hF
    exact fin_intro (xs := [.one (.d (.bool false))]) (m' := ⟨[], []⟩) (tv := (.v (.one (.d (.bool false))))) (rl := []) (nl := []) (by kernel_rfl) (by kernel_rfl) (by kernel_rfl) (sees_of (by kernel_rfl) trivial trivial) (t_same (by kernel_rfl) (by kernel_rfl)) ⟨rfl, rfl⟩

/-! ### beaconfleet/fleetref2.Key -/
def fleetref2_Key_x1_k : Bool → AEx
  | _ => .normal

def fleetref2_Key_x1_S (qs : List UInt8) : Bool → St
  | vx => Mem.st ⟨[], []⟩ (tl [(2, .v (.one (.d (.bool vx))))]) 0

theorem fleetref2_Key_x1_ok (qs : List UInt8) (r : Bool) (hF : fleetref2_Key_x1 qs = some r) : Awp prog 0 15 (cL (cR (cB f31))) (Out 0 fleetref2_Key_x1_k (fleetref2_Key_x1_S qs) r) (Mem.st ⟨[], []⟩ (tl [(0, .v (.one (.d (.str qs))))]) 0) := by
  unfold fleetref2_Key_x1 at hF
  obtain ⟨vr, h1, hF⟩ := bind_some hF
  rcases cond_or hF with ⟨h2, hF⟩ | ⟨h2, hF⟩
  · obtain ⟨vs, h3, hF⟩ := bind_some hF
    obtain ⟨vr1, h4, hF⟩ := bind_some hF
    rcases cond_or hF with ⟨h5, hF⟩ | ⟨h5, hF⟩
    · obtain ⟨vr2, h6, hF⟩ := bind_some hF
      refine awp_region' 0 13000 (by kernel_rfl) (by kernel_rfl) ?_
      refine aops_eff hΓ (.v (.one (.d (.str qs)))) [] [] (by kernel_rfl) ?_
      refine aops_eff hΓ (.v (.one (.d (.int .i64 (qs.length : Int))))) [] [] (by kernel_rfl) ?_
      refine aops_call (by kernel_rfl) (by kernel_rfl) (does_call (f := (.func 119)) (g := 119) (caps := []) (tvs := [.v (.one (.d (.int .i64 (qs.length : Int)))), .v (.one (.d (.int .i64 1))), .v (.one (.d (.int .i64 40)))]) (al := [.v (.one (.d (.int .i64 (qs.length : Int)))), .v (.one (.d (.int .i64 1))), .v (.one (.d (.int .i64 40)))]) (m := ⟨[], []⟩) (m' := ⟨[], []⟩) (tv := .v (.one (.d (.bool vr)))) (lens := []) rfl (by kernel_rfl) (by kernel_rfl) (sees_of (rl := []) (nl := []) (by kernel_rfl) trivial trivial) (⟨t_same (by kernel_rfl) (by kernel_rfl), t_same (by kernel_rfl) (by kernel_rfl), t_same (by kernel_rfl) (by kernel_rfl), trivial⟩) (fleetref2_in_ok _ _ _ _ h1) (left_of (by kernel_rfl))) (.v (.one (.d (.bool true)))) [] [] (callb h2) ?_
      refine aops_eff hΓ (.v (.one (.d (.bool true)))) [] [] (by kernel_rfl) ?_
      refine aops_eff hΓ (.v (.one (.d (.str qs)))) [] [] (by kernel_rfl) ?_
      refine aops_eff hΓ (.v (.one (.d (.str vs)))) [] [] (opx_of (by kernel_rfl) (by kernel_rfl) (eff_sliceS (ti := ti9) (l := qs) (a := 0) (b := 1) (by kernel_rfl) rfl (by kernel_rfl) (by kernel_rfl) (by kernel_rfl) h3)) ?_
      refine aops_call (by kernel_rfl) (by kernel_rfl) (does_call (f := (.func 128)) (g := 128) (caps := []) (tvs := [.v (.one (.d (.str vs))), .v (.one (.d (.str ([97, 98, 99, 100, 101, 102, 103, 104, 105, 106, 107, 108, 109, 110, 111, 112, 113, 114, 115, 116, 117, 118, 119, 120, 121, 122] : List UInt8))))]) (al := [.v (.one (.d (.str vs))), .v (.one (.d (.str ([97, 98, 99, 100, 101, 102, 103, 104, 105, 106, 107, 108, 109, 110, 111, 112, 113, 114, 115, 116, 117, 118, 119, 120, 121, 122] : List UInt8))))]) (m := ⟨[], []⟩) (m' := ⟨[], []⟩) (tv := .v (.one (.d (.bool vr1)))) (lens := []) rfl (by kernel_rfl) (by kernel_rfl) (sees_of (rl := []) (nl := []) (by kernel_rfl) trivial trivial) (⟨t_same (by kernel_rfl) (by kernel_rfl), t_same (by kernel_rfl) (by kernel_rfl), trivial⟩) (fleetref2_only_ok _ _ _ h4) (left_of (by kernel_rfl))) (.v (.one (.d (.bool true)))) [] [] (callb h5) ?_
      refine aops_eff hΓ (.v (.one (.d (.bool true)))) [] [] (by kernel_rfl) ?_
      refine aops_eff hΓ (.v (.one (.d (.bool true)))) [] [] (by kernel_rfl) ?_
      refine aops_eff hΓ (.v (.one (.d (.str qs)))) [] [] (by kernel_rfl) ?_
      refine aops_call (by kernel_rfl) (by kernel_rfl) (does_call (f := (.func 128)) (g := 128) (caps := []) (tvs := [.v (.one (.d (.str qs))), .v (.one (.d (.str ([97, 98, 99, 100, 101, 102, 103, 104, 105, 106, 107, 108, 109, 110, 111, 112, 113, 114, 115, 116, 117, 118, 119, 120, 121, 122, 48, 49, 50, 51, 52, 53, 54, 55, 56, 57, 45, 95] : List UInt8))))]) (al := [.v (.one (.d (.str qs))), .v (.one (.d (.str ([97, 98, 99, 100, 101, 102, 103, 104, 105, 106, 107, 108, 109, 110, 111, 112, 113, 114, 115, 116, 117, 118, 119, 120, 121, 122, 48, 49, 50, 51, 52, 53, 54, 55, 56, 57, 45, 95] : List UInt8))))]) (m := ⟨[], []⟩) (m' := ⟨[], []⟩) (tv := .v (.one (.d (.bool vr2)))) (lens := []) rfl (by kernel_rfl) (by kernel_rfl) (sees_of (rl := []) (nl := []) (by kernel_rfl) trivial trivial) (⟨t_same (by kernel_rfl) (by kernel_rfl), t_same (by kernel_rfl) (by kernel_rfl), trivial⟩) (fleetref2_only_ok _ _ _ h6) (left_of (by kernel_rfl))) (.v (.one (.d (.bool vr2)))) [] [] (by kernel_rfl) ?_
      refine aops_eff hΓ (.v (.one (.d (.bool vr2)))) [] [] (by kernel_rfl) ?_
      refine aops_eff hΓ (.v (.one (.d (.bool vr2)))) [] [] (by kernel_rfl) ?_
      refine aops_nil ?_
      obtain rfl := some_eq hF
      exact out_intro rfl (to_see [] [] ⟨[], []⟩ [(2, .v (.one (.d (.bool vr2))))] 0 (by kernel_rfl) (by kernel_rfl) (lowc_of (by kernel_rfl)) trivial trivial (⟨t_same (by kernel_rfl) (by kernel_rfl), trivial⟩))
    · refine awp_region' 0 13000 (by kernel_rfl) (by kernel_rfl) ?_
      refine aops_eff hΓ (.v (.one (.d (.str qs)))) [] [] (by kernel_rfl) ?_
      refine aops_eff hΓ (.v (.one (.d (.int .i64 (qs.length : Int))))) [] [] (by kernel_rfl) ?_
      refine aops_call (by kernel_rfl) (by kernel_rfl) (does_call (f := (.func 119)) (g := 119) (caps := []) (tvs := [.v (.one (.d (.int .i64 (qs.length : Int)))), .v (.one (.d (.int .i64 1))), .v (.one (.d (.int .i64 40)))]) (al := [.v (.one (.d (.int .i64 (qs.length : Int)))), .v (.one (.d (.int .i64 1))), .v (.one (.d (.int .i64 40)))]) (m := ⟨[], []⟩) (m' := ⟨[], []⟩) (tv := .v (.one (.d (.bool vr)))) (lens := []) rfl (by kernel_rfl) (by kernel_rfl) (sees_of (rl := []) (nl := []) (by kernel_rfl) trivial trivial) (⟨t_same (by kernel_rfl) (by kernel_rfl), t_same (by kernel_rfl) (by kernel_rfl), t_same (by kernel_rfl) (by kernel_rfl), trivial⟩) (fleetref2_in_ok _ _ _ _ h1) (left_of (by kernel_rfl))) (.v (.one (.d (.bool true)))) [] [] (callb h2) ?_
      refine aops_eff hΓ (.v (.one (.d (.bool true)))) [] [] (by kernel_rfl) ?_
      refine aops_eff hΓ (.v (.one (.d (.str qs)))) [] [] (by kernel_rfl) ?_
      refine aops_eff hΓ (.v (.one (.d (.str vs)))) [] [] (opx_of (by kernel_rfl) (by kernel_rfl) (eff_sliceS (ti := ti9) (l := qs) (a := 0) (b := 1) (by kernel_rfl) rfl (by kernel_rfl) (by kernel_rfl) (by kernel_rfl) h3)) ?_
      refine aops_call (by kernel_rfl) (by kernel_rfl) (does_call (f := (.func 128)) (g := 128) (caps := []) (tvs := [.v (.one (.d (.str vs))), .v (.one (.d (.str ([97, 98, 99, 100, 101, 102, 103, 104, 105, 106, 107, 108, 109, 110, 111, 112, 113, 114, 115, 116, 117, 118, 119, 120, 121, 122] : List UInt8))))]) (al := [.v (.one (.d (.str vs))), .v (.one (.d (.str ([97, 98, 99, 100, 101, 102, 103, 104, 105, 106, 107, 108, 109, 110, 111, 112, 113, 114, 115, 116, 117, 118, 119, 120, 121, 122] : List UInt8))))]) (m := ⟨[], []⟩) (m' := ⟨[], []⟩) (tv := .v (.one (.d (.bool vr1)))) (lens := []) rfl (by kernel_rfl) (by kernel_rfl) (sees_of (rl := []) (nl := []) (by kernel_rfl) trivial trivial) (⟨t_same (by kernel_rfl) (by kernel_rfl), t_same (by kernel_rfl) (by kernel_rfl), trivial⟩) (fleetref2_only_ok _ _ _ h4) (left_of (by kernel_rfl))) (.v (.one (.d (.bool false)))) [] [] (callb h5) ?_
      refine aops_eff hΓ (.v (.one (.d (.bool false)))) [] [] (by kernel_rfl) ?_
      refine aops_eff hΓ (.v (.one (.d (.bool false)))) [] [] (by kernel_rfl) ?_
      refine aops_skip' (by kernel_rfl) ?_
      refine aops_skip' (by kernel_rfl) ?_
      refine aops_eff hΓ (.v (.one (.d (.bool false)))) [] [] (by kernel_rfl) ?_
      refine aops_eff hΓ (.v (.one (.d (.bool false)))) [] [] (by kernel_rfl) ?_
      refine aops_nil ?_
      obtain rfl := some_eq hF
      exact out_intro rfl (to_see [] [] ⟨[], []⟩ [(2, .v (.one (.d (.bool false))))] 0 (by kernel_rfl) (by kernel_rfl) (lowc_of (by kernel_rfl)) trivial trivial (⟨t_same (by kernel_rfl) (by kernel_rfl), trivial⟩))
  · refine awp_region' 0 13000 (by kernel_rfl) (by kernel_rfl) ?_
    refine aops_eff hΓ (.v (.one (.d (.str qs)))) [] [] (by kernel_rfl) ?_
    refine aops_eff hΓ (.v (.one (.d (.int .i64 (qs.length : Int))))) [] [] (by kernel_rfl) ?_
    refine aops_call (by kernel_rfl) (by kernel_rfl) (does_call (f := (.func 119)) (g := 119) (caps := []) (tvs := [.v (.one (.d (.int .i64 (qs.length : Int)))), .v (.one (.d (.int .i64 1))), .v (.one (.d (.int .i64 40)))]) (al := [.v (.one (.d (.int .i64 (qs.length : Int)))), .v (.one (.d (.int .i64 1))), .v (.one (.d (.int .i64 40)))]) (m := ⟨[], []⟩) (m' := ⟨[], []⟩) (tv := .v (.one (.d (.bool vr)))) (lens := []) rfl (by kernel_rfl) (by kernel_rfl) (sees_of (rl := []) (nl := []) (by kernel_rfl) trivial trivial) (⟨t_same (by kernel_rfl) (by kernel_rfl), t_same (by kernel_rfl) (by kernel_rfl), t_same (by kernel_rfl) (by kernel_rfl), trivial⟩) (fleetref2_in_ok _ _ _ _ h1) (left_of (by kernel_rfl))) (.v (.one (.d (.bool false)))) [] [] (callb h2) ?_
    refine aops_eff hΓ (.v (.one (.d (.bool false)))) [] [] (by kernel_rfl) ?_
    refine aops_skip' (by kernel_rfl) ?_
    refine aops_skip' (by kernel_rfl) ?_
    refine aops_skip' (by kernel_rfl) ?_
    refine aops_eff hΓ (.v (.one (.d (.bool false)))) [] [] (by kernel_rfl) ?_
    refine aops_eff hΓ (.v (.one (.d (.bool false)))) [] [] (by kernel_rfl) ?_
    refine aops_skip' (by kernel_rfl) ?_
    refine aops_skip' (by kernel_rfl) ?_
    refine aops_eff hΓ (.v (.one (.d (.bool false)))) [] [] (by kernel_rfl) ?_
    refine aops_eff hΓ (.v (.one (.d (.bool false)))) [] [] (by kernel_rfl) ?_
    refine aops_nil ?_
    obtain rfl := some_eq hF
    exact out_intro rfl (to_see [] [] ⟨[], []⟩ [(2, .v (.one (.d (.bool false))))] 0 (by kernel_rfl) (by kernel_rfl) (lowc_of (by kernel_rfl)) trivial trivial (⟨t_same (by kernel_rfl) (by kernel_rfl), trivial⟩))

theorem fleetref2_Key_ok (qs : List UInt8) (r : Bool) (hF : fleetref2_Key qs = some r) : Holds prog 31 [.v (.one (.d (.str qs)))] ⟨[], []⟩ (fun tv m => tv = .v (.one (.d (.bool r))) ∧ m = ⟨[], []⟩) := by
  unfold fleetref2_Key at hF
  refine holds_of_awp hΓ (fn := f31) (c := cB f31) (A := 0) (nx := 0) (by kernel_rfl) (by kernel_rfl) (by kernel_rfl) (by kernel_rfl) (by kernel_rfl) (by kernel_rfl) (lowc_of (by kernel_rfl)) ?_
  show Awp prog 0 15 (cB f31) _ _
  refine awp_seq ?_
  refine awp_region' 0 1000 (by kernel_rfl) (by kernel_rfl) ?_
  refine aops_eff hΓ (.v (.one (.d (.bool false)))) [] [] (by kernel_rfl) ?_
  refine aops_nil ?_
  refine awp_seq ?_
  refine awp_to (to_see [] [] ⟨[], []⟩ [(0, .v (.one (.d (.str qs))))] 0 (by kernel_rfl) (by kernel_rfl) (lowc_of (by kernel_rfl)) trivial trivial (⟨t_same (by kernel_rfl) (by kernel_rfl), trivial⟩)) ?_
  obtain ⟨vx1, h7, hF⟩ := bind_some hF
  refine awp_sub (fleetref2_Key_x1_ok qs _ h7) ?_
  refine awp_ret ?_
  obtain rfl := some_eq hF
  exact fin_intro (xs := [.one (.d (.bool vx1))]) (m' := ⟨[], []⟩) (tv := (.v (.one (.d (.bool vx1))))) (rl := []) (nl := []) (by kernel_rfl) (by kernel_rfl) (by kernel_rfl) (sees_of (by kernel_rfl) trivial trivial) (t_same (by kernel_rfl) (by kernel_rfl)) ⟨rfl, rfl⟩

/-! ### beaconfleet/fleetref2.Moment -/
theorem fleetref2_Moment_ok (qat : Int) (r : Bool) (hF : fleetref2_Moment qat = some r) : Holds prog 133 [.v (.one (.d (.int .i64 qat)))] ⟨[], []⟩ (fun tv m => tv = .v (.one (.d (.bool r))) ∧ m = ⟨[], []⟩) := by
  unfold fleetref2_Moment at hF
  refine holds_of_awp hΓ (fn := f133) (c := cB f133) (A := 0) (nx := 0) (by kernel_rfl) (by kernel_rfl) (by kernel_rfl) (by kernel_rfl) (by kernel_rfl) (by kernel_rfl) (lowc_of (by kernel_rfl)) ?_
  show Awp prog 0 5 (cB f133) _ _
  refine awp_seq ?_
  refine awp_region' 0 1000 (by kernel_rfl) (by kernel_rfl) ?_
  refine aops_eff hΓ (.v (.one (.d (.bool false)))) [] [] (by kernel_rfl) ?_
  refine aops_nil ?_
  refine awp_seq ?_
  obtain ⟨vr, h1, hF⟩ := bind_some hF
  refine awp_region' 1000 4000 (by kernel_rfl) (by kernel_rfl) ?_
  refine aops_eff hΓ (.v (.one (.d (.int .i64 qat)))) [] [] (by kernel_rfl) ?_
  refine aops_call (by kernel_rfl) (by kernel_rfl) (does_call (f := (.func 119)) (g := 119) (caps := []) (tvs := [.v (.one (.d (.int .i64 qat))), .v (.one (.d (.int .i64 0))), .v (.one (.d (.int .i64 345686399999)))]) (al := [.v (.one (.d (.int .i64 qat))), .v (.one (.d (.int .i64 0))), .v (.one (.d (.int .i64 345686399999)))]) (m := ⟨[], []⟩) (m' := ⟨[], []⟩) (tv := .v (.one (.d (.bool vr)))) (lens := []) rfl (by kernel_rfl) (by kernel_rfl) (sees_of (rl := []) (nl := []) (by kernel_rfl) trivial trivial) (⟨t_same (by kernel_rfl) (by kernel_rfl), t_same (by kernel_rfl) (by kernel_rfl), t_same (by kernel_rfl) (by kernel_rfl), trivial⟩) (fleetref2_in_ok _ _ _ _ h1) (left_of (by kernel_rfl))) (.v (.one (.d (.bool vr)))) [] [] (by kernel_rfl) ?_
  refine aops_eff hΓ (.v (.one (.d (.bool vr)))) [] [] (by kernel_rfl) ?_
  refine aops_nil ?_
  refine awp_ret ?_
  obtain rfl := some_eq hF
  exact fin_intro (xs := [.one (.d (.bool vr))]) (m' := ⟨[], []⟩) (tv := (.v (.one (.d (.bool vr))))) (rl := []) (nl := []) (by kernel_rfl) (by kernel_rfl) (by kernel_rfl) (sees_of (by kernel_rfl) trivial trivial) (t_same (by kernel_rfl) (by kernel_rfl)) ⟨rfl, rfl⟩

/-! ### cmp.isNaN[string] -/
theorem cmp_isNaN_string_ok (qx : List UInt8) (r : Unit) (hF : cmp_isNaN_string qx = some r) : Holds prog 280 [.v (.one (.d (.str qx)))] ⟨[], []⟩ (fun tv m => tv = .v (.one (.d (.bool (!decide (qx = qx))))) ∧ m = ⟨[], []⟩) := by
  unfold cmp_isNaN_string at hF
  refine holds_of_awp hΓ (fn := f280) (c := cB f280) (A := 0) (nx := 0) (by kernel_rfl) (by kernel_rfl) (by kernel_rfl) (by kernel_rfl) (by kernel_rfl) (by kernel_rfl) (lowc_of (by kernel_rfl)) ?_
  show Awp prog 0 6 (cB f280) _ _
  refine awp_seq ?_
  refine awp_region' 0 1000 (by kernel_rfl) (by kernel_rfl) ?_
  refine aops_eff hΓ (.v (.one (.d (.bool false)))) [] [] (by kernel_rfl) ?_
  refine aops_nil ?_
  refine awp_seq ?_
  refine awp_region' 1000 5000 (by kernel_rfl) (by kernel_rfl) ?_
  refine aops_eff hΓ (.v (.one (.d (.str qx)))) [] [] (by kernel_rfl) ?_
  refine aops_eff hΓ (.v (.one (.d (.str qx)))) [] [] (by kernel_rfl) ?_
  refine aops_eff hΓ (.v (.one (.d (.bool (!decide (qx = qx)))))) [] [] (by kernel_rfl) ?_
  refine aops_eff hΓ (.v (.one (.d (.bool (!decide (qx = qx)))))) [] [] (by kernel_rfl) ?_
  refine aops_nil ?_
  refine awp_ret ?_
  obtain rfl := some_eq hF
  exact fin_intro (xs := [.one (.d (.bool (!decide (qx = qx))))]) (m' := ⟨[], []⟩) (tv := (.v (.one (.d (.bool (!decide (qx = qx))))))) (rl := []) (nl := []) (by kernel_rfl) (by kernel_rfl) (by kernel_rfl) (sees_of (by kernel_rfl) trivial trivial) (t_same (by kernel_rfl) (by kernel_rfl)) ⟨rfl, rfl⟩

/-! ### cmp.Compare[string] -/
theorem cmp_Compare_string_ok (qx : List UInt8) (qy : List UInt8) (r : Int) (hF : cmp_Compare_string qx qy = some r) : Holds prog 263 [.v (.one (.d (.str qx))), .v (.one (.d (.str qy)))] ⟨[], []⟩ (fun tv m => tv = .v (.one (.d (.int .i64 r))) ∧ m = ⟨[], []⟩) := by
  unfold cmp_Compare_string at hF
  refine holds_of_awp hΓ (fn := f263) (c := cB f263) (A := 0) (nx := 0) (by kernel_rfl) (by kernel_rfl) (by kernel_rfl) (by kernel_rfl) (by kernel_rfl) (by kernel_rfl) (lowc_of (by kernel_rfl)) ?_
  show Awp prog 0 20 (cB f263) _ _
  refine awp_seq ?_
  refine awp_region' 0 1000 (by kernel_rfl) (by kernel_rfl) ?_
  refine aops_eff hΓ (.v (.one (.d (.int .i64 0)))) [] [] (by kernel_rfl) ?_
  refine aops_nil ?_
  refine awp_seq ?_
  obtain ⟨_, h1, hF⟩ := bind_some hF
  refine awp_region' 1000 4000 (by kernel_rfl) (by kernel_rfl) ?_
  refine aops_eff hΓ (.v (.one (.d (.str qx)))) [] [] (by kernel_rfl) ?_
  refine aops_call (by kernel_rfl) (by kernel_rfl) (does_call (f := (.func 280)) (g := 280) (caps := []) (tvs := [.v (.one (.d (.str qx)))]) (al := [.v (.one (.d (.str qx)))]) (m := ⟨[], []⟩) (m' := ⟨[], []⟩) (tv := .v (.one (.d (.bool (!decide (qx = qx)))))) (lens := []) rfl (by kernel_rfl) (by kernel_rfl) (sees_of (rl := []) (nl := []) (by kernel_rfl) trivial trivial) (⟨t_same (by kernel_rfl) (by kernel_rfl), trivial⟩) (cmp_isNaN_string_ok _ _ h1) (left_of (by kernel_rfl))) (.v (.one (.d (.bool (!decide (qx = qx)))))) [] [] (by kernel_rfl) ?_
  refine aops_eff hΓ (.v (.one (.d (.bool (!decide (qx = qx)))))) [] [] (by kernel_rfl) ?_
  refine aops_nil ?_
  refine awp_seq ?_
  obtain ⟨_, h2, hF⟩ := bind_some hF
  refine awp_region' 4000 7000 (by kernel_rfl) (by kernel_rfl) ?_
  refine aops_eff hΓ (.v (.one (.d (.str qy)))) [] [] (by kernel_rfl) ?_
  refine aops_call (by kernel_rfl) (by kernel_rfl) (does_call (f := (.func 280)) (g := 280) (caps := []) (tvs := [.v (.one (.d (.str qy)))]) (al := [.v (.one (.d (.str qy)))]) (m := ⟨[], []⟩) (m' := ⟨[], []⟩) (tv := .v (.one (.d (.bool (!decide (qy = qy)))))) (lens := []) rfl (by kernel_rfl) (by kernel_rfl) (sees_of (rl := []) (nl := []) (by kernel_rfl) trivial trivial) (⟨t_same (by kernel_rfl) (by kernel_rfl), trivial⟩) (cmp_isNaN_string_ok _ _ h2) (left_of (by kernel_rfl))) (.v (.one (.d (.bool (!decide (qy = qy)))))) [] [] (by kernel_rfl) ?_
  refine aops_eff hΓ (.v (.one (.d (.bool (!decide (qy = qy)))))) [] [] (by kernel_rfl) ?_
  refine aops_nil ?_
  refine awp_seq ?_
  refine awp_seq ?_
  refine awp_region' 7000 8000 (by kernel_rfl) (by kernel_rfl) ?_
  refine aops_eff hΓ (.v (.one (.d (.bool (!decide (qx = qx)))))) [] [] (by kernel_rfl) ?_
  refine aops_nil ?_
  rcases cond_or hF with ⟨h3, hF⟩ | ⟨h3, hF⟩
  · refine awp_true (by kernel_rfl) h3 ?_
    refine awp_seq ?_
    refine awp_seq ?_
    refine awp_region' 8000 9000 (by kernel_rfl) (by kernel_rfl) ?_
    refine aops_eff hΓ (.v (.one (.d (.bool (!decide (qy = qy)))))) [] [] (by kernel_rfl) ?_
    refine aops_nil ?_
    rcases cond_or hF with ⟨h4, hF⟩ | ⟨h4, hF⟩
    · refine awp_true (by kernel_rfl) h4 ?_
      refine awp_seq ?_
      refine awp_region' 9000 10000 (by kernel_rfl) (by kernel_rfl) ?_
      refine aops_eff hΓ (.v (.one (.d (.int .i64 0)))) [] [] (by kernel_rfl) ?_
      refine aops_nil ?_
      refine awp_ret ?_
      obtain rfl := some_eq hF
      exact fin_intro (xs := [.one (.d (.int .i64 0))]) (m' := ⟨[], []⟩) (tv := (.v (.one (.d (.int .i64 0))))) (rl := []) (nl := []) (by kernel_rfl) (by kernel_rfl) (by kernel_rfl) (sees_of (by kernel_rfl) trivial trivial) (t_same (by kernel_rfl) (by kernel_rfl)) ⟨rfl, rfl⟩
    · refine awp_false (by kernel_rfl) h4 ?_
      refine awp_skip ?_
      refine awp_seq ?_
      refine awp_region' 9000 10000 (by kernel_rfl) (by kernel_rfl) ?_
      refine aops_eff hΓ (.v (.one (.d (.int .i64 (-1))))) [] [] (by kernel_rfl) ?_
      refine aops_nil ?_
      refine awp_ret ?_
      obtain rfl := some_eq hF
      exact fin_intro (xs := [.one (.d (.int .i64 (-1)))]) (m' := ⟨[], []⟩) (tv := (.v (.one (.d (.int .i64 (-1)))))) (rl := []) (nl := []) (by kernel_rfl) (by kernel_rfl) (by kernel_rfl) (sees_of (by kernel_rfl) trivial trivial) (t_same (by kernel_rfl) (by kernel_rfl)) ⟨rfl, rfl⟩
  · refine awp_false (by kernel_rfl) h3 ?_
    refine awp_skip ?_
    refine awp_seq ?_
    refine awp_seq ?_
    refine awp_region' 8000 9000 (by kernel_rfl) (by kernel_rfl) ?_
    refine aops_eff hΓ (.v (.one (.d (.bool (!decide (qy = qy)))))) [] [] (by kernel_rfl) ?_
    refine aops_nil ?_
    rcases cond_or hF with ⟨h5, hF⟩ | ⟨h5, hF⟩
    · refine awp_true (by kernel_rfl) h5 ?_
      refine awp_seq ?_
      refine awp_region' 9000 10000 (by kernel_rfl) (by kernel_rfl) ?_
      refine aops_eff hΓ (.v (.one (.d (.int .i64 1)))) [] [] (by kernel_rfl) ?_
      refine aops_nil ?_
      refine awp_ret ?_
      obtain rfl := some_eq hF
      exact fin_intro (xs := [.one (.d (.int .i64 1))]) (m' := ⟨[], []⟩) (tv := (.v (.one (.d (.int .i64 1))))) (rl := []) (nl := []) (by kernel_rfl) (by kernel_rfl) (by kernel_rfl) (sees_of (by kernel_rfl) trivial trivial) (t_same (by kernel_rfl) (by kernel_rfl)) ⟨rfl, rfl⟩
    · refine awp_false (by kernel_rfl) h5 ?_
      refine awp_skip ?_
      refine awp_seq ?_
      refine awp_seq ?_
      refine awp_region' 9000 12000 (by kernel_rfl) (by kernel_rfl) ?_
      refine aops_eff hΓ (.v (.one (.d (.str qx)))) [] [] (by kernel_rfl) ?_
      refine aops_eff hΓ (.v (.one (.d (.str qy)))) [] [] (by kernel_rfl) ?_
      refine aops_eff hΓ (.v (.one (.d (.bool (Op.bytesLess qx qy))))) [] [] (by kernel_rfl) ?_
      refine aops_nil ?_
      rcases cond_or hF with ⟨h6, hF⟩ | ⟨h6, hF⟩
      · refine awp_true (by kernel_rfl) h6 ?_
        refine awp_seq ?_
        refine awp_region' 12000 13000 (by kernel_rfl) (by kernel_rfl) ?_
        refine aops_eff hΓ (.v (.one (.d (.int .i64 (-1))))) [] [] (by kernel_rfl) ?_
        refine aops_nil ?_
        refine awp_ret ?_
        obtain rfl := some_eq hF
        exact fin_intro (xs := [.one (.d (.int .i64 (-1)))]) (m' := ⟨[], []⟩) (tv := (.v (.one (.d (.int .i64 (-1)))))) (rl := []) (nl := []) (by kernel_rfl) (by kernel_rfl) (by kernel_rfl) (sees_of (by kernel_rfl) trivial trivial) (t_same (by kernel_rfl) (by kernel_rfl)) ⟨rfl, rfl⟩
      · refine awp_false (by kernel_rfl) h6 ?_
        refine awp_skip ?_
        refine awp_seq ?_
        refine awp_seq ?_
        refine awp_region' 12000 15000 (by kernel_rfl) (by kernel_rfl) ?_
        refine aops_eff hΓ (.v (.one (.d (.str qx)))) [] [] (by kernel_rfl) ?_
        refine aops_eff hΓ (.v (.one (.d (.str qy)))) [] [] (by kernel_rfl) ?_
        refine aops_eff hΓ (.v (.one (.d (.bool (!(Op.bytesLess qx qy || decide (qx = qy))))))) [] [] (by kernel_rfl) ?_
        refine aops_nil ?_
        rcases cond_or hF with ⟨h7, hF⟩ | ⟨h7, hF⟩
        · refine awp_true (by kernel_rfl) h7 ?_
          refine awp_seq ?_
          refine awp_region' 15000 16000 (by kernel_rfl) (by kernel_rfl) ?_
          refine aops_eff hΓ (.v (.one (.d (.int .i64 1)))) [] [] (by kernel_rfl) ?_
          refine aops_nil ?_
          refine awp_ret ?_
          obtain rfl := some_eq hF
          exact fin_intro (xs := [.one (.d (.int .i64 1))]) (m' := ⟨[], []⟩) (tv := (.v (.one (.d (.int .i64 1))))) (rl := []) (nl := []) (by kernel_rfl) (by kernel_rfl) (by kernel_rfl) (sees_of (by kernel_rfl) trivial trivial) (t_same (by kernel_rfl) (by kernel_rfl)) ⟨rfl, rfl⟩
        · refine awp_false (by kernel_rfl) h7 ?_
          refine awp_skip ?_
          refine awp_seq ?_
          refine awp_region' 15000 16000 (by kernel_rfl) (by kernel_rfl) ?_
          refine aops_eff hΓ (.v (.one (.d (.int .i64 0)))) [] [] (by kernel_rfl) ?_
          refine aops_nil ?_
          refine awp_ret ?_
          obtain rfl := some_eq hF
          exact fin_intro (xs := [.one (.d (.int .i64 0))]) (m' := ⟨[], []⟩) (tv := (.v (.one (.d (.int .i64 0))))) (rl := []) (nl := []) (by kernel_rfl) (by kernel_rfl) (by kernel_rfl) (sees_of (by kernel_rfl) trivial trivial) (t_same (by kernel_rfl) (by kernel_rfl)) ⟨rfl, rfl⟩

/-! ### slices.Compare[[]string,string] -/
def slices_Compare_string_string_x1_k : Unit ⊕ Int → AEx
  | .inl _ => .exit 0
  | .inr _ => .ret

def slices_Compare_string_string_x1_S (qs1 : List (List UInt8)) (qs2 : List (List UInt8)) : Unit ⊕ Int → St
  | .inl _ => Mem.st ⟨[], []⟩ (tl [(0, .v (.one (.d (.lst (List.map encS qs1))))), (1, .v (.one (.d (.lst (List.map encS qs2)))))]) 0
  | .inr vx1 => Mem.st ⟨[], []⟩ (tl [(4, .v (.one (.d (.int .i64 vx1))))]) 0

def slices_Compare_string_string_x1_H (qs1 : List (List UInt8)) (qs2 : List (List UInt8)) : Int → St
  | vx => Mem.st ⟨[], []⟩ (tl [(0, .v (.one (.d (.lst (List.map encS qs1))))), (1, .v (.one (.d (.lst (List.map encS qs2))))), (9, .v (.one (.d (.lst (List.map encS qs1))))), (10, .v (.one (.d (.int .i64 (qs1.length : Int))))), (11, .v (.one (.d (.int .i64 vx))))]) 0

theorem slices_Compare_string_string_x1_ok (qs1 : List (List UInt8)) (qs2 : List (List UInt8)) (vx : Int) (r : (Int) ⊕ (Unit ⊕ Int)) (hF : slices_Compare_string_string_x1 qs1 qs2 vx = some r) : Awp prog 0 36 (cL (cL (cR (cL (cR (cB f245)))))) (Out 0 (kk slices_Compare_string_string_x1_k) (SS (slices_Compare_string_string_x1_H qs1 qs2) (slices_Compare_string_string_x1_S qs1 qs2)) r) (slices_Compare_string_string_x1_H qs1 qs2 vx) := by
  unfold slices_Compare_string_string_x1 at hF
  refine awp_seq ?_
  refine awp_region' 0 1000 (by kernel_rfl) (by kernel_rfl) ?_
  refine aops_eff hΓ (.v (.one (.d (.bool (decide (vx < (qs1.length : Int))))))) [] [] (by kernel_rfl) ?_
  refine aops_nil ?_
  refine awp_seq ?_
  rcases cond_or hF with ⟨h1, hF⟩ | ⟨h1, hF⟩
  · refine awp_true (by kernel_rfl) h1 ?_
    refine awp_skip ?_
    refine awp_seq ?_
    refine awp_block ?_
    refine awp_seq ?_
    obtain ⟨vy2, h2, hF⟩ := bind_some hF
    refine awp_region' 1000 6000 (by kernel_rfl) (by kernel_rfl) ?_
    refine aops_eff hΓ (.v (.one (.d (.int .i64 vx)))) [] [] (by kernel_rfl) ?_
    refine aops_eff hΓ (.v (.one (.cp [.str vy2]))) [] [] (opx_of (by kernel_rfl) (by kernel_rfl) (eff_indexAddr (k := .i64) (ti := ti164) (te := ti9) (l := qs1) (f := encS) (y := vy2) (by kernel_rfl) rfl (by kernel_rfl) (by kernel_rfl) (by kernel_rfl) h2 (by kernel_rfl))) ?_
    refine aops_eff hΓ (.v (.one (.d (.str vy2)))) [] [] (by kernel_rfl) ?_
    refine aops_eff hΓ (.v (.one (.d (.int .i64 vx)))) [] [] (by kernel_rfl) ?_
    refine aops_eff hΓ (.v (.one (.d (.str vy2)))) [] [] (by kernel_rfl) ?_
    refine aops_nil ?_
    refine awp_seq ?_
    refine awp_seq ?_
    refine awp_region' 6000 10000 (by kernel_rfl) (by kernel_rfl) ?_
    refine aops_eff hΓ (.v (.one (.d (.int .i64 vx)))) [] [] (by kernel_rfl) ?_
    refine aops_eff hΓ (.v (.one (.d (.lst (List.map encS qs2))))) [] [] (by kernel_rfl) ?_
    refine aops_eff hΓ (.v (.one (.d (.int .i64 (qs2.length : Int))))) [] [] (opx_len (f := encS) (l := qs2) (by kernel_rfl)) ?_
    refine aops_eff hΓ (.v (.one (.d (.bool (decide ((qs2.length : Int) ≤ vx)))))) [] [] (by kernel_rfl) ?_
    refine aops_nil ?_
    rcases cond_or hF with ⟨h3, hF⟩ | ⟨h3, hF⟩
    · refine awp_true (by kernel_rfl) h3 ?_
      refine awp_seq ?_
      refine awp_region' 10000 11000 (by kernel_rfl) (by kernel_rfl) ?_
      refine aops_eff hΓ (.v (.one (.d (.int .i64 1)))) [] [] (by kernel_rfl) ?_
      refine aops_nil ?_
      refine awp_ret ?_
      obtain rfl := some_eq hF
      exact out_intro rfl (to_see [] [] ⟨[], []⟩ [(4, .v (.one (.d (.int .i64 1))))] 0 (by kernel_rfl) (by kernel_rfl) (lowc_of (by kernel_rfl)) trivial trivial (⟨t_same (by kernel_rfl) (by kernel_rfl), trivial⟩))
    · refine awp_false (by kernel_rfl) h3 ?_
      refine awp_skip ?_
      refine awp_seq ?_
      obtain ⟨vy3, h4, hF⟩ := bind_some hF
      refine awp_region' 10000 15000 (by kernel_rfl) (by kernel_rfl) ?_
      refine aops_eff hΓ (.v (.one (.d (.lst (List.map encS qs2))))) [] [] (by kernel_rfl) ?_
      refine aops_eff hΓ (.v (.one (.d (.int .i64 vx)))) [] [] (by kernel_rfl) ?_
      refine aops_eff hΓ (.v (.one (.cp [.str vy3]))) [] [] (opx_of (by kernel_rfl) (by kernel_rfl) (eff_indexAddr (k := .i64) (ti := ti164) (te := ti9) (l := qs2) (f := encS) (y := vy3) (by kernel_rfl) rfl (by kernel_rfl) (by kernel_rfl) (by kernel_rfl) h4 (by kernel_rfl))) ?_
      refine aops_eff hΓ (.v (.one (.d (.str vy3)))) [] [] (by kernel_rfl) ?_
      refine aops_eff hΓ (.v (.one (.d (.str vy3)))) [] [] (by kernel_rfl) ?_
      refine aops_nil ?_
      refine awp_seq ?_
      obtain ⟨vr1, h5, hF⟩ := bind_some hF
      refine awp_region' 15000 19000 (by kernel_rfl) (by kernel_rfl) ?_
      refine aops_eff hΓ (.v (.one (.d (.str vy2)))) [] [] (by kernel_rfl) ?_
      refine aops_eff hΓ (.v (.one (.d (.str vy3)))) [] [] (by kernel_rfl) ?_
      refine aops_call (by kernel_rfl) (by kernel_rfl) (does_call (f := (.func 263)) (g := 263) (caps := []) (tvs := [.v (.one (.d (.str vy2))), .v (.one (.d (.str vy3)))]) (al := [.v (.one (.d (.str vy2))), .v (.one (.d (.str vy3)))]) (m := ⟨[], []⟩) (m' := ⟨[], []⟩) (tv := .v (.one (.d (.int .i64 vr1)))) (lens := []) rfl (by kernel_rfl) (by kernel_rfl) (sees_of (rl := []) (nl := []) (by kernel_rfl) trivial trivial) (⟨t_same (by kernel_rfl) (by kernel_rfl), t_same (by kernel_rfl) (by kernel_rfl), trivial⟩) (cmp_Compare_string_ok _ _ _ h5) (left_of (by kernel_rfl))) (.v (.one (.d (.int .i64 vr1)))) [] [] (by kernel_rfl) ?_
      refine aops_eff hΓ (.v (.one (.d (.int .i64 vr1)))) [] [] (by kernel_rfl) ?_
      refine aops_nil ?_
      refine awp_seq ?_
      refine awp_region' 19000 21000 (by kernel_rfl) (by kernel_rfl) ?_
      refine aops_eff hΓ (.v (.one (.d (.int .i64 vr1)))) [] [] (by kernel_rfl) ?_
      refine aops_eff hΓ (.v (.one (.d (.bool (!decide (vr1 = 0)))))) [] [] (by kernel_rfl) ?_
      refine aops_nil ?_
      rcases cond_or hF with ⟨h6, hF⟩ | ⟨h6, hF⟩
      · refine awp_true (by kernel_rfl) h6 ?_
        refine awp_seq ?_
        refine awp_region' 21000 23000 (by kernel_rfl) (by kernel_rfl) ?_
        refine aops_eff hΓ (.v (.one (.d (.int .i64 vr1)))) [] [] (by kernel_rfl) ?_
        refine aops_eff hΓ (.v (.one (.d (.int .i64 vr1)))) [] [] (by kernel_rfl) ?_
        refine aops_nil ?_
        refine awp_ret ?_
        obtain rfl := some_eq hF
        exact out_intro rfl (to_see [] [] ⟨[], []⟩ [(4, .v (.one (.d (.int .i64 vr1))))] 0 (by kernel_rfl) (by kernel_rfl) (lowc_of (by kernel_rfl)) trivial trivial (⟨t_same (by kernel_rfl) (by kernel_rfl), trivial⟩))
      · refine awp_false (by kernel_rfl) h6 ?_
        refine awp_skip ?_
        refine awp_region' 21000 23000 (by kernel_rfl) (by kernel_rfl) ?_
        refine aops_eff hΓ (.v (.one (.d (.int .i64 (IntKind.wrap .i64 (vx + 1)))))) [] [] (by kernel_rfl) ?_
        refine aops_eff hΓ (.v (.one (.d (.int .i64 (IntKind.wrap .i64 (vx + 1)))))) [] [] (by kernel_rfl) ?_
        refine aops_nil ?_
        obtain rfl := some_eq hF
        exact out_intro rfl (to_see [] [] ⟨[], []⟩ [(0, .v (.one (.d (.lst (List.map encS qs1))))), (1, .v (.one (.d (.lst (List.map encS qs2))))), (9, .v (.one (.d (.lst (List.map encS qs1))))), (10, .v (.one (.d (.int .i64 (qs1.length : Int))))), (11, .v (.one (.d (.int .i64 (IntKind.wrap .i64 (vx + 1))))))] 0 (by kernel_rfl) (by kernel_rfl) (lowc_of (by kernel_rfl)) trivial trivial (⟨t_same (by kernel_rfl) (by kernel_rfl), t_same (by kernel_rfl) (by kernel_rfl), t_same (by kernel_rfl) (by kernel_rfl), t_same (by kernel_rfl) (by kernel_rfl), t_same (by kernel_rfl) (by kernel_rfl), trivial⟩))
  · refine awp_false (by kernel_rfl) h1 ?_
    refine awp_exit ?_
    obtain rfl := some_eq hF
    exact out_intro rfl (to_see [] [] ⟨[], []⟩ [(0, .v (.one (.d (.lst (List.map encS qs1))))), (1, .v (.one (.d (.lst (List.map encS qs2)))))] 0 (by kernel_rfl) (by kernel_rfl) (lowc_of (by kernel_rfl)) trivial trivial (⟨t_same (by kernel_rfl) (by kernel_rfl), t_same (by kernel_rfl) (by kernel_rfl), trivial⟩))

theorem slices_Compare_string_string_ok (qs1 : List (List UInt8)) (qs2 : List (List UInt8)) (r : Int) (hF : slices_Compare_string_string qs1 qs2 = some r) : Holds prog 245 [.v (.one (.d (.lst (List.map encS qs1)))), .v (.one (.d (.lst (List.map encS qs2))))] ⟨[], []⟩ (fun tv m => tv = .v (.one (.d (.int .i64 r))) ∧ m = ⟨[], []⟩) := by
  unfold slices_Compare_string_string at hF
  refine holds_of_awp hΓ (fn := f245) (c := cB f245) (A := 0) (nx := 0) (by kernel_rfl) (by kernel_rfl) (by kernel_rfl) (by kernel_rfl) (by kernel_rfl) (by kernel_rfl) (lowc_of (by kernel_rfl)) ?_
  show Awp prog 0 36 (cB f245) _ _
  refine awp_seq ?_
  refine awp_region' 0 1000 (by kernel_rfl) (by kernel_rfl) ?_
  refine aops_eff hΓ (.v (.one (.d (.int .i64 0)))) [] [] (by kernel_rfl) ?_
  refine aops_nil ?_
  refine awp_seq ?_
  refine awp_seq ?_
  refine awp_region' 1000 4000 (by kernel_rfl) (by kernel_rfl) ?_
  refine aops_eff hΓ (.v (.one (.d (.lst (List.map encS qs1))))) [] [] (by kernel_rfl) ?_
  refine aops_eff hΓ (.v (.one (.d (.int .i64 (qs1.length : Int))))) [] [] (opx_len (f := encS) (l := qs1) (by kernel_rfl)) ?_
  refine aops_eff hΓ (.v (.one (.d (.int .i64 0)))) [] [] (by kernel_rfl) ?_
  refine aops_nil ?_
  refine awp_block ?_
  refine awp_to (st' := slices_Compare_string_string_x1_H qs1 qs2 0) (to_see [] [] ⟨[], []⟩ [(0, .v (.one (.d (.lst (List.map encS qs1))))), (1, .v (.one (.d (.lst (List.map encS qs2))))), (9, .v (.one (.d (.lst (List.map encS qs1))))), (10, .v (.one (.d (.int .i64 (qs1.length : Int))))), (11, .v (.one (.d (.int .i64 0))))] 0 (by kernel_rfl) (by kernel_rfl) (lowc_of (by kernel_rfl)) trivial trivial (⟨t_same (by kernel_rfl) (by kernel_rfl), t_same (by kernel_rfl) (by kernel_rfl), t_same (by kernel_rfl) (by kernel_rfl), t_same (by kernel_rfl) (by kernel_rfl), t_same (by kernel_rfl) (by kernel_rfl), trivial⟩)) ?_
  obtain ⟨(_ | vx1_1), h7, hF⟩ := bind_some hF
  · refine awp_sub (awp_loop' (slices_Compare_string_string_x1_H qs1 qs2) slices_Compare_string_string_x1_k (slices_Compare_string_string_x1_S qs1 qs2) (by intro x; rcases x with x | x <;> exact fun h => nomatch h) h7 (slices_Compare_string_string_x1_ok qs1 qs2)) ?_
    refine awp_seq ?_
    refine awp_seq ?_
    refine awp_region' 0 5000 (by kernel_rfl) (by kernel_rfl) ?_
    refine aops_eff hΓ (.v (.one (.d (.lst (List.map encS qs1))))) [] [] (by kernel_rfl) ?_
    refine aops_eff hΓ (.v (.one (.d (.int .i64 (qs1.length : Int))))) [] [] (opx_len (f := encS) (l := qs1) (by kernel_rfl)) ?_
    refine aops_eff hΓ (.v (.one (.d (.lst (List.map encS qs2))))) [] [] (by kernel_rfl) ?_
    refine aops_eff hΓ (.v (.one (.d (.int .i64 (qs2.length : Int))))) [] [] (opx_len (f := encS) (l := qs2) (by kernel_rfl)) ?_
    refine aops_eff hΓ (.v (.one (.d (.bool (decide ((qs1.length : Int) < (qs2.length : Int))))))) [] [] (by kernel_rfl) ?_
    refine aops_nil ?_
    rcases cond_or hF with ⟨h8, hF⟩ | ⟨h8, hF⟩
    · refine awp_true (by kernel_rfl) h8 ?_
      refine awp_seq ?_
      refine awp_region' 5000 6000 (by kernel_rfl) (by kernel_rfl) ?_
      refine aops_eff hΓ (.v (.one (.d (.int .i64 (-1))))) [] [] (by kernel_rfl) ?_
      refine aops_nil ?_
      refine awp_ret ?_
      obtain rfl := some_eq hF
      exact fin_intro (xs := [.one (.d (.int .i64 (-1)))]) (m' := ⟨[], []⟩) (tv := (.v (.one (.d (.int .i64 (-1)))))) (rl := []) (nl := []) (by kernel_rfl) (by kernel_rfl) (by kernel_rfl) (sees_of (by kernel_rfl) trivial trivial) (t_same (by kernel_rfl) (by kernel_rfl)) ⟨rfl, rfl⟩
    · refine awp_false (by kernel_rfl) h8 ?_
      refine awp_skip ?_
      refine awp_seq ?_
      refine awp_region' 5000 6000 (by kernel_rfl) (by kernel_rfl) ?_
      refine aops_eff hΓ (.v (.one (.d (.int .i64 0)))) [] [] (by kernel_rfl) ?_
      refine aops_nil ?_
      refine awp_ret ?_
      obtain rfl := some_eq hF
      exact fin_intro (xs := [.one (.d (.int .i64 0))]) (m' := ⟨[], []⟩) (tv := (.v (.one (.d (.int .i64 0))))) (rl := []) (nl := []) (by kernel_rfl) (by kernel_rfl) (by kernel_rfl) (sees_of (by kernel_rfl) trivial trivial) (t_same (by kernel_rfl) (by kernel_rfl)) ⟨rfl, rfl⟩
  · refine awp_sub (awp_loop' (slices_Compare_string_string_x1_H qs1 qs2) slices_Compare_string_string_x1_k (slices_Compare_string_string_x1_S qs1 qs2) (by intro x; rcases x with x | x <;> exact fun h => nomatch h) h7 (slices_Compare_string_string_x1_ok qs1 qs2)) ?_
    obtain rfl := some_eq hF
    exact fin_intro (xs := [.one (.d (.int .i64 vx1_1))]) (m' := ⟨[], []⟩) (tv := (.v (.one (.d (.int .i64 vx1_1))))) (rl := []) (nl := []) (by kernel_rfl) (by kernel_rfl) (by kernel_rfl) (sees_of (by kernel_rfl) trivial trivial) (t_same (by kernel_rfl) (by kernel_rfl)) ⟨rfl, rfl⟩

/-! ### beaconfleet/fleetref2.sign -/
theorem fleetref2_sign_ok (qn : Int) (r : Int) (hF : fleetref2_sign qn = some r) : Holds prog 224 [.v (.one (.d (.int .i64 qn)))] ⟨[], []⟩ (fun tv m => tv = .v (.one (.d (.int .i64 r))) ∧ m = ⟨[], []⟩) := by
  unfold fleetref2_sign at hF
  refine holds_of_awp hΓ (fn := f224) (c := cB f224) (A := 0) (nx := 0) (by kernel_rfl) (by kernel_rfl) (by kernel_rfl) (by kernel_rfl) (by kernel_rfl) (by kernel_rfl) (lowc_of (by kernel_rfl)) ?_
  show Awp prog 0 9 (cB f224) _ _
  refine awp_seq ?_
  refine awp_region' 0 1000 (by kernel_rfl) (by kernel_rfl) ?_
  refine aops_eff hΓ (.v (.one (.d (.int .i64 0)))) [] [] (by kernel_rfl) ?_
  refine aops_nil ?_
  refine awp_seq ?_
  refine awp_block ?_
  refine awp_seq ?_
  refine awp_region' 1000 4000 (by kernel_rfl) (by kernel_rfl) ?_
  refine aops_eff hΓ (.v (.one (.d (.int .i64 qn)))) [] [] (by kernel_rfl) ?_
  refine aops_eff hΓ (.v (.one (.d (.bool (decide (qn < 0)))))) [] [] (by kernel_rfl) ?_
  refine aops_eff hΓ (.v (.one (.d (.bool (decide (qn < 0)))))) [] [] (by kernel_rfl) ?_
  refine aops_nil ?_
  rcases cond_or hF with ⟨h1, hF⟩ | ⟨h1, hF⟩
  · refine awp_true (by kernel_rfl) h1 ?_
    refine awp_seq ?_
    refine awp_region' 4000 5000 (by kernel_rfl) (by kernel_rfl) ?_
    refine aops_eff hΓ (.v (.one (.d (.int .i64 (-1))))) [] [] (by kernel_rfl) ?_
    refine aops_nil ?_
    refine awp_ret ?_
    obtain rfl := some_eq hF
    exact fin_intro (xs := [.one (.d (.int .i64 (-1)))]) (m' := ⟨[], []⟩) (tv := (.v (.one (.d (.int .i64 (-1)))))) (rl := []) (nl := []) (by kernel_rfl) (by kernel_rfl) (by kernel_rfl) (sees_of (by kernel_rfl) trivial trivial) (t_same (by kernel_rfl) (by kernel_rfl)) ⟨rfl, rfl⟩
  · refine awp_false (by kernel_rfl) h1 ?_
    refine awp_seq ?_
    refine awp_region' 4000 7000 (by kernel_rfl) (by kernel_rfl) ?_
    refine aops_eff hΓ (.v (.one (.d (.int .i64 qn)))) [] [] (by kernel_rfl) ?_
    refine aops_eff hΓ (.v (.one (.d (.bool (decide (0 < qn)))))) [] [] (by kernel_rfl) ?_
    refine aops_eff hΓ (.v (.one (.d (.bool (decide (0 < qn)))))) [] [] (by kernel_rfl) ?_
    refine aops_nil ?_
    rcases cond_or hF with ⟨h2, hF⟩ | ⟨h2, hF⟩
    · refine awp_true (by kernel_rfl) h2 ?_
      refine awp_seq ?_
      refine awp_region' 7000 8000 (by kernel_rfl) (by kernel_rfl) ?_
      refine aops_eff hΓ (.v (.one (.d (.int .i64 1)))) [] [] (by kernel_rfl) ?_
      refine aops_nil ?_
      refine awp_ret ?_
      obtain rfl := some_eq hF
      exact fin_intro (xs := [.one (.d (.int .i64 1))]) (m' := ⟨[], []⟩) (tv := (.v (.one (.d (.int .i64 1))))) (rl := []) (nl := []) (by kernel_rfl) (by kernel_rfl) (by kernel_rfl) (sees_of (by kernel_rfl) trivial trivial) (t_same (by kernel_rfl) (by kernel_rfl)) ⟨rfl, rfl⟩
    · refine awp_false (by kernel_rfl) h2 ?_
      refine awp_skip ?_
      refine awp_seq ?_
      refine awp_region' 7000 8000 (by kernel_rfl) (by kernel_rfl) ?_
      refine aops_eff hΓ (.v (.one (.d (.int .i64 0)))) [] [] (by kernel_rfl) ?_
      refine aops_nil ?_
      refine awp_ret ?_
      obtain rfl := some_eq hF
      exact fin_intro (xs := [.one (.d (.int .i64 0))]) (m' := ⟨[], []⟩) (tv := (.v (.one (.d (.int .i64 0))))) (rl := []) (nl := []) (by kernel_rfl) (by kernel_rfl) (by kernel_rfl) (sees_of (by kernel_rfl) trivial trivial) (t_same (by kernel_rfl) (by kernel_rfl)) ⟨rfl, rfl⟩

/-! ### beaconfleet/fleetref2.SampleOrder -/
theorem fleetref2_SampleOrder_ok (qa : api_Sample) (qb : api_Sample) (r : Int) (hF : fleetref2_SampleOrder qa qb = some r) : Holds prog 209 [.v (.agg [.d (.str qa.Device), .d (.str qa.Metric), .d (.int .i64 qa.At), .d (.int .i64 qa.Value)]), .v (.agg [.d (.str qb.Device), .d (.str qb.Metric), .d (.int .i64 qb.At), .d (.int .i64 qb.Value)])] ⟨[], []⟩ (fun tv m => tv = .v (.one (.d (.int .i64 r))) ∧ m = ⟨[], []⟩) := by
  unfold fleetref2_SampleOrder at hF
  refine holds_of_awp hΓ (fn := f209) (c := cB f209) (A := 0) (nx := 0) (by kernel_rfl) (by kernel_rfl) (by kernel_rfl) (by kernel_rfl) (by kernel_rfl) (by kernel_rfl) (lowc_of (by kernel_rfl)) ?_
  show Awp prog 0 26 (cB f209) _ _
  refine awp_seq ?_
  refine awp_region' 0 3000 (by kernel_rfl) (by kernel_rfl) ?_
  refine aops_eff hΓ (.v (.one (.box 0 0))) [] [(0, some [.d (.str qa.Device), .d (.str qa.Metric), .d (.int .i64 qa.At), .d (.int .i64 qa.Value)])] (by kernel_rfl) ?_
  refine aops_eff hΓ (.v (.one (.box 1000 0))) [] [(1000, some [.d (.str qb.Device), .d (.str qb.Metric), .d (.int .i64 qb.At), .d (.int .i64 qb.Value)])] (by kernel_rfl) ?_
  refine aops_eff hΓ (.v (.one (.d (.int .i64 0)))) [] [] (by kernel_rfl) ?_
  refine aops_nil ?_
  refine awp_seq ?_
  refine awp_seq ?_
  obtain ⟨vr2, h1, hF⟩ := bind_some hF
  refine awp_region' 3000 15000 (by kernel_rfl) (by kernel_rfl) ?_
  refine aops_eff hΓ (.v (.one (.box 0 0))) [] [] (by kernel_rfl) ?_
  refine aops_eff hΓ (.v (.one (.d (.str qa.Device)))) [] [] (by kernel_rfl) ?_
  refine aops_eff hΓ (.v (.one (.box 0 1))) [] [] (by kernel_rfl) ?_
  refine aops_eff hΓ (.v (.one (.d (.str qa.Metric)))) [] [] (by kernel_rfl) ?_
  refine aops_eff hΓ (.v (.one (.own 7000 none))) [(7000, some ⟨9, 1, List.map encS ([qa.Device, qa.Metric] : List (List UInt8))⟩)] [] (by kernel_rfl) ?_
  refine aops_eff hΓ (.v (.one (.box 1000 0))) [] [] (by kernel_rfl) ?_
  refine aops_eff hΓ (.v (.one (.d (.str qb.Device)))) [] [] (by kernel_rfl) ?_
  refine aops_eff hΓ (.v (.one (.box 1000 1))) [] [] (by kernel_rfl) ?_
  refine aops_eff hΓ (.v (.one (.d (.str qb.Metric)))) [] [] (by kernel_rfl) ?_
  refine aops_eff hΓ (.v (.one (.own 12000 none))) [(12000, some ⟨9, 1, List.map encS ([qb.Device, qb.Metric] : List (List UInt8))⟩)] [] (by kernel_rfl) ?_
  refine aops_call (by kernel_rfl) (by kernel_rfl) (does_call (f := (.func 245)) (g := 245) (caps := []) (tvs := [.v (.one (.own 7000 none)), .v (.one (.own 12000 none))]) (al := [.v (.one (.d (.lst (List.map encS ([qa.Device, qa.Metric] : List (List UInt8)))))), .v (.one (.d (.lst (List.map encS ([qb.Device, qb.Metric] : List (List UInt8))))))]) (m := ⟨[], []⟩) (m' := ⟨[], []⟩) (tv := .v (.one (.d (.int .i64 vr2)))) (lens := [7000, 12000]) rfl (by kernel_rfl) (by kernel_rfl) (sees_of (rl := []) (nl := []) (by kernel_rfl) trivial trivial) (⟨t_cell (c := .own 7000 none) (by kernel_rfl) (see_own (us := [7000]) (by simp) rfl (by kernel_rfl) (by kernel_rfl)), t_cell (c := .own 12000 none) (by kernel_rfl) (see_own (us := [12000]) (by simp) rfl (by kernel_rfl) (by kernel_rfl)), trivial⟩) (slices_Compare_string_string_ok _ _ _ h1) (left_of (by kernel_rfl))) (.v (.one (.d (.int .i64 vr2)))) [] [] (by kernel_rfl) ?_
  refine aops_eff hΓ (.v (.one (.d (.int .i64 vr2)))) [] [] (by kernel_rfl) ?_
  refine aops_nil ?_
  refine awp_seq ?_
  refine awp_region' 15000 17000 (by kernel_rfl) (by kernel_rfl) ?_
  refine aops_eff hΓ (.v (.one (.d (.int .i64 vr2)))) [] [] (by kernel_rfl) ?_
  refine aops_eff hΓ (.v (.one (.d (.bool (!decide (vr2 = 0)))))) [] [] (by kernel_rfl) ?_
  refine aops_nil ?_
  rcases cond_or hF with ⟨h2, hF⟩ | ⟨h2, hF⟩
  · refine awp_true (by kernel_rfl) h2 ?_
    refine awp_seq ?_
    refine awp_region' 17000 19000 (by kernel_rfl) (by kernel_rfl) ?_
    refine aops_eff hΓ (.v (.one (.d (.int .i64 vr2)))) [] [] (by kernel_rfl) ?_
    refine aops_eff hΓ (.v (.one (.d (.int .i64 vr2)))) [] [] (by kernel_rfl) ?_
    refine aops_nil ?_
    refine awp_ret ?_
    obtain rfl := some_eq hF
    exact fin_intro (xs := [.one (.d (.int .i64 vr2))]) (m' := ⟨[], []⟩) (tv := (.v (.one (.d (.int .i64 vr2))))) (rl := []) (nl := []) (by kernel_rfl) (by kernel_rfl) (by kernel_rfl) (sees_of (by kernel_rfl) trivial trivial) (t_same (by kernel_rfl) (by kernel_rfl)) ⟨rfl, rfl⟩
  · refine awp_false (by kernel_rfl) h2 ?_
    refine awp_skip ?_
    refine awp_seq ?_
    obtain ⟨vr, h3, hF⟩ := bind_some hF
    refine awp_region' 17000 24000 (by kernel_rfl) (by kernel_rfl) ?_
    refine aops_eff hΓ (.v (.one (.box 0 2))) [] [] (by kernel_rfl) ?_
    refine aops_eff hΓ (.v (.one (.d (.int .i64 qa.At)))) [] [] (by kernel_rfl) ?_
    refine aops_eff hΓ (.v (.one (.box 1000 2))) [] [] (by kernel_rfl) ?_
    refine aops_eff hΓ (.v (.one (.d (.int .i64 qb.At)))) [] [] (by kernel_rfl) ?_
    refine aops_eff hΓ (.v (.one (.d (.int .i64 (IntKind.wrap .i64 (qa.At - qb.At)))))) [] [] (by kernel_rfl) ?_
    refine aops_call (by kernel_rfl) (by kernel_rfl) (does_call (f := (.func 224)) (g := 224) (caps := []) (tvs := [.v (.one (.d (.int .i64 (IntKind.wrap .i64 (qa.At - qb.At)))))]) (al := [.v (.one (.d (.int .i64 (IntKind.wrap .i64 (qa.At - qb.At)))))]) (m := ⟨[], []⟩) (m' := ⟨[], []⟩) (tv := .v (.one (.d (.int .i64 vr)))) (lens := []) rfl (by kernel_rfl) (by kernel_rfl) (sees_of (rl := []) (nl := []) (by kernel_rfl) trivial trivial) (⟨t_same (by kernel_rfl) (by kernel_rfl), trivial⟩) (fleetref2_sign_ok _ _ h3) (left_of (by kernel_rfl))) (.v (.one (.d (.int .i64 vr)))) [] [] (by kernel_rfl) ?_
    refine aops_eff hΓ (.v (.one (.d (.int .i64 vr)))) [] [] (by kernel_rfl) ?_
    refine aops_nil ?_
    refine awp_ret ?_
    obtain rfl := some_eq hF
    exact fin_intro (xs := [.one (.d (.int .i64 vr))]) (m' := ⟨[], []⟩) (tv := (.v (.one (.d (.int .i64 vr))))) (rl := []) (nl := []) (by kernel_rfl) (by kernel_rfl) (by kernel_rfl) (sees_of (by kernel_rfl) trivial trivial) (t_same (by kernel_rfl) (by kernel_rfl)) ⟨rfl, rfl⟩

/-! ### beaconfleet/fleetref2.SamplesFault -/
def fleetref2_SamplesFault_x2_k : Bool → AEx
  | _ => .normal

def fleetref2_SamplesFault_x2_S (ql : List api_Sample) (vx : Int) (vy2 : api_Sample) : Bool → St
  | vx4 => Mem.st ⟨[], [(0, [.d (.str vy2.Device), .d (.str vy2.Metric), .d (.int .i64 vy2.At), .d (.int .i64 vy2.Value)])]⟩ (tl [(0, .v (.one (.d (.lst (List.map api_Sample.enc ql))))), (3, .v (.one (.d (.int .i64 vx)))), (4, .v (.one (.box 0 0))), (8, .v (.one (.d (.lst (List.map api_Sample.enc ql))))), (9, .v (.one (.d (.int .i64 (ql.length : Int))))), (10, .v (.one (.d (.int .i64 vx)))), (15, .v (.one (.d (.bool vx4))))]) 1

theorem fleetref2_SamplesFault_x2_ok (ql : List api_Sample) (vx : Int) (vy2 : api_Sample) (r : Bool) (hF : fleetref2_SamplesFault_x2 vy2 = some r) : Awp prog 0 51 (cL (cL (cR (cL (cL (cR (cR (cL (cL (cR (cL (cR (cR (cB f116)))))))))))))) (Out 0 fleetref2_SamplesFault_x2_k (fleetref2_SamplesFault_x2_S ql vx vy2) r) (Mem.st ⟨[], [(0, [.d (.str vy2.Device), .d (.str vy2.Metric), .d (.int .i64 vy2.At), .d (.int .i64 vy2.Value)])]⟩ (tl [(0, .v (.one (.d (.lst (List.map api_Sample.enc ql))))), (3, .v (.one (.d (.int .i64 vx)))), (4, .v (.one (.box 0 0))), (8, .v (.one (.d (.lst (List.map api_Sample.enc ql))))), (9, .v (.one (.d (.int .i64 (ql.length : Int))))), (10, .v (.one (.d (.int .i64 vx))))]) 1) := by
  unfold fleetref2_SamplesFault_x2 at hF
  obtain ⟨vr3_2, h4, hF⟩ := bind_some hF
  rcases cond_or hF with ⟨h5, hF⟩ | ⟨h5, hF⟩
  · refine awp_region' 1 11001 (by kernel_rfl) (by kernel_rfl) ?_
    refine aops_eff hΓ (.v (.one (.box 0 0))) [] [] (by kernel_rfl) ?_
    refine aops_eff hΓ (.v (.one (.d (.str vy2.Device)))) [] [] (by kernel_rfl) ?_
    refine aops_call (by kernel_rfl) (by kernel_rfl) (does_call (f := (.func 31)) (g := 31) (caps := []) (tvs := [.v (.one (.d (.str vy2.Device)))]) (al := [.v (.one (.d (.str vy2.Device)))]) (m := ⟨[], []⟩) (m' := ⟨[], []⟩) (tv := .v (.one (.d (.bool vr3_2)))) (lens := []) rfl (by kernel_rfl) (by kernel_rfl) (sees_of (rl := []) (nl := []) (by kernel_rfl) trivial trivial) (⟨t_same (by kernel_rfl) (by kernel_rfl), trivial⟩) (fleetref2_Key_ok _ _ h4) (left_of (by kernel_rfl))) (.v (.one (.d (.bool vr3_2)))) [] [] (by kernel_rfl) ?_
    refine aops_eff hΓ (.v (.one (.d (.bool true)))) [] [] (opx_b (by kernel_rfl) h5) ?_
    refine aops_eff hΓ (.v (.one (.d (.bool true)))) [] [] (by kernel_rfl) ?_
    refine aops_skip' (by kernel_rfl) ?_
    refine aops_skip' (by kernel_rfl) ?_
    refine aops_skip' (by kernel_rfl) ?_
    refine aops_skip' (by kernel_rfl) ?_
    refine aops_eff hΓ (.v (.one (.d (.bool true)))) [] [] (by kernel_rfl) ?_
    refine aops_eff hΓ (.v (.one (.d (.bool true)))) [] [] (by kernel_rfl) ?_
    refine aops_nil ?_
    obtain rfl := some_eq hF
    exact out_intro rfl (to_see [] [] ⟨[], [(0, [.d (.str vy2.Device), .d (.str vy2.Metric), .d (.int .i64 vy2.At), .d (.int .i64 vy2.Value)])]⟩ [(0, .v (.one (.d (.lst (List.map api_Sample.enc ql))))), (3, .v (.one (.d (.int .i64 vx)))), (4, .v (.one (.box 0 0))), (8, .v (.one (.d (.lst (List.map api_Sample.enc ql))))), (9, .v (.one (.d (.int .i64 (ql.length : Int))))), (10, .v (.one (.d (.int .i64 vx)))), (15, .v (.one (.d (.bool true))))] 1 (by kernel_rfl) (by kernel_rfl) (lowc_of (by kernel_rfl)) trivial (⟨⟨by kernel_rfl, [.d (.str vy2.Device), .d (.str vy2.Metric), .d (.int .i64 vy2.At), .d (.int .i64 vy2.Value)], by kernel_rfl, l2_same (by kernel_rfl) (by kernel_rfl)⟩, trivial⟩) (⟨t_same (by kernel_rfl) (by kernel_rfl), t_same (by kernel_rfl) (by kernel_rfl), t_same (by kernel_rfl) (by kernel_rfl), t_same (by kernel_rfl) (by kernel_rfl), t_same (by kernel_rfl) (by kernel_rfl), t_same (by kernel_rfl) (by kernel_rfl), t_same (by kernel_rfl) (by kernel_rfl), trivial⟩))
  · obtain ⟨vr3_3, h6, hF⟩ := bind_some hF
    refine awp_region' 1 11001 (by kernel_rfl) (by kernel_rfl) ?_
    refine aops_eff hΓ (.v (.one (.box 0 0))) [] [] (by kernel_rfl) ?_
    refine aops_eff hΓ (.v (.one (.d (.str vy2.Device)))) [] [] (by kernel_rfl) ?_
    refine aops_call (by kernel_rfl) (by kernel_rfl) (does_call (f := (.func 31)) (g := 31) (caps := []) (tvs := [.v (.one (.d (.str vy2.Device)))]) (al := [.v (.one (.d (.str vy2.Device)))]) (m := ⟨[], []⟩) (m' := ⟨[], []⟩) (tv := .v (.one (.d (.bool vr3_2)))) (lens := []) rfl (by kernel_rfl) (by kernel_rfl) (sees_of (rl := []) (nl := []) (by kernel_rfl) trivial trivial) (⟨t_same (by kernel_rfl) (by kernel_rfl), trivial⟩) (fleetref2_Key_ok _ _ h4) (left_of (by kernel_rfl))) (.v (.one (.d (.bool vr3_2)))) [] [] (by kernel_rfl) ?_
    refine aops_eff hΓ (.v (.one (.d (.bool false)))) [] [] (opx_b (by kernel_rfl) h5) ?_
    refine aops_eff hΓ (.v (.one (.d (.bool false)))) [] [] (by kernel_rfl) ?_
    refine aops_eff hΓ (.v (.one (.box 0 1))) [] [] (by kernel_rfl) ?_
    refine aops_eff hΓ (.v (.one (.d (.str vy2.Metric)))) [] [] (by kernel_rfl) ?_
    refine aops_call (by kernel_rfl) (by kernel_rfl) (does_call (f := (.func 31)) (g := 31) (caps := []) (tvs := [.v (.one (.d (.str vy2.Metric)))]) (al := [.v (.one (.d (.str vy2.Metric)))]) (m := ⟨[], []⟩) (m' := ⟨[], []⟩) (tv := .v (.one (.d (.bool vr3_3)))) (lens := []) rfl (by kernel_rfl) (by kernel_rfl) (sees_of (rl := []) (nl := []) (by kernel_rfl) trivial trivial) (⟨t_same (by kernel_rfl) (by kernel_rfl), trivial⟩) (fleetref2_Key_ok _ _ h6) (left_of (by kernel_rfl))) (.v (.one (.d (.bool vr3_3)))) [] [] (by kernel_rfl) ?_
    refine aops_eff hΓ (.v (.one (.d (.bool (!vr3_3))))) [] [] (by kernel_rfl) ?_
    refine aops_eff hΓ (.v (.one (.d (.bool (!vr3_3))))) [] [] (by kernel_rfl) ?_
    refine aops_eff hΓ (.v (.one (.d (.bool (!vr3_3))))) [] [] (by kernel_rfl) ?_
    refine aops_nil ?_
    obtain rfl := some_eq hF
    exact out_intro rfl (to_see [] [] ⟨[], [(0, [.d (.str vy2.Device), .d (.str vy2.Metric), .d (.int .i64 vy2.At), .d (.int .i64 vy2.Value)])]⟩ [(0, .v (.one (.d (.lst (List.map api_Sample.enc ql))))), (3, .v (.one (.d (.int .i64 vx)))), (4, .v (.one (.box 0 0))), (8, .v (.one (.d (.lst (List.map api_Sample.enc ql))))), (9, .v (.one (.d (.int .i64 (ql.length : Int))))), (10, .v (.one (.d (.int .i64 vx)))), (15, .v (.one (.d (.bool (!vr3_3)))))] 1 (by kernel_rfl) (by kernel_rfl) (lowc_of (by kernel_rfl)) trivial (⟨⟨by kernel_rfl, [.d (.str vy2.Device), .d (.str vy2.Metric), .d (.int .i64 vy2.At), .d (.int .i64 vy2.Value)], by kernel_rfl, l2_same (by kernel_rfl) (by kernel_rfl)⟩, trivial⟩) (⟨t_same (by kernel_rfl) (by kernel_rfl), t_same (by kernel_rfl) (by kernel_rfl), t_same (by kernel_rfl) (by kernel_rfl), t_same (by kernel_rfl) (by kernel_rfl), t_same (by kernel_rfl) (by kernel_rfl), t_same (by kernel_rfl) (by kernel_rfl), t_same (by kernel_rfl) (by kernel_rfl), trivial⟩))

def fleetref2_SamplesFault_x3_k : Bool → AEx
  | _ => .normal

def fleetref2_SamplesFault_x3_S (ql : List api_Sample) (vx : Int) (vy2 : api_Sample) : Bool → St
  | vx5 => Mem.st ⟨[], [(0, [.d (.str vy2.Device), .d (.str vy2.Metric), .d (.int .i64 vy2.At), .d (.int .i64 vy2.Value)])]⟩ (tl [(0, .v (.one (.d (.lst (List.map api_Sample.enc ql))))), (3, .v (.one (.d (.int .i64 vx)))), (4, .v (.one (.box 0 0))), (8, .v (.one (.d (.lst (List.map api_Sample.enc ql))))), (9, .v (.one (.d (.int .i64 (ql.length : Int))))), (10, .v (.one (.d (.int .i64 vx)))), (26, .v (.one (.d (.bool vx5))))]) 1

theorem fleetref2_SamplesFault_x3_ok (ql : List api_Sample) (vx : Int) (vy2 : api_Sample) (r : Bool) (hF : fleetref2_SamplesFault_x3 vy2 = some r) : Awp prog 0 51 (cL (cR (cR (cL (cR (cL (cL (cR (cR (cL (cL (cR (cL (cR (cR (cB f116)))))))))))))))) (Out 0 fleetref2_SamplesFault_x3_k (fleetref2_SamplesFault_x3_S ql vx vy2) r) (Mem.st ⟨[], [(0, [.d (.str vy2.Device), .d (.str vy2.Metric), .d (.int .i64 vy2.At), .d (.int .i64 vy2.Value)])]⟩ (tl [(0, .v (.one (.d (.lst (List.map api_Sample.enc ql))))), (3, .v (.one (.d (.int .i64 vx)))), (4, .v (.one (.box 0 0))), (8, .v (.one (.d (.lst (List.map api_Sample.enc ql))))), (9, .v (.one (.d (.int .i64 (ql.length : Int))))), (10, .v (.one (.d (.int .i64 vx))))]) 1) := by
  unfold fleetref2_SamplesFault_x3 at hF
  obtain ⟨vr1_2, h9, hF⟩ := bind_some hF
  rcases cond_or hF with ⟨h10, hF⟩ | ⟨h10, hF⟩
  · refine awp_region' 1 11001 (by kernel_rfl) (by kernel_rfl) ?_
    refine aops_eff hΓ (.v (.one (.box 0 2))) [] [] (by kernel_rfl) ?_
    refine aops_eff hΓ (.v (.one (.d (.int .i64 vy2.At)))) [] [] (by kernel_rfl) ?_
    refine aops_call (by kernel_rfl) (by kernel_rfl) (does_call (f := (.func 133)) (g := 133) (caps := []) (tvs := [.v (.one (.d (.int .i64 vy2.At)))]) (al := [.v (.one (.d (.int .i64 vy2.At)))]) (m := ⟨[], []⟩) (m' := ⟨[], []⟩) (tv := .v (.one (.d (.bool vr1_2)))) (lens := []) rfl (by kernel_rfl) (by kernel_rfl) (sees_of (rl := []) (nl := []) (by kernel_rfl) trivial trivial) (⟨t_same (by kernel_rfl) (by kernel_rfl), trivial⟩) (fleetref2_Moment_ok _ _ h9) (left_of (by kernel_rfl))) (.v (.one (.d (.bool vr1_2)))) [] [] (by kernel_rfl) ?_
    refine aops_eff hΓ (.v (.one (.d (.bool true)))) [] [] (opx_b (by kernel_rfl) h10) ?_
    refine aops_eff hΓ (.v (.one (.d (.bool true)))) [] [] (by kernel_rfl) ?_
    refine aops_skip' (by kernel_rfl) ?_
    refine aops_skip' (by kernel_rfl) ?_
    refine aops_skip' (by kernel_rfl) ?_
    refine aops_skip' (by kernel_rfl) ?_
    refine aops_eff hΓ (.v (.one (.d (.bool true)))) [] [] (by kernel_rfl) ?_
    refine aops_eff hΓ (.v (.one (.d (.bool true)))) [] [] (by kernel_rfl) ?_
    refine aops_nil ?_
    obtain rfl := some_eq hF
    exact out_intro rfl (to_see [] [] ⟨[], [(0, [.d (.str vy2.Device), .d (.str vy2.Metric), .d (.int .i64 vy2.At), .d (.int .i64 vy2.Value)])]⟩ [(0, .v (.one (.d (.lst (List.map api_Sample.enc ql))))), (3, .v (.one (.d (.int .i64 vx)))), (4, .v (.one (.box 0 0))), (8, .v (.one (.d (.lst (List.map api_Sample.enc ql))))), (9, .v (.one (.d (.int .i64 (ql.length : Int))))), (10, .v (.one (.d (.int .i64 vx)))), (26, .v (.one (.d (.bool true))))] 1 (by kernel_rfl) (by kernel_rfl) (lowc_of (by kernel_rfl)) trivial (⟨⟨by kernel_rfl, [.d (.str vy2.Device), .d (.str vy2.Metric), .d (.int .i64 vy2.At), .d (.int .i64 vy2.Value)], by kernel_rfl, l2_same (by kernel_rfl) (by kernel_rfl)⟩, trivial⟩) (⟨t_same (by kernel_rfl) (by kernel_rfl), t_same (by kernel_rfl) (by kernel_rfl), t_same (by kernel_rfl) (by kernel_rfl), t_same (by kernel_rfl) (by kernel_rfl), t_same (by kernel_rfl) (by kernel_rfl), t_same (by kernel_rfl) (by kernel_rfl), t_same (by kernel_rfl) (by kernel_rfl), trivial⟩))
  · obtain ⟨vr2, h11, hF⟩ := bind_some hF
    refine awp_region' 1 11001 (by kernel_rfl) (by kernel_rfl) ?_
    refine aops_eff hΓ (.v (.one (.box 0 2))) [] [] (by kernel_rfl) ?_
    refine aops_eff hΓ (.v (.one (.d (.int .i64 vy2.At)))) [] [] (by kernel_rfl) ?_
    refine aops_call (by kernel_rfl) (by kernel_rfl) (does_call (f := (.func 133)) (g := 133) (caps := []) (tvs := [.v (.one (.d (.int .i64 vy2.At)))]) (al := [.v (.one (.d (.int .i64 vy2.At)))]) (m := ⟨[], []⟩) (m' := ⟨[], []⟩) (tv := .v (.one (.d (.bool vr1_2)))) (lens := []) rfl (by kernel_rfl) (by kernel_rfl) (sees_of (rl := []) (nl := []) (by kernel_rfl) trivial trivial) (⟨t_same (by kernel_rfl) (by kernel_rfl), trivial⟩) (fleetref2_Moment_ok _ _ h9) (left_of (by kernel_rfl))) (.v (.one (.d (.bool vr1_2)))) [] [] (by kernel_rfl) ?_
    refine aops_eff hΓ (.v (.one (.d (.bool false)))) [] [] (opx_b (by kernel_rfl) h10) ?_
    refine aops_eff hΓ (.v (.one (.d (.bool false)))) [] [] (by kernel_rfl) ?_
    refine aops_eff hΓ (.v (.one (.box 0 3))) [] [] (by kernel_rfl) ?_
    refine aops_eff hΓ (.v (.one (.d (.int .i64 vy2.Value)))) [] [] (by kernel_rfl) ?_
    refine aops_call (by kernel_rfl) (by kernel_rfl) (does_call (f := (.func 119)) (g := 119) (caps := []) (tvs := [.v (.one (.d (.int .i64 vy2.Value))), .v (.one (.d (.int .i64 (-1000000000)))), .v (.one (.d (.int .i64 1000000000)))]) (al := [.v (.one (.d (.int .i64 vy2.Value))), .v (.one (.d (.int .i64 (-1000000000)))), .v (.one (.d (.int .i64 1000000000)))]) (m := ⟨[], []⟩) (m' := ⟨[], []⟩) (tv := .v (.one (.d (.bool vr2)))) (lens := []) rfl (by kernel_rfl) (by kernel_rfl) (sees_of (rl := []) (nl := []) (by kernel_rfl) trivial trivial) (⟨t_same (by kernel_rfl) (by kernel_rfl), t_same (by kernel_rfl) (by kernel_rfl), t_same (by kernel_rfl) (by kernel_rfl), trivial⟩) (fleetref2_in_ok _ _ _ _ h11) (left_of (by kernel_rfl))) (.v (.one (.d (.bool vr2)))) [] [] (by kernel_rfl) ?_
    refine aops_eff hΓ (.v (.one (.d (.bool (!vr2))))) [] [] (by kernel_rfl) ?_
    refine aops_eff hΓ (.v (.one (.d (.bool (!vr2))))) [] [] (by kernel_rfl) ?_
    refine aops_eff hΓ (.v (.one (.d (.bool (!vr2))))) [] [] (by kernel_rfl) ?_
    refine aops_nil ?_
    obtain rfl := some_eq hF
    exact out_intro rfl (to_see [] [] ⟨[], [(0, [.d (.str vy2.Device), .d (.str vy2.Metric), .d (.int .i64 vy2.At), .d (.int .i64 vy2.Value)])]⟩ [(0, .v (.one (.d (.lst (List.map api_Sample.enc ql))))), (3, .v (.one (.d (.int .i64 vx)))), (4, .v (.one (.box 0 0))), (8, .v (.one (.d (.lst (List.map api_Sample.enc ql))))), (9, .v (.one (.d (.int .i64 (ql.length : Int))))), (10, .v (.one (.d (.int .i64 vx)))), (26, .v (.one (.d (.bool (!vr2)))))] 1 (by kernel_rfl) (by kernel_rfl) (lowc_of (by kernel_rfl)) trivial (⟨⟨by kernel_rfl, [.d (.str vy2.Device), .d (.str vy2.Metric), .d (.int .i64 vy2.At), .d (.int .i64 vy2.Value)], by kernel_rfl, l2_same (by kernel_rfl) (by kernel_rfl)⟩, trivial⟩) (⟨t_same (by kernel_rfl) (by kernel_rfl), t_same (by kernel_rfl) (by kernel_rfl), t_same (by kernel_rfl) (by kernel_rfl), t_same (by kernel_rfl) (by kernel_rfl), t_same (by kernel_rfl) (by kernel_rfl), t_same (by kernel_rfl) (by kernel_rfl), t_same (by kernel_rfl) (by kernel_rfl), trivial⟩))

def fleetref2_SamplesFault_x4_k : Bool → AEx
  | _ => .normal

def fleetref2_SamplesFault_x4_S (ql : List api_Sample) (vx : Int) (vy2 : api_Sample) : Bool → St
  | vx6 => Mem.st ⟨[], []⟩ (tl [(0, .v (.one (.d (.lst (List.map api_Sample.enc ql))))), (8, .v (.one (.d (.lst (List.map api_Sample.enc ql))))), (9, .v (.one (.d (.int .i64 (ql.length : Int))))), (10, .v (.one (.d (.int .i64 vx)))), (37, .v (.one (.d (.bool vx6))))]) 0

theorem fleetref2_SamplesFault_x4_ok (ql : List api_Sample) (vx : Int) (vy2 : api_Sample) (r : Bool) (hF : fleetref2_SamplesFault_x4 ql vx vy2 = some r) : Awp prog 0 51 (cL (cR (cR (cR (cR (cL (cR (cL (cL (cR (cR (cL (cL (cR (cL (cR (cR (cB f116)))))))))))))))))) (Out 0 fleetref2_SamplesFault_x4_k (fleetref2_SamplesFault_x4_S ql vx vy2) r) (Mem.st ⟨[], [(0, [.d (.str vy2.Device), .d (.str vy2.Metric), .d (.int .i64 vy2.At), .d (.int .i64 vy2.Value)])]⟩ (tl [(0, .v (.one (.d (.lst (List.map api_Sample.enc ql))))), (3, .v (.one (.d (.int .i64 vx)))), (4, .v (.one (.box 0 0))), (8, .v (.one (.d (.lst (List.map api_Sample.enc ql))))), (9, .v (.one (.d (.int .i64 (ql.length : Int))))), (10, .v (.one (.d (.int .i64 vx))))]) 1) := by
  unfold fleetref2_SamplesFault_x4 at hF
  rcases cond_or hF with ⟨h14, hF⟩ | ⟨h14, hF⟩
  · obtain ⟨vy3, h15, hF⟩ := bind_some hF
    obtain ⟨vr1_3, h16, hF⟩ := bind_some hF
    refine awp_region_any' hm 1 13001 [(some ⟨.v (.one (.d (.int .i64 vx))), [], [], []⟩, []), (some ⟨.v (.one (.d (.bool true))), [], [], []⟩, []), (some ⟨.v (.one (.d (.bool true))), [], [], []⟩, []), (some ⟨.v (.one (.d (.lst (List.map api_Sample.enc ql)))), [], [], []⟩, []), (some ⟨.v (.one (.d (.int .i64 vx))), [], [], []⟩, []), (some ⟨.v (.one (.d (.int .i64 (IntKind.wrap .i64 (vx - 1))))), [], [], []⟩, []), (some ⟨.v (.one (.cp [.str vy3.Device, .str vy3.Metric, .int .i64 vy3.At, .int .i64 vy3.Value])), [], [], []⟩, []), (some ⟨.v (.agg [.d (.str vy3.Device), .d (.str vy3.Metric), .d (.int .i64 vy3.At), .d (.int .i64 vy3.Value)]), [], [], []⟩, []), (some ⟨.v (.agg [.d (.str vy2.Device), .d (.str vy2.Metric), .d (.int .i64 vy2.At), .d (.int .i64 vy2.Value)]), [], [], []⟩, [0]), (some ⟨.v (.one (.d (.int .i64 vr1_3))), [], [], []⟩, []), (some ⟨.v (.one (.d (.bool (decide (0 ≤ vr1_3))))), [], [], []⟩, []), (some ⟨.v (.one (.d (.bool (decide (0 ≤ vr1_3))))), [], [], []⟩, []), (some ⟨.v (.one (.d (.bool (decide (0 ≤ vr1_3))))), [], [], []⟩, [])] [[], [0], [0, 1], [0, 1, 2], [0, 1, 2], [0, 1, 2, 4], [0, 1, 2, 3, 4, 5], [0, 1, 2, 3, 4, 5, 6], [0, 1, 2], [0, 1, 2, 3, 4, 5, 6, 7, 8], [0, 1, 2, 3, 4, 5, 6, 7, 8, 9], [0, 1, 2, 3, 4, 5, 6, 7, 8, 9, 10], [0, 1, 2, 3, 4, 5, 6, 7, 8, 9, 10, 11]] (by kernel_rfl) (by kernel_rfl) (by kernel_rfl) (by kernel_rfl) ?_
    refine And.intro (step_eff hΓ (.v (.one (.d (.int .i64 vx)))) [] [] (by kernel_rfl) (by kernel_rfl)) ?_
    refine And.intro (step_eff hΓ (.v (.one (.d (.bool true)))) [] [] (opx_b (by kernel_rfl) h14) (by kernel_rfl)) ?_
    refine And.intro (step_eff hΓ (.v (.one (.d (.bool true)))) [] [] (by kernel_rfl) (by kernel_rfl)) ?_
    refine And.intro (step_eff hΓ (.v (.one (.d (.lst (List.map api_Sample.enc ql))))) [] [] (by kernel_rfl) (by kernel_rfl)) ?_
    refine And.intro (step_eff hΓ (.v (.one (.d (.int .i64 vx)))) [] [] (by kernel_rfl) (by kernel_rfl)) ?_
    refine And.intro (step_eff hΓ (.v (.one (.d (.int .i64 (IntKind.wrap .i64 (vx - 1)))))) [] [] (by kernel_rfl) (by kernel_rfl)) ?_
    refine And.intro (step_eff hΓ (.v (.one (.cp [.str vy3.Device, .str vy3.Metric, .int .i64 vy3.At, .int .i64 vy3.Value]))) [] [] (opx_of (by kernel_rfl) (by kernel_rfl) (eff_indexAddr (k := .i64) (ti := ti26) (te := ti42) (l := ql) (f := api_Sample.enc) (y := vy3) (by kernel_rfl) rfl (by kernel_rfl) (by kernel_rfl) (by kernel_rfl) h15 (by kernel_rfl))) (by kernel_rfl)) ?_
    refine And.intro (step_eff hΓ (.v (.agg [.d (.str vy3.Device), .d (.str vy3.Metric), .d (.int .i64 vy3.At), .d (.int .i64 vy3.Value)])) [] [] (by kernel_rfl) (by kernel_rfl)) ?_
    refine And.intro (step_eff hΓ (.v (.agg [.d (.str vy2.Device), .d (.str vy2.Metric), .d (.int .i64 vy2.At), .d (.int .i64 vy2.Value)])) [] [] (by kernel_rfl) (by kernel_rfl)) ?_
    refine And.intro (step_call (by kernel_rfl) (by kernel_rfl) (stable_call (f := (.func 209)) (g := 209) (caps := []) (tvs := [.v (.agg [.d (.str vy3.Device), .d (.str vy3.Metric), .d (.int .i64 vy3.At), .d (.int .i64 vy3.Value)]), .v (.agg [.d (.str vy2.Device), .d (.str vy2.Metric), .d (.int .i64 vy2.At), .d (.int .i64 vy2.Value)])]) (al := [.v (.agg [.d (.str vy3.Device), .d (.str vy3.Metric), .d (.int .i64 vy3.At), .d (.int .i64 vy3.Value)]), .v (.agg [.d (.str vy2.Device), .d (.str vy2.Metric), .d (.int .i64 vy2.At), .d (.int .i64 vy2.Value)])]) (m := ⟨[], []⟩) (m' := ⟨[], []⟩) (tv := .v (.one (.d (.int .i64 vr1_3)))) (lens := []) rfl (by kernel_rfl) (by kernel_rfl) (sees_of (rl := []) (nl := []) (by kernel_rfl) trivial trivial) (⟨t_same (by kernel_rfl) (by kernel_rfl), t_same (by kernel_rfl) (by kernel_rfl), trivial⟩) (fleetref2_SampleOrder_ok _ _ _ h16) (left_of (by kernel_rfl)) (by kernel_rfl)) (.v (.one (.d (.int .i64 vr1_3)))) [] [] (by kernel_rfl)) ?_
    refine And.intro (step_eff hΓ (.v (.one (.d (.bool (decide (0 ≤ vr1_3)))))) [] [] (by kernel_rfl) (by kernel_rfl)) ?_
    refine And.intro (step_eff hΓ (.v (.one (.d (.bool (decide (0 ≤ vr1_3)))))) [] [] (by kernel_rfl) (by kernel_rfl)) ?_
    refine And.intro (step_eff hΓ (.v (.one (.d (.bool (decide (0 ≤ vr1_3)))))) [] [] (by kernel_rfl) (by kernel_rfl)) ?_
    obtain rfl := some_eq hF
    exact out_intro rfl (to_see [] [] ⟨[], []⟩ [(0, .v (.one (.d (.lst (List.map api_Sample.enc ql))))), (8, .v (.one (.d (.lst (List.map api_Sample.enc ql))))), (9, .v (.one (.d (.int .i64 (ql.length : Int))))), (10, .v (.one (.d (.int .i64 vx)))), (37, .v (.one (.d (.bool (decide (0 ≤ vr1_3))))))] 0 (by kernel_rfl) (by kernel_rfl) (lowc_of (by kernel_rfl)) trivial trivial (⟨t_same (by kernel_rfl) (by kernel_rfl), t_same (by kernel_rfl) (by kernel_rfl), t_same (by kernel_rfl) (by kernel_rfl), t_same (by kernel_rfl) (by kernel_rfl), t_same (by kernel_rfl) (by kernel_rfl), trivial⟩))
  · refine awp_region_any' hm 1 13001 [(some ⟨.v (.one (.d (.int .i64 vx))), [], [], []⟩, []), (some ⟨.v (.one (.d (.bool false))), [], [], []⟩, []), (some ⟨.v (.one (.d (.bool false))), [], [], []⟩, []), (none, []), (none, []), (none, []), (none, []), (none, []), (none, []), (none, []), (none, []), (some ⟨.v (.one (.d (.bool false))), [], [], []⟩, []), (some ⟨.v (.one (.d (.bool false))), [], [], []⟩, [])] [[], [0], [0, 1], [0, 1, 2], [0, 1, 2], [0, 1, 2, 4], [0, 1, 2, 3, 4, 5], [0, 1, 2, 3, 4, 5, 6], [0, 1, 2], [0, 1, 2, 3, 4, 5, 6, 7, 8], [0, 1, 2, 3, 4, 5, 6, 7, 8, 9], [0, 1, 2, 3, 4, 5, 6, 7, 8, 9, 10], [0, 1, 2, 3, 4, 5, 6, 7, 8, 9, 10, 11]] (by kernel_rfl) (by kernel_rfl) (by kernel_rfl) (by kernel_rfl) ?_
    refine And.intro (step_eff hΓ (.v (.one (.d (.int .i64 vx)))) [] [] (by kernel_rfl) (by kernel_rfl)) ?_
    refine And.intro (step_eff hΓ (.v (.one (.d (.bool false)))) [] [] (opx_b (by kernel_rfl) h14) (by kernel_rfl)) ?_
    refine And.intro (step_eff hΓ (.v (.one (.d (.bool false)))) [] [] (by kernel_rfl) (by kernel_rfl)) ?_
    refine And.intro (step_skip' (by kernel_rfl)) ?_
    refine And.intro (step_skip' (by kernel_rfl)) ?_
    refine And.intro (step_skip' (by kernel_rfl)) ?_
    refine And.intro (step_skip' (by kernel_rfl)) ?_
    refine And.intro (step_skip' (by kernel_rfl)) ?_
    refine And.intro (step_skip' (by kernel_rfl)) ?_
    refine And.intro (step_skip' (by kernel_rfl)) ?_
    refine And.intro (step_skip' (by kernel_rfl)) ?_
    refine And.intro (step_eff hΓ (.v (.one (.d (.bool false)))) [] [] (by kernel_rfl) (by kernel_rfl)) ?_
    refine And.intro (step_eff hΓ (.v (.one (.d (.bool false)))) [] [] (by kernel_rfl) (by kernel_rfl)) ?_
    obtain rfl := some_eq hF
    exact out_intro rfl (to_see [] [] ⟨[], []⟩ [(0, .v (.one (.d (.lst (List.map api_Sample.enc ql))))), (8, .v (.one (.d (.lst (List.map api_Sample.enc ql))))), (9, .v (.one (.d (.int .i64 (ql.length : Int))))), (10, .v (.one (.d (.int .i64 vx)))), (37, .v (.one (.d (.bool false))))] 0 (by kernel_rfl) (by kernel_rfl) (lowc_of (by kernel_rfl)) trivial trivial (⟨t_same (by kernel_rfl) (by kernel_rfl), t_same (by kernel_rfl) (by kernel_rfl), t_same (by kernel_rfl) (by kernel_rfl), t_same (by kernel_rfl) (by kernel_rfl), t_same (by kernel_rfl) (by kernel_rfl), trivial⟩))

def fleetref2_SamplesFault_x1_k : Unit ⊕ Int → AEx
  | .inl _ => .exit 0
  | .inr _ => .ret

def fleetref2_SamplesFault_x1_S (ql : List api_Sample) : Unit ⊕ Int → St
  | .inl _ => Mem.st ⟨[], []⟩ (tl []) 0
  | .inr vx7 => Mem.st ⟨[], []⟩ (tl [(2, .v (.one (.d (.int .i64 vx7))))]) 0

def fleetref2_SamplesFault_x1_H (ql : List api_Sample) : Int → St
  | vx => Mem.st ⟨[], []⟩ (tl [(0, .v (.one (.d (.lst (List.map api_Sample.enc ql))))), (8, .v (.one (.d (.lst (List.map api_Sample.enc ql))))), (9, .v (.one (.d (.int .i64 (ql.length : Int))))), (10, .v (.one (.d (.int .i64 vx))))]) 0

theorem fleetref2_SamplesFault_x1_ok (ql : List api_Sample) (vx : Int) (r : (Int) ⊕ (Unit ⊕ Int)) (hF : fleetref2_SamplesFault_x1 ql vx = some r) : Awp prog 0 51 (cL (cL (cR (cL (cR (cR (cB f116))))))) (Out 0 (kk fleetref2_SamplesFault_x1_k) (SS (fleetref2_SamplesFault_x1_H ql) (fleetref2_SamplesFault_x1_S ql)) r) (fleetref2_SamplesFault_x1_H ql vx) := by
  unfold fleetref2_SamplesFault_x1 at hF
  refine awp_seq ?_
  refine awp_region' 0 1000 (by kernel_rfl) (by kernel_rfl) ?_
  refine aops_eff hΓ (.v (.one (.d (.bool (decide (vx < (ql.length : Int))))))) [] [] (by kernel_rfl) ?_
  refine aops_nil ?_
  refine awp_seq ?_
  rcases cond_or hF with ⟨h2, hF⟩ | ⟨h2, hF⟩
  · refine awp_true (by kernel_rfl) h2 ?_
    refine awp_skip ?_
    refine awp_seq ?_
    refine awp_block ?_
    refine awp_seq ?_
    obtain ⟨vy2, h3, hF⟩ := bind_some hF
    refine awp_region' 1000 7000 (by kernel_rfl) (by kernel_rfl) ?_
    refine aops_eff hΓ (.v (.one (.d (.int .i64 vx)))) [] [] (by kernel_rfl) ?_
    refine aops_eff hΓ (.v (.one (.cp [.str vy2.Device, .str vy2.Metric, .int .i64 vy2.At, .int .i64 vy2.Value]))) [] [] (opx_of (by kernel_rfl) (by kernel_rfl) (eff_indexAddr (k := .i64) (ti := ti26) (te := ti42) (l := ql) (f := api_Sample.enc) (y := vy2) (by kernel_rfl) rfl (by kernel_rfl) (by kernel_rfl) (by kernel_rfl) h3 (by kernel_rfl))) ?_
    refine aops_eff hΓ (.v (.agg [.d (.str vy2.Device), .d (.str vy2.Metric), .d (.int .i64 vy2.At), .d (.int .i64 vy2.Value)])) [] [] (by kernel_rfl) ?_
    refine aops_eff hΓ (.v (.one (.box 4000 0))) [] [(4000, some [.d (.str ([] : List UInt8)), .d (.str ([] : List UInt8)), .d (.int .i64 0), .d (.int .i64 0)])] (by kernel_rfl) ?_
    refine aops_eff hΓ (.v (.one (.d (.int .i64 vx)))) [] [] (by kernel_rfl) ?_
    refine aops_eff hΓ (.undef) [] [(4000, some [.d (.str vy2.Device), .d (.str vy2.Metric), .d (.int .i64 vy2.At), .d (.int .i64 vy2.Value)])] (by kernel_rfl) ?_
    refine aops_nil ?_
    refine awp_block ?_
    refine awp_seq ?_
    refine awp_to (to_see [(0, 4000)] [] ⟨[], [(0, [.d (.str vy2.Device), .d (.str vy2.Metric), .d (.int .i64 vy2.At), .d (.int .i64 vy2.Value)])]⟩ [(0, .v (.one (.d (.lst (List.map api_Sample.enc ql))))), (3, .v (.one (.d (.int .i64 vx)))), (4, .v (.one (.box 0 0))), (8, .v (.one (.d (.lst (List.map api_Sample.enc ql))))), (9, .v (.one (.d (.int .i64 (ql.length : Int))))), (10, .v (.one (.d (.int .i64 vx))))] 1 (by kernel_rfl) (by kernel_rfl) (lowc_of (by kernel_rfl)) trivial (⟨⟨by kernel_rfl, [.d (.str vy2.Device), .d (.str vy2.Metric), .d (.int .i64 vy2.At), .d (.int .i64 vy2.Value)], by kernel_rfl, l2_same (by kernel_rfl) (by kernel_rfl)⟩, trivial⟩) (⟨t_same (by kernel_rfl) (by kernel_rfl), t_same (by kernel_rfl) (by kernel_rfl), t_same (by kernel_rfl) (by kernel_rfl), t_same (by kernel_rfl) (by kernel_rfl), t_same (by kernel_rfl) (by kernel_rfl), t_same (by kernel_rfl) (by kernel_rfl), trivial⟩)) ?_
    obtain ⟨vx4_1, h7, hF⟩ := bind_some hF
    refine awp_sub (fleetref2_SamplesFault_x2_ok ql vx vy2 _ h7) ?_
    rcases cond_or hF with ⟨h8, hF⟩ | ⟨h8, hF⟩
    · refine awp_true (by kernel_rfl) h8 ?_
      refine awp_seq ?_
      refine awp_region' 1 1001 (by kernel_rfl) (by kernel_rfl) ?_
      refine aops_eff hΓ (.v (.one (.d (.int .i64 5)))) [] [] (by kernel_rfl) ?_
      refine aops_nil ?_
      refine awp_ret ?_
      obtain rfl := some_eq hF
      exact out_intro rfl (to_see [] [] ⟨[], []⟩ [(2, .v (.one (.d (.int .i64 5))))] 0 (by kernel_rfl) (by kernel_rfl) (lowc_of (by kernel_rfl)) trivial trivial (⟨t_same (by kernel_rfl) (by kernel_rfl), trivial⟩))
    · refine awp_false (by kernel_rfl) h8 ?_
      refine awp_seq ?_
      refine awp_to (to_see [] [] ⟨[], [(0, [.d (.str vy2.Device), .d (.str vy2.Metric), .d (.int .i64 vy2.At), .d (.int .i64 vy2.Value)])]⟩ [(0, .v (.one (.d (.lst (List.map api_Sample.enc ql))))), (3, .v (.one (.d (.int .i64 vx)))), (4, .v (.one (.box 0 0))), (8, .v (.one (.d (.lst (List.map api_Sample.enc ql))))), (9, .v (.one (.d (.int .i64 (ql.length : Int))))), (10, .v (.one (.d (.int .i64 vx))))] 1 (by kernel_rfl) (by kernel_rfl) (lowc_of (by kernel_rfl)) trivial (⟨⟨by kernel_rfl, [.d (.str vy2.Device), .d (.str vy2.Metric), .d (.int .i64 vy2.At), .d (.int .i64 vy2.Value)], by kernel_rfl, l2_same (by kernel_rfl) (by kernel_rfl)⟩, trivial⟩) (⟨t_same (by kernel_rfl) (by kernel_rfl), t_same (by kernel_rfl) (by kernel_rfl), t_same (by kernel_rfl) (by kernel_rfl), t_same (by kernel_rfl) (by kernel_rfl), t_same (by kernel_rfl) (by kernel_rfl), t_same (by kernel_rfl) (by kernel_rfl), trivial⟩)) ?_
      obtain ⟨vx5_1, h12, hF⟩ := bind_some hF
      refine awp_sub (fleetref2_SamplesFault_x3_ok ql vx vy2 _ h12) ?_
      rcases cond_or hF with ⟨h13, hF⟩ | ⟨h13, hF⟩
      · refine awp_true (by kernel_rfl) h13 ?_
        refine awp_seq ?_
        refine awp_region' 1 1001 (by kernel_rfl) (by kernel_rfl) ?_
        refine aops_eff hΓ (.v (.one (.d (.int .i64 1)))) [] [] (by kernel_rfl) ?_
        refine aops_nil ?_
        refine awp_ret ?_
        obtain rfl := some_eq hF
        exact out_intro rfl (to_see [] [] ⟨[], []⟩ [(2, .v (.one (.d (.int .i64 1))))] 0 (by kernel_rfl) (by kernel_rfl) (lowc_of (by kernel_rfl)) trivial trivial (⟨t_same (by kernel_rfl) (by kernel_rfl), trivial⟩))
      · refine awp_false (by kernel_rfl) h13 ?_
        refine awp_seq ?_
        refine awp_to (to_see [] [] ⟨[], [(0, [.d (.str vy2.Device), .d (.str vy2.Metric), .d (.int .i64 vy2.At), .d (.int .i64 vy2.Value)])]⟩ [(0, .v (.one (.d (.lst (List.map api_Sample.enc ql))))), (3, .v (.one (.d (.int .i64 vx)))), (4, .v (.one (.box 0 0))), (8, .v (.one (.d (.lst (List.map api_Sample.enc ql))))), (9, .v (.one (.d (.int .i64 (ql.length : Int))))), (10, .v (.one (.d (.int .i64 vx))))] 1 (by kernel_rfl) (by kernel_rfl) (lowc_of (by kernel_rfl)) trivial (⟨⟨by kernel_rfl, [.d (.str vy2.Device), .d (.str vy2.Metric), .d (.int .i64 vy2.At), .d (.int .i64 vy2.Value)], by kernel_rfl, l2_same (by kernel_rfl) (by kernel_rfl)⟩, trivial⟩) (⟨t_same (by kernel_rfl) (by kernel_rfl), t_same (by kernel_rfl) (by kernel_rfl), t_same (by kernel_rfl) (by kernel_rfl), t_same (by kernel_rfl) (by kernel_rfl), t_same (by kernel_rfl) (by kernel_rfl), t_same (by kernel_rfl) (by kernel_rfl), trivial⟩)) ?_
        obtain ⟨vx6_1, h17, hF⟩ := bind_some hF
        refine awp_sub (fleetref2_SamplesFault_x4_ok ql vx vy2 _ h17) ?_
        rcases cond_or hF with ⟨h18, hF⟩ | ⟨h18, hF⟩
        · refine awp_true (by kernel_rfl) h18 ?_
          refine awp_seq ?_
          refine awp_region' 0 1000 (by kernel_rfl) (by kernel_rfl) ?_
          refine aops_eff hΓ (.v (.one (.d (.int .i64 7)))) [] [] (by kernel_rfl) ?_
          refine aops_nil ?_
          refine awp_ret ?_
          obtain rfl := some_eq hF
          exact out_intro rfl (to_see [] [] ⟨[], []⟩ [(2, .v (.one (.d (.int .i64 7))))] 0 (by kernel_rfl) (by kernel_rfl) (lowc_of (by kernel_rfl)) trivial trivial (⟨t_same (by kernel_rfl) (by kernel_rfl), trivial⟩))
        · refine awp_false (by kernel_rfl) h18 ?_
          refine awp_skip ?_
          refine awp_region' 0 2000 (by kernel_rfl) (by kernel_rfl) ?_
          refine aops_eff hΓ (.v (.one (.d (.int .i64 (IntKind.wrap .i64 (vx + 1)))))) [] [] (by kernel_rfl) ?_
          refine aops_eff hΓ (.v (.one (.d (.int .i64 (IntKind.wrap .i64 (vx + 1)))))) [] [] (by kernel_rfl) ?_
          refine aops_nil ?_
          obtain rfl := some_eq hF
          exact out_intro rfl (to_see [] [] ⟨[], []⟩ [(0, .v (.one (.d (.lst (List.map api_Sample.enc ql))))), (8, .v (.one (.d (.lst (List.map api_Sample.enc ql))))), (9, .v (.one (.d (.int .i64 (ql.length : Int))))), (10, .v (.one (.d (.int .i64 (IntKind.wrap .i64 (vx + 1))))))] 0 (by kernel_rfl) (by kernel_rfl) (lowc_of (by kernel_rfl)) trivial trivial (⟨t_same (by kernel_rfl) (by kernel_rfl), t_same (by kernel_rfl) (by kernel_rfl), t_same (by kernel_rfl) (by kernel_rfl), t_same (by kernel_rfl) (by kernel_rfl), trivial⟩))
  · refine awp_false (by kernel_rfl) h2 ?_
    refine awp_exit ?_
    obtain rfl := some_eq hF
    exact out_intro rfl (to_see [] [] ⟨[], []⟩ [] 0 (by kernel_rfl) (by kernel_rfl) (lowc_of (by kernel_rfl)) trivial trivial trivial)

theorem fleetref2_SamplesFault_ok (ql : List api_Sample) (r : Int) (hF : fleetref2_SamplesFault ql = some r) : Holds prog 116 [.v (.one (.d (.lst (List.map api_Sample.enc ql))))] ⟨[], []⟩ (fun tv m => tv = .v (.one (.d (.int .i64 r))) ∧ m = ⟨[], []⟩) := by
  unfold fleetref2_SamplesFault at hF
  refine holds_of_awp hΓ (fn := f116) (c := cB f116) (A := 0) (nx := 0) (by kernel_rfl) (by kernel_rfl) (by kernel_rfl) (by kernel_rfl) (by kernel_rfl) (by kernel_rfl) (lowc_of (by kernel_rfl)) ?_
  show Awp prog 0 51 (cB f116) _ _
  refine awp_seq ?_
  refine awp_region' 0 1000 (by kernel_rfl) (by kernel_rfl) ?_
  refine aops_eff hΓ (.v (.one (.d (.int .i64 0)))) [] [] (by kernel_rfl) ?_
  refine aops_nil ?_
  refine awp_seq ?_
  refine awp_seq ?_
  refine awp_region' 1000 4000 (by kernel_rfl) (by kernel_rfl) ?_
  refine aops_eff hΓ (.v (.one (.d (.lst (List.map api_Sample.enc ql))))) [] [] (by kernel_rfl) ?_
  refine aops_eff hΓ (.v (.one (.d (.int .i64 (ql.length : Int))))) [] [] (opx_len (f := api_Sample.enc) (l := ql) (by kernel_rfl)) ?_
  refine aops_eff hΓ (.v (.one (.d (.bool (decide (5000 < (ql.length : Int))))))) [] [] (by kernel_rfl) ?_
  refine aops_nil ?_
  rcases cond_or hF with ⟨h1, hF⟩ | ⟨h1, hF⟩
  · refine awp_true (by kernel_rfl) h1 ?_
    refine awp_seq ?_
    refine awp_region' 4000 5000 (by kernel_rfl) (by kernel_rfl) ?_
    refine aops_eff hΓ (.v (.one (.d (.int .i64 2)))) [] [] (by kernel_rfl) ?_
    refine aops_nil ?_
    refine awp_ret ?_
    obtain rfl := some_eq hF
    exact fin_intro (xs := [.one (.d (.int .i64 2))]) (m' := ⟨[], []⟩) (tv := (.v (.one (.d (.int .i64 2))))) (rl := []) (nl := []) (by kernel_rfl) (by kernel_rfl) (by kernel_rfl) (sees_of (by kernel_rfl) trivial trivial) (t_same (by kernel_rfl) (by kernel_rfl)) ⟨rfl, rfl⟩
  · refine awp_false (by kernel_rfl) h1 ?_
    refine awp_skip ?_
    refine awp_seq ?_
    refine awp_seq ?_
    refine awp_region' 4000 7000 (by kernel_rfl) (by kernel_rfl) ?_
    refine aops_eff hΓ (.v (.one (.d (.lst (List.map api_Sample.enc ql))))) [] [] (by kernel_rfl) ?_
    refine aops_eff hΓ (.v (.one (.d (.int .i64 (ql.length : Int))))) [] [] (opx_len (f := api_Sample.enc) (l := ql) (by kernel_rfl)) ?_
    refine aops_eff hΓ (.v (.one (.d (.int .i64 0)))) [] [] (by kernel_rfl) ?_
    refine aops_nil ?_
    refine awp_block ?_
    refine awp_to (st' := fleetref2_SamplesFault_x1_H ql 0) (to_see [] [] ⟨[], []⟩ [(0, .v (.one (.d (.lst (List.map api_Sample.enc ql))))), (8, .v (.one (.d (.lst (List.map api_Sample.enc ql))))), (9, .v (.one (.d (.int .i64 (ql.length : Int))))), (10, .v (.one (.d (.int .i64 0))))] 0 (by kernel_rfl) (by kernel_rfl) (lowc_of (by kernel_rfl)) trivial trivial (⟨t_same (by kernel_rfl) (by kernel_rfl), t_same (by kernel_rfl) (by kernel_rfl), t_same (by kernel_rfl) (by kernel_rfl), t_same (by kernel_rfl) (by kernel_rfl), trivial⟩)) ?_
    obtain ⟨(_ | vx7_1), h19, hF⟩ := bind_some hF
    · refine awp_sub (awp_loop' (fleetref2_SamplesFault_x1_H ql) fleetref2_SamplesFault_x1_k (fleetref2_SamplesFault_x1_S ql) (by intro x; rcases x with x | x <;> exact fun h => nomatch h) h19 (fleetref2_SamplesFault_x1_ok ql)) ?_
      refine awp_seq ?_
      refine awp_region' 0 1000 (by kernel_rfl) (by kernel_rfl) ?_
      refine aops_eff hΓ (.v (.one (.d (.int .i64 0)))) [] [] (by kernel_rfl) ?_
      refine aops_nil ?_
      refine awp_ret ?_
      obtain rfl := some_eq hF
      exact fin_intro (xs := [.one (.d (.int .i64 0))]) (m' := ⟨[], []⟩) (tv := (.v (.one (.d (.int .i64 0))))) (rl := []) (nl := []) (by kernel_rfl) (by kernel_rfl) (by kernel_rfl) (sees_of (by kernel_rfl) trivial trivial) (t_same (by kernel_rfl) (by kernel_rfl)) ⟨rfl, rfl⟩
    · refine awp_sub (awp_loop' (fleetref2_SamplesFault_x1_H ql) fleetref2_SamplesFault_x1_k (fleetref2_SamplesFault_x1_S ql) (by intro x; rcases x with x | x <;> exact fun h => nomatch h) h19 (fleetref2_SamplesFault_x1_ok ql)) ?_
      obtain rfl := some_eq hF
      exact fin_intro (xs := [.one (.d (.int .i64 vx7_1))]) (m' := ⟨[], []⟩) (tv := (.v (.one (.d (.int .i64 vx7_1))))) (rl := []) (nl := []) (by kernel_rfl) (by kernel_rfl) (by kernel_rfl) (sees_of (by kernel_rfl) trivial trivial) (t_same (by kernel_rfl) (by kernel_rfl)) ⟨rfl, rfl⟩

/-! ### beaconfleet/fleetref2.SeriesFault$1 -/
def fleetref2_SeriesFault_1_x1_k : Bool → AEx
  | _ => .normal

def fleetref2_SeriesFault_1_x1_S (qs : api_Sample) (qx : List api_Sample) : Bool → St
  | vx => Mem.st ⟨[], [(0, [.d (.lst (List.map api_Sample.enc qx))])]⟩ (tl [(3, .v (.one (.d (.bool vx))))]) 1

theorem fleetref2_SeriesFault_1_x1_ok (qs : api_Sample) (qx : List api_Sample) (r : Bool) (hF : fleetref2_SeriesFault_1_x1 qs qx = some r) : Awp prog 1 20 (cL (cR (cB f118))) (Out 1 fleetref2_SeriesFault_1_x1_k (fleetref2_SeriesFault_1_x1_S qs qx) r) (Mem.st ⟨[], [(0, [.d (.lst (List.map api_Sample.enc qx))]), (1, [.d (.str qs.Device), .d (.str qs.Metric), .d (.int .i64 qs.At), .d (.int .i64 qs.Value)])]⟩ (tl [(1, .v (.one (.box 0 0))), (2, .v (.one (.box 1 0)))]) 2) := by
  unfold fleetref2_SeriesFault_1_x1 at hF
  obtain ⟨vy, h1, hF⟩ := bind_some hF
  rcases cond_or hF with ⟨h2, hF⟩ | ⟨h2, hF⟩
  · refine awp_region_any' hm 2 17002 [(some ⟨.v (.one (.box 1 0)), [], [], []⟩, [1]), (some ⟨.v (.one (.d (.str qs.Device))), [], [], []⟩, [1]), (some ⟨.v (.one (.d (.lst (List.map api_Sample.enc qx)))), [], [], []⟩, [0]), (some ⟨.v (.one (.cp [.str vy.Device, .str vy.Metric, .int .i64 vy.At, .int .i64 vy.Value])), [], [], []⟩, []), (some ⟨.v (.one (.cp [.str vy.Device, .str vy.Metric, .int .i64 vy.At, .int .i64 vy.Value])), [], [], []⟩, []), (some ⟨.v (.one (.d (.str vy.Device))), [], [], []⟩, []), (some ⟨.v (.one (.d (.bool true))), [], [], []⟩, []), (some ⟨.v (.one (.d (.bool true))), [], [], []⟩, []), (none, []), (none, []), (none, []), (none, []), (none, []), (none, []), (none, []), (some ⟨.v (.one (.d (.bool true))), [], [], []⟩, []), (some ⟨.v (.one (.d (.bool true))), [], [], []⟩, [])] [[], [0], [], [2], [2, 3], [2, 3, 4], [0, 1, 2, 3, 4, 5], [0, 1, 2, 3, 4, 5, 6], [0, 1, 2, 3, 4, 5, 6, 7], [0, 1, 2, 3, 4, 5, 6, 7, 8], [0, 1, 2, 3, 4, 5, 6, 7], [0, 1, 2, 3, 4, 5, 6, 7, 10], [0, 1, 2, 3, 4, 5, 6, 7, 10, 11], [0, 1, 2, 3, 4, 5, 6, 7, 10, 11, 12], [0, 1, 2, 3, 4, 5, 6, 7, 8, 9, 10, 11, 12, 13], [0, 1, 2, 3, 4, 5, 6, 7, 8, 9, 10, 11, 12, 13, 14], [0, 1, 2, 3, 4, 5, 6, 7, 8, 9, 10, 11, 12, 13, 14, 15]] (by kernel_rfl) (by kernel_rfl) (by kernel_rfl) (by kernel_rfl) ?_
    refine And.intro (step_eff hΓ (.v (.one (.box 1 0))) [] [] (by kernel_rfl) (by kernel_rfl)) ?_
    refine And.intro (step_eff hΓ (.v (.one (.d (.str qs.Device)))) [] [] (by kernel_rfl) (by kernel_rfl)) ?_
    refine And.intro (step_eff hΓ (.v (.one (.d (.lst (List.map api_Sample.enc qx))))) [] [] (by kernel_rfl) (by kernel_rfl)) ?_
    refine And.intro (step_eff hΓ (.v (.one (.cp [.str vy.Device, .str vy.Metric, .int .i64 vy.At, .int .i64 vy.Value]))) [] [] (opx_of (by kernel_rfl) (by kernel_rfl) (eff_indexAddr (k := .i64) (ti := ti26) (te := ti42) (l := qx) (f := api_Sample.enc) (y := vy) (by kernel_rfl) rfl (by kernel_rfl) (by kernel_rfl) (by kernel_rfl) h1 (by kernel_rfl))) (by kernel_rfl)) ?_
    refine And.intro (step_eff hΓ (.v (.one (.cp [.str vy.Device, .str vy.Metric, .int .i64 vy.At, .int .i64 vy.Value]))) [] [] (by kernel_rfl) (by kernel_rfl)) ?_
    refine And.intro (step_eff hΓ (.v (.one (.d (.str vy.Device)))) [] [] (by kernel_rfl) (by kernel_rfl)) ?_
    refine And.intro (step_eff hΓ (.v (.one (.d (.bool true)))) [] [] (opx_b (by kernel_rfl) h2) (by kernel_rfl)) ?_
    refine And.intro (step_eff hΓ (.v (.one (.d (.bool true)))) [] [] (by kernel_rfl) (by kernel_rfl)) ?_
    refine And.intro (step_skip' (by kernel_rfl)) ?_
    refine And.intro (step_skip' (by kernel_rfl)) ?_
    refine And.intro (step_skip' (by kernel_rfl)) ?_
    refine And.intro (step_skip' (by kernel_rfl)) ?_
    refine And.intro (step_skip' (by kernel_rfl)) ?_
    refine And.intro (step_skip' (by kernel_rfl)) ?_
    refine And.intro (step_skip' (by kernel_rfl)) ?_
    refine And.intro (step_eff hΓ (.v (.one (.d (.bool true)))) [] [] (by kernel_rfl) (by kernel_rfl)) ?_
    refine And.intro (step_eff hΓ (.v (.one (.d (.bool true)))) [] [] (by kernel_rfl) (by kernel_rfl)) ?_
    obtain rfl := some_eq hF
    exact out_intro rfl (to_see [] [] ⟨[], [(0, [.d (.lst (List.map api_Sample.enc qx))])]⟩ [(3, .v (.one (.d (.bool true))))] 1 (by kernel_rfl) (by kernel_rfl) (lowc_of (by kernel_rfl)) trivial (⟨⟨by kernel_rfl, [.d (.lst (List.map api_Sample.enc qx))], by kernel_rfl, l2_same (by kernel_rfl) (by kernel_rfl)⟩, trivial⟩) (⟨t_same (by kernel_rfl) (by kernel_rfl), trivial⟩))
  · refine awp_region_any' hm 2 17002 [(some ⟨.v (.one (.box 1 0)), [], [], []⟩, [1]), (some ⟨.v (.one (.d (.str qs.Device))), [], [], []⟩, [1]), (some ⟨.v (.one (.d (.lst (List.map api_Sample.enc qx)))), [], [], []⟩, [0]), (some ⟨.v (.one (.cp [.str vy.Device, .str vy.Metric, .int .i64 vy.At, .int .i64 vy.Value])), [], [], []⟩, []), (some ⟨.v (.one (.cp [.str vy.Device, .str vy.Metric, .int .i64 vy.At, .int .i64 vy.Value])), [], [], []⟩, []), (some ⟨.v (.one (.d (.str vy.Device))), [], [], []⟩, []), (some ⟨.v (.one (.d (.bool false))), [], [], []⟩, []), (some ⟨.v (.one (.d (.bool false))), [], [], []⟩, []), (some ⟨.v (.one (.box 1 1)), [], [], []⟩, [1]), (some ⟨.v (.one (.d (.str qs.Metric))), [], [], []⟩, [1]), (some ⟨.v (.one (.d (.lst (List.map api_Sample.enc qx)))), [], [], []⟩, [0]), (some ⟨.v (.one (.cp [.str vy.Device, .str vy.Metric, .int .i64 vy.At, .int .i64 vy.Value])), [], [], []⟩, []), (some ⟨.v (.one (.cp [.str vy.Metric, .int .i64 vy.At, .int .i64 vy.Value])), [], [], []⟩, []), (some ⟨.v (.one (.d (.str vy.Metric))), [], [], []⟩, []), (some ⟨.v (.one (.d (.bool (!decide (qs.Metric = vy.Metric))))), [], [], []⟩, []), (some ⟨.v (.one (.d (.bool (!decide (qs.Metric = vy.Metric))))), [], [], []⟩, []), (some ⟨.v (.one (.d (.bool (!decide (qs.Metric = vy.Metric))))), [], [], []⟩, [])] [[], [0], [], [2], [2, 3], [2, 3, 4], [0, 1, 2, 3, 4, 5], [0, 1, 2, 3, 4, 5, 6], [0, 1, 2, 3, 4, 5, 6, 7], [0, 1, 2, 3, 4, 5, 6, 7, 8], [0, 1, 2, 3, 4, 5, 6, 7], [0, 1, 2, 3, 4, 5, 6, 7, 10], [0, 1, 2, 3, 4, 5, 6, 7, 10, 11], [0, 1, 2, 3, 4, 5, 6, 7, 10, 11, 12], [0, 1, 2, 3, 4, 5, 6, 7, 8, 9, 10, 11, 12, 13], [0, 1, 2, 3, 4, 5, 6, 7, 8, 9, 10, 11, 12, 13, 14], [0, 1, 2, 3, 4, 5, 6, 7, 8, 9, 10, 11, 12, 13, 14, 15]] (by kernel_rfl) (by kernel_rfl) (by kernel_rfl) (by kernel_rfl) ?_
    refine And.intro (step_eff hΓ (.v (.one (.box 1 0))) [] [] (by kernel_rfl) (by kernel_rfl)) ?_
    refine And.intro (step_eff hΓ (.v (.one (.d (.str qs.Device)))) [] [] (by kernel_rfl) (by kernel_rfl)) ?_
    refine And.intro (step_eff hΓ (.v (.one (.d (.lst (List.map api_Sample.enc qx))))) [] [] (by kernel_rfl) (by kernel_rfl)) ?_
    refine And.intro (step_eff hΓ (.v (.one (.cp [.str vy.Device, .str vy.Metric, .int .i64 vy.At, .int .i64 vy.Value]))) [] [] (opx_of (by kernel_rfl) (by kernel_rfl) (eff_indexAddr (k := .i64) (ti := ti26) (te := ti42) (l := qx) (f := api_Sample.enc) (y := vy) (by kernel_rfl) rfl (by kernel_rfl) (by kernel_rfl) (by kernel_rfl) h1 (by kernel_rfl))) (by kernel_rfl)) ?_
    refine And.intro (step_eff hΓ (.v (.one (.cp [.str vy.Device, .str vy.Metric, .int .i64 vy.At, .int .i64 vy.Value]))) [] [] (by kernel_rfl) (by kernel_rfl)) ?_
    refine And.intro (step_eff hΓ (.v (.one (.d (.str vy.Device)))) [] [] (by kernel_rfl) (by kernel_rfl)) ?_
    refine And.intro (step_eff hΓ (.v (.one (.d (.bool false)))) [] [] (opx_b (by kernel_rfl) h2) (by kernel_rfl)) ?_
    refine And.intro (step_eff hΓ (.v (.one (.d (.bool false)))) [] [] (by kernel_rfl) (by kernel_rfl)) ?_
    refine And.intro (step_eff hΓ (.v (.one (.box 1 1))) [] [] (by kernel_rfl) (by kernel_rfl)) ?_
    refine And.intro (step_eff hΓ (.v (.one (.d (.str qs.Metric)))) [] [] (by kernel_rfl) (by kernel_rfl)) ?_
    refine And.intro (step_eff hΓ (.v (.one (.d (.lst (List.map api_Sample.enc qx))))) [] [] (by kernel_rfl) (by kernel_rfl)) ?_
    refine And.intro (step_eff hΓ (.v (.one (.cp [.str vy.Device, .str vy.Metric, .int .i64 vy.At, .int .i64 vy.Value]))) [] [] (opx_of (by kernel_rfl) (by kernel_rfl) (eff_indexAddr (k := .i64) (ti := ti26) (te := ti42) (l := qx) (f := api_Sample.enc) (y := vy) (by kernel_rfl) rfl (by kernel_rfl) (by kernel_rfl) (by kernel_rfl) h1 (by kernel_rfl))) (by kernel_rfl)) ?_
    refine And.intro (step_eff hΓ (.v (.one (.cp [.str vy.Metric, .int .i64 vy.At, .int .i64 vy.Value]))) [] [] (by kernel_rfl) (by kernel_rfl)) ?_
    refine And.intro (step_eff hΓ (.v (.one (.d (.str vy.Metric)))) [] [] (by kernel_rfl) (by kernel_rfl)) ?_
    refine And.intro (step_eff hΓ (.v (.one (.d (.bool (!decide (qs.Metric = vy.Metric)))))) [] [] (by kernel_rfl) (by kernel_rfl)) ?_
    refine And.intro (step_eff hΓ (.v (.one (.d (.bool (!decide (qs.Metric = vy.Metric)))))) [] [] (by kernel_rfl) (by kernel_rfl)) ?_
    refine And.intro (step_eff hΓ (.v (.one (.d (.bool (!decide (qs.Metric = vy.Metric)))))) [] [] (by kernel_rfl) (by kernel_rfl)) ?_
    obtain rfl := some_eq hF
    exact out_intro rfl (to_see [] [] ⟨[], [(0, [.d (.lst (List.map api_Sample.enc qx))])]⟩ [(3, .v (.one (.d (.bool (!decide (qs.Metric = vy.Metric))))))] 1 (by kernel_rfl) (by kernel_rfl) (lowc_of (by kernel_rfl)) trivial (⟨⟨by kernel_rfl, [.d (.lst (List.map api_Sample.enc qx))], by kernel_rfl, l2_same (by kernel_rfl) (by kernel_rfl)⟩, trivial⟩) (⟨t_same (by kernel_rfl) (by kernel_rfl), trivial⟩))

theorem fleetref2_SeriesFault_1_ok (qs : api_Sample) (qx : List api_Sample) (r : Bool) (hF : fleetref2_SeriesFault_1 qs qx = some r) : Holds prog 118 [.v (.agg [.d (.str qs.Device), .d (.str qs.Metric), .d (.int .i64 qs.At), .d (.int .i64 qs.Value)]), .v (.one (.box 0 0))] ⟨[], [(0, [.d (.lst (List.map api_Sample.enc qx))])]⟩ (fun tv m => tv = .v (.one (.d (.bool r))) ∧ m = ⟨[], [(0, [.d (.lst (List.map api_Sample.enc qx))])]⟩) := by
  unfold fleetref2_SeriesFault_1 at hF
  refine holds_of_awp hΓ (fn := f118) (c := cB f118) (A := 1) (nx := 1) (by kernel_rfl) (by kernel_rfl) (by kernel_rfl) (by kernel_rfl) (by kernel_rfl) (by kernel_rfl) (lowc_of (by kernel_rfl)) ?_
  show Awp prog 1 20 (cB f118) _ _
  refine awp_seq ?_
  refine awp_region' 1 2001 (by kernel_rfl) (by kernel_rfl) ?_
  refine aops_eff hΓ (.v (.one (.box 1 0))) [] [(1, some [.d (.str qs.Device), .d (.str qs.Metric), .d (.int .i64 qs.At), .d (.int .i64 qs.Value)])] (by kernel_rfl) ?_
  refine aops_eff hΓ (.v (.one (.d (.bool false)))) [] [] (by kernel_rfl) ?_
  refine aops_nil ?_
  refine awp_seq ?_
  refine awp_to (to_see [] [] ⟨[], [(0, [.d (.lst (List.map api_Sample.enc qx))]), (1, [.d (.str qs.Device), .d (.str qs.Metric), .d (.int .i64 qs.At), .d (.int .i64 qs.Value)])]⟩ [(1, .v (.one (.box 0 0))), (2, .v (.one (.box 1 0)))] 2 (by kernel_rfl) (by kernel_rfl) (lowc_of (by kernel_rfl)) trivial (⟨⟨by kernel_rfl, [.d (.lst (List.map api_Sample.enc qx))], by kernel_rfl, l2_same (by kernel_rfl) (by kernel_rfl)⟩, ⟨by kernel_rfl, [.d (.str qs.Device), .d (.str qs.Metric), .d (.int .i64 qs.At), .d (.int .i64 qs.Value)], by kernel_rfl, l2_same (by kernel_rfl) (by kernel_rfl)⟩, trivial⟩) (⟨t_same (by kernel_rfl) (by kernel_rfl), t_same (by kernel_rfl) (by kernel_rfl), trivial⟩)) ?_
  obtain ⟨vx1, h3, hF⟩ := bind_some hF
  refine awp_sub (fleetref2_SeriesFault_1_x1_ok qs qx _ h3) ?_
  refine awp_ret ?_
  obtain rfl := some_eq hF
  exact fin_intro (xs := [.one (.d (.bool vx1))]) (m' := ⟨[], [(0, [.d (.lst (List.map api_Sample.enc qx))])]⟩) (tv := (.v (.one (.d (.bool vx1))))) (rl := []) (nl := []) (by kernel_rfl) (by kernel_rfl) (by kernel_rfl) (sees_of (by kernel_rfl) trivial (⟨⟨by kernel_rfl, [.d (.lst (List.map api_Sample.enc qx))], by kernel_rfl, l2_same (by kernel_rfl) (by kernel_rfl)⟩, trivial⟩)) (t_same (by kernel_rfl) (by kernel_rfl)) ⟨rfl, rfl⟩

/-! ### slices.IndexFunc[[]beaconfleet/api.Sample,beaconfleet/api.Sample] -/
def slices_IndexFunc_api_Sample_api_Sample_f1_fleetref2_SeriesFault_1_x1_k : Unit ⊕ Int → AEx
  | .inl _ => .exit 0
  | .inr _ => .ret

def slices_IndexFunc_api_Sample_api_Sample_f1_fleetref2_SeriesFault_1_x1_S (qs : List api_Sample) : Unit ⊕ Int → St
  | .inl _ => Mem.st ⟨[], [(0, [.d (.lst (List.map api_Sample.enc qs))])]⟩ (tl []) 1
  | .inr vx1 => Mem.st ⟨[], [(0, [.d (.lst (List.map api_Sample.enc qs))])]⟩ (tl [(4, .v (.one (.d (.int .i64 vx1))))]) 1

def slices_IndexFunc_api_Sample_api_Sample_f1_fleetref2_SeriesFault_1_x1_H (qs : List api_Sample) : Int → St
  | vx => Mem.st ⟨[], [(0, [.d (.lst (List.map api_Sample.enc qs))])]⟩ (tl [(0, .v (.one (.d (.lst (List.map api_Sample.enc qs))))), (1, .v (.one (.fn 118 [0]))), (7, .v (.one (.d (.int .i64 (qs.length : Int))))), (8, .v (.one (.d (.int .i64 vx))))]) 1

theorem slices_IndexFunc_api_Sample_api_Sample_f1_fleetref2_SeriesFault_1_x1_ok (qs : List api_Sample) (vx : Int) (r : (Int) ⊕ (Unit ⊕ Int)) (hF : slices_IndexFunc_api_Sample_api_Sample_f1_fleetref2_SeriesFault_1_x1 qs vx = some r) : Awp prog 1 19 (cL (cL (cR (cL (cR (cB f210)))))) (Out 1 (kk slices_IndexFunc_api_Sample_api_Sample_f1_fleetref2_SeriesFault_1_x1_k) (SS (slices_IndexFunc_api_Sample_api_Sample_f1_fleetref2_SeriesFault_1_x1_H qs) (slices_IndexFunc_api_Sample_api_Sample_f1_fleetref2_SeriesFault_1_x1_S qs)) r) (slices_IndexFunc_api_Sample_api_Sample_f1_fleetref2_SeriesFault_1_x1_H qs vx) := by
  unfold slices_IndexFunc_api_Sample_api_Sample_f1_fleetref2_SeriesFault_1_x1 at hF
  refine awp_seq ?_
  refine awp_region' 1 1001 (by kernel_rfl) (by kernel_rfl) ?_
  refine aops_eff hΓ (.v (.one (.d (.bool (decide (vx < (qs.length : Int))))))) [] [] (by kernel_rfl) ?_
  refine aops_nil ?_
  refine awp_seq ?_
  rcases cond_or hF with ⟨h1, hF⟩ | ⟨h1, hF⟩
  · refine awp_true (by kernel_rfl) h1 ?_
    refine awp_skip ?_
    refine awp_seq ?_
    refine awp_block ?_
    refine awp_seq ?_
    refine awp_region' 1001 3001 (by kernel_rfl) (by kernel_rfl) ?_
    refine aops_eff hΓ (.v (.one (.d (.int .i64 vx)))) [] [] (by kernel_rfl) ?_
    refine aops_eff hΓ (.v (.one (.d (.int .i64 vx)))) [] [] (by kernel_rfl) ?_
    refine aops_nil ?_
    refine awp_seq ?_
    obtain ⟨vy1, h2, hF⟩ := bind_some hF
    obtain ⟨vr1, h3, hF⟩ := bind_some hF
    refine awp_region' 3001 9001 (by kernel_rfl) (by kernel_rfl) ?_
    refine aops_eff hΓ (.v (.one (.fn 118 [0]))) [] [] (by kernel_rfl) ?_
    refine aops_eff hΓ (.v (.one (.d (.lst (List.map api_Sample.enc qs))))) [] [] (by kernel_rfl) ?_
    refine aops_eff hΓ (.v (.one (.d (.int .i64 vx)))) [] [] (by kernel_rfl) ?_
    refine aops_eff hΓ (.v (.one (.cp [.str vy1.Device, .str vy1.Metric, .int .i64 vy1.At, .int .i64 vy1.Value]))) [] [] (opx_of (by kernel_rfl) (by kernel_rfl) (eff_indexAddr (k := .i64) (ti := ti26) (te := ti42) (l := qs) (f := api_Sample.enc) (y := vy1) (by kernel_rfl) rfl (by kernel_rfl) (by kernel_rfl) (by kernel_rfl) h2 (by kernel_rfl))) ?_
    refine aops_eff hΓ (.v (.agg [.d (.str vy1.Device), .d (.str vy1.Metric), .d (.int .i64 vy1.At), .d (.int .i64 vy1.Value)])) [] [] (by kernel_rfl) ?_
    refine aops_call (by kernel_rfl) (by kernel_rfl) (does_call (f := (.tmp 11)) (g := 118) (caps := [0]) (tvs := [.v (.agg [.d (.str vy1.Device), .d (.str vy1.Metric), .d (.int .i64 vy1.At), .d (.int .i64 vy1.Value)])]) (al := [.v (.agg [.d (.str vy1.Device), .d (.str vy1.Metric), .d (.int .i64 vy1.At), .d (.int .i64 vy1.Value)]), .v (.one (.box 0 0))]) (m := ⟨[], [(0, [.d (.lst (List.map api_Sample.enc qs))])]⟩) (m' := ⟨[], [(0, [.d (.lst (List.map api_Sample.enc qs))])]⟩) (tv := .v (.one (.d (.bool vr1)))) (lens := []) rfl (by kernel_rfl) (by kernel_rfl) (sees_of (rl := []) (nl := []) (by kernel_rfl) trivial (⟨⟨by kernel_rfl, [.d (.lst (List.map api_Sample.enc qs))], by kernel_rfl, l2_same (by kernel_rfl) (by kernel_rfl)⟩, trivial⟩)) (⟨t_same (by kernel_rfl) (by kernel_rfl), t_same (by kernel_rfl) (by kernel_rfl), trivial⟩) (fleetref2_SeriesFault_1_ok _ _ _ h3) (left_of (by kernel_rfl))) (.v (.one (.d (.bool vr1)))) [] [(0, some [.d (.lst (List.map api_Sample.enc qs))])] (by kernel_rfl) ?_
    refine aops_nil ?_
    rcases cond_or hF with ⟨h4, hF⟩ | ⟨h4, hF⟩
    · refine awp_true (by kernel_rfl) h4 ?_
      refine awp_seq ?_
      refine awp_region' 9001 11001 (by kernel_rfl) (by kernel_rfl) ?_
      refine aops_eff hΓ (.v (.one (.d (.int .i64 vx)))) [] [] (by kernel_rfl) ?_
      refine aops_eff hΓ (.v (.one (.d (.int .i64 vx)))) [] [] (by kernel_rfl) ?_
      refine aops_nil ?_
      refine awp_ret ?_
      obtain rfl := some_eq hF
      exact out_intro rfl (to_see [] [] ⟨[], [(0, [.d (.lst (List.map api_Sample.enc qs))])]⟩ [(4, .v (.one (.d (.int .i64 vx))))] 1 (by kernel_rfl) (by kernel_rfl) (lowc_of (by kernel_rfl)) trivial (⟨⟨by kernel_rfl, [.d (.lst (List.map api_Sample.enc qs))], by kernel_rfl, l2_same (by kernel_rfl) (by kernel_rfl)⟩, trivial⟩) (⟨t_same (by kernel_rfl) (by kernel_rfl), trivial⟩))
    · refine awp_false (by kernel_rfl) h4 ?_
      refine awp_skip ?_
      refine awp_region' 9001 11001 (by kernel_rfl) (by kernel_rfl) ?_
      refine aops_eff hΓ (.v (.one (.d (.int .i64 (IntKind.wrap .i64 (vx + 1)))))) [] [] (by kernel_rfl) ?_
      refine aops_eff hΓ (.v (.one (.d (.int .i64 (IntKind.wrap .i64 (vx + 1)))))) [] [] (by kernel_rfl) ?_
      refine aops_nil ?_
      obtain rfl := some_eq hF
      exact out_intro rfl (to_see [] [] ⟨[], [(0, [.d (.lst (List.map api_Sample.enc qs))])]⟩ [(0, .v (.one (.d (.lst (List.map api_Sample.enc qs))))), (1, .v (.one (.fn 118 [0]))), (7, .v (.one (.d (.int .i64 (qs.length : Int))))), (8, .v (.one (.d (.int .i64 (IntKind.wrap .i64 (vx + 1))))))] 1 (by kernel_rfl) (by kernel_rfl) (lowc_of (by kernel_rfl)) trivial (⟨⟨by kernel_rfl, [.d (.lst (List.map api_Sample.enc qs))], by kernel_rfl, l2_same (by kernel_rfl) (by kernel_rfl)⟩, trivial⟩) (⟨t_same (by kernel_rfl) (by kernel_rfl), t_same (by kernel_rfl) (by kernel_rfl), t_same (by kernel_rfl) (by kernel_rfl), t_same (by kernel_rfl) (by kernel_rfl), trivial⟩))
  · refine awp_false (by kernel_rfl) h1 ?_
    refine awp_exit ?_
    obtain rfl := some_eq hF
    exact out_intro rfl (to_see [] [] ⟨[], [(0, [.d (.lst (List.map api_Sample.enc qs))])]⟩ [] 1 (by kernel_rfl) (by kernel_rfl) (lowc_of (by kernel_rfl)) trivial (⟨⟨by kernel_rfl, [.d (.lst (List.map api_Sample.enc qs))], by kernel_rfl, l2_same (by kernel_rfl) (by kernel_rfl)⟩, trivial⟩) trivial)

theorem slices_IndexFunc_api_Sample_api_Sample_f1_fleetref2_SeriesFault_1_ok (qs : List api_Sample) (r : Int) (hF : slices_IndexFunc_api_Sample_api_Sample_f1_fleetref2_SeriesFault_1 qs = some r) : Holds prog 210 [.v (.one (.d (.lst (List.map api_Sample.enc qs)))), .v (.one (.fn 118 [0]))] ⟨[], [(0, [.d (.lst (List.map api_Sample.enc qs))])]⟩ (fun tv m => tv = .v (.one (.d (.int .i64 r))) ∧ m = ⟨[], [(0, [.d (.lst (List.map api_Sample.enc qs))])]⟩) := by
  unfold slices_IndexFunc_api_Sample_api_Sample_f1_fleetref2_SeriesFault_1 at hF
  refine holds_of_awp hΓ (fn := f210) (c := cB f210) (A := 1) (nx := 1) (by kernel_rfl) (by kernel_rfl) (by kernel_rfl) (by kernel_rfl) (by kernel_rfl) (by kernel_rfl) (lowc_of (by kernel_rfl)) ?_
  show Awp prog 1 19 (cB f210) _ _
  refine awp_seq ?_
  refine awp_region' 1 1001 (by kernel_rfl) (by kernel_rfl) ?_
  refine aops_eff hΓ (.v (.one (.d (.int .i64 0)))) [] [] (by kernel_rfl) ?_
  refine aops_nil ?_
  refine awp_seq ?_
  refine awp_seq ?_
  refine awp_region' 1001 4001 (by kernel_rfl) (by kernel_rfl) ?_
  refine aops_eff hΓ (.v (.one (.d (.lst (List.map api_Sample.enc qs))))) [] [] (by kernel_rfl) ?_
  refine aops_eff hΓ (.v (.one (.d (.int .i64 (qs.length : Int))))) [] [] (opx_len (f := api_Sample.enc) (l := qs) (by kernel_rfl)) ?_
  refine aops_eff hΓ (.v (.one (.d (.int .i64 0)))) [] [] (by kernel_rfl) ?_
  refine aops_nil ?_
  refine awp_block ?_
  refine awp_to (st' := slices_IndexFunc_api_Sample_api_Sample_f1_fleetref2_SeriesFault_1_x1_H qs 0) (to_see [] [] ⟨[], [(0, [.d (.lst (List.map api_Sample.enc qs))])]⟩ [(0, .v (.one (.d (.lst (List.map api_Sample.enc qs))))), (1, .v (.one (.fn 118 [0]))), (7, .v (.one (.d (.int .i64 (qs.length : Int))))), (8, .v (.one (.d (.int .i64 0))))] 1 (by kernel_rfl) (by kernel_rfl) (lowc_of (by kernel_rfl)) trivial (⟨⟨by kernel_rfl, [.d (.lst (List.map api_Sample.enc qs))], by kernel_rfl, l2_same (by kernel_rfl) (by kernel_rfl)⟩, trivial⟩) (⟨t_same (by kernel_rfl) (by kernel_rfl), t_same (by kernel_rfl) (by kernel_rfl), t_same (by kernel_rfl) (by kernel_rfl), t_same (by kernel_rfl) (by kernel_rfl), trivial⟩)) ?_
  obtain ⟨(_ | vx1_1), h5, hF⟩ := bind_some hF
  · refine awp_sub (awp_loop' (slices_IndexFunc_api_Sample_api_Sample_f1_fleetref2_SeriesFault_1_x1_H qs) slices_IndexFunc_api_Sample_api_Sample_f1_fleetref2_SeriesFault_1_x1_k (slices_IndexFunc_api_Sample_api_Sample_f1_fleetref2_SeriesFault_1_x1_S qs) (by intro x; rcases x with x | x <;> exact fun h => nomatch h) h5 (slices_IndexFunc_api_Sample_api_Sample_f1_fleetref2_SeriesFault_1_x1_ok qs)) ?_
    refine awp_seq ?_
    refine awp_region' 1 1001 (by kernel_rfl) (by kernel_rfl) ?_
    refine aops_eff hΓ (.v (.one (.d (.int .i64 (-1))))) [] [] (by kernel_rfl) ?_
    refine aops_nil ?_
    refine awp_ret ?_
    obtain rfl := some_eq hF
    exact fin_intro (xs := [.one (.d (.int .i64 (-1)))]) (m' := ⟨[], [(0, [.d (.lst (List.map api_Sample.enc qs))])]⟩) (tv := (.v (.one (.d (.int .i64 (-1)))))) (rl := []) (nl := []) (by kernel_rfl) (by kernel_rfl) (by kernel_rfl) (sees_of (by kernel_rfl) trivial (⟨⟨by kernel_rfl, [.d (.lst (List.map api_Sample.enc qs))], by kernel_rfl, l2_same (by kernel_rfl) (by kernel_rfl)⟩, trivial⟩)) (t_same (by kernel_rfl) (by kernel_rfl)) ⟨rfl, rfl⟩
  · refine awp_sub (awp_loop' (slices_IndexFunc_api_Sample_api_Sample_f1_fleetref2_SeriesFault_1_x1_H qs) slices_IndexFunc_api_Sample_api_Sample_f1_fleetref2_SeriesFault_1_x1_k (slices_IndexFunc_api_Sample_api_Sample_f1_fleetref2_SeriesFault_1_x1_S qs) (by intro x; rcases x with x | x <;> exact fun h => nomatch h) h5 (slices_IndexFunc_api_Sample_api_Sample_f1_fleetref2_SeriesFault_1_x1_ok qs)) ?_
    obtain rfl := some_eq hF
    exact fin_intro (xs := [.one (.d (.int .i64 vx1_1))]) (m' := ⟨[], [(0, [.d (.lst (List.map api_Sample.enc qs))])]⟩) (tv := (.v (.one (.d (.int .i64 vx1_1))))) (rl := []) (nl := []) (by kernel_rfl) (by kernel_rfl) (by kernel_rfl) (sees_of (by kernel_rfl) trivial (⟨⟨by kernel_rfl, [.d (.lst (List.map api_Sample.enc qs))], by kernel_rfl, l2_same (by kernel_rfl) (by kernel_rfl)⟩, trivial⟩)) (t_same (by kernel_rfl) (by kernel_rfl)) ⟨rfl, rfl⟩

/-! ### slices.ContainsFunc[[]beaconfleet/api.Sample,beaconfleet/api.Sample] -/
theorem slices_ContainsFunc_api_Sample_api_Sample_f1_fleetref2_SeriesFault_1_ok (qs : List api_Sample) (r : Bool) (hF : slices_ContainsFunc_api_Sample_api_Sample_f1_fleetref2_SeriesFault_1 qs = some r) : Holds prog 117 [.v (.one (.d (.lst (List.map api_Sample.enc qs)))), .v (.one (.fn 118 [0]))] ⟨[], [(0, [.d (.lst (List.map api_Sample.enc qs))])]⟩ (fun tv m => tv = .v (.one (.d (.bool r))) ∧ m = ⟨[], [(0, [.d (.lst (List.map api_Sample.enc qs))])]⟩) := by
  unfold slices_ContainsFunc_api_Sample_api_Sample_f1_fleetref2_SeriesFault_1 at hF
  refine holds_of_awp hΓ (fn := f117) (c := cB f117) (A := 1) (nx := 1) (by kernel_rfl) (by kernel_rfl) (by kernel_rfl) (by kernel_rfl) (by kernel_rfl) (by kernel_rfl) (lowc_of (by kernel_rfl)) ?_
  show Awp prog 1 9 (cB f117) _ _
  refine awp_seq ?_
  refine awp_region' 1 1001 (by kernel_rfl) (by kernel_rfl) ?_
  refine aops_eff hΓ (.v (.one (.d (.bool false)))) [] [] (by kernel_rfl) ?_
  refine aops_nil ?_
  refine awp_seq ?_
  obtain ⟨vr2, h1, hF⟩ := bind_some hF
  refine awp_region' 1001 6001 (by kernel_rfl) (by kernel_rfl) ?_
  refine aops_eff hΓ (.v (.one (.d (.lst (List.map api_Sample.enc qs))))) [] [] (by kernel_rfl) ?_
  refine aops_eff hΓ (.v (.one (.fn 118 [0]))) [] [] (by kernel_rfl) ?_
  refine aops_call (by kernel_rfl) (by kernel_rfl) (does_call (f := (.func 210)) (g := 210) (caps := []) (tvs := [.v (.one (.d (.lst (List.map api_Sample.enc qs)))), .v (.one (.fn 118 [0]))]) (al := [.v (.one (.d (.lst (List.map api_Sample.enc qs)))), .v (.one (.fn 118 [0]))]) (m := ⟨[], [(0, [.d (.lst (List.map api_Sample.enc qs))])]⟩) (m' := ⟨[], [(0, [.d (.lst (List.map api_Sample.enc qs))])]⟩) (tv := .v (.one (.d (.int .i64 vr2)))) (lens := []) rfl (by kernel_rfl) (by kernel_rfl) (sees_of (rl := []) (nl := []) (by kernel_rfl) trivial (⟨⟨by kernel_rfl, [.d (.lst (List.map api_Sample.enc qs))], by kernel_rfl, l2_same (by kernel_rfl) (by kernel_rfl)⟩, trivial⟩)) (⟨t_same (by kernel_rfl) (by kernel_rfl), t_same (by kernel_rfl) (by kernel_rfl), trivial⟩) (slices_IndexFunc_api_Sample_api_Sample_f1_fleetref2_SeriesFault_1_ok _ _ h1) (left_of (by kernel_rfl))) (.v (.one (.d (.int .i64 vr2)))) [] [(0, some [.d (.lst (List.map api_Sample.enc qs))])] (by kernel_rfl) ?_
  refine aops_eff hΓ (.v (.one (.d (.bool (decide (0 ≤ vr2)))))) [] [] (by kernel_rfl) ?_
  refine aops_eff hΓ (.v (.one (.d (.bool (decide (0 ≤ vr2)))))) [] [] (by kernel_rfl) ?_
  refine aops_nil ?_
  refine awp_ret ?_
  obtain rfl := some_eq hF
  exact fin_intro (xs := [.one (.d (.bool (decide (0 ≤ vr2))))]) (m' := ⟨[], [(0, [.d (.lst (List.map api_Sample.enc qs))])]⟩) (tv := (.v (.one (.d (.bool (decide (0 ≤ vr2))))))) (rl := []) (nl := []) (by kernel_rfl) (by kernel_rfl) (by kernel_rfl) (sees_of (by kernel_rfl) trivial (⟨⟨by kernel_rfl, [.d (.lst (List.map api_Sample.enc qs))], by kernel_rfl, l2_same (by kernel_rfl) (by kernel_rfl)⟩, trivial⟩)) (t_same (by kernel_rfl) (by kernel_rfl)) ⟨rfl, rfl⟩

/-! ### beaconfleet/fleetref2.SeriesFault -/
theorem fleetref2_SeriesFault_ok (ql : List api_Sample) (r : Int) (hF : fleetref2_SeriesFault ql = some r) : Holds prog 21 [.v (.one (.d (.lst (List.map api_Sample.enc ql))))] ⟨[], []⟩ (fun tv m => tv = .v (.one (.d (.int .i64 r))) ∧ m = ⟨[], []⟩) := by
  unfold fleetref2_SeriesFault at hF
  refine holds_of_awp hΓ (fn := f21) (c := cB f21) (A := 0) (nx := 0) (by kernel_rfl) (by kernel_rfl) (by kernel_rfl) (by kernel_rfl) (by kernel_rfl) (by kernel_rfl) (lowc_of (by kernel_rfl)) ?_
  show Awp prog 0 12 (cB f21) _ _
  refine awp_seq ?_
  refine awp_region' 0 2000 (by kernel_rfl) (by kernel_rfl) ?_
  refine aops_eff hΓ (.v (.one (.box 0 0))) [] [(0, some [.d (.lst (List.map api_Sample.enc ql))])] (by kernel_rfl) ?_
  refine aops_eff hΓ (.v (.one (.d (.int .i64 0)))) [] [] (by kernel_rfl) ?_
  refine aops_nil ?_
  refine awp_seq ?_
  refine awp_seq ?_
  obtain ⟨vr4, h1, hF⟩ := bind_some hF
  refine awp_region' 2000 5000 (by kernel_rfl) (by kernel_rfl) ?_
  refine aops_eff hΓ (.v (.one (.d (.lst (List.map api_Sample.enc ql))))) [] [] (by kernel_rfl) ?_
  refine aops_call (by kernel_rfl) (by kernel_rfl) (does_call (f := (.func 116)) (g := 116) (caps := []) (tvs := [.v (.one (.d (.lst (List.map api_Sample.enc ql))))]) (al := [.v (.one (.d (.lst (List.map api_Sample.enc ql))))]) (m := ⟨[], []⟩) (m' := ⟨[], []⟩) (tv := .v (.one (.d (.int .i64 vr4)))) (lens := []) rfl (by kernel_rfl) (by kernel_rfl) (sees_of (rl := []) (nl := []) (by kernel_rfl) trivial trivial) (⟨t_same (by kernel_rfl) (by kernel_rfl), trivial⟩) (fleetref2_SamplesFault_ok _ _ h1) (left_of (by kernel_rfl))) (.v (.one (.d (.int .i64 vr4)))) [] [] (by kernel_rfl) ?_
  refine aops_eff hΓ (.v (.one (.d (.int .i64 vr4)))) [] [] (by kernel_rfl) ?_
  refine aops_nil ?_
  refine awp_seq ?_
  refine awp_region' 5000 7000 (by kernel_rfl) (by kernel_rfl) ?_
  refine aops_eff hΓ (.v (.one (.d (.int .i64 vr4)))) [] [] (by kernel_rfl) ?_
  refine aops_eff hΓ (.v (.one (.d (.bool (!decide (vr4 = 0)))))) [] [] (by kernel_rfl) ?_
  refine aops_nil ?_
  rcases cond_or hF with ⟨h2, hF⟩ | ⟨h2, hF⟩
  · refine awp_true (by kernel_rfl) h2 ?_
    refine awp_seq ?_
    refine awp_region' 7000 9000 (by kernel_rfl) (by kernel_rfl) ?_
    refine aops_eff hΓ (.v (.one (.d (.int .i64 vr4)))) [] [] (by kernel_rfl) ?_
    refine aops_eff hΓ (.v (.one (.d (.int .i64 vr4)))) [] [] (by kernel_rfl) ?_
    refine aops_nil ?_
    refine awp_ret ?_
    obtain rfl := some_eq hF
    exact fin_intro (xs := [.one (.d (.int .i64 vr4))]) (m' := ⟨[], []⟩) (tv := (.v (.one (.d (.int .i64 vr4))))) (rl := []) (nl := []) (by kernel_rfl) (by kernel_rfl) (by kernel_rfl) (sees_of (by kernel_rfl) trivial trivial) (t_same (by kernel_rfl) (by kernel_rfl)) ⟨rfl, rfl⟩
  · refine awp_false (by kernel_rfl) h2 ?_
    refine awp_skip ?_
    refine awp_seq ?_
    refine awp_seq ?_
    obtain ⟨vr, h3, hF⟩ := bind_some hF
    refine awp_region' 7000 10000 (by kernel_rfl) (by kernel_rfl) ?_
    refine aops_eff hΓ (.v (.one (.d (.lst (List.map api_Sample.enc ql))))) [] [] (by kernel_rfl) ?_
    refine aops_eff hΓ (.v (.one (.fn 118 [0]))) [] [] (by kernel_rfl) ?_
    refine aops_call (by kernel_rfl) (by kernel_rfl) (does_call (f := (.func 117)) (g := 117) (caps := []) (tvs := [.v (.one (.d (.lst (List.map api_Sample.enc ql)))), .v (.one (.fn 118 [0]))]) (al := [.v (.one (.d (.lst (List.map api_Sample.enc ql)))), .v (.one (.fn 118 [0]))]) (m := ⟨[], [(0, [.d (.lst (List.map api_Sample.enc ql))])]⟩) (m' := ⟨[], [(0, [.d (.lst (List.map api_Sample.enc ql))])]⟩) (tv := .v (.one (.d (.bool vr)))) (lens := []) rfl (by kernel_rfl) (by kernel_rfl) (sees_of (rl := []) (nl := []) (by kernel_rfl) trivial (⟨⟨by kernel_rfl, [.d (.lst (List.map api_Sample.enc ql))], by kernel_rfl, l2_same (by kernel_rfl) (by kernel_rfl)⟩, trivial⟩)) (⟨t_same (by kernel_rfl) (by kernel_rfl), t_same (by kernel_rfl) (by kernel_rfl), trivial⟩) (slices_ContainsFunc_api_Sample_api_Sample_f1_fleetref2_SeriesFault_1_ok _ _ h3) (left_of (by kernel_rfl))) (.v (.one (.d (.bool vr)))) [] [(0, some [.d (.lst (List.map api_Sample.enc ql))])] (by kernel_rfl) ?_
    refine aops_nil ?_
    rcases cond_or hF with ⟨h4, hF⟩ | ⟨h4, hF⟩
    · refine awp_true (by kernel_rfl) h4 ?_
      refine awp_seq ?_
      refine awp_region' 10000 11000 (by kernel_rfl) (by kernel_rfl) ?_
      refine aops_eff hΓ (.v (.one (.d (.int .i64 13)))) [] [] (by kernel_rfl) ?_
      refine aops_nil ?_
      refine awp_ret ?_
      obtain rfl := some_eq hF
      exact fin_intro (xs := [.one (.d (.int .i64 13))]) (m' := ⟨[], []⟩) (tv := (.v (.one (.d (.int .i64 13))))) (rl := []) (nl := []) (by kernel_rfl) (by kernel_rfl) (by kernel_rfl) (sees_of (by kernel_rfl) trivial trivial) (t_same (by kernel_rfl) (by kernel_rfl)) ⟨rfl, rfl⟩
    · refine awp_false (by kernel_rfl) h4 ?_
      refine awp_skip ?_
      refine awp_seq ?_
      refine awp_region' 10000 11000 (by kernel_rfl) (by kernel_rfl) ?_
      refine aops_eff hΓ (.v (.one (.d (.int .i64 0)))) [] [] (by kernel_rfl) ?_
      refine aops_nil ?_
      refine awp_ret ?_
      obtain rfl := some_eq hF
      exact fin_intro (xs := [.one (.d (.int .i64 0))]) (m' := ⟨[], []⟩) (tv := (.v (.one (.d (.int .i64 0))))) (rl := []) (nl := []) (by kernel_rfl) (by kernel_rfl) (by kernel_rfl) (sees_of (by kernel_rfl) trivial trivial) (t_same (by kernel_rfl) (by kernel_rfl)) ⟨rfl, rfl⟩

/-! ### beaconfleet/fleetref2.WindowFault -/
def fleetref2_WindowFault_x1_k : Bool → AEx
  | _ => .normal

def fleetref2_WindowFault_x1_S (qw : api_Window) : Bool → St
  | vx => Mem.st ⟨[], []⟩ (tl [(13, .v (.one (.d (.bool vx))))]) 0

theorem fleetref2_WindowFault_x1_ok (qw : api_Window) (r : Bool) (hF : fleetref2_WindowFault_x1 qw = some r) : Awp prog 0 14 (cL (cL (cR (cB f22)))) (Out 0 fleetref2_WindowFault_x1_k (fleetref2_WindowFault_x1_S qw) r) (Mem.st ⟨[], [(0, [.d (.int .i64 qw.From), .d (.int .i64 qw.To)])]⟩ (tl [(1, .v (.one (.box 0 0)))]) 1) := by
  unfold fleetref2_WindowFault_x1 at hF
  obtain ⟨vr, h1, hF⟩ := bind_some hF
  rcases cond_or hF with ⟨h2, hF⟩ | ⟨h2, hF⟩
  · refine awp_region' 1 11001 (by kernel_rfl) (by kernel_rfl) ?_
    refine aops_eff hΓ (.v (.one (.box 0 0))) [] [] (by kernel_rfl) ?_
    refine aops_eff hΓ (.v (.one (.d (.int .i64 qw.From)))) [] [] (by kernel_rfl) ?_
    refine aops_eff hΓ (.v (.one (.box 0 1))) [] [] (by kernel_rfl) ?_
    refine aops_eff hΓ (.v (.one (.d (.int .i64 qw.To)))) [] [] (by kernel_rfl) ?_
    refine aops_call (by kernel_rfl) (by kernel_rfl) (does_call (f := (.func 119)) (g := 119) (caps := []) (tvs := [.v (.one (.d (.int .i64 qw.From))), .v (.one (.d (.int .i64 0))), .v (.one (.d (.int .i64 qw.To)))]) (al := [.v (.one (.d (.int .i64 qw.From))), .v (.one (.d (.int .i64 0))), .v (.one (.d (.int .i64 qw.To)))]) (m := ⟨[], []⟩) (m' := ⟨[], []⟩) (tv := .v (.one (.d (.bool vr)))) (lens := []) rfl (by kernel_rfl) (by kernel_rfl) (sees_of (rl := []) (nl := []) (by kernel_rfl) trivial trivial) (⟨t_same (by kernel_rfl) (by kernel_rfl), t_same (by kernel_rfl) (by kernel_rfl), t_same (by kernel_rfl) (by kernel_rfl), trivial⟩) (fleetref2_in_ok _ _ _ _ h1) (left_of (by kernel_rfl))) (.v (.one (.d (.bool vr)))) [] [] (by kernel_rfl) ?_
    refine aops_eff hΓ (.v (.one (.d (.bool true)))) [] [] (opx_b (by kernel_rfl) h2) ?_
    refine aops_eff hΓ (.v (.one (.d (.bool true)))) [] [] (by kernel_rfl) ?_
    refine aops_skip' (by kernel_rfl) ?_
    refine aops_skip' (by kernel_rfl) ?_
    refine aops_skip' (by kernel_rfl) ?_
    refine aops_eff hΓ (.v (.one (.d (.bool true)))) [] [] (by kernel_rfl) ?_
    refine aops_nil ?_
    obtain rfl := some_eq hF
    exact out_intro rfl (to_see [] [] ⟨[], []⟩ [(13, .v (.one (.d (.bool true))))] 0 (by kernel_rfl) (by kernel_rfl) (lowc_of (by kernel_rfl)) trivial trivial (⟨t_same (by kernel_rfl) (by kernel_rfl), trivial⟩))
  · refine awp_region' 1 11001 (by kernel_rfl) (by kernel_rfl) ?_
    refine aops_eff hΓ (.v (.one (.box 0 0))) [] [] (by kernel_rfl) ?_
    refine aops_eff hΓ (.v (.one (.d (.int .i64 qw.From)))) [] [] (by kernel_rfl) ?_
    refine aops_eff hΓ (.v (.one (.box 0 1))) [] [] (by kernel_rfl) ?_
    refine aops_eff hΓ (.v (.one (.d (.int .i64 qw.To)))) [] [] (by kernel_rfl) ?_
    refine aops_call (by kernel_rfl) (by kernel_rfl) (does_call (f := (.func 119)) (g := 119) (caps := []) (tvs := [.v (.one (.d (.int .i64 qw.From))), .v (.one (.d (.int .i64 0))), .v (.one (.d (.int .i64 qw.To)))]) (al := [.v (.one (.d (.int .i64 qw.From))), .v (.one (.d (.int .i64 0))), .v (.one (.d (.int .i64 qw.To)))]) (m := ⟨[], []⟩) (m' := ⟨[], []⟩) (tv := .v (.one (.d (.bool vr)))) (lens := []) rfl (by kernel_rfl) (by kernel_rfl) (sees_of (rl := []) (nl := []) (by kernel_rfl) trivial trivial) (⟨t_same (by kernel_rfl) (by kernel_rfl), t_same (by kernel_rfl) (by kernel_rfl), t_same (by kernel_rfl) (by kernel_rfl), trivial⟩) (fleetref2_in_ok _ _ _ _ h1) (left_of (by kernel_rfl))) (.v (.one (.d (.bool vr)))) [] [] (by kernel_rfl) ?_
    refine aops_eff hΓ (.v (.one (.d (.bool false)))) [] [] (opx_b (by kernel_rfl) h2) ?_
    refine aops_eff hΓ (.v (.one (.d (.bool false)))) [] [] (by kernel_rfl) ?_
    refine aops_eff hΓ (.v (.one (.box 0 1))) [] [] (by kernel_rfl) ?_
    refine aops_eff hΓ (.v (.one (.d (.int .i64 qw.To)))) [] [] (by kernel_rfl) ?_
    refine aops_eff hΓ (.v (.one (.d (.bool (decide (345686400000 < qw.To)))))) [] [] (by kernel_rfl) ?_
    refine aops_eff hΓ (.v (.one (.d (.bool (decide (345686400000 < qw.To)))))) [] [] (by kernel_rfl) ?_
    refine aops_nil ?_
    obtain rfl := some_eq hF
    exact out_intro rfl (to_see [] [] ⟨[], []⟩ [(13, .v (.one (.d (.bool (decide (345686400000 < qw.To))))))] 0 (by kernel_rfl) (by kernel_rfl) (lowc_of (by kernel_rfl)) trivial trivial (⟨t_same (by kernel_rfl) (by kernel_rfl), trivial⟩))

theorem fleetref2_WindowFault_ok (qw : api_Window) (r : Int) (hF : fleetref2_WindowFault qw = some r) : Holds prog 22 [.v (.agg [.d (.int .i64 qw.From), .d (.int .i64 qw.To)])] ⟨[], []⟩ (fun tv m => tv = .v (.one (.d (.int .i64 r))) ∧ m = ⟨[], []⟩) := by
  unfold fleetref2_WindowFault at hF
  refine holds_of_awp hΓ (fn := f22) (c := cB f22) (A := 0) (nx := 0) (by kernel_rfl) (by kernel_rfl) (by kernel_rfl) (by kernel_rfl) (by kernel_rfl) (by kernel_rfl) (lowc_of (by kernel_rfl)) ?_
  show Awp prog 0 14 (cB f22) _ _
  refine awp_seq ?_
  refine awp_region' 0 2000 (by kernel_rfl) (by kernel_rfl) ?_
  refine aops_eff hΓ (.v (.one (.box 0 0))) [] [(0, some [.d (.int .i64 qw.From), .d (.int .i64 qw.To)])] (by kernel_rfl) ?_
  refine aops_eff hΓ (.v (.one (.d (.int .i64 0)))) [] [] (by kernel_rfl) ?_
  refine aops_nil ?_
  refine awp_seq ?_
  refine awp_seq ?_
  refine awp_to (to_see [] [] ⟨[], [(0, [.d (.int .i64 qw.From), .d (.int .i64 qw.To)])]⟩ [(1, .v (.one (.box 0 0)))] 1 (by kernel_rfl) (by kernel_rfl) (lowc_of (by kernel_rfl)) trivial (⟨⟨by kernel_rfl, [.d (.int .i64 qw.From), .d (.int .i64 qw.To)], by kernel_rfl, l2_same (by kernel_rfl) (by kernel_rfl)⟩, trivial⟩) (⟨t_same (by kernel_rfl) (by kernel_rfl), trivial⟩)) ?_
  obtain ⟨vx1, h3, hF⟩ := bind_some hF
  refine awp_sub (fleetref2_WindowFault_x1_ok qw _ h3) ?_
  rcases cond_or hF with ⟨h4, hF⟩ | ⟨h4, hF⟩
  · refine awp_true (by kernel_rfl) h4 ?_
    refine awp_seq ?_
    refine awp_region' 0 1000 (by kernel_rfl) (by kernel_rfl) ?_
    refine aops_eff hΓ (.v (.one (.d (.int .i64 1)))) [] [] (by kernel_rfl) ?_
    refine aops_nil ?_
    refine awp_ret ?_
    obtain rfl := some_eq hF
    exact fin_intro (xs := [.one (.d (.int .i64 1))]) (m' := ⟨[], []⟩) (tv := (.v (.one (.d (.int .i64 1))))) (rl := []) (nl := []) (by kernel_rfl) (by kernel_rfl) (by kernel_rfl) (sees_of (by kernel_rfl) trivial trivial) (t_same (by kernel_rfl) (by kernel_rfl)) ⟨rfl, rfl⟩
  · refine awp_false (by kernel_rfl) h4 ?_
    refine awp_skip ?_
    refine awp_seq ?_
    refine awp_region' 0 1000 (by kernel_rfl) (by kernel_rfl) ?_
    refine aops_eff hΓ (.v (.one (.d (.int .i64 0)))) [] [] (by kernel_rfl) ?_
    refine aops_nil ?_
    refine awp_ret ?_
    obtain rfl := some_eq hF
    exact fin_intro (xs := [.one (.d (.int .i64 0))]) (m' := ⟨[], []⟩) (tv := (.v (.one (.d (.int .i64 0))))) (rl := []) (nl := []) (by kernel_rfl) (by kernel_rfl) (by kernel_rfl) (sees_of (by kernel_rfl) trivial trivial) (t_same (by kernel_rfl) (by kernel_rfl)) ⟨rfl, rfl⟩

/-! ### beaconfleet/fleetlaw2.when -/
theorem fleetlaw2_when_ok (qis : Bool) (qe : Int) (r : Int) (hF : fleetlaw2_when qis qe = some r) : Holds prog 23 [.v (.one (.d (.bool qis))), .v (.one (.d (.int .i64 qe)))] ⟨[], []⟩ (fun tv m => tv = .v (.one (.d (.int .i64 r))) ∧ m = ⟨[], []⟩) := by
  unfold fleetlaw2_when at hF
  refine holds_of_awp hΓ (fn := f23) (c := cB f23) (A := 0) (nx := 0) (by kernel_rfl) (by kernel_rfl) (by kernel_rfl) (by kernel_rfl) (by kernel_rfl) (by kernel_rfl) (lowc_of (by kernel_rfl)) ?_
  show Awp prog 0 7 (cB f23) _ _
  refine awp_seq ?_
  refine awp_region' 0 1000 (by kernel_rfl) (by kernel_rfl) ?_
  refine aops_eff hΓ (.v (.one (.d (.int .i64 0)))) [] [] (by kernel_rfl) ?_
  refine aops_nil ?_
  refine awp_seq ?_
  refine awp_seq ?_
  refine awp_region' 1000 2000 (by kernel_rfl) (by kernel_rfl) ?_
  refine aops_eff hΓ (.v (.one (.d (.bool qis)))) [] [] (by kernel_rfl) ?_
  refine aops_nil ?_
  rcases cond_or hF with ⟨h1, hF⟩ | ⟨h1, hF⟩
  · refine awp_true (by kernel_rfl) h1 ?_
    refine awp_seq ?_
    refine awp_region' 2000 4000 (by kernel_rfl) (by kernel_rfl) ?_
    refine aops_eff hΓ (.v (.one (.d (.int .i64 qe)))) [] [] (by kernel_rfl) ?_
    refine aops_eff hΓ (.v (.one (.d (.int .i64 qe)))) [] [] (by kernel_rfl) ?_
    refine aops_nil ?_
    refine awp_ret ?_
    obtain rfl := some_eq hF
    exact fin_intro (xs := [.one (.d (.int .i64 qe))]) (m' := ⟨[], []⟩) (tv := (.v (.one (.d (.int .i64 qe))))) (rl := []) (nl := []) (by kernel_rfl) (by kernel_rfl) (by kernel_rfl) (sees_of (by kernel_rfl) trivial trivial) (t_same (by kernel_rfl) (by kernel_rfl)) ⟨rfl, rfl⟩
  · refine awp_false (by kernel_rfl) h1 ?_
    refine awp_skip ?_
    refine awp_seq ?_
    refine awp_region' 2000 3000 (by kernel_rfl) (by kernel_rfl) ?_
    refine aops_eff hΓ (.v (.one (.d (.int .i64 0)))) [] [] (by kernel_rfl) ?_
    refine aops_nil ?_
    refine awp_ret ?_
    obtain rfl := some_eq hF
    exact fin_intro (xs := [.one (.d (.int .i64 0))]) (m' := ⟨[], []⟩) (tv := (.v (.one (.d (.int .i64 0))))) (rl := []) (nl := []) (by kernel_rfl) (by kernel_rfl) (by kernel_rfl) (sees_of (by kernel_rfl) trivial trivial) (t_same (by kernel_rfl) (by kernel_rfl)) ⟨rfl, rfl⟩

/-! ### beaconfleet/fleetlaw2.errs -/
def fleetlaw2_errs_x1_k : Unit ⊕ Int → AEx
  | .inl _ => .exit 0
  | .inr _ => .ret

def fleetlaw2_errs_x1_S (ql : List Int) : Unit ⊕ Int → St
  | .inl _ => Mem.st ⟨[], []⟩ (tl []) 0
  | .inr vx1 => Mem.st ⟨[], []⟩ (tl [(2, .v (.one (.d (.int .i64 vx1))))]) 0

def fleetlaw2_errs_x1_H (ql : List Int) : Int → St
  | vx => Mem.st ⟨[], []⟩ (tl [(5, .v (.one (.d (.lst (List.map (encI .i64) ql))))), (6, .v (.one (.d (.int .i64 (ql.length : Int))))), (7, .v (.one (.d (.int .i64 vx))))]) 0

theorem fleetlaw2_errs_x1_ok (ql : List Int) (vx : Int) (r : (Int) ⊕ (Unit ⊕ Int)) (hF : fleetlaw2_errs_x1 ql vx = some r) : Awp prog 0 15 (cL (cL (cR (cL (cR (cB f20)))))) (Out 0 (kk fleetlaw2_errs_x1_k) (SS (fleetlaw2_errs_x1_H ql) (fleetlaw2_errs_x1_S ql)) r) (fleetlaw2_errs_x1_H ql vx) := by
  unfold fleetlaw2_errs_x1 at hF
  refine awp_seq ?_
  refine awp_region' 0 1000 (by kernel_rfl) (by kernel_rfl) ?_
  refine aops_eff hΓ (.v (.one (.d (.bool (decide (vx < (ql.length : Int))))))) [] [] (by kernel_rfl) ?_
  refine aops_nil ?_
  refine awp_seq ?_
  rcases cond_or hF with ⟨h1, hF⟩ | ⟨h1, hF⟩
  · refine awp_true (by kernel_rfl) h1 ?_
    refine awp_skip ?_
    refine awp_seq ?_
    refine awp_block ?_
    refine awp_seq ?_
    obtain ⟨vy1, h2, hF⟩ := bind_some hF
    refine awp_region' 1000 4000 (by kernel_rfl) (by kernel_rfl) ?_
    refine aops_eff hΓ (.v (.one (.cp [.int .i64 vy1]))) [] [] (opx_of (by kernel_rfl) (by kernel_rfl) (eff_indexAddr (k := .i64) (ti := ti159) (te := ti33) (l := ql) (f := (encI .i64)) (y := vy1) (by kernel_rfl) rfl (by kernel_rfl) (by kernel_rfl) (by kernel_rfl) h2 (by kernel_rfl))) ?_
    refine aops_eff hΓ (.v (.one (.d (.int .i64 vy1)))) [] [] (by kernel_rfl) ?_
    refine aops_eff hΓ (.v (.one (.d (.int .i64 vy1)))) [] [] (by kernel_rfl) ?_
    refine aops_nil ?_
    refine awp_seq ?_
    refine awp_region' 4000 6000 (by kernel_rfl) (by kernel_rfl) ?_
    refine aops_eff hΓ (.v (.one (.d (.int .i64 vy1)))) [] [] (by kernel_rfl) ?_
    refine aops_eff hΓ (.v (.one (.d (.bool (!decide (vy1 = 0)))))) [] [] (by kernel_rfl) ?_
    refine aops_nil ?_
    rcases cond_or hF with ⟨h3, hF⟩ | ⟨h3, hF⟩
    · refine awp_true (by kernel_rfl) h3 ?_
      refine awp_seq ?_
      refine awp_region' 6000 8000 (by kernel_rfl) (by kernel_rfl) ?_
      refine aops_eff hΓ (.v (.one (.d (.int .i64 vy1)))) [] [] (by kernel_rfl) ?_
      refine aops_eff hΓ (.v (.one (.d (.int .i64 vy1)))) [] [] (by kernel_rfl) ?_
      refine aops_nil ?_
      refine awp_ret ?_
      obtain rfl := some_eq hF
      exact out_intro rfl (to_see [] [] ⟨[], []⟩ [(2, .v (.one (.d (.int .i64 vy1))))] 0 (by kernel_rfl) (by kernel_rfl) (lowc_of (by kernel_rfl)) trivial trivial (⟨t_same (by kernel_rfl) (by kernel_rfl), trivial⟩))
    · refine awp_false (by kernel_rfl) h3 ?_
      refine awp_skip ?_
      refine awp_region' 6000 8000 (by kernel_rfl) (by kernel_rfl) ?_
      refine aops_eff hΓ (.v (.one (.d (.int .i64 (IntKind.wrap .i64 (vx + 1)))))) [] [] (by kernel_rfl) ?_
      refine aops_eff hΓ (.v (.one (.d (.int .i64 (IntKind.wrap .i64 (vx + 1)))))) [] [] (by kernel_rfl) ?_
      refine aops_nil ?_
      obtain rfl := some_eq hF
      exact out_intro rfl (to_see [] [] ⟨[], []⟩ [(5, .v (.one (.d (.lst (List.map (encI .i64) ql))))), (6, .v (.one (.d (.int .i64 (ql.length : Int))))), (7, .v (.one (.d (.int .i64 (IntKind.wrap .i64 (vx + 1))))))] 0 (by kernel_rfl) (by kernel_rfl) (lowc_of (by kernel_rfl)) trivial trivial (⟨t_same (by kernel_rfl) (by kernel_rfl), t_same (by kernel_rfl) (by kernel_rfl), t_same (by kernel_rfl) (by kernel_rfl), trivial⟩))
  · refine awp_false (by kernel_rfl) h1 ?_
    refine awp_exit ?_
    obtain rfl := some_eq hF
    exact out_intro rfl (to_see [] [] ⟨[], []⟩ [] 0 (by kernel_rfl) (by kernel_rfl) (lowc_of (by kernel_rfl)) trivial trivial trivial)

theorem fleetlaw2_errs_ok (ql : List Int) (r : Int) (hF : fleetlaw2_errs ql = some r) : Holds prog 20 [.v (.one (.d (.lst (List.map (encI .i64) ql))))] ⟨[], []⟩ (fun tv m => tv = .v (.one (.d (.int .i64 r))) ∧ m = ⟨[], []⟩) := by
  unfold fleetlaw2_errs at hF
  refine holds_of_awp hΓ (fn := f20) (c := cB f20) (A := 0) (nx := 0) (by kernel_rfl) (by kernel_rfl) (by kernel_rfl) (by kernel_rfl) (by kernel_rfl) (by kernel_rfl) (lowc_of (by kernel_rfl)) ?_
  show Awp prog 0 15 (cB f20) _ _
  refine awp_seq ?_
  refine awp_region' 0 1000 (by kernel_rfl) (by kernel_rfl) ?_
  refine aops_eff hΓ (.v (.one (.d (.int .i64 0)))) [] [] (by kernel_rfl) ?_
  refine aops_nil ?_
  refine awp_seq ?_
  refine awp_seq ?_
  refine awp_region' 1000 4000 (by kernel_rfl) (by kernel_rfl) ?_
  refine aops_eff hΓ (.v (.one (.d (.lst (List.map (encI .i64) ql))))) [] [] (by kernel_rfl) ?_
  refine aops_eff hΓ (.v (.one (.d (.int .i64 (ql.length : Int))))) [] [] (opx_len (f := (encI .i64)) (l := ql) (by kernel_rfl)) ?_
  refine aops_eff hΓ (.v (.one (.d (.int .i64 0)))) [] [] (by kernel_rfl) ?_
  refine aops_nil ?_
  refine awp_block ?_
  refine awp_to (st' := fleetlaw2_errs_x1_H ql 0) (to_see [] [] ⟨[], []⟩ [(5, .v (.one (.d (.lst (List.map (encI .i64) ql))))), (6, .v (.one (.d (.int .i64 (ql.length : Int))))), (7, .v (.one (.d (.int .i64 0))))] 0 (by kernel_rfl) (by kernel_rfl) (lowc_of (by kernel_rfl)) trivial trivial (⟨t_same (by kernel_rfl) (by kernel_rfl), t_same (by kernel_rfl) (by kernel_rfl), t_same (by kernel_rfl) (by kernel_rfl), trivial⟩)) ?_
  obtain ⟨(_ | vx1_1), h4, hF⟩ := bind_some hF
  · refine awp_sub (awp_loop' (fleetlaw2_errs_x1_H ql) fleetlaw2_errs_x1_k (fleetlaw2_errs_x1_S ql) (by intro x; rcases x with x | x <;> exact fun h => nomatch h) h4 (fleetlaw2_errs_x1_ok ql)) ?_
    refine awp_seq ?_
    refine awp_region' 0 1000 (by kernel_rfl) (by kernel_rfl) ?_
    refine aops_eff hΓ (.v (.one (.d (.int .i64 0)))) [] [] (by kernel_rfl) ?_
    refine aops_nil ?_
    refine awp_ret ?_
    obtain rfl := some_eq hF
    exact fin_intro (xs := [.one (.d (.int .i64 0))]) (m' := ⟨[], []⟩) (tv := (.v (.one (.d (.int .i64 0))))) (rl := []) (nl := []) (by kernel_rfl) (by kernel_rfl) (by kernel_rfl) (sees_of (by kernel_rfl) trivial trivial) (t_same (by kernel_rfl) (by kernel_rfl)) ⟨rfl, rfl⟩
  · refine awp_sub (awp_loop' (fleetlaw2_errs_x1_H ql) fleetlaw2_errs_x1_k (fleetlaw2_errs_x1_S ql) (by intro x; rcases x with x | x <;> exact fun h => nomatch h) h4 (fleetlaw2_errs_x1_ok ql)) ?_
    obtain rfl := some_eq hF
    exact fin_intro (xs := [.one (.d (.int .i64 vx1_1))]) (m' := ⟨[], []⟩) (tv := (.v (.one (.d (.int .i64 vx1_1))))) (rl := []) (nl := []) (by kernel_rfl) (by kernel_rfl) (by kernel_rfl) (sees_of (by kernel_rfl) trivial trivial) (t_same (by kernel_rfl) (by kernel_rfl)) ⟨rfl, rfl⟩

/-! ### beaconfleet/fleetref2.floor -/
theorem fleetref2_floor_ok (qa : Int) (qb : Int) (r : Int) (hF : fleetref2_floor qa qb = some r) : Holds prog 120 [.v (.one (.d (.int .i64 qa))), .v (.one (.d (.int .i64 qb)))] ⟨[], []⟩ (fun tv m => tv = .v (.one (.d (.int .i64 r))) ∧ m = ⟨[], []⟩) := by
  unfold fleetref2_floor at hF
  refine holds_of_awp hΓ (fn := f120) (c := cB f120) (A := 0) (nx := 0) (by kernel_rfl) (by kernel_rfl) (by kernel_rfl) (by kernel_rfl) (by kernel_rfl) (by kernel_rfl) (lowc_of (by kernel_rfl)) ?_
  show Awp prog 0 16 (cB f120) _ _
  refine awp_seq ?_
  refine awp_region' 0 1000 (by kernel_rfl) (by kernel_rfl) ?_
  refine aops_eff hΓ (.v (.one (.d (.int .i64 0)))) [] [] (by kernel_rfl) ?_
  refine aops_nil ?_
  refine awp_seq ?_
  refine awp_seq ?_
  obtain ⟨h1, hF⟩ := gd_some hF
  refine awp_region' 1000 5000 (by kernel_rfl) (by kernel_rfl) ?_
  refine aops_eff hΓ (.v (.one (.d (.int .i64 qa)))) [] [] (by kernel_rfl) ?_
  refine aops_eff hΓ (.v (.one (.d (.int .i64 qb)))) [] [] (by kernel_rfl) ?_
  refine aops_eff hΓ (.v (.one (.d (.int .i64 (qa.tmod qb))))) [] [] (opx_of (by kernel_rfl) (by kernel_rfl) (eff_rem (ti := ti3) (by kernel_rfl) (by kernel_rfl) (by kernel_rfl) (notB h1))) ?_
  refine aops_eff hΓ (.v (.one (.d (.bool (decide ((qa.tmod qb) < 0)))))) [] [] (by kernel_rfl) ?_
  refine aops_nil ?_
  rcases cond_or hF with ⟨h2, hF⟩ | ⟨h2, hF⟩
  · refine awp_true (by kernel_rfl) h2 ?_
    refine awp_seq ?_
    refine awp_region' 5000 10000 (by kernel_rfl) (by kernel_rfl) ?_
    refine aops_eff hΓ (.v (.one (.d (.int .i64 qa)))) [] [] (by kernel_rfl) ?_
    refine aops_eff hΓ (.v (.one (.d (.int .i64 qb)))) [] [] (by kernel_rfl) ?_
    refine aops_eff hΓ (.v (.one (.d (.int .i64 (IntKind.wrap .i64 (qa.tdiv qb)))))) [] [] (opx_of (by kernel_rfl) (by kernel_rfl) (eff_quo (ti := ti3) (by kernel_rfl) (by kernel_rfl) (by kernel_rfl) (notB h1))) ?_
    refine aops_eff hΓ (.v (.one (.d (.int .i64 (IntKind.wrap .i64 ((IntKind.wrap .i64 (qa.tdiv qb)) - 1)))))) [] [] (by kernel_rfl) ?_
    refine aops_eff hΓ (.v (.one (.d (.int .i64 (IntKind.wrap .i64 ((IntKind.wrap .i64 (qa.tdiv qb)) - 1)))))) [] [] (by kernel_rfl) ?_
    refine aops_nil ?_
    refine awp_ret ?_
    obtain rfl := some_eq hF
    exact fin_intro (xs := [.one (.d (.int .i64 (IntKind.wrap .i64 ((IntKind.wrap .i64 (qa.tdiv qb)) - 1))))]) (m' := ⟨[], []⟩) (tv := (.v (.one (.d (.int .i64 (IntKind.wrap .i64 ((IntKind.wrap .i64 (qa.tdiv qb)) - 1))))))) (rl := []) (nl := []) (by kernel_rfl) (by kernel_rfl) (by kernel_rfl) (sees_of (by kernel_rfl) trivial trivial) (t_same (by kernel_rfl) (by kernel_rfl)) ⟨rfl, rfl⟩
  · refine awp_false (by kernel_rfl) h2 ?_
    refine awp_skip ?_
    refine awp_seq ?_
    refine awp_region' 5000 9000 (by kernel_rfl) (by kernel_rfl) ?_
    refine aops_eff hΓ (.v (.one (.d (.int .i64 qa)))) [] [] (by kernel_rfl) ?_
    refine aops_eff hΓ (.v (.one (.d (.int .i64 qb)))) [] [] (by kernel_rfl) ?_
    refine aops_eff hΓ (.v (.one (.d (.int .i64 (IntKind.wrap .i64 (qa.tdiv qb)))))) [] [] (opx_of (by kernel_rfl) (by kernel_rfl) (eff_quo (ti := ti3) (by kernel_rfl) (by kernel_rfl) (by kernel_rfl) (notB h1))) ?_
    refine aops_eff hΓ (.v (.one (.d (.int .i64 (IntKind.wrap .i64 (qa.tdiv qb)))))) [] [] (by kernel_rfl) ?_
    refine aops_nil ?_
    refine awp_ret ?_
    obtain rfl := some_eq hF
    exact fin_intro (xs := [.one (.d (.int .i64 (IntKind.wrap .i64 (qa.tdiv qb))))]) (m' := ⟨[], []⟩) (tv := (.v (.one (.d (.int .i64 (IntKind.wrap .i64 (qa.tdiv qb))))))) (rl := []) (nl := []) (by kernel_rfl) (by kernel_rfl) (by kernel_rfl) (sees_of (by kernel_rfl) trivial trivial) (t_same (by kernel_rfl) (by kernel_rfl)) ⟨rfl, rfl⟩

end Go.Eng
