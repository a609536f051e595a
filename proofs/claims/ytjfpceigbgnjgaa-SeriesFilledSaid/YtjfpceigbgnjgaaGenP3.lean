/-
The code of the Go functions that the law SeriesFilled reaches does what the plain functions say, part 3.
-/
import Derived.Test.YtjfpceigbgnjgaaGenP2

namespace Go.Eng

open Go Go.Proofs.Try

set_option linter.unusedVariables false

set_option maxRecDepth 20000

set_option maxHeartbeats 0

/-! ### beaconfleet/fleetref2.FillOf -/
def fleetref2_FillOf_x5_k : Int → AEx
  | _ => .normal

def fleetref2_FillOf_x5_S (qx : List api_Sample) (qx1 : api_Window) (qx2 : Int) (qx3 : Int) (vx : List api_Sample) (vx1 : Int) (vx19 : Int) (vx20 : Int) (vx21 : Int) (vy5 : api_Sample) : Int → St
  | vx26 => Mem.st ⟨[(1, ⟨42, 4, List.map api_Sample.enc vx⟩)], [(0, [.d (.int .i64 qx1.From), .d (.int .i64 qx1.To)]), (2, [.d (.str vy5.Device), .d (.str vy5.Metric), .d (.int .i64 vy5.At), .d (.int .i64 vy5.Value)])]⟩ (tl [(0, .v (.one (.d (.lst (List.map api_Sample.enc qx))))), (2, .v (.one (.d (.int .i64 qx2)))), (3, .v (.one (.d (.int .i64 qx3)))), (5, .v (.one (.box 0 0))), (10, .v (.one (.own 1 none))), (11, .v (.one (.d (.int .i64 vx1)))), (12, .v (.one (.d (.int .i64 vx26)))), (13, .v (.one (.d (.int .i64 vx20)))), (14, .v (.one (.d (.int .i64 vx21)))), (15, .v (.one (.box 2 0))), (38, .v (.one (.d (.lst (List.map api_Sample.enc qx))))), (39, .v (.one (.d (.int .i64 (qx.length : Int))))), (40, .v (.one (.d (.int .i64 vx21))))]) 3

theorem fleetref2_FillOf_x5_ok (qx : List api_Sample) (qx1 : api_Window) (qx2 : Int) (qx3 : Int) (vx : List api_Sample) (vx1 : Int) (vx19 : Int) (vx20 : Int) (vx21 : Int) (vy5 : api_Sample) (r : Int) (hF : fleetref2_FillOf_x5 vx1 vx19 vx21 vy5 = some r) : Awp prog 0 118 (cL (cR (cL (cL (cR (cR (cL (cL (cR (cL (cR (cL (cL (cR (cL (cL (cR (cL (cR (cR (cR (cB f24)))))))))))))))))))))) (Out 0 fleetref2_FillOf_x5_k (fleetref2_FillOf_x5_S qx qx1 qx2 qx3 vx vx1 vx19 vx20 vx21 vy5) r) (Mem.st ⟨[(1, ⟨42, 4, List.map api_Sample.enc vx⟩)], [(0, [.d (.int .i64 qx1.From), .d (.int .i64 qx1.To)]), (2, [.d (.str vy5.Device), .d (.str vy5.Metric), .d (.int .i64 vy5.At), .d (.int .i64 vy5.Value)])]⟩ (tl [(0, .v (.one (.d (.lst (List.map api_Sample.enc qx))))), (2, .v (.one (.d (.int .i64 qx2)))), (3, .v (.one (.d (.int .i64 qx3)))), (5, .v (.one (.box 0 0))), (10, .v (.one (.own 1 none))), (11, .v (.one (.d (.int .i64 vx1)))), (12, .v (.one (.d (.int .i64 vx19)))), (13, .v (.one (.d (.int .i64 vx20)))), (14, .v (.one (.d (.int .i64 vx21)))), (15, .v (.one (.box 2 0))), (38, .v (.one (.d (.lst (List.map api_Sample.enc qx))))), (39, .v (.one (.d (.int .i64 (qx.length : Int))))), (40, .v (.one (.d (.int .i64 vx21))))]) 3) := by
  unfold fleetref2_FillOf_x5 at hF
  refine awp_seq ?_
  refine awp_region' 3 4003 (by kernel_rfl) (by kernel_rfl) ?_
  refine aops_eff hΓ (.v (.one (.box 2 2))) [] [] (by kernel_rfl) ?_
  refine aops_eff hΓ (.v (.one (.d (.int .i64 vy5.At)))) [] [] (by kernel_rfl) ?_
  refine aops_eff hΓ (.v (.one (.d (.int .i64 vx1)))) [] [] (by kernel_rfl) ?_
  refine aops_eff hΓ (.v (.one (.d (.bool (decide (vy5.At ≤ vx1)))))) [] [] (by kernel_rfl) ?_
  refine aops_nil ?_
  rcases cond_or hF with ⟨h6, hF⟩ | ⟨h6, hF⟩
  · refine awp_true (by kernel_rfl) h6 ?_
    refine awp_region' 4003 6003 (by kernel_rfl) (by kernel_rfl) ?_
    refine aops_eff hΓ (.v (.one (.d (.int .i64 vx21)))) [] [] (by kernel_rfl) ?_
    refine aops_eff hΓ (.v (.one (.d (.int .i64 vx21)))) [] [] (by kernel_rfl) ?_
    refine aops_nil ?_
    obtain rfl := some_eq hF
    exact out_intro rfl (to_see [] [] ⟨[(1, ⟨42, 4, List.map api_Sample.enc vx⟩)], [(0, [.d (.int .i64 qx1.From), .d (.int .i64 qx1.To)]), (2, [.d (.str vy5.Device), .d (.str vy5.Metric), .d (.int .i64 vy5.At), .d (.int .i64 vy5.Value)])]⟩ [(0, .v (.one (.d (.lst (List.map api_Sample.enc qx))))), (2, .v (.one (.d (.int .i64 qx2)))), (3, .v (.one (.d (.int .i64 qx3)))), (5, .v (.one (.box 0 0))), (10, .v (.one (.own 1 none))), (11, .v (.one (.d (.int .i64 vx1)))), (12, .v (.one (.d (.int .i64 vx21)))), (13, .v (.one (.d (.int .i64 vx20)))), (14, .v (.one (.d (.int .i64 vx21)))), (15, .v (.one (.box 2 0))), (38, .v (.one (.d (.lst (List.map api_Sample.enc qx))))), (39, .v (.one (.d (.int .i64 (qx.length : Int))))), (40, .v (.one (.d (.int .i64 vx21))))] 3 (by kernel_rfl) (by kernel_rfl) (lowc_of (by kernel_rfl)) (⟨.inr ⟨by kernel_rfl, by kernel_rfl⟩, trivial⟩) (⟨⟨by kernel_rfl, [.d (.int .i64 qx1.From), .d (.int .i64 qx1.To)], by kernel_rfl, l2_same (by kernel_rfl) (by kernel_rfl)⟩, ⟨by kernel_rfl, [.d (.str vy5.Device), .d (.str vy5.Metric), .d (.int .i64 vy5.At), .d (.int .i64 vy5.Value)], by kernel_rfl, l2_same (by kernel_rfl) (by kernel_rfl)⟩, trivial⟩) (⟨t_same (by kernel_rfl) (by kernel_rfl), t_same (by kernel_rfl) (by kernel_rfl), t_same (by kernel_rfl) (by kernel_rfl), t_same (by kernel_rfl) (by kernel_rfl), t_same (by kernel_rfl) (by kernel_rfl), t_same (by kernel_rfl) (by kernel_rfl), t_same (by kernel_rfl) (by kernel_rfl), t_same (by kernel_rfl) (by kernel_rfl), t_same (by kernel_rfl) (by kernel_rfl), t_same (by kernel_rfl) (by kernel_rfl), t_same (by kernel_rfl) (by kernel_rfl), t_same (by kernel_rfl) (by kernel_rfl), t_same (by kernel_rfl) (by kernel_rfl), trivial⟩))
  · refine awp_false (by kernel_rfl) h6 ?_
    refine awp_skip ?_
    obtain rfl := some_eq hF
    exact out_intro rfl (to_see [] [] ⟨[(1, ⟨42, 4, List.map api_Sample.enc vx⟩)], [(0, [.d (.int .i64 qx1.From), .d (.int .i64 qx1.To)]), (2, [.d (.str vy5.Device), .d (.str vy5.Metric), .d (.int .i64 vy5.At), .d (.int .i64 vy5.Value)])]⟩ [(0, .v (.one (.d (.lst (List.map api_Sample.enc qx))))), (2, .v (.one (.d (.int .i64 qx2)))), (3, .v (.one (.d (.int .i64 qx3)))), (5, .v (.one (.box 0 0))), (10, .v (.one (.own 1 none))), (11, .v (.one (.d (.int .i64 vx1)))), (12, .v (.one (.d (.int .i64 vx19)))), (13, .v (.one (.d (.int .i64 vx20)))), (14, .v (.one (.d (.int .i64 vx21)))), (15, .v (.one (.box 2 0))), (38, .v (.one (.d (.lst (List.map api_Sample.enc qx))))), (39, .v (.one (.d (.int .i64 (qx.length : Int))))), (40, .v (.one (.d (.int .i64 vx21))))] 3 (by kernel_rfl) (by kernel_rfl) (lowc_of (by kernel_rfl)) (⟨.inr ⟨by kernel_rfl, by kernel_rfl⟩, trivial⟩) (⟨⟨by kernel_rfl, [.d (.int .i64 qx1.From), .d (.int .i64 qx1.To)], by kernel_rfl, l2_same (by kernel_rfl) (by kernel_rfl)⟩, ⟨by kernel_rfl, [.d (.str vy5.Device), .d (.str vy5.Metric), .d (.int .i64 vy5.At), .d (.int .i64 vy5.Value)], by kernel_rfl, l2_same (by kernel_rfl) (by kernel_rfl)⟩, trivial⟩) (⟨t_same (by kernel_rfl) (by kernel_rfl), t_same (by kernel_rfl) (by kernel_rfl), t_same (by kernel_rfl) (by kernel_rfl), t_same (by kernel_rfl) (by kernel_rfl), t_same (by kernel_rfl) (by kernel_rfl), t_same (by kernel_rfl) (by kernel_rfl), t_same (by kernel_rfl) (by kernel_rfl), t_same (by kernel_rfl) (by kernel_rfl), t_same (by kernel_rfl) (by kernel_rfl), t_same (by kernel_rfl) (by kernel_rfl), t_same (by kernel_rfl) (by kernel_rfl), t_same (by kernel_rfl) (by kernel_rfl), t_same (by kernel_rfl) (by kernel_rfl), trivial⟩))

def fleetref2_FillOf_x6_k : Bool → AEx
  | _ => .normal

def fleetref2_FillOf_x6_S (qx : List api_Sample) (qx1 : api_Window) (qx2 : Int) (qx3 : Int) (vx : List api_Sample) (vx1 : Int) (vx20 : Int) (vx21 : Int) (vy5 : api_Sample) (vx26_1 : Int) : Bool → St
  | vx27 => Mem.st ⟨[(1, ⟨42, 4, List.map api_Sample.enc vx⟩)], [(0, [.d (.int .i64 qx1.From), .d (.int .i64 qx1.To)])]⟩ (tl [(0, .v (.one (.d (.lst (List.map api_Sample.enc qx))))), (2, .v (.one (.d (.int .i64 qx2)))), (3, .v (.one (.d (.int .i64 qx3)))), (5, .v (.one (.box 0 0))), (10, .v (.one (.own 1 none))), (11, .v (.one (.d (.int .i64 vx1)))), (12, .v (.one (.d (.int .i64 vx26_1)))), (13, .v (.one (.d (.int .i64 vx20)))), (14, .v (.one (.d (.int .i64 vx21)))), (38, .v (.one (.d (.lst (List.map api_Sample.enc qx))))), (39, .v (.one (.d (.int .i64 (qx.length : Int))))), (40, .v (.one (.d (.int .i64 vx21)))), (57, .v (.one (.d (.bool vx27))))]) 2

theorem fleetref2_FillOf_x6_ok (qx : List api_Sample) (qx1 : api_Window) (qx2 : Int) (qx3 : Int) (vx : List api_Sample) (vx1 : Int) (vx20 : Int) (vx21 : Int) (vy5 : api_Sample) (vx26_1 : Int) (r : Bool) (hF : fleetref2_FillOf_x6 vx1 vx20 vy5 = some r) : Awp prog 0 118 (cL (cR (cR (cL (cL (cR (cR (cL (cL (cR (cL (cR (cL (cL (cR (cL (cL (cR (cL (cR (cR (cR (cB f24))))))))))))))))))))))) (Out 0 fleetref2_FillOf_x6_k (fleetref2_FillOf_x6_S qx qx1 qx2 qx3 vx vx1 vx20 vx21 vy5 vx26_1) r) (Mem.st ⟨[(1, ⟨42, 4, List.map api_Sample.enc vx⟩)], [(0, [.d (.int .i64 qx1.From), .d (.int .i64 qx1.To)]), (2, [.d (.str vy5.Device), .d (.str vy5.Metric), .d (.int .i64 vy5.At), .d (.int .i64 vy5.Value)])]⟩ (tl [(0, .v (.one (.d (.lst (List.map api_Sample.enc qx))))), (2, .v (.one (.d (.int .i64 qx2)))), (3, .v (.one (.d (.int .i64 qx3)))), (5, .v (.one (.box 0 0))), (10, .v (.one (.own 1 none))), (11, .v (.one (.d (.int .i64 vx1)))), (12, .v (.one (.d (.int .i64 vx26_1)))), (13, .v (.one (.d (.int .i64 vx20)))), (14, .v (.one (.d (.int .i64 vx21)))), (15, .v (.one (.box 2 0))), (38, .v (.one (.d (.lst (List.map api_Sample.enc qx))))), (39, .v (.one (.d (.int .i64 (qx.length : Int))))), (40, .v (.one (.d (.int .i64 vx21))))]) 3) := by
  unfold fleetref2_FillOf_x6 at hF
  rcases cond_or hF with ⟨h8, hF⟩ | ⟨h8, hF⟩
  · refine awp_region' 3 8003 (by kernel_rfl) (by kernel_rfl) ?_
    refine aops_eff hΓ (.v (.one (.box 2 2))) [] [] (by kernel_rfl) ?_
    refine aops_eff hΓ (.v (.one (.d (.int .i64 vy5.At)))) [] [] (by kernel_rfl) ?_
    refine aops_eff hΓ (.v (.one (.d (.int .i64 vx1)))) [] [] (by kernel_rfl) ?_
    refine aops_eff hΓ (.v (.one (.d (.bool true)))) [] [] (opx_b (by kernel_rfl) h8) ?_
    refine aops_eff hΓ (.v (.one (.d (.bool true)))) [] [] (by kernel_rfl) ?_
    refine aops_eff hΓ (.v (.one (.d (.int .i64 vx20)))) [] [] (by kernel_rfl) ?_
    refine aops_eff hΓ (.v (.one (.d (.bool (decide (vx20 < 0)))))) [] [] (by kernel_rfl) ?_
    refine aops_eff hΓ (.v (.one (.d (.bool (decide (vx20 < 0)))))) [] [] (by kernel_rfl) ?_
    refine aops_nil ?_
    obtain rfl := some_eq hF
    exact out_intro rfl (to_see [] [] ⟨[(1, ⟨42, 4, List.map api_Sample.enc vx⟩)], [(0, [.d (.int .i64 qx1.From), .d (.int .i64 qx1.To)])]⟩ [(0, .v (.one (.d (.lst (List.map api_Sample.enc qx))))), (2, .v (.one (.d (.int .i64 qx2)))), (3, .v (.one (.d (.int .i64 qx3)))), (5, .v (.one (.box 0 0))), (10, .v (.one (.own 1 none))), (11, .v (.one (.d (.int .i64 vx1)))), (12, .v (.one (.d (.int .i64 vx26_1)))), (13, .v (.one (.d (.int .i64 vx20)))), (14, .v (.one (.d (.int .i64 vx21)))), (38, .v (.one (.d (.lst (List.map api_Sample.enc qx))))), (39, .v (.one (.d (.int .i64 (qx.length : Int))))), (40, .v (.one (.d (.int .i64 vx21)))), (57, .v (.one (.d (.bool (decide (vx20 < 0))))))] 2 (by kernel_rfl) (by kernel_rfl) (lowc_of (by kernel_rfl)) (⟨.inr ⟨by kernel_rfl, by kernel_rfl⟩, trivial⟩) (⟨⟨by kernel_rfl, [.d (.int .i64 qx1.From), .d (.int .i64 qx1.To)], by kernel_rfl, l2_same (by kernel_rfl) (by kernel_rfl)⟩, trivial⟩) (⟨t_same (by kernel_rfl) (by kernel_rfl), t_same (by kernel_rfl) (by kernel_rfl), t_same (by kernel_rfl) (by kernel_rfl), t_same (by kernel_rfl) (by kernel_rfl), t_same (by kernel_rfl) (by kernel_rfl), t_same (by kernel_rfl) (by kernel_rfl), t_same (by kernel_rfl) (by kernel_rfl), t_same (by kernel_rfl) (by kernel_rfl), t_same (by kernel_rfl) (by kernel_rfl), t_same (by kernel_rfl) (by kernel_rfl), t_same (by kernel_rfl) (by kernel_rfl), t_same (by kernel_rfl) (by kernel_rfl), t_same (by kernel_rfl) (by kernel_rfl), trivial⟩))
  · refine awp_region' 3 8003 (by kernel_rfl) (by kernel_rfl) ?_
    refine aops_eff hΓ (.v (.one (.box 2 2))) [] [] (by kernel_rfl) ?_
    refine aops_eff hΓ (.v (.one (.d (.int .i64 vy5.At)))) [] [] (by kernel_rfl) ?_
    refine aops_eff hΓ (.v (.one (.d (.int .i64 vx1)))) [] [] (by kernel_rfl) ?_
    refine aops_eff hΓ (.v (.one (.d (.bool false)))) [] [] (opx_b (by kernel_rfl) h8) ?_
    refine aops_eff hΓ (.v (.one (.d (.bool false)))) [] [] (by kernel_rfl) ?_
    refine aops_skip' (by kernel_rfl) ?_
    refine aops_skip' (by kernel_rfl) ?_
    refine aops_eff hΓ (.v (.one (.d (.bool false)))) [] [] (by kernel_rfl) ?_
    refine aops_nil ?_
    obtain rfl := some_eq hF
    exact out_intro rfl (to_see [] [] ⟨[(1, ⟨42, 4, List.map api_Sample.enc vx⟩)], [(0, [.d (.int .i64 qx1.From), .d (.int .i64 qx1.To)])]⟩ [(0, .v (.one (.d (.lst (List.map api_Sample.enc qx))))), (2, .v (.one (.d (.int .i64 qx2)))), (3, .v (.one (.d (.int .i64 qx3)))), (5, .v (.one (.box 0 0))), (10, .v (.one (.own 1 none))), (11, .v (.one (.d (.int .i64 vx1)))), (12, .v (.one (.d (.int .i64 vx26_1)))), (13, .v (.one (.d (.int .i64 vx20)))), (14, .v (.one (.d (.int .i64 vx21)))), (38, .v (.one (.d (.lst (List.map api_Sample.enc qx))))), (39, .v (.one (.d (.int .i64 (qx.length : Int))))), (40, .v (.one (.d (.int .i64 vx21)))), (57, .v (.one (.d (.bool false))))] 2 (by kernel_rfl) (by kernel_rfl) (lowc_of (by kernel_rfl)) (⟨.inr ⟨by kernel_rfl, by kernel_rfl⟩, trivial⟩) (⟨⟨by kernel_rfl, [.d (.int .i64 qx1.From), .d (.int .i64 qx1.To)], by kernel_rfl, l2_same (by kernel_rfl) (by kernel_rfl)⟩, trivial⟩) (⟨t_same (by kernel_rfl) (by kernel_rfl), t_same (by kernel_rfl) (by kernel_rfl), t_same (by kernel_rfl) (by kernel_rfl), t_same (by kernel_rfl) (by kernel_rfl), t_same (by kernel_rfl) (by kernel_rfl), t_same (by kernel_rfl) (by kernel_rfl), t_same (by kernel_rfl) (by kernel_rfl), t_same (by kernel_rfl) (by kernel_rfl), t_same (by kernel_rfl) (by kernel_rfl), t_same (by kernel_rfl) (by kernel_rfl), t_same (by kernel_rfl) (by kernel_rfl), t_same (by kernel_rfl) (by kernel_rfl), t_same (by kernel_rfl) (by kernel_rfl), trivial⟩))

def fleetref2_FillOf_x4_k : (Int × Int) → AEx
  | _ => .normal

def fleetref2_FillOf_x4_S (qx : List api_Sample) (qx1 : api_Window) (qx2 : Int) (qx3 : Int) (vx : List api_Sample) (vx1 : Int) (vx19 : Int) (vx20 : Int) (vx21 : Int) : (Int × Int) → St
  | (vx28, vx29) => Mem.st ⟨[(1, ⟨42, 4, List.map api_Sample.enc vx⟩)], [(0, [.d (.int .i64 qx1.From), .d (.int .i64 qx1.To)])]⟩ (tl [(0, .v (.one (.d (.lst (List.map api_Sample.enc qx))))), (2, .v (.one (.d (.int .i64 qx2)))), (3, .v (.one (.d (.int .i64 qx3)))), (5, .v (.one (.box 0 0))), (10, .v (.one (.own 1 none))), (11, .v (.one (.d (.int .i64 vx1)))), (12, .v (.one (.d (.int .i64 vx28)))), (13, .v (.one (.d (.int .i64 vx29)))), (38, .v (.one (.d (.lst (List.map api_Sample.enc qx))))), (39, .v (.one (.d (.int .i64 (qx.length : Int))))), (40, .v (.one (.d (.int .i64 vx21))))]) 2

theorem fleetref2_FillOf_x4_ok (qx : List api_Sample) (qx1 : api_Window) (qx2 : Int) (qx3 : Int) (vx : List api_Sample) (vx1 : Int) (vx19 : Int) (vx20 : Int) (vx21 : Int) (r : (Int × Int)) (hF : fleetref2_FillOf_x4 qx vx1 vx19 vx20 vx21 = some r) : Awp prog 0 118 (cL (cR (cR (cL (cL (cR (cL (cR (cL (cL (cR (cL (cL (cR (cL (cR (cR (cR (cB f24))))))))))))))))))) (Out 0 fleetref2_FillOf_x4_k (fleetref2_FillOf_x4_S qx qx1 qx2 qx3 vx vx1 vx19 vx20 vx21) r) (Mem.st ⟨[(1, ⟨42, 4, List.map api_Sample.enc vx⟩)], [(0, [.d (.int .i64 qx1.From), .d (.int .i64 qx1.To)])]⟩ (tl [(0, .v (.one (.d (.lst (List.map api_Sample.enc qx))))), (2, .v (.one (.d (.int .i64 qx2)))), (3, .v (.one (.d (.int .i64 qx3)))), (5, .v (.one (.box 0 0))), (10, .v (.one (.own 1 none))), (11, .v (.one (.d (.int .i64 vx1)))), (12, .v (.one (.d (.int .i64 vx19)))), (13, .v (.one (.d (.int .i64 vx20)))), (38, .v (.one (.d (.lst (List.map api_Sample.enc qx))))), (39, .v (.one (.d (.int .i64 (qx.length : Int))))), (40, .v (.one (.d (.int .i64 vx21))))]) 2) := by
  unfold fleetref2_FillOf_x4 at hF
  refine awp_block ?_
  refine awp_seq ?_
  obtain ⟨vy5, h5, hF⟩ := bind_some hF
  refine awp_region' 2 6002 (by kernel_rfl) (by kernel_rfl) ?_
  refine aops_eff hΓ (.v (.one (.d (.int .i64 vx21)))) [] [] (by kernel_rfl) ?_
  refine aops_eff hΓ (.v (.one (.cp [.str vy5.Device, .str vy5.Metric, .int .i64 vy5.At, .int .i64 vy5.Value]))) [] [] (opx_of (by kernel_rfl) (by kernel_rfl) (eff_indexAddr (k := .i64) (ti := ti26) (te := ti42) (l := qx) (f := api_Sample.enc) (y := vy5) (by kernel_rfl) rfl (by kernel_rfl) (by kernel_rfl) (by kernel_rfl) h5 (by kernel_rfl))) ?_
  refine aops_eff hΓ (.v (.agg [.d (.str vy5.Device), .d (.str vy5.Metric), .d (.int .i64 vy5.At), .d (.int .i64 vy5.Value)])) [] [] (by kernel_rfl) ?_
  refine aops_eff hΓ (.v (.one (.box 3002 0))) [] [(3002, some [.d (.str ([] : List UInt8)), .d (.str ([] : List UInt8)), .d (.int .i64 0), .d (.int .i64 0)])] (by kernel_rfl) ?_
  refine aops_eff hΓ (.v (.one (.d (.int .i64 vx21)))) [] [] (by kernel_rfl) ?_
  refine aops_eff hΓ (.undef) [] [(3002, some [.d (.str vy5.Device), .d (.str vy5.Metric), .d (.int .i64 vy5.At), .d (.int .i64 vy5.Value)])] (by kernel_rfl) ?_
  refine aops_nil ?_
  refine awp_seq ?_
  refine awp_to (to_see [(2, 3002)] [] ⟨[(1, ⟨42, 4, List.map api_Sample.enc vx⟩)], [(0, [.d (.int .i64 qx1.From), .d (.int .i64 qx1.To)]), (2, [.d (.str vy5.Device), .d (.str vy5.Metric), .d (.int .i64 vy5.At), .d (.int .i64 vy5.Value)])]⟩ [(0, .v (.one (.d (.lst (List.map api_Sample.enc qx))))), (2, .v (.one (.d (.int .i64 qx2)))), (3, .v (.one (.d (.int .i64 qx3)))), (5, .v (.one (.box 0 0))), (10, .v (.one (.own 1 none))), (11, .v (.one (.d (.int .i64 vx1)))), (12, .v (.one (.d (.int .i64 vx19)))), (13, .v (.one (.d (.int .i64 vx20)))), (14, .v (.one (.d (.int .i64 vx21)))), (15, .v (.one (.box 2 0))), (38, .v (.one (.d (.lst (List.map api_Sample.enc qx))))), (39, .v (.one (.d (.int .i64 (qx.length : Int))))), (40, .v (.one (.d (.int .i64 vx21))))] 3 (by kernel_rfl) (by kernel_rfl) (lowc_of (by kernel_rfl)) (⟨.inr ⟨by kernel_rfl, by kernel_rfl⟩, trivial⟩) (⟨⟨by kernel_rfl, [.d (.int .i64 qx1.From), .d (.int .i64 qx1.To)], by kernel_rfl, l2_same (by kernel_rfl) (by kernel_rfl)⟩, ⟨by kernel_rfl, [.d (.str vy5.Device), .d (.str vy5.Metric), .d (.int .i64 vy5.At), .d (.int .i64 vy5.Value)], by kernel_rfl, l2_same (by kernel_rfl) (by kernel_rfl)⟩, trivial⟩) (⟨t_same (by kernel_rfl) (by kernel_rfl), t_same (by kernel_rfl) (by kernel_rfl), t_same (by kernel_rfl) (by kernel_rfl), t_same (by kernel_rfl) (by kernel_rfl), t_same (by kernel_rfl) (by kernel_rfl), t_same (by kernel_rfl) (by kernel_rfl), t_same (by kernel_rfl) (by kernel_rfl), t_same (by kernel_rfl) (by kernel_rfl), t_same (by kernel_rfl) (by kernel_rfl), t_same (by kernel_rfl) (by kernel_rfl), t_same (by kernel_rfl) (by kernel_rfl), t_same (by kernel_rfl) (by kernel_rfl), t_same (by kernel_rfl) (by kernel_rfl), trivial⟩)) ?_
  obtain ⟨vx26_1, h7, hF⟩ := bind_some hF
  refine awp_sub (fleetref2_FillOf_x5_ok qx qx1 qx2 qx3 vx vx1 vx19 vx20 vx21 vy5 _ h7) ?_
  refine awp_seq ?_
  refine awp_to (to_see [] [] ⟨[(1, ⟨42, 4, List.map api_Sample.enc vx⟩)], [(0, [.d (.int .i64 qx1.From), .d (.int .i64 qx1.To)]), (2, [.d (.str vy5.Device), .d (.str vy5.Metric), .d (.int .i64 vy5.At), .d (.int .i64 vy5.Value)])]⟩ [(0, .v (.one (.d (.lst (List.map api_Sample.enc qx))))), (2, .v (.one (.d (.int .i64 qx2)))), (3, .v (.one (.d (.int .i64 qx3)))), (5, .v (.one (.box 0 0))), (10, .v (.one (.own 1 none))), (11, .v (.one (.d (.int .i64 vx1)))), (12, .v (.one (.d (.int .i64 vx26_1)))), (13, .v (.one (.d (.int .i64 vx20)))), (14, .v (.one (.d (.int .i64 vx21)))), (15, .v (.one (.box 2 0))), (38, .v (.one (.d (.lst (List.map api_Sample.enc qx))))), (39, .v (.one (.d (.int .i64 (qx.length : Int))))), (40, .v (.one (.d (.int .i64 vx21))))] 3 (by kernel_rfl) (by kernel_rfl) (lowc_of (by kernel_rfl)) (⟨.inr ⟨by kernel_rfl, by kernel_rfl⟩, trivial⟩) (⟨⟨by kernel_rfl, [.d (.int .i64 qx1.From), .d (.int .i64 qx1.To)], by kernel_rfl, l2_same (by kernel_rfl) (by kernel_rfl)⟩, ⟨by kernel_rfl, [.d (.str vy5.Device), .d (.str vy5.Metric), .d (.int .i64 vy5.At), .d (.int .i64 vy5.Value)], by kernel_rfl, l2_same (by kernel_rfl) (by kernel_rfl)⟩, trivial⟩) (⟨t_same (by kernel_rfl) (by kernel_rfl), t_same (by kernel_rfl) (by kernel_rfl), t_same (by kernel_rfl) (by kernel_rfl), t_same (by kernel_rfl) (by kernel_rfl), t_same (by kernel_rfl) (by kernel_rfl), t_same (by kernel_rfl) (by kernel_rfl), t_same (by kernel_rfl) (by kernel_rfl), t_same (by kernel_rfl) (by kernel_rfl), t_same (by kernel_rfl) (by kernel_rfl), t_same (by kernel_rfl) (by kernel_rfl), t_same (by kernel_rfl) (by kernel_rfl), t_same (by kernel_rfl) (by kernel_rfl), t_same (by kernel_rfl) (by kernel_rfl), trivial⟩)) ?_
  obtain ⟨vx27_1, h9, hF⟩ := bind_some hF
  refine awp_sub (fleetref2_FillOf_x6_ok qx qx1 qx2 qx3 vx vx1 vx20 vx21 vy5 vx26_1 _ h9) ?_
  rcases cond_or hF with ⟨h10, hF⟩ | ⟨h10, hF⟩
  · refine awp_true (by kernel_rfl) h10 ?_
    refine awp_region' 2 2002 (by kernel_rfl) (by kernel_rfl) ?_
    refine aops_eff hΓ (.v (.one (.d (.int .i64 vx21)))) [] [] (by kernel_rfl) ?_
    refine aops_eff hΓ (.v (.one (.d (.int .i64 vx21)))) [] [] (by kernel_rfl) ?_
    refine aops_nil ?_
    obtain rfl := some_eq hF
    exact out_intro rfl (to_see [] [] ⟨[(1, ⟨42, 4, List.map api_Sample.enc vx⟩)], [(0, [.d (.int .i64 qx1.From), .d (.int .i64 qx1.To)])]⟩ [(0, .v (.one (.d (.lst (List.map api_Sample.enc qx))))), (2, .v (.one (.d (.int .i64 qx2)))), (3, .v (.one (.d (.int .i64 qx3)))), (5, .v (.one (.box 0 0))), (10, .v (.one (.own 1 none))), (11, .v (.one (.d (.int .i64 vx1)))), (12, .v (.one (.d (.int .i64 vx26_1)))), (13, .v (.one (.d (.int .i64 vx21)))), (38, .v (.one (.d (.lst (List.map api_Sample.enc qx))))), (39, .v (.one (.d (.int .i64 (qx.length : Int))))), (40, .v (.one (.d (.int .i64 vx21))))] 2 (by kernel_rfl) (by kernel_rfl) (lowc_of (by kernel_rfl)) (⟨.inr ⟨by kernel_rfl, by kernel_rfl⟩, trivial⟩) (⟨⟨by kernel_rfl, [.d (.int .i64 qx1.From), .d (.int .i64 qx1.To)], by kernel_rfl, l2_same (by kernel_rfl) (by kernel_rfl)⟩, trivial⟩) (⟨t_same (by kernel_rfl) (by kernel_rfl), t_same (by kernel_rfl) (by kernel_rfl), t_same (by kernel_rfl) (by kernel_rfl), t_same (by kernel_rfl) (by kernel_rfl), t_same (by kernel_rfl) (by kernel_rfl), t_same (by kernel_rfl) (by kernel_rfl), t_same (by kernel_rfl) (by kernel_rfl), t_same (by kernel_rfl) (by kernel_rfl), t_same (by kernel_rfl) (by kernel_rfl), t_same (by kernel_rfl) (by kernel_rfl), t_same (by kernel_rfl) (by kernel_rfl), trivial⟩))
  · refine awp_false (by kernel_rfl) h10 ?_
    refine awp_skip ?_
    obtain rfl := some_eq hF
    exact out_intro rfl (to_see [] [] ⟨[(1, ⟨42, 4, List.map api_Sample.enc vx⟩)], [(0, [.d (.int .i64 qx1.From), .d (.int .i64 qx1.To)])]⟩ [(0, .v (.one (.d (.lst (List.map api_Sample.enc qx))))), (2, .v (.one (.d (.int .i64 qx2)))), (3, .v (.one (.d (.int .i64 qx3)))), (5, .v (.one (.box 0 0))), (10, .v (.one (.own 1 none))), (11, .v (.one (.d (.int .i64 vx1)))), (12, .v (.one (.d (.int .i64 vx26_1)))), (13, .v (.one (.d (.int .i64 vx20)))), (38, .v (.one (.d (.lst (List.map api_Sample.enc qx))))), (39, .v (.one (.d (.int .i64 (qx.length : Int))))), (40, .v (.one (.d (.int .i64 vx21))))] 2 (by kernel_rfl) (by kernel_rfl) (lowc_of (by kernel_rfl)) (⟨.inr ⟨by kernel_rfl, by kernel_rfl⟩, trivial⟩) (⟨⟨by kernel_rfl, [.d (.int .i64 qx1.From), .d (.int .i64 qx1.To)], by kernel_rfl, l2_same (by kernel_rfl) (by kernel_rfl)⟩, trivial⟩) (⟨t_same (by kernel_rfl) (by kernel_rfl), t_same (by kernel_rfl) (by kernel_rfl), t_same (by kernel_rfl) (by kernel_rfl), t_same (by kernel_rfl) (by kernel_rfl), t_same (by kernel_rfl) (by kernel_rfl), t_same (by kernel_rfl) (by kernel_rfl), t_same (by kernel_rfl) (by kernel_rfl), t_same (by kernel_rfl) (by kernel_rfl), t_same (by kernel_rfl) (by kernel_rfl), t_same (by kernel_rfl) (by kernel_rfl), t_same (by kernel_rfl) (by kernel_rfl), trivial⟩))

def fleetref2_FillOf_x3_k : (Int × Int) → AEx
  | _ => .exit 2

def fleetref2_FillOf_x3_S (qx : List api_Sample) (qx1 : api_Window) (qx2 : Int) (qx3 : Int) (vx : List api_Sample) (vx1 : Int) : (Int × Int) → St
  | (vx30, vx31) => Mem.st ⟨[(1, ⟨42, 4, List.map api_Sample.enc vx⟩)], [(0, [.d (.int .i64 qx1.From), .d (.int .i64 qx1.To)])]⟩ (tl [(0, .v (.one (.d (.lst (List.map api_Sample.enc qx))))), (2, .v (.one (.d (.int .i64 qx2)))), (3, .v (.one (.d (.int .i64 qx3)))), (5, .v (.one (.box 0 0))), (10, .v (.one (.own 1 none))), (11, .v (.one (.d (.int .i64 vx1)))), (12, .v (.one (.d (.int .i64 vx30)))), (13, .v (.one (.d (.int .i64 vx31))))]) 2

def fleetref2_FillOf_x3_H (qx : List api_Sample) (qx1 : api_Window) (qx2 : Int) (qx3 : Int) (vx : List api_Sample) (vx1 : Int) : Int × Int × Int → St
  | (vx19, vx20, vx21) => Mem.st ⟨[(1, ⟨42, 4, List.map api_Sample.enc vx⟩)], [(0, [.d (.int .i64 qx1.From), .d (.int .i64 qx1.To)])]⟩ (tl [(0, .v (.one (.d (.lst (List.map api_Sample.enc qx))))), (2, .v (.one (.d (.int .i64 qx2)))), (3, .v (.one (.d (.int .i64 qx3)))), (5, .v (.one (.box 0 0))), (10, .v (.one (.own 1 none))), (11, .v (.one (.d (.int .i64 vx1)))), (12, .v (.one (.d (.int .i64 vx19)))), (13, .v (.one (.d (.int .i64 vx20)))), (38, .v (.one (.d (.lst (List.map api_Sample.enc qx))))), (39, .v (.one (.d (.int .i64 (qx.length : Int))))), (40, .v (.one (.d (.int .i64 vx21))))]) 2

theorem fleetref2_FillOf_x3_ok (qx : List api_Sample) (qx1 : api_Window) (qx2 : Int) (qx3 : Int) (vx : List api_Sample) (vx1 : Int) (s : Int × Int × Int) (r : (Int × Int × Int) ⊕ ((Int × Int))) (hF : fleetref2_FillOf_x3 qx vx1 s = some r) : Awp prog 0 118 (cL (cL (cR (cL (cR (cL (cL (cR (cL (cL (cR (cL (cR (cR (cR (cB f24)))))))))))))))) (Out 0 (kk fleetref2_FillOf_x3_k) (SS (fleetref2_FillOf_x3_H qx qx1 qx2 qx3 vx vx1) (fleetref2_FillOf_x3_S qx qx1 qx2 qx3 vx vx1)) r) (fleetref2_FillOf_x3_H qx qx1 qx2 qx3 vx vx1 s) := by
  obtain ⟨vx19, vx20, vx21⟩ := s
  unfold fleetref2_FillOf_x3 at hF
  refine awp_seq ?_
  refine awp_region' 2 1002 (by kernel_rfl) (by kernel_rfl) ?_
  refine aops_eff hΓ (.v (.one (.d (.bool (decide (vx21 < (qx.length : Int))))))) [] [] (by kernel_rfl) ?_
  refine aops_nil ?_
  refine awp_seq ?_
  rcases cond_or hF with ⟨h4, hF⟩ | ⟨h4, hF⟩
  · refine awp_true (by kernel_rfl) h4 ?_
    refine awp_skip ?_
    refine awp_seq ?_
    refine awp_to (to_see [] [] ⟨[(1, ⟨42, 4, List.map api_Sample.enc vx⟩)], [(0, [.d (.int .i64 qx1.From), .d (.int .i64 qx1.To)])]⟩ [(0, .v (.one (.d (.lst (List.map api_Sample.enc qx))))), (2, .v (.one (.d (.int .i64 qx2)))), (3, .v (.one (.d (.int .i64 qx3)))), (5, .v (.one (.box 0 0))), (10, .v (.one (.own 1 none))), (11, .v (.one (.d (.int .i64 vx1)))), (12, .v (.one (.d (.int .i64 vx19)))), (13, .v (.one (.d (.int .i64 vx20)))), (38, .v (.one (.d (.lst (List.map api_Sample.enc qx))))), (39, .v (.one (.d (.int .i64 (qx.length : Int))))), (40, .v (.one (.d (.int .i64 vx21))))] 2 (by kernel_rfl) (by kernel_rfl) (lowc_of (by kernel_rfl)) (⟨.inr ⟨by kernel_rfl, by kernel_rfl⟩, trivial⟩) (⟨⟨by kernel_rfl, [.d (.int .i64 qx1.From), .d (.int .i64 qx1.To)], by kernel_rfl, l2_same (by kernel_rfl) (by kernel_rfl)⟩, trivial⟩) (⟨t_same (by kernel_rfl) (by kernel_rfl), t_same (by kernel_rfl) (by kernel_rfl), t_same (by kernel_rfl) (by kernel_rfl), t_same (by kernel_rfl) (by kernel_rfl), t_same (by kernel_rfl) (by kernel_rfl), t_same (by kernel_rfl) (by kernel_rfl), t_same (by kernel_rfl) (by kernel_rfl), t_same (by kernel_rfl) (by kernel_rfl), t_same (by kernel_rfl) (by kernel_rfl), t_same (by kernel_rfl) (by kernel_rfl), t_same (by kernel_rfl) (by kernel_rfl), trivial⟩)) ?_
    obtain ⟨⟨vx28_1, vx29_1⟩, h11, hF⟩ := bind_some hF
    refine awp_sub (fleetref2_FillOf_x4_ok qx qx1 qx2 qx3 vx vx1 vx19 vx20 vx21 _ h11) ?_
    refine awp_region' 2 2002 (by kernel_rfl) (by kernel_rfl) ?_
    refine aops_eff hΓ (.v (.one (.d (.int .i64 (IntKind.wrap .i64 (vx21 + 1)))))) [] [] (by kernel_rfl) ?_
    refine aops_eff hΓ (.v (.one (.d (.int .i64 (IntKind.wrap .i64 (vx21 + 1)))))) [] [] (by kernel_rfl) ?_
    refine aops_nil ?_
    obtain rfl := some_eq hF
    exact out_intro rfl (to_see [] [] ⟨[(1, ⟨42, 4, List.map api_Sample.enc vx⟩)], [(0, [.d (.int .i64 qx1.From), .d (.int .i64 qx1.To)])]⟩ [(0, .v (.one (.d (.lst (List.map api_Sample.enc qx))))), (2, .v (.one (.d (.int .i64 qx2)))), (3, .v (.one (.d (.int .i64 qx3)))), (5, .v (.one (.box 0 0))), (10, .v (.one (.own 1 none))), (11, .v (.one (.d (.int .i64 vx1)))), (12, .v (.one (.d (.int .i64 vx28_1)))), (13, .v (.one (.d (.int .i64 vx29_1)))), (38, .v (.one (.d (.lst (List.map api_Sample.enc qx))))), (39, .v (.one (.d (.int .i64 (qx.length : Int))))), (40, .v (.one (.d (.int .i64 (IntKind.wrap .i64 (vx21 + 1))))))] 2 (by kernel_rfl) (by kernel_rfl) (lowc_of (by kernel_rfl)) (⟨.inr ⟨by kernel_rfl, by kernel_rfl⟩, trivial⟩) (⟨⟨by kernel_rfl, [.d (.int .i64 qx1.From), .d (.int .i64 qx1.To)], by kernel_rfl, l2_same (by kernel_rfl) (by kernel_rfl)⟩, trivial⟩) (⟨t_same (by kernel_rfl) (by kernel_rfl), t_same (by kernel_rfl) (by kernel_rfl), t_same (by kernel_rfl) (by kernel_rfl), t_same (by kernel_rfl) (by kernel_rfl), t_same (by kernel_rfl) (by kernel_rfl), t_same (by kernel_rfl) (by kernel_rfl), t_same (by kernel_rfl) (by kernel_rfl), t_same (by kernel_rfl) (by kernel_rfl), t_same (by kernel_rfl) (by kernel_rfl), t_same (by kernel_rfl) (by kernel_rfl), t_same (by kernel_rfl) (by kernel_rfl), trivial⟩))
  · refine awp_false (by kernel_rfl) h4 ?_
    refine awp_exit ?_
    obtain rfl := some_eq hF
    exact out_intro rfl (to_see [] [] ⟨[(1, ⟨42, 4, List.map api_Sample.enc vx⟩)], [(0, [.d (.int .i64 qx1.From), .d (.int .i64 qx1.To)])]⟩ [(0, .v (.one (.d (.lst (List.map api_Sample.enc qx))))), (2, .v (.one (.d (.int .i64 qx2)))), (3, .v (.one (.d (.int .i64 qx3)))), (5, .v (.one (.box 0 0))), (10, .v (.one (.own 1 none))), (11, .v (.one (.d (.int .i64 vx1)))), (12, .v (.one (.d (.int .i64 vx19)))), (13, .v (.one (.d (.int .i64 vx20))))] 2 (by kernel_rfl) (by kernel_rfl) (lowc_of (by kernel_rfl)) (⟨.inr ⟨by kernel_rfl, by kernel_rfl⟩, trivial⟩) (⟨⟨by kernel_rfl, [.d (.int .i64 qx1.From), .d (.int .i64 qx1.To)], by kernel_rfl, l2_same (by kernel_rfl) (by kernel_rfl)⟩, trivial⟩) (⟨t_same (by kernel_rfl) (by kernel_rfl), t_same (by kernel_rfl) (by kernel_rfl), t_same (by kernel_rfl) (by kernel_rfl), t_same (by kernel_rfl) (by kernel_rfl), t_same (by kernel_rfl) (by kernel_rfl), t_same (by kernel_rfl) (by kernel_rfl), t_same (by kernel_rfl) (by kernel_rfl), t_same (by kernel_rfl) (by kernel_rfl), trivial⟩))

def fleetref2_FillOf_x7_k : Bool → AEx
  | _ => .normal

def fleetref2_FillOf_x7_S (qx : List api_Sample) (qx1 : api_Window) (qx2 : Int) (qx3 : Int) (vx : List api_Sample) (vx1 : Int) (vx30_1 : Int) (vx31_1 : Int) : Bool → St
  | vx32 => Mem.st ⟨[(1, ⟨42, 4, List.map api_Sample.enc vx⟩)], [(0, [.d (.int .i64 qx1.From), .d (.int .i64 qx1.To)])]⟩ (tl [(0, .v (.one (.d (.lst (List.map api_Sample.enc qx))))), (2, .v (.one (.d (.int .i64 qx2)))), (3, .v (.one (.d (.int .i64 qx3)))), (5, .v (.one (.box 0 0))), (10, .v (.one (.own 1 none))), (11, .v (.one (.d (.int .i64 vx1)))), (12, .v (.one (.d (.int .i64 vx30_1)))), (13, .v (.one (.d (.int .i64 vx31_1)))), (69, .v (.one (.d (.bool vx32))))]) 2

theorem fleetref2_FillOf_x7_ok (qx : List api_Sample) (qx1 : api_Window) (qx2 : Int) (qx3 : Int) (vx : List api_Sample) (vx1 : Int) (vx30_1 : Int) (vx31_1 : Int) (r : Bool) (hF : fleetref2_FillOf_x7 qx3 vx30_1 vx31_1 = some r) : Awp prog 0 118 (cL (cL (cR (cR (cL (cL (cR (cL (cL (cR (cL (cR (cR (cR (cB f24))))))))))))))) (Out 0 fleetref2_FillOf_x7_k (fleetref2_FillOf_x7_S qx qx1 qx2 qx3 vx vx1 vx30_1 vx31_1) r) (Mem.st ⟨[(1, ⟨42, 4, List.map api_Sample.enc vx⟩)], [(0, [.d (.int .i64 qx1.From), .d (.int .i64 qx1.To)])]⟩ (tl [(0, .v (.one (.d (.lst (List.map api_Sample.enc qx))))), (2, .v (.one (.d (.int .i64 qx2)))), (3, .v (.one (.d (.int .i64 qx3)))), (5, .v (.one (.box 0 0))), (10, .v (.one (.own 1 none))), (11, .v (.one (.d (.int .i64 vx1)))), (12, .v (.one (.d (.int .i64 vx30_1)))), (13, .v (.one (.d (.int .i64 vx31_1))))]) 2) := by
  unfold fleetref2_FillOf_x7 at hF
  rcases cond_or hF with ⟨h13, hF⟩ | ⟨h13, hF⟩
  · refine awp_region' 2 10002 (by kernel_rfl) (by kernel_rfl) ?_
    refine aops_eff hΓ (.v (.one (.d (.int .i64 vx30_1)))) [] [] (by kernel_rfl) ?_
    refine aops_eff hΓ (.v (.one (.d (.bool true)))) [] [] (opx_b (by kernel_rfl) h13) ?_
    refine aops_eff hΓ (.v (.one (.d (.bool true)))) [] [] (by kernel_rfl) ?_
    refine aops_skip' (by kernel_rfl) ?_
    refine aops_skip' (by kernel_rfl) ?_
    refine aops_skip' (by kernel_rfl) ?_
    refine aops_skip' (by kernel_rfl) ?_
    refine aops_skip' (by kernel_rfl) ?_
    refine aops_skip' (by kernel_rfl) ?_
    refine aops_eff hΓ (.v (.one (.d (.bool true)))) [] [] (by kernel_rfl) ?_
    refine aops_nil ?_
    obtain rfl := some_eq hF
    exact out_intro rfl (to_see [] [] ⟨[(1, ⟨42, 4, List.map api_Sample.enc vx⟩)], [(0, [.d (.int .i64 qx1.From), .d (.int .i64 qx1.To)])]⟩ [(0, .v (.one (.d (.lst (List.map api_Sample.enc qx))))), (2, .v (.one (.d (.int .i64 qx2)))), (3, .v (.one (.d (.int .i64 qx3)))), (5, .v (.one (.box 0 0))), (10, .v (.one (.own 1 none))), (11, .v (.one (.d (.int .i64 vx1)))), (12, .v (.one (.d (.int .i64 vx30_1)))), (13, .v (.one (.d (.int .i64 vx31_1)))), (69, .v (.one (.d (.bool true))))] 2 (by kernel_rfl) (by kernel_rfl) (lowc_of (by kernel_rfl)) (⟨.inr ⟨by kernel_rfl, by kernel_rfl⟩, trivial⟩) (⟨⟨by kernel_rfl, [.d (.int .i64 qx1.From), .d (.int .i64 qx1.To)], by kernel_rfl, l2_same (by kernel_rfl) (by kernel_rfl)⟩, trivial⟩) (⟨t_same (by kernel_rfl) (by kernel_rfl), t_same (by kernel_rfl) (by kernel_rfl), t_same (by kernel_rfl) (by kernel_rfl), t_same (by kernel_rfl) (by kernel_rfl), t_same (by kernel_rfl) (by kernel_rfl), t_same (by kernel_rfl) (by kernel_rfl), t_same (by kernel_rfl) (by kernel_rfl), t_same (by kernel_rfl) (by kernel_rfl), t_same (by kernel_rfl) (by kernel_rfl), trivial⟩))
  · rcases cond_or hF with ⟨h14, hF⟩ | ⟨h14, hF⟩
    · refine awp_region' 2 10002 (by kernel_rfl) (by kernel_rfl) ?_
      refine aops_eff hΓ (.v (.one (.d (.int .i64 vx30_1)))) [] [] (by kernel_rfl) ?_
      refine aops_eff hΓ (.v (.one (.d (.bool false)))) [] [] (opx_b (by kernel_rfl) h13) ?_
      refine aops_eff hΓ (.v (.one (.d (.bool false)))) [] [] (by kernel_rfl) ?_
      refine aops_eff hΓ (.v (.one (.d (.int .i64 qx3)))) [] [] (by kernel_rfl) ?_
      refine aops_eff hΓ (.v (.one (.d (.bool true)))) [] [] (opx_b (by kernel_rfl) h14) ?_
      refine aops_eff hΓ (.v (.one (.d (.bool true)))) [] [] (by kernel_rfl) ?_
      refine aops_eff hΓ (.v (.one (.d (.int .i64 vx31_1)))) [] [] (by kernel_rfl) ?_
      refine aops_eff hΓ (.v (.one (.d (.bool (decide (vx31_1 < 0)))))) [] [] (by kernel_rfl) ?_
      refine aops_eff hΓ (.v (.one (.d (.bool (decide (vx31_1 < 0)))))) [] [] (by kernel_rfl) ?_
      refine aops_eff hΓ (.v (.one (.d (.bool (decide (vx31_1 < 0)))))) [] [] (by kernel_rfl) ?_
      refine aops_nil ?_
      obtain rfl := some_eq hF
      exact out_intro rfl (to_see [] [] ⟨[(1, ⟨42, 4, List.map api_Sample.enc vx⟩)], [(0, [.d (.int .i64 qx1.From), .d (.int .i64 qx1.To)])]⟩ [(0, .v (.one (.d (.lst (List.map api_Sample.enc qx))))), (2, .v (.one (.d (.int .i64 qx2)))), (3, .v (.one (.d (.int .i64 qx3)))), (5, .v (.one (.box 0 0))), (10, .v (.one (.own 1 none))), (11, .v (.one (.d (.int .i64 vx1)))), (12, .v (.one (.d (.int .i64 vx30_1)))), (13, .v (.one (.d (.int .i64 vx31_1)))), (69, .v (.one (.d (.bool (decide (vx31_1 < 0))))))] 2 (by kernel_rfl) (by kernel_rfl) (lowc_of (by kernel_rfl)) (⟨.inr ⟨by kernel_rfl, by kernel_rfl⟩, trivial⟩) (⟨⟨by kernel_rfl, [.d (.int .i64 qx1.From), .d (.int .i64 qx1.To)], by kernel_rfl, l2_same (by kernel_rfl) (by kernel_rfl)⟩, trivial⟩) (⟨t_same (by kernel_rfl) (by kernel_rfl), t_same (by kernel_rfl) (by kernel_rfl), t_same (by kernel_rfl) (by kernel_rfl), t_same (by kernel_rfl) (by kernel_rfl), t_same (by kernel_rfl) (by kernel_rfl), t_same (by kernel_rfl) (by kernel_rfl), t_same (by kernel_rfl) (by kernel_rfl), t_same (by kernel_rfl) (by kernel_rfl), t_same (by kernel_rfl) (by kernel_rfl), trivial⟩))
    · refine awp_region' 2 10002 (by kernel_rfl) (by kernel_rfl) ?_
      refine aops_eff hΓ (.v (.one (.d (.int .i64 vx30_1)))) [] [] (by kernel_rfl) ?_
      refine aops_eff hΓ (.v (.one (.d (.bool false)))) [] [] (opx_b (by kernel_rfl) h13) ?_
      refine aops_eff hΓ (.v (.one (.d (.bool false)))) [] [] (by kernel_rfl) ?_
      refine aops_eff hΓ (.v (.one (.d (.int .i64 qx3)))) [] [] (by kernel_rfl) ?_
      refine aops_eff hΓ (.v (.one (.d (.bool false)))) [] [] (opx_b (by kernel_rfl) h14) ?_
      refine aops_eff hΓ (.v (.one (.d (.bool false)))) [] [] (by kernel_rfl) ?_
      refine aops_skip' (by kernel_rfl) ?_
      refine aops_skip' (by kernel_rfl) ?_
      refine aops_eff hΓ (.v (.one (.d (.bool false)))) [] [] (by kernel_rfl) ?_
      refine aops_eff hΓ (.v (.one (.d (.bool false)))) [] [] (by kernel_rfl) ?_
      refine aops_nil ?_
      obtain rfl := some_eq hF
      exact out_intro rfl (to_see [] [] ⟨[(1, ⟨42, 4, List.map api_Sample.enc vx⟩)], [(0, [.d (.int .i64 qx1.From), .d (.int .i64 qx1.To)])]⟩ [(0, .v (.one (.d (.lst (List.map api_Sample.enc qx))))), (2, .v (.one (.d (.int .i64 qx2)))), (3, .v (.one (.d (.int .i64 qx3)))), (5, .v (.one (.box 0 0))), (10, .v (.one (.own 1 none))), (11, .v (.one (.d (.int .i64 vx1)))), (12, .v (.one (.d (.int .i64 vx30_1)))), (13, .v (.one (.d (.int .i64 vx31_1)))), (69, .v (.one (.d (.bool false))))] 2 (by kernel_rfl) (by kernel_rfl) (lowc_of (by kernel_rfl)) (⟨.inr ⟨by kernel_rfl, by kernel_rfl⟩, trivial⟩) (⟨⟨by kernel_rfl, [.d (.int .i64 qx1.From), .d (.int .i64 qx1.To)], by kernel_rfl, l2_same (by kernel_rfl) (by kernel_rfl)⟩, trivial⟩) (⟨t_same (by kernel_rfl) (by kernel_rfl), t_same (by kernel_rfl) (by kernel_rfl), t_same (by kernel_rfl) (by kernel_rfl), t_same (by kernel_rfl) (by kernel_rfl), t_same (by kernel_rfl) (by kernel_rfl), t_same (by kernel_rfl) (by kernel_rfl), t_same (by kernel_rfl) (by kernel_rfl), t_same (by kernel_rfl) (by kernel_rfl), t_same (by kernel_rfl) (by kernel_rfl), trivial⟩))

def fleetref2_FillOf_x9_k : Bool → AEx
  | _ => .normal

def fleetref2_FillOf_x9_S (qx : List api_Sample) (qx1 : api_Window) (qx2 : Int) (qx3 : Int) (vx : List api_Sample) (vx1 : Int) (vx30_1 : Int) (vx31_1 : Int) (vy6 : api_Sample) : Bool → St
  | vx33 => Mem.st ⟨[(1, ⟨42, 4, List.map api_Sample.enc vx⟩)], [(0, [.d (.int .i64 qx1.From), .d (.int .i64 qx1.To)]), (2, [.d (.str vy6.Device), .d (.str vy6.Metric), .d (.int .i64 vy6.At), .d (.int .i64 vy6.Value)])]⟩ (tl [(0, .v (.one (.d (.lst (List.map api_Sample.enc qx))))), (2, .v (.one (.d (.int .i64 qx2)))), (3, .v (.one (.d (.int .i64 qx3)))), (5, .v (.one (.box 0 0))), (10, .v (.one (.own 1 none))), (11, .v (.one (.d (.int .i64 vx1)))), (13, .v (.one (.d (.int .i64 vx31_1)))), (16, .v (.one (.box 2 0))), (80, .v (.one (.d (.bool vx33))))]) 3

theorem fleetref2_FillOf_x9_ok (qx : List api_Sample) (qx1 : api_Window) (qx2 : Int) (qx3 : Int) (vx : List api_Sample) (vx1 : Int) (vx30_1 : Int) (vx31_1 : Int) (vy6 : api_Sample) (r : Bool) (hF : fleetref2_FillOf_x9 qx3 vx30_1 vx31_1 = some r) : Awp prog 0 118 (cL (cL (cR (cR (cR (cR (cL (cL (cR (cL (cL (cR (cL (cR (cR (cR (cB f24))))))))))))))))) (Out 0 fleetref2_FillOf_x9_k (fleetref2_FillOf_x9_S qx qx1 qx2 qx3 vx vx1 vx30_1 vx31_1 vy6) r) (Mem.st ⟨[(1, ⟨42, 4, List.map api_Sample.enc vx⟩)], [(0, [.d (.int .i64 qx1.From), .d (.int .i64 qx1.To)]), (2, [.d (.str vy6.Device), .d (.str vy6.Metric), .d (.int .i64 vy6.At), .d (.int .i64 vy6.Value)])]⟩ (tl [(0, .v (.one (.d (.lst (List.map api_Sample.enc qx))))), (2, .v (.one (.d (.int .i64 qx2)))), (3, .v (.one (.d (.int .i64 qx3)))), (5, .v (.one (.box 0 0))), (10, .v (.one (.own 1 none))), (11, .v (.one (.d (.int .i64 vx1)))), (12, .v (.one (.d (.int .i64 vx30_1)))), (13, .v (.one (.d (.int .i64 vx31_1)))), (16, .v (.one (.box 2 0)))]) 3) := by
  unfold fleetref2_FillOf_x9 at hF
  rcases cond_or hF with ⟨h18, hF⟩ | ⟨h18, hF⟩
  · refine awp_region' 3 7003 (by kernel_rfl) (by kernel_rfl) ?_
    refine aops_eff hΓ (.v (.one (.d (.int .i64 qx3)))) [] [] (by kernel_rfl) ?_
    refine aops_eff hΓ (.v (.one (.d (.bool true)))) [] [] (opx_b (by kernel_rfl) h18) ?_
    refine aops_eff hΓ (.v (.one (.d (.bool true)))) [] [] (by kernel_rfl) ?_
    refine aops_eff hΓ (.v (.one (.d (.int .i64 vx31_1)))) [] [] (by kernel_rfl) ?_
    refine aops_eff hΓ (.v (.one (.d (.int .i64 vx30_1)))) [] [] (by kernel_rfl) ?_
    refine aops_eff hΓ (.v (.one (.d (.bool (!decide (vx31_1 = vx30_1)))))) [] [] (by kernel_rfl) ?_
    refine aops_eff hΓ (.v (.one (.d (.bool (!decide (vx31_1 = vx30_1)))))) [] [] (by kernel_rfl) ?_
    refine aops_nil ?_
    obtain rfl := some_eq hF
    exact out_intro rfl (to_see [] [] ⟨[(1, ⟨42, 4, List.map api_Sample.enc vx⟩)], [(0, [.d (.int .i64 qx1.From), .d (.int .i64 qx1.To)]), (2, [.d (.str vy6.Device), .d (.str vy6.Metric), .d (.int .i64 vy6.At), .d (.int .i64 vy6.Value)])]⟩ [(0, .v (.one (.d (.lst (List.map api_Sample.enc qx))))), (2, .v (.one (.d (.int .i64 qx2)))), (3, .v (.one (.d (.int .i64 qx3)))), (5, .v (.one (.box 0 0))), (10, .v (.one (.own 1 none))), (11, .v (.one (.d (.int .i64 vx1)))), (13, .v (.one (.d (.int .i64 vx31_1)))), (16, .v (.one (.box 2 0))), (80, .v (.one (.d (.bool (!decide (vx31_1 = vx30_1))))))] 3 (by kernel_rfl) (by kernel_rfl) (lowc_of (by kernel_rfl)) (⟨.inr ⟨by kernel_rfl, by kernel_rfl⟩, trivial⟩) (⟨⟨by kernel_rfl, [.d (.int .i64 qx1.From), .d (.int .i64 qx1.To)], by kernel_rfl, l2_same (by kernel_rfl) (by kernel_rfl)⟩, ⟨by kernel_rfl, [.d (.str vy6.Device), .d (.str vy6.Metric), .d (.int .i64 vy6.At), .d (.int .i64 vy6.Value)], by kernel_rfl, l2_same (by kernel_rfl) (by kernel_rfl)⟩, trivial⟩) (⟨t_same (by kernel_rfl) (by kernel_rfl), t_same (by kernel_rfl) (by kernel_rfl), t_same (by kernel_rfl) (by kernel_rfl), t_same (by kernel_rfl) (by kernel_rfl), t_same (by kernel_rfl) (by kernel_rfl), t_same (by kernel_rfl) (by kernel_rfl), t_same (by kernel_rfl) (by kernel_rfl), t_same (by kernel_rfl) (by kernel_rfl), t_same (by kernel_rfl) (by kernel_rfl), trivial⟩))
  · refine awp_region' 3 7003 (by kernel_rfl) (by kernel_rfl) ?_
    refine aops_eff hΓ (.v (.one (.d (.int .i64 qx3)))) [] [] (by kernel_rfl) ?_
    refine aops_eff hΓ (.v (.one (.d (.bool false)))) [] [] (opx_b (by kernel_rfl) h18) ?_
    refine aops_eff hΓ (.v (.one (.d (.bool false)))) [] [] (by kernel_rfl) ?_
    refine aops_skip' (by kernel_rfl) ?_
    refine aops_skip' (by kernel_rfl) ?_
    refine aops_skip' (by kernel_rfl) ?_
    refine aops_eff hΓ (.v (.one (.d (.bool false)))) [] [] (by kernel_rfl) ?_
    refine aops_nil ?_
    obtain rfl := some_eq hF
    exact out_intro rfl (to_see [] [] ⟨[(1, ⟨42, 4, List.map api_Sample.enc vx⟩)], [(0, [.d (.int .i64 qx1.From), .d (.int .i64 qx1.To)]), (2, [.d (.str vy6.Device), .d (.str vy6.Metric), .d (.int .i64 vy6.At), .d (.int .i64 vy6.Value)])]⟩ [(0, .v (.one (.d (.lst (List.map api_Sample.enc qx))))), (2, .v (.one (.d (.int .i64 qx2)))), (3, .v (.one (.d (.int .i64 qx3)))), (5, .v (.one (.box 0 0))), (10, .v (.one (.own 1 none))), (11, .v (.one (.d (.int .i64 vx1)))), (13, .v (.one (.d (.int .i64 vx31_1)))), (16, .v (.one (.box 2 0))), (80, .v (.one (.d (.bool false))))] 3 (by kernel_rfl) (by kernel_rfl) (lowc_of (by kernel_rfl)) (⟨.inr ⟨by kernel_rfl, by kernel_rfl⟩, trivial⟩) (⟨⟨by kernel_rfl, [.d (.int .i64 qx1.From), .d (.int .i64 qx1.To)], by kernel_rfl, l2_same (by kernel_rfl) (by kernel_rfl)⟩, ⟨by kernel_rfl, [.d (.str vy6.Device), .d (.str vy6.Metric), .d (.int .i64 vy6.At), .d (.int .i64 vy6.Value)], by kernel_rfl, l2_same (by kernel_rfl) (by kernel_rfl)⟩, trivial⟩) (⟨t_same (by kernel_rfl) (by kernel_rfl), t_same (by kernel_rfl) (by kernel_rfl), t_same (by kernel_rfl) (by kernel_rfl), t_same (by kernel_rfl) (by kernel_rfl), t_same (by kernel_rfl) (by kernel_rfl), t_same (by kernel_rfl) (by kernel_rfl), t_same (by kernel_rfl) (by kernel_rfl), t_same (by kernel_rfl) (by kernel_rfl), t_same (by kernel_rfl) (by kernel_rfl), trivial⟩))

def fleetref2_FillOf_x8_k : api_Sample ⊕ Unit → AEx
  | .inl _ => .normal
  | .inr _ => .exit 1

def fleetref2_FillOf_x8_S (qx : List api_Sample) (qx1 : api_Window) (qx2 : Int) (qx3 : Int) (vx : List api_Sample) (vx1 : Int) (vx30_1 : Int) (vx31_1 : Int) (vy6 : api_Sample) : api_Sample ⊕ Unit → St
  | .inl vx34 => Mem.st ⟨[(1, ⟨42, 4, List.map api_Sample.enc vx⟩)], [(0, [.d (.int .i64 qx1.From), .d (.int .i64 qx1.To)]), (2, [.d (.str vx34.Device), .d (.str vx34.Metric), .d (.int .i64 vx34.At), .d (.int .i64 vx34.Value)])]⟩ (tl [(0, .v (.one (.d (.lst (List.map api_Sample.enc qx))))), (2, .v (.one (.d (.int .i64 qx2)))), (3, .v (.one (.d (.int .i64 qx3)))), (5, .v (.one (.box 0 0))), (10, .v (.one (.own 1 none))), (11, .v (.one (.d (.int .i64 vx1)))), (16, .v (.one (.box 2 0)))]) 3
  | .inr _ => Mem.st ⟨[(1, ⟨42, 4, List.map api_Sample.enc vx⟩)], [(0, [.d (.int .i64 qx1.From), .d (.int .i64 qx1.To)])]⟩ (tl [(0, .v (.one (.d (.lst (List.map api_Sample.enc qx))))), (2, .v (.one (.d (.int .i64 qx2)))), (3, .v (.one (.d (.int .i64 qx3)))), (5, .v (.one (.box 0 0))), (10, .v (.one (.own 1 none))), (11, .v (.one (.d (.int .i64 vx1))))]) 2

theorem fleetref2_FillOf_x8_ok (qx : List api_Sample) (qx1 : api_Window) (qx2 : Int) (qx3 : Int) (vx : List api_Sample) (vx1 : Int) (vx30_1 : Int) (vx31_1 : Int) (vy6 : api_Sample) (r : api_Sample ⊕ Unit) (hF : fleetref2_FillOf_x8 qx qx3 vx1 vx30_1 vx31_1 vy6 = some r) : Awp prog 0 118 (cL (cR (cR (cR (cR (cL (cL (cR (cL (cL (cR (cL (cR (cR (cR (cB f24)))))))))))))))) (Out 0 fleetref2_FillOf_x8_k (fleetref2_FillOf_x8_S qx qx1 qx2 qx3 vx vx1 vx30_1 vx31_1 vy6) r) (Mem.st ⟨[(1, ⟨42, 4, List.map api_Sample.enc vx⟩)], [(0, [.d (.int .i64 qx1.From), .d (.int .i64 qx1.To)]), (2, [.d (.str vy6.Device), .d (.str vy6.Metric), .d (.int .i64 vy6.At), .d (.int .i64 vy6.Value)])]⟩ (tl [(0, .v (.one (.d (.lst (List.map api_Sample.enc qx))))), (2, .v (.one (.d (.int .i64 qx2)))), (3, .v (.one (.d (.int .i64 qx3)))), (5, .v (.one (.box 0 0))), (10, .v (.one (.own 1 none))), (11, .v (.one (.d (.int .i64 vx1)))), (12, .v (.one (.d (.int .i64 vx30_1)))), (13, .v (.one (.d (.int .i64 vx31_1)))), (16, .v (.one (.box 2 0)))]) 3) := by
  unfold fleetref2_FillOf_x8 at hF
  refine awp_seq ?_
  refine awp_to (to_see [] [] ⟨[(1, ⟨42, 4, List.map api_Sample.enc vx⟩)], [(0, [.d (.int .i64 qx1.From), .d (.int .i64 qx1.To)]), (2, [.d (.str vy6.Device), .d (.str vy6.Metric), .d (.int .i64 vy6.At), .d (.int .i64 vy6.Value)])]⟩ [(0, .v (.one (.d (.lst (List.map api_Sample.enc qx))))), (2, .v (.one (.d (.int .i64 qx2)))), (3, .v (.one (.d (.int .i64 qx3)))), (5, .v (.one (.box 0 0))), (10, .v (.one (.own 1 none))), (11, .v (.one (.d (.int .i64 vx1)))), (12, .v (.one (.d (.int .i64 vx30_1)))), (13, .v (.one (.d (.int .i64 vx31_1)))), (16, .v (.one (.box 2 0)))] 3 (by kernel_rfl) (by kernel_rfl) (lowc_of (by kernel_rfl)) (⟨.inr ⟨by kernel_rfl, by kernel_rfl⟩, trivial⟩) (⟨⟨by kernel_rfl, [.d (.int .i64 qx1.From), .d (.int .i64 qx1.To)], by kernel_rfl, l2_same (by kernel_rfl) (by kernel_rfl)⟩, ⟨by kernel_rfl, [.d (.str vy6.Device), .d (.str vy6.Metric), .d (.int .i64 vy6.At), .d (.int .i64 vy6.Value)], by kernel_rfl, l2_same (by kernel_rfl) (by kernel_rfl)⟩, trivial⟩) (⟨t_same (by kernel_rfl) (by kernel_rfl), t_same (by kernel_rfl) (by kernel_rfl), t_same (by kernel_rfl) (by kernel_rfl), t_same (by kernel_rfl) (by kernel_rfl), t_same (by kernel_rfl) (by kernel_rfl), t_same (by kernel_rfl) (by kernel_rfl), t_same (by kernel_rfl) (by kernel_rfl), t_same (by kernel_rfl) (by kernel_rfl), t_same (by kernel_rfl) (by kernel_rfl), trivial⟩)) ?_
  obtain ⟨vx33_1, h19, hF⟩ := bind_some hF
  refine awp_sub (fleetref2_FillOf_x9_ok qx qx1 qx2 qx3 vx vx1 vx30_1 vx31_1 vy6 _ h19) ?_
  rcases cond_or hF with ⟨h20, hF⟩ | ⟨h20, hF⟩
  · refine awp_true (by kernel_rfl) h20 ?_
    refine awp_seq ?_
    obtain ⟨vy7, h21, hF⟩ := bind_some hF
    refine awp_region' 3 6003 (by kernel_rfl) (by kernel_rfl) ?_
    refine aops_eff hΓ (.v (.one (.d (.lst (List.map api_Sample.enc qx))))) [] [] (by kernel_rfl) ?_
    refine aops_eff hΓ (.v (.one (.d (.int .i64 vx31_1)))) [] [] (by kernel_rfl) ?_
    refine aops_eff hΓ (.v (.one (.cp [.str vy7.Device, .str vy7.Metric, .int .i64 vy7.At, .int .i64 vy7.Value]))) [] [] (opx_of (by kernel_rfl) (by kernel_rfl) (eff_indexAddr (k := .i64) (ti := ti26) (te := ti42) (l := qx) (f := api_Sample.enc) (y := vy7) (by kernel_rfl) rfl (by kernel_rfl) (by kernel_rfl) (by kernel_rfl) h21 (by kernel_rfl))) ?_
    refine aops_eff hΓ (.v (.agg [.d (.str vy7.Device), .d (.str vy7.Metric), .d (.int .i64 vy7.At), .d (.int .i64 vy7.Value)])) [] [] (by kernel_rfl) ?_
    refine aops_eff hΓ (.v (.one (.box 4003 0))) [] [(4003, some [.d (.str ([] : List UInt8)), .d (.str ([] : List UInt8)), .d (.int .i64 0), .d (.int .i64 0)])] (by kernel_rfl) ?_
    refine aops_eff hΓ (.undef) [] [(4003, some [.d (.str vy7.Device), .d (.str vy7.Metric), .d (.int .i64 vy7.At), .d (.int .i64 vy7.Value)])] (by kernel_rfl) ?_
    refine aops_nil ?_
    refine awp_seq ?_
    refine awp_seq ?_
    refine awp_region' 6003 12003 (by kernel_rfl) (by kernel_rfl) ?_
    refine aops_eff hΓ (.v (.one (.box 4003 2))) [] [] (by kernel_rfl) ?_
    refine aops_eff hΓ (.v (.one (.d (.int .i64 vy7.At)))) [] [] (by kernel_rfl) ?_
    refine aops_eff hΓ (.v (.one (.box 2 2))) [] [] (by kernel_rfl) ?_
    refine aops_eff hΓ (.v (.one (.d (.int .i64 vy6.At)))) [] [] (by kernel_rfl) ?_
    refine aops_eff hΓ (.v (.one (.d (.int .i64 (IntKind.wrap .i64 (vy7.At - vy6.At)))))) [] [] (by kernel_rfl) ?_
    refine aops_eff hΓ (.v (.one (.d (.bool (decide (2592000000 < (IntKind.wrap .i64 (vy7.At - vy6.At)))))))) [] [] (by kernel_rfl) ?_
    refine aops_nil ?_
    rcases cond_or hF with ⟨h22, hF⟩ | ⟨h22, hF⟩
    · refine awp_true (by kernel_rfl) h22 ?_
      refine awp_exit ?_
      obtain rfl := some_eq hF
      exact out_intro rfl (to_see [] [] ⟨[(1, ⟨42, 4, List.map api_Sample.enc vx⟩)], [(0, [.d (.int .i64 qx1.From), .d (.int .i64 qx1.To)])]⟩ [(0, .v (.one (.d (.lst (List.map api_Sample.enc qx))))), (2, .v (.one (.d (.int .i64 qx2)))), (3, .v (.one (.d (.int .i64 qx3)))), (5, .v (.one (.box 0 0))), (10, .v (.one (.own 1 none))), (11, .v (.one (.d (.int .i64 vx1))))] 2 (by kernel_rfl) (by kernel_rfl) (lowc_of (by kernel_rfl)) (⟨.inr ⟨by kernel_rfl, by kernel_rfl⟩, trivial⟩) (⟨⟨by kernel_rfl, [.d (.int .i64 qx1.From), .d (.int .i64 qx1.To)], by kernel_rfl, l2_same (by kernel_rfl) (by kernel_rfl)⟩, trivial⟩) (⟨t_same (by kernel_rfl) (by kernel_rfl), t_same (by kernel_rfl) (by kernel_rfl), t_same (by kernel_rfl) (by kernel_rfl), t_same (by kernel_rfl) (by kernel_rfl), t_same (by kernel_rfl) (by kernel_rfl), t_same (by kernel_rfl) (by kernel_rfl), trivial⟩))
    · refine awp_false (by kernel_rfl) h22 ?_
      refine awp_skip ?_
      obtain ⟨vr1, h23, hF⟩ := bind_some hF
      refine awp_region_any' hm 12003 33003 [(some ⟨.v (.one (.box 2 3)), [], [], []⟩, [2]), (some ⟨.v (.one (.d (.int .i64 vy6.Value))), [], [], []⟩, [2]), (some ⟨.v (.one (.box 4003 3)), [], [], []⟩, [4003]), (some ⟨.v (.one (.d (.int .i64 vy7.Value))), [], [], []⟩, [4003]), (some ⟨.v (.one (.box 2 3)), [], [], []⟩, [2]), (some ⟨.v (.one (.d (.int .i64 vy6.Value))), [], [], []⟩, [2]), (some ⟨.v (.one (.d (.int .i64 (IntKind.wrap .i64 (vy7.Value - vy6.Value))))), [], [], []⟩, []), (some ⟨.v (.one (.d (.int .i64 vx1))), [], [], []⟩, []), (some ⟨.v (.one (.box 2 2)), [], [], []⟩, [2]), (some ⟨.v (.one (.d (.int .i64 vy6.At))), [], [], []⟩, [2]), (some ⟨.v (.one (.d (.int .i64 (IntKind.wrap .i64 (vx1 - vy6.At))))), [], [], []⟩, []), (some ⟨.v (.one (.d (.int .i64 (IntKind.wrap .i64 ((IntKind.wrap .i64 (vy7.Value - vy6.Value)) * (IntKind.wrap .i64 (vx1 - vy6.At))))))), [], [], []⟩, []), (some ⟨.v (.one (.box 4003 2)), [], [], []⟩, [4003]), (some ⟨.v (.one (.d (.int .i64 vy7.At))), [], [], []⟩, [4003]), (some ⟨.v (.one (.box 2 2)), [], [], []⟩, [2]), (some ⟨.v (.one (.d (.int .i64 vy6.At))), [], [], []⟩, [2]), (some ⟨.v (.one (.d (.int .i64 (IntKind.wrap .i64 (vy7.At - vy6.At))))), [], [], []⟩, []), (some ⟨.v (.one (.d (.int .i64 vr1))), [], [], []⟩, []), (some ⟨.v (.one (.d (.int .i64 (IntKind.wrap .i64 (vy6.Value + vr1))))), [], [], []⟩, []), (some ⟨.v (.one (.box 2 3)), [], [], []⟩, [2]), (some ⟨.undef, [], [(2, some [.d (.str vy6.Device), .d (.str vy6.Metric), .d (.int .i64 vy6.At), .d (.int .i64 (IntKind.wrap .i64 (vy6.Value + vr1)))])], []⟩, [2])] [[], [0], [], [2], [], [4], [2, 3, 4, 5], [], [], [8], [7, 8, 9], [2, 3, 4, 5, 6, 7, 8, 9, 10], [], [12], [], [14], [12, 13, 14, 15], [2, 3, 4, 5, 6, 7, 8, 9, 10, 11, 12, 13, 14, 15, 16], [0, 1, 2, 3, 4, 5, 6, 7, 8, 9, 10, 11, 12, 13, 14, 15, 16, 17], [0, 1, 2, 3, 4, 5, 6, 7, 8, 9, 10, 11, 12, 13, 14, 15, 16, 17, 18], [0, 1, 2, 3, 4, 5, 6, 7, 8, 9, 10, 11, 12, 13, 14, 15, 16, 17, 18, 19]] (by kernel_rfl) (by kernel_rfl) (by kernel_rfl) (by kernel_rfl) ?_
      refine And.intro (step_eff hΓ (.v (.one (.box 2 3))) [] [] (by kernel_rfl) (by kernel_rfl)) ?_
      refine And.intro (step_eff hΓ (.v (.one (.d (.int .i64 vy6.Value)))) [] [] (by kernel_rfl) (by kernel_rfl)) ?_
      refine And.intro (step_eff hΓ (.v (.one (.box 4003 3))) [] [] (by kernel_rfl) (by kernel_rfl)) ?_
      refine And.intro (step_eff hΓ (.v (.one (.d (.int .i64 vy7.Value)))) [] [] (by kernel_rfl) (by kernel_rfl)) ?_
      refine And.intro (step_eff hΓ (.v (.one (.box 2 3))) [] [] (by kernel_rfl) (by kernel_rfl)) ?_
      refine And.intro (step_eff hΓ (.v (.one (.d (.int .i64 vy6.Value)))) [] [] (by kernel_rfl) (by kernel_rfl)) ?_
      refine And.intro (step_eff hΓ (.v (.one (.d (.int .i64 (IntKind.wrap .i64 (vy7.Value - vy6.Value)))))) [] [] (by kernel_rfl) (by kernel_rfl)) ?_
      refine And.intro (step_eff hΓ (.v (.one (.d (.int .i64 vx1)))) [] [] (by kernel_rfl) (by kernel_rfl)) ?_
      refine And.intro (step_eff hΓ (.v (.one (.box 2 2))) [] [] (by kernel_rfl) (by kernel_rfl)) ?_
      refine And.intro (step_eff hΓ (.v (.one (.d (.int .i64 vy6.At)))) [] [] (by kernel_rfl) (by kernel_rfl)) ?_
      refine And.intro (step_eff hΓ (.v (.one (.d (.int .i64 (IntKind.wrap .i64 (vx1 - vy6.At)))))) [] [] (by kernel_rfl) (by kernel_rfl)) ?_
      refine And.intro (step_eff hΓ (.v (.one (.d (.int .i64 (IntKind.wrap .i64 ((IntKind.wrap .i64 (vy7.Value - vy6.Value)) * (IntKind.wrap .i64 (vx1 - vy6.At)))))))) [] [] (by kernel_rfl) (by kernel_rfl)) ?_
      refine And.intro (step_eff hΓ (.v (.one (.box 4003 2))) [] [] (by kernel_rfl) (by kernel_rfl)) ?_
      refine And.intro (step_eff hΓ (.v (.one (.d (.int .i64 vy7.At)))) [] [] (by kernel_rfl) (by kernel_rfl)) ?_
      refine And.intro (step_eff hΓ (.v (.one (.box 2 2))) [] [] (by kernel_rfl) (by kernel_rfl)) ?_
      refine And.intro (step_eff hΓ (.v (.one (.d (.int .i64 vy6.At)))) [] [] (by kernel_rfl) (by kernel_rfl)) ?_
      refine And.intro (step_eff hΓ (.v (.one (.d (.int .i64 (IntKind.wrap .i64 (vy7.At - vy6.At)))))) [] [] (by kernel_rfl) (by kernel_rfl)) ?_
      refine And.intro (step_call (by kernel_rfl) (by kernel_rfl) (stable_call (f := (.func 120)) (g := 120) (caps := []) (tvs := [.v (.one (.d (.int .i64 (IntKind.wrap .i64 ((IntKind.wrap .i64 (vy7.Value - vy6.Value)) * (IntKind.wrap .i64 (vx1 - vy6.At))))))), .v (.one (.d (.int .i64 (IntKind.wrap .i64 (vy7.At - vy6.At)))))]) (al := [.v (.one (.d (.int .i64 (IntKind.wrap .i64 ((IntKind.wrap .i64 (vy7.Value - vy6.Value)) * (IntKind.wrap .i64 (vx1 - vy6.At))))))), .v (.one (.d (.int .i64 (IntKind.wrap .i64 (vy7.At - vy6.At)))))]) (m := ⟨[], []⟩) (m' := ⟨[], []⟩) (tv := .v (.one (.d (.int .i64 vr1)))) (lens := []) rfl (by kernel_rfl) (by kernel_rfl) (sees_of (rl := []) (nl := []) (by kernel_rfl) trivial trivial) (⟨t_same (by kernel_rfl) (by kernel_rfl), t_same (by kernel_rfl) (by kernel_rfl), trivial⟩) (fleetref2_floor_ok _ _ _ h23) (left_of (by kernel_rfl)) (by kernel_rfl)) (.v (.one (.d (.int .i64 vr1)))) [] [] (by kernel_rfl)) ?_
      refine And.intro (step_eff hΓ (.v (.one (.d (.int .i64 (IntKind.wrap .i64 (vy6.Value + vr1)))))) [] [] (by kernel_rfl) (by kernel_rfl)) ?_
      refine And.intro (step_eff hΓ (.v (.one (.box 2 3))) [] [] (by kernel_rfl) (by kernel_rfl)) ?_
      refine And.intro (step_eff hΓ (.undef) [] [(2, some [.d (.str vy6.Device), .d (.str vy6.Metric), .d (.int .i64 vy6.At), .d (.int .i64 (IntKind.wrap .i64 (vy6.Value + vr1)))])] (by kernel_rfl) (by kernel_rfl)) ?_
      obtain rfl := some_eq hF
      exact out_intro rfl (to_see [] [] ⟨[(1, ⟨42, 4, List.map api_Sample.enc vx⟩)], [(0, [.d (.int .i64 qx1.From), .d (.int .i64 qx1.To)]), (2, [.d (.str vy6.Device), .d (.str vy6.Metric), .d (.int .i64 vy6.At), .d (.int .i64 (IntKind.wrap .i64 (vy6.Value + vr1)))])]⟩ [(0, .v (.one (.d (.lst (List.map api_Sample.enc qx))))), (2, .v (.one (.d (.int .i64 qx2)))), (3, .v (.one (.d (.int .i64 qx3)))), (5, .v (.one (.box 0 0))), (10, .v (.one (.own 1 none))), (11, .v (.one (.d (.int .i64 vx1)))), (16, .v (.one (.box 2 0)))] 3 (by kernel_rfl) (by kernel_rfl) (lowc_of (by kernel_rfl)) (⟨.inr ⟨by kernel_rfl, by kernel_rfl⟩, trivial⟩) (⟨⟨by kernel_rfl, [.d (.int .i64 qx1.From), .d (.int .i64 qx1.To)], by kernel_rfl, l2_same (by kernel_rfl) (by kernel_rfl)⟩, ⟨by kernel_rfl, [.d (.str vy6.Device), .d (.str vy6.Metric), .d (.int .i64 vy6.At), .d (.int .i64 (IntKind.wrap .i64 (vy6.Value + vr1)))], by kernel_rfl, l2_same (by kernel_rfl) (by kernel_rfl)⟩, trivial⟩) (⟨t_same (by kernel_rfl) (by kernel_rfl), t_same (by kernel_rfl) (by kernel_rfl), t_same (by kernel_rfl) (by kernel_rfl), t_same (by kernel_rfl) (by kernel_rfl), t_same (by kernel_rfl) (by kernel_rfl), t_same (by kernel_rfl) (by kernel_rfl), t_same (by kernel_rfl) (by kernel_rfl), trivial⟩))
  · refine awp_false (by kernel_rfl) h20 ?_
    refine awp_skip ?_
    obtain rfl := some_eq hF
    exact out_intro rfl (to_see [] [] ⟨[(1, ⟨42, 4, List.map api_Sample.enc vx⟩)], [(0, [.d (.int .i64 qx1.From), .d (.int .i64 qx1.To)]), (2, [.d (.str vy6.Device), .d (.str vy6.Metric), .d (.int .i64 vy6.At), .d (.int .i64 vy6.Value)])]⟩ [(0, .v (.one (.d (.lst (List.map api_Sample.enc qx))))), (2, .v (.one (.d (.int .i64 qx2)))), (3, .v (.one (.d (.int .i64 qx3)))), (5, .v (.one (.box 0 0))), (10, .v (.one (.own 1 none))), (11, .v (.one (.d (.int .i64 vx1)))), (16, .v (.one (.box 2 0)))] 3 (by kernel_rfl) (by kernel_rfl) (lowc_of (by kernel_rfl)) (⟨.inr ⟨by kernel_rfl, by kernel_rfl⟩, trivial⟩) (⟨⟨by kernel_rfl, [.d (.int .i64 qx1.From), .d (.int .i64 qx1.To)], by kernel_rfl, l2_same (by kernel_rfl) (by kernel_rfl)⟩, ⟨by kernel_rfl, [.d (.str vy6.Device), .d (.str vy6.Metric), .d (.int .i64 vy6.At), .d (.int .i64 vy6.Value)], by kernel_rfl, l2_same (by kernel_rfl) (by kernel_rfl)⟩, trivial⟩) (⟨t_same (by kernel_rfl) (by kernel_rfl), t_same (by kernel_rfl) (by kernel_rfl), t_same (by kernel_rfl) (by kernel_rfl), t_same (by kernel_rfl) (by kernel_rfl), t_same (by kernel_rfl) (by kernel_rfl), t_same (by kernel_rfl) (by kernel_rfl), t_same (by kernel_rfl) (by kernel_rfl), trivial⟩))

def fleetref2_FillOf_x2_k : (List api_Sample) → AEx
  | _ => .normal

def fleetref2_FillOf_x2_S (qx : List api_Sample) (qx1 : api_Window) (qx2 : Int) (qx3 : Int) (vx : List api_Sample) (vx1 : Int) : (List api_Sample) → St
  | vx35 => Mem.st ⟨[(1, ⟨42, 4, List.map api_Sample.enc vx35⟩)], [(0, [.d (.int .i64 qx1.From), .d (.int .i64 qx1.To)])]⟩ (tl [(0, .v (.one (.d (.lst (List.map api_Sample.enc qx))))), (2, .v (.one (.d (.int .i64 qx2)))), (3, .v (.one (.d (.int .i64 qx3)))), (5, .v (.one (.box 0 0))), (10, .v (.one (.own 1 none))), (11, .v (.one (.d (.int .i64 vx1))))]) 2

theorem fleetref2_FillOf_x2_ok (qx : List api_Sample) (qx1 : api_Window) (qx2 : Int) (qx3 : Int) (vx : List api_Sample) (vx1 : Int) (r : (List api_Sample)) (hF : fleetref2_FillOf_x2 qx qx3 vx vx1 = some r) : Awp prog 0 118 (cL (cR (cL (cL (cR (cL (cR (cR (cR (cB f24)))))))))) (Out 0 fleetref2_FillOf_x2_k (fleetref2_FillOf_x2_S qx qx1 qx2 qx3 vx vx1) r) (Mem.st ⟨[(1, ⟨42, 4, List.map api_Sample.enc vx⟩)], [(0, [.d (.int .i64 qx1.From), .d (.int .i64 qx1.To)])]⟩ (tl [(0, .v (.one (.d (.lst (List.map api_Sample.enc qx))))), (2, .v (.one (.d (.int .i64 qx2)))), (3, .v (.one (.d (.int .i64 qx3)))), (5, .v (.one (.box 0 0))), (10, .v (.one (.own 1 none))), (11, .v (.one (.d (.int .i64 vx1))))]) 2) := by
  unfold fleetref2_FillOf_x2 at hF
  refine awp_block ?_
  refine awp_seq ?_
  refine awp_region' 2 2002 (by kernel_rfl) (by kernel_rfl) ?_
  refine aops_eff hΓ (.v (.one (.d (.int .i64 (-1))))) [] [] (by kernel_rfl) ?_
  refine aops_eff hΓ (.v (.one (.d (.int .i64 (-1))))) [] [] (by kernel_rfl) ?_
  refine aops_nil ?_
  refine awp_seq ?_
  refine awp_seq ?_
  refine awp_region' 2002 5002 (by kernel_rfl) (by kernel_rfl) ?_
  refine aops_eff hΓ (.v (.one (.d (.lst (List.map api_Sample.enc qx))))) [] [] (by kernel_rfl) ?_
  refine aops_eff hΓ (.v (.one (.d (.int .i64 (qx.length : Int))))) [] [] (opx_len (f := api_Sample.enc) (l := qx) (by kernel_rfl)) ?_
  refine aops_eff hΓ (.v (.one (.d (.int .i64 0)))) [] [] (by kernel_rfl) ?_
  refine aops_nil ?_
  refine awp_block ?_
  refine awp_to (st' := fleetref2_FillOf_x3_H qx qx1 qx2 qx3 vx vx1 ((-1), (-1), 0)) (to_see [] [] ⟨[(1, ⟨42, 4, List.map api_Sample.enc vx⟩)], [(0, [.d (.int .i64 qx1.From), .d (.int .i64 qx1.To)])]⟩ [(0, .v (.one (.d (.lst (List.map api_Sample.enc qx))))), (2, .v (.one (.d (.int .i64 qx2)))), (3, .v (.one (.d (.int .i64 qx3)))), (5, .v (.one (.box 0 0))), (10, .v (.one (.own 1 none))), (11, .v (.one (.d (.int .i64 vx1)))), (12, .v (.one (.d (.int .i64 (-1))))), (13, .v (.one (.d (.int .i64 (-1))))), (38, .v (.one (.d (.lst (List.map api_Sample.enc qx))))), (39, .v (.one (.d (.int .i64 (qx.length : Int))))), (40, .v (.one (.d (.int .i64 0))))] 2 (by kernel_rfl) (by kernel_rfl) (lowc_of (by kernel_rfl)) (⟨.inr ⟨by kernel_rfl, by kernel_rfl⟩, trivial⟩) (⟨⟨by kernel_rfl, [.d (.int .i64 qx1.From), .d (.int .i64 qx1.To)], by kernel_rfl, l2_same (by kernel_rfl) (by kernel_rfl)⟩, trivial⟩) (⟨t_same (by kernel_rfl) (by kernel_rfl), t_same (by kernel_rfl) (by kernel_rfl), t_same (by kernel_rfl) (by kernel_rfl), t_same (by kernel_rfl) (by kernel_rfl), t_same (by kernel_rfl) (by kernel_rfl), t_same (by kernel_rfl) (by kernel_rfl), t_same (by kernel_rfl) (by kernel_rfl), t_same (by kernel_rfl) (by kernel_rfl), t_same (by kernel_rfl) (by kernel_rfl), t_same (by kernel_rfl) (by kernel_rfl), t_same (by kernel_rfl) (by kernel_rfl), trivial⟩)) ?_
  obtain ⟨⟨vx30_1, vx31_1⟩, h12, hF⟩ := bind_some hF
  refine awp_sub (awp_loop' (fleetref2_FillOf_x3_H qx qx1 qx2 qx3 vx vx1) fleetref2_FillOf_x3_k (fleetref2_FillOf_x3_S qx qx1 qx2 qx3 vx vx1) (by intro x; exact fun h => nomatch h) h12 (fleetref2_FillOf_x3_ok qx qx1 qx2 qx3 vx vx1)) ?_
  refine awp_seq ?_
  refine awp_seq ?_
  refine awp_to (to_see [] [] ⟨[(1, ⟨42, 4, List.map api_Sample.enc vx⟩)], [(0, [.d (.int .i64 qx1.From), .d (.int .i64 qx1.To)])]⟩ [(0, .v (.one (.d (.lst (List.map api_Sample.enc qx))))), (2, .v (.one (.d (.int .i64 qx2)))), (3, .v (.one (.d (.int .i64 qx3)))), (5, .v (.one (.box 0 0))), (10, .v (.one (.own 1 none))), (11, .v (.one (.d (.int .i64 vx1)))), (12, .v (.one (.d (.int .i64 vx30_1)))), (13, .v (.one (.d (.int .i64 vx31_1))))] 2 (by kernel_rfl) (by kernel_rfl) (lowc_of (by kernel_rfl)) (⟨.inr ⟨by kernel_rfl, by kernel_rfl⟩, trivial⟩) (⟨⟨by kernel_rfl, [.d (.int .i64 qx1.From), .d (.int .i64 qx1.To)], by kernel_rfl, l2_same (by kernel_rfl) (by kernel_rfl)⟩, trivial⟩) (⟨t_same (by kernel_rfl) (by kernel_rfl), t_same (by kernel_rfl) (by kernel_rfl), t_same (by kernel_rfl) (by kernel_rfl), t_same (by kernel_rfl) (by kernel_rfl), t_same (by kernel_rfl) (by kernel_rfl), t_same (by kernel_rfl) (by kernel_rfl), t_same (by kernel_rfl) (by kernel_rfl), t_same (by kernel_rfl) (by kernel_rfl), trivial⟩)) ?_
  obtain ⟨vx32_1, h15, hF⟩ := bind_some hF
  refine awp_sub (fleetref2_FillOf_x7_ok qx qx1 qx2 qx3 vx vx1 vx30_1 vx31_1 _ h15) ?_
  rcases cond_or hF with ⟨h16, hF⟩ | ⟨h16, hF⟩
  · refine awp_true (by kernel_rfl) h16 ?_
    refine awp_exit ?_
    obtain rfl := some_eq hF
    exact out_intro rfl (to_see [] [] ⟨[(1, ⟨42, 4, List.map api_Sample.enc vx⟩)], [(0, [.d (.int .i64 qx1.From), .d (.int .i64 qx1.To)])]⟩ [(0, .v (.one (.d (.lst (List.map api_Sample.enc qx))))), (2, .v (.one (.d (.int .i64 qx2)))), (3, .v (.one (.d (.int .i64 qx3)))), (5, .v (.one (.box 0 0))), (10, .v (.one (.own 1 none))), (11, .v (.one (.d (.int .i64 vx1))))] 2 (by kernel_rfl) (by kernel_rfl) (lowc_of (by kernel_rfl)) (⟨.inr ⟨by kernel_rfl, by kernel_rfl⟩, trivial⟩) (⟨⟨by kernel_rfl, [.d (.int .i64 qx1.From), .d (.int .i64 qx1.To)], by kernel_rfl, l2_same (by kernel_rfl) (by kernel_rfl)⟩, trivial⟩) (⟨t_same (by kernel_rfl) (by kernel_rfl), t_same (by kernel_rfl) (by kernel_rfl), t_same (by kernel_rfl) (by kernel_rfl), t_same (by kernel_rfl) (by kernel_rfl), t_same (by kernel_rfl) (by kernel_rfl), t_same (by kernel_rfl) (by kernel_rfl), trivial⟩))
  · refine awp_false (by kernel_rfl) h16 ?_
    refine awp_skip ?_
    refine awp_seq ?_
    obtain ⟨vy6, h17, hF⟩ := bind_some hF
    refine awp_region' 2 6002 (by kernel_rfl) (by kernel_rfl) ?_
    refine aops_eff hΓ (.v (.one (.d (.lst (List.map api_Sample.enc qx))))) [] [] (by kernel_rfl) ?_
    refine aops_eff hΓ (.v (.one (.d (.int .i64 vx30_1)))) [] [] (by kernel_rfl) ?_
    refine aops_eff hΓ (.v (.one (.cp [.str vy6.Device, .str vy6.Metric, .int .i64 vy6.At, .int .i64 vy6.Value]))) [] [] (opx_of (by kernel_rfl) (by kernel_rfl) (eff_indexAddr (k := .i64) (ti := ti26) (te := ti42) (l := qx) (f := api_Sample.enc) (y := vy6) (by kernel_rfl) rfl (by kernel_rfl) (by kernel_rfl) (by kernel_rfl) h17 (by kernel_rfl))) ?_
    refine aops_eff hΓ (.v (.agg [.d (.str vy6.Device), .d (.str vy6.Metric), .d (.int .i64 vy6.At), .d (.int .i64 vy6.Value)])) [] [] (by kernel_rfl) ?_
    refine aops_eff hΓ (.v (.one (.box 4002 0))) [] [(4002, some [.d (.str ([] : List UInt8)), .d (.str ([] : List UInt8)), .d (.int .i64 0), .d (.int .i64 0)])] (by kernel_rfl) ?_
    refine aops_eff hΓ (.undef) [] [(4002, some [.d (.str vy6.Device), .d (.str vy6.Metric), .d (.int .i64 vy6.At), .d (.int .i64 vy6.Value)])] (by kernel_rfl) ?_
    refine aops_nil ?_
    refine awp_seq ?_
    refine awp_to (to_see [(2, 4002)] [] ⟨[(1, ⟨42, 4, List.map api_Sample.enc vx⟩)], [(0, [.d (.int .i64 qx1.From), .d (.int .i64 qx1.To)]), (2, [.d (.str vy6.Device), .d (.str vy6.Metric), .d (.int .i64 vy6.At), .d (.int .i64 vy6.Value)])]⟩ [(0, .v (.one (.d (.lst (List.map api_Sample.enc qx))))), (2, .v (.one (.d (.int .i64 qx2)))), (3, .v (.one (.d (.int .i64 qx3)))), (5, .v (.one (.box 0 0))), (10, .v (.one (.own 1 none))), (11, .v (.one (.d (.int .i64 vx1)))), (12, .v (.one (.d (.int .i64 vx30_1)))), (13, .v (.one (.d (.int .i64 vx31_1)))), (16, .v (.one (.box 2 0)))] 3 (by kernel_rfl) (by kernel_rfl) (lowc_of (by kernel_rfl)) (⟨.inr ⟨by kernel_rfl, by kernel_rfl⟩, trivial⟩) (⟨⟨by kernel_rfl, [.d (.int .i64 qx1.From), .d (.int .i64 qx1.To)], by kernel_rfl, l2_same (by kernel_rfl) (by kernel_rfl)⟩, ⟨by kernel_rfl, [.d (.str vy6.Device), .d (.str vy6.Metric), .d (.int .i64 vy6.At), .d (.int .i64 vy6.Value)], by kernel_rfl, l2_same (by kernel_rfl) (by kernel_rfl)⟩, trivial⟩) (⟨t_same (by kernel_rfl) (by kernel_rfl), t_same (by kernel_rfl) (by kernel_rfl), t_same (by kernel_rfl) (by kernel_rfl), t_same (by kernel_rfl) (by kernel_rfl), t_same (by kernel_rfl) (by kernel_rfl), t_same (by kernel_rfl) (by kernel_rfl), t_same (by kernel_rfl) (by kernel_rfl), t_same (by kernel_rfl) (by kernel_rfl), t_same (by kernel_rfl) (by kernel_rfl), trivial⟩)) ?_
    obtain ⟨(vx34_1 | _), h24, hF⟩ := bind_some hF
    · refine awp_sub (fleetref2_FillOf_x8_ok qx qx1 qx2 qx3 vx vx1 vx30_1 vx31_1 vy6 _ h24) ?_
      refine awp_seq ?_
      refine awp_region' 3 3003 (by kernel_rfl) (by kernel_rfl) ?_
      refine aops_eff hΓ (.v (.one (.d (.int .i64 vx1)))) [] [] (by kernel_rfl) ?_
      refine aops_eff hΓ (.v (.one (.box 2 2))) [] [] (by kernel_rfl) ?_
      refine aops_eff hΓ (.undef) [] [(2, some [.d (.str vx34_1.Device), .d (.str vx34_1.Metric), .d (.int .i64 vx1), .d (.int .i64 vx34_1.Value)])] (by kernel_rfl) ?_
      refine aops_nil ?_
      obtain ⟨h25, hF⟩ := gd_some hF
      refine awp_region' 3003 8003 (by kernel_rfl) (by kernel_rfl) ?_
      refine aops_eff hΓ (.v (.one (.own 1 none))) [] [] (by kernel_rfl) ?_
      refine aops_eff hΓ (.v (.agg [.d (.str vx34_1.Device), .d (.str vx34_1.Metric), .d (.int .i64 vx1), .d (.int .i64 vx34_1.Value)])) [] [] (by kernel_rfl) ?_
      refine aops_eff hΓ (.v (.one (.own 5003 none))) [(5003, some ⟨42, 4, List.map api_Sample.enc ([api_Sample.mk vx34_1.Device vx34_1.Metric vx1 vx34_1.Value] : List api_Sample)⟩)] [] (by kernel_rfl) ?_
      refine aops_eff hΓ (.v (.one (.own 6003 none))) [(1, none), (6003, some ⟨42, 4, List.map api_Sample.enc (vx ++ ([api_Sample.mk vx34_1.Device vx34_1.Metric vx1 vx34_1.Value] : List api_Sample))⟩)] [] (opx_of (by kernel_rfl) (by kernel_rfl) (eff_append (ti := ti26) (te := ti42) (tv := .v (.one (.own 5003 none))) (id := 1) (l := vx) (ys := ([api_Sample.mk vx34_1.Device vx34_1.Metric vx1 vx34_1.Value] : List api_Sample)) (us := [5003]) (f := api_Sample.enc) (by kernel_rfl) rfl (by kernel_rfl) (by kernel_rfl) (by kernel_rfl) (by kernel_rfl) (by kernel_rfl) (fun _ => rfl) ⟨Nat.zero_lt_succ _, Nat.le_of_ble_eq_true (by kernel_rfl), Nat.zero_lt_succ _⟩ h25)) ?_
      refine aops_eff hΓ (.v (.one (.own 6003 none))) [] [] (by kernel_rfl) ?_
      refine aops_nil ?_
      obtain rfl := some_eq hF
      exact out_intro rfl (to_see [(1, 6003)] [] ⟨[(1, ⟨42, 4, List.map api_Sample.enc (vx ++ ([api_Sample.mk vx34_1.Device vx34_1.Metric vx1 vx34_1.Value] : List api_Sample))⟩)], [(0, [.d (.int .i64 qx1.From), .d (.int .i64 qx1.To)])]⟩ [(0, .v (.one (.d (.lst (List.map api_Sample.enc qx))))), (2, .v (.one (.d (.int .i64 qx2)))), (3, .v (.one (.d (.int .i64 qx3)))), (5, .v (.one (.box 0 0))), (10, .v (.one (.own 1 none))), (11, .v (.one (.d (.int .i64 vx1))))] 2 (by kernel_rfl) (by kernel_rfl) (lowc_of (by kernel_rfl)) (⟨.inr ⟨by kernel_rfl, by kernel_rfl⟩, trivial⟩) (⟨⟨by kernel_rfl, [.d (.int .i64 qx1.From), .d (.int .i64 qx1.To)], by kernel_rfl, l2_same (by kernel_rfl) (by kernel_rfl)⟩, trivial⟩) (⟨t_same (by kernel_rfl) (by kernel_rfl), t_same (by kernel_rfl) (by kernel_rfl), t_same (by kernel_rfl) (by kernel_rfl), t_same (by kernel_rfl) (by kernel_rfl), t_same (by kernel_rfl) (by kernel_rfl), t_same (by kernel_rfl) (by kernel_rfl), trivial⟩))
    · refine awp_sub (fleetref2_FillOf_x8_ok qx qx1 qx2 qx3 vx vx1 vx30_1 vx31_1 vy6 _ h24) ?_
      obtain rfl := some_eq hF
      exact out_intro rfl (to_see [] [] ⟨[(1, ⟨42, 4, List.map api_Sample.enc vx⟩)], [(0, [.d (.int .i64 qx1.From), .d (.int .i64 qx1.To)])]⟩ [(0, .v (.one (.d (.lst (List.map api_Sample.enc qx))))), (2, .v (.one (.d (.int .i64 qx2)))), (3, .v (.one (.d (.int .i64 qx3)))), (5, .v (.one (.box 0 0))), (10, .v (.one (.own 1 none))), (11, .v (.one (.d (.int .i64 vx1))))] 2 (by kernel_rfl) (by kernel_rfl) (lowc_of (by kernel_rfl)) (⟨.inr ⟨by kernel_rfl, by kernel_rfl⟩, trivial⟩) (⟨⟨by kernel_rfl, [.d (.int .i64 qx1.From), .d (.int .i64 qx1.To)], by kernel_rfl, l2_same (by kernel_rfl) (by kernel_rfl)⟩, trivial⟩) (⟨t_same (by kernel_rfl) (by kernel_rfl), t_same (by kernel_rfl) (by kernel_rfl), t_same (by kernel_rfl) (by kernel_rfl), t_same (by kernel_rfl) (by kernel_rfl), t_same (by kernel_rfl) (by kernel_rfl), t_same (by kernel_rfl) (by kernel_rfl), trivial⟩))

def fleetref2_FillOf_x1_k : (List api_Sample) → AEx
  | _ => .exit 0

def fleetref2_FillOf_x1_S (qx : List api_Sample) (qx1 : api_Window) (qx2 : Int) (qx3 : Int) : (List api_Sample) → St
  | vx36 => Mem.st ⟨[(0, ⟨42, 4, List.map api_Sample.enc vx36⟩)], []⟩ (tl [(10, .v (.one (.own 0 none)))]) 1

def fleetref2_FillOf_x1_H (qx : List api_Sample) (qx1 : api_Window) (qx2 : Int) (qx3 : Int) : (List api_Sample) × Int → St
  | (vx, vx1) => Mem.st ⟨[(1, ⟨42, 4, List.map api_Sample.enc vx⟩)], [(0, [.d (.int .i64 qx1.From), .d (.int .i64 qx1.To)])]⟩ (tl [(0, .v (.one (.d (.lst (List.map api_Sample.enc qx))))), (2, .v (.one (.d (.int .i64 qx2)))), (3, .v (.one (.d (.int .i64 qx3)))), (5, .v (.one (.box 0 0))), (10, .v (.one (.own 1 none))), (11, .v (.one (.d (.int .i64 vx1))))]) 2

theorem fleetref2_FillOf_x1_ok (qx : List api_Sample) (qx1 : api_Window) (qx2 : Int) (qx3 : Int) (s : (List api_Sample) × Int) (r : ((List api_Sample) × Int) ⊕ ((List api_Sample))) (hF : fleetref2_FillOf_x1 qx qx1 qx2 qx3 s = some r) : Awp prog 0 118 (cL (cL (cR (cL (cR (cR (cR (cB f24)))))))) (Out 0 (kk fleetref2_FillOf_x1_k) (SS (fleetref2_FillOf_x1_H qx qx1 qx2 qx3) (fleetref2_FillOf_x1_S qx qx1 qx2 qx3)) r) (fleetref2_FillOf_x1_H qx qx1 qx2 qx3 s) := by
  obtain ⟨vx, vx1⟩ := s
  unfold fleetref2_FillOf_x1 at hF
  refine awp_seq ?_
  refine awp_seq ?_
  refine awp_region' 2 4002 (by kernel_rfl) (by kernel_rfl) ?_
  refine aops_eff hΓ (.v (.one (.d (.int .i64 vx1)))) [] [] (by kernel_rfl) ?_
  refine aops_eff hΓ (.v (.one (.box 0 1))) [] [] (by kernel_rfl) ?_
  refine aops_eff hΓ (.v (.one (.d (.int .i64 qx1.To)))) [] [] (by kernel_rfl) ?_
  refine aops_eff hΓ (.v (.one (.d (.bool (decide (vx1 < qx1.To)))))) [] [] (by kernel_rfl) ?_
  refine aops_nil ?_
  rcases cond_or hF with ⟨h3, hF⟩ | ⟨h3, hF⟩
  · refine awp_true (by kernel_rfl) h3 ?_
    refine awp_skip ?_
    refine awp_seq ?_
    refine awp_to (to_see [] [] ⟨[(1, ⟨42, 4, List.map api_Sample.enc vx⟩)], [(0, [.d (.int .i64 qx1.From), .d (.int .i64 qx1.To)])]⟩ [(0, .v (.one (.d (.lst (List.map api_Sample.enc qx))))), (2, .v (.one (.d (.int .i64 qx2)))), (3, .v (.one (.d (.int .i64 qx3)))), (5, .v (.one (.box 0 0))), (10, .v (.one (.own 1 none))), (11, .v (.one (.d (.int .i64 vx1))))] 2 (by kernel_rfl) (by kernel_rfl) (lowc_of (by kernel_rfl)) (⟨.inr ⟨by kernel_rfl, by kernel_rfl⟩, trivial⟩) (⟨⟨by kernel_rfl, [.d (.int .i64 qx1.From), .d (.int .i64 qx1.To)], by kernel_rfl, l2_same (by kernel_rfl) (by kernel_rfl)⟩, trivial⟩) (⟨t_same (by kernel_rfl) (by kernel_rfl), t_same (by kernel_rfl) (by kernel_rfl), t_same (by kernel_rfl) (by kernel_rfl), t_same (by kernel_rfl) (by kernel_rfl), t_same (by kernel_rfl) (by kernel_rfl), t_same (by kernel_rfl) (by kernel_rfl), trivial⟩)) ?_
    obtain ⟨vx35_1, h26, hF⟩ := bind_some hF
    refine awp_sub (fleetref2_FillOf_x2_ok qx qx1 qx2 qx3 vx vx1 _ h26) ?_
    refine awp_region' 2 4002 (by kernel_rfl) (by kernel_rfl) ?_
    refine aops_eff hΓ (.v (.one (.d (.int .i64 vx1)))) [] [] (by kernel_rfl) ?_
    refine aops_eff hΓ (.v (.one (.d (.int .i64 qx2)))) [] [] (by kernel_rfl) ?_
    refine aops_eff hΓ (.v (.one (.d (.int .i64 (IntKind.wrap .i64 (vx1 + qx2)))))) [] [] (by kernel_rfl) ?_
    refine aops_eff hΓ (.v (.one (.d (.int .i64 (IntKind.wrap .i64 (vx1 + qx2)))))) [] [] (by kernel_rfl) ?_
    refine aops_nil ?_
    obtain rfl := some_eq hF
    exact out_intro rfl (to_see [] [] ⟨[(1, ⟨42, 4, List.map api_Sample.enc vx35_1⟩)], [(0, [.d (.int .i64 qx1.From), .d (.int .i64 qx1.To)])]⟩ [(0, .v (.one (.d (.lst (List.map api_Sample.enc qx))))), (2, .v (.one (.d (.int .i64 qx2)))), (3, .v (.one (.d (.int .i64 qx3)))), (5, .v (.one (.box 0 0))), (10, .v (.one (.own 1 none))), (11, .v (.one (.d (.int .i64 (IntKind.wrap .i64 (vx1 + qx2))))))] 2 (by kernel_rfl) (by kernel_rfl) (lowc_of (by kernel_rfl)) (⟨.inr ⟨by kernel_rfl, by kernel_rfl⟩, trivial⟩) (⟨⟨by kernel_rfl, [.d (.int .i64 qx1.From), .d (.int .i64 qx1.To)], by kernel_rfl, l2_same (by kernel_rfl) (by kernel_rfl)⟩, trivial⟩) (⟨t_same (by kernel_rfl) (by kernel_rfl), t_same (by kernel_rfl) (by kernel_rfl), t_same (by kernel_rfl) (by kernel_rfl), t_same (by kernel_rfl) (by kernel_rfl), t_same (by kernel_rfl) (by kernel_rfl), t_same (by kernel_rfl) (by kernel_rfl), trivial⟩))
  · refine awp_false (by kernel_rfl) h3 ?_
    refine awp_exit ?_
    obtain rfl := some_eq hF
    exact out_intro rfl (to_see [(0, 1)] [] ⟨[(0, ⟨42, 4, List.map api_Sample.enc vx⟩)], []⟩ [(10, .v (.one (.own 0 none)))] 1 (by kernel_rfl) (by kernel_rfl) (lowc_of (by kernel_rfl)) (⟨.inr ⟨by kernel_rfl, by kernel_rfl⟩, trivial⟩) trivial (⟨t_same (by kernel_rfl) (by kernel_rfl), trivial⟩))

theorem fleetref2_FillOf_ok (qx : List api_Sample) (qx1 : api_Window) (qx2 : Int) (qx3 : Int) (r : (List api_Sample) × Int) (hF : fleetref2_FillOf qx qx1 qx2 qx3 = some r) : Holds prog 24 [.v (.one (.d (.lst (List.map api_Sample.enc qx)))), .v (.agg [.d (.int .i64 qx1.From), .d (.int .i64 qx1.To)]), .v (.one (.d (.int .i64 qx2))), .v (.one (.d (.int .i64 qx3)))] ⟨[], []⟩ (fun tv m => tv = .tup [.one (.own 0 none), .one (.d (.int .i64 r.2))] ∧ m = ⟨[(0, ⟨42, 4, List.map api_Sample.enc r.1⟩)], []⟩) := by
  unfold fleetref2_FillOf at hF
  refine holds_of_awp hΓ (fn := f24) (c := cB f24) (A := 0) (nx := 0) (by kernel_rfl) (by kernel_rfl) (by kernel_rfl) (by kernel_rfl) (by kernel_rfl) (by kernel_rfl) (lowc_of (by kernel_rfl)) ?_
  show Awp prog 0 118 (cB f24) _ _
  refine awp_seq ?_
  refine awp_region' 0 3000 (by kernel_rfl) (by kernel_rfl) ?_
  refine aops_eff hΓ (.v (.one (.box 0 0))) [] [(0, some [.d (.int .i64 qx1.From), .d (.int .i64 qx1.To)])] (by kernel_rfl) ?_
  refine aops_eff hΓ (.v (.one (.nil))) [] [] (by kernel_rfl) ?_
  refine aops_eff hΓ (.v (.one (.d (.int .i64 0)))) [] [] (by kernel_rfl) ?_
  refine aops_nil ?_
  refine awp_seq ?_
  refine awp_seq ?_
  obtain ⟨h1, hF⟩ := gd_some hF
  refine awp_region' 3000 14000 (by kernel_rfl) (by kernel_rfl) ?_
  refine aops_eff hΓ (.v (.one (.box 0 1))) [] [] (by kernel_rfl) ?_
  refine aops_eff hΓ (.v (.one (.d (.int .i64 qx1.To)))) [] [] (by kernel_rfl) ?_
  refine aops_eff hΓ (.v (.one (.box 0 0))) [] [] (by kernel_rfl) ?_
  refine aops_eff hΓ (.v (.one (.d (.int .i64 qx1.From)))) [] [] (by kernel_rfl) ?_
  refine aops_eff hΓ (.v (.one (.d (.int .i64 (IntKind.wrap .i64 (qx1.To - qx1.From)))))) [] [] (by kernel_rfl) ?_
  refine aops_eff hΓ (.v (.one (.d (.int .i64 qx2)))) [] [] (by kernel_rfl) ?_
  refine aops_eff hΓ (.v (.one (.d (.int .i64 (IntKind.wrap .i64 ((IntKind.wrap .i64 (qx1.To - qx1.From)) + qx2)))))) [] [] (by kernel_rfl) ?_
  refine aops_eff hΓ (.v (.one (.d (.int .i64 (IntKind.wrap .i64 ((IntKind.wrap .i64 ((IntKind.wrap .i64 (qx1.To - qx1.From)) + qx2)) - 1)))))) [] [] (by kernel_rfl) ?_
  refine aops_eff hΓ (.v (.one (.d (.int .i64 qx2)))) [] [] (by kernel_rfl) ?_
  refine aops_eff hΓ (.v (.one (.d (.int .i64 (IntKind.wrap .i64 ((IntKind.wrap .i64 ((IntKind.wrap .i64 ((IntKind.wrap .i64 (qx1.To - qx1.From)) + qx2)) - 1)).tdiv qx2)))))) [] [] (opx_of (by kernel_rfl) (by kernel_rfl) (eff_quo (ti := ti3) (by kernel_rfl) (by kernel_rfl) (by kernel_rfl) (notB h1))) ?_
  refine aops_eff hΓ (.v (.one (.d (.bool (decide (5000 < (IntKind.wrap .i64 ((IntKind.wrap .i64 ((IntKind.wrap .i64 ((IntKind.wrap .i64 (qx1.To - qx1.From)) + qx2)) - 1)).tdiv qx2)))))))) [] [] (by kernel_rfl) ?_
  refine aops_nil ?_
  rcases cond_or hF with ⟨h2, hF⟩ | ⟨h2, hF⟩
  · refine awp_true (by kernel_rfl) h2 ?_
    refine awp_seq ?_
    refine awp_region' 14000 16000 (by kernel_rfl) (by kernel_rfl) ?_
    refine aops_eff hΓ (.v (.one (.nil))) [] [] (by kernel_rfl) ?_
    refine aops_eff hΓ (.v (.one (.d (.int .i64 2)))) [] [] (by kernel_rfl) ?_
    refine aops_nil ?_
    refine awp_ret ?_
    obtain rfl := some_eq hF
    exact fin_intro (xs := [.one (.nil), .one (.d (.int .i64 2))]) (m' := ⟨[(0, ⟨42, 4, List.map api_Sample.enc []⟩)], []⟩) (tv := (.tup [.one (.own 0 none), .one (.d (.int .i64 2))])) (rl := []) (nl := [0]) (by kernel_rfl) (by kernel_rfl) (by kernel_rfl) (sees_of (by kernel_rfl) (⟨.inl ⟨by kernel_rfl, by kernel_rfl, Nat.zero_lt_succ _⟩, trivial⟩) trivial) (t_tup (cs := [.one (.nil), .one (.d (.int .i64 2))]) (by kernel_rfl) ⟨(see_nilown rfl (by kernel_rfl) (by kernel_rfl)), (see_same (by kernel_rfl) (by kernel_rfl)), trivial⟩) ⟨rfl, rfl⟩
  · refine awp_false (by kernel_rfl) h2 ?_
    refine awp_skip ?_
    refine awp_seq ?_
    refine awp_region' 14000 15000 (by kernel_rfl) (by kernel_rfl) ?_
    refine aops_eff hΓ (.v (.one (.nil))) [] [] (by kernel_rfl) ?_
    refine aops_nil ?_
    refine awp_seq ?_
    refine awp_seq ?_
    refine awp_region' 15000 18000 (by kernel_rfl) (by kernel_rfl) ?_
    refine aops_eff hΓ (.v (.one (.box 0 0))) [] [] (by kernel_rfl) ?_
    refine aops_eff hΓ (.v (.one (.d (.int .i64 qx1.From)))) [] [] (by kernel_rfl) ?_
    refine aops_eff hΓ (.v (.one (.d (.int .i64 qx1.From)))) [] [] (by kernel_rfl) ?_
    refine aops_nil ?_
    refine awp_block ?_
    refine awp_to (st' := fleetref2_FillOf_x1_H qx qx1 qx2 qx3 ([], qx1.From)) (to_see [] [1] ⟨[(1, ⟨42, 4, List.map api_Sample.enc []⟩)], [(0, [.d (.int .i64 qx1.From), .d (.int .i64 qx1.To)])]⟩ [(0, .v (.one (.d (.lst (List.map api_Sample.enc qx))))), (2, .v (.one (.d (.int .i64 qx2)))), (3, .v (.one (.d (.int .i64 qx3)))), (5, .v (.one (.box 0 0))), (10, .v (.one (.own 1 none))), (11, .v (.one (.d (.int .i64 qx1.From))))] 2 (by kernel_rfl) (by kernel_rfl) (lowc_of (by kernel_rfl)) (⟨.inl ⟨by kernel_rfl, by kernel_rfl, Nat.zero_lt_succ _⟩, trivial⟩) (⟨⟨by kernel_rfl, [.d (.int .i64 qx1.From), .d (.int .i64 qx1.To)], by kernel_rfl, l2_same (by kernel_rfl) (by kernel_rfl)⟩, trivial⟩) (⟨t_same (by kernel_rfl) (by kernel_rfl), t_same (by kernel_rfl) (by kernel_rfl), t_same (by kernel_rfl) (by kernel_rfl), t_same (by kernel_rfl) (by kernel_rfl), t_cell (c := .nil) (by kernel_rfl) (see_nilown rfl (by kernel_rfl) (by kernel_rfl)), t_same (by kernel_rfl) (by kernel_rfl), trivial⟩)) ?_
    obtain ⟨vx36_1, h27, hF⟩ := bind_some hF
    refine awp_sub (awp_loop' (fleetref2_FillOf_x1_H qx qx1 qx2 qx3) fleetref2_FillOf_x1_k (fleetref2_FillOf_x1_S qx qx1 qx2 qx3) (by intro x; exact fun h => nomatch h) h27 (fleetref2_FillOf_x1_ok qx qx1 qx2 qx3)) ?_
    refine awp_seq ?_
    refine awp_region' 1 3001 (by kernel_rfl) (by kernel_rfl) ?_
    refine aops_eff hΓ (.v (.one (.own 0 none))) [] [] (by kernel_rfl) ?_
    refine aops_eff hΓ (.v (.one (.own 0 none))) [] [] (by kernel_rfl) ?_
    refine aops_eff hΓ (.v (.one (.d (.int .i64 0)))) [] [] (by kernel_rfl) ?_
    refine aops_nil ?_
    refine awp_ret ?_
    obtain rfl := some_eq hF
    exact fin_intro (xs := [.one (.own 0 none), .one (.d (.int .i64 0))]) (m' := ⟨[(0, ⟨42, 4, List.map api_Sample.enc vx36_1⟩)], []⟩) (tv := (.tup [.one (.own 0 none), .one (.d (.int .i64 0))])) (rl := []) (nl := []) (by kernel_rfl) (by kernel_rfl) (by kernel_rfl) (sees_of (by kernel_rfl) (⟨.inr ⟨by kernel_rfl, by kernel_rfl⟩, trivial⟩) trivial) (t_same (by kernel_rfl) (by kernel_rfl)) ⟨rfl, rfl⟩

/-! ### slices.Equal[[]beaconfleet/api.Sample,beaconfleet/api.Sample] -/
def slices_Equal_api_Sample_api_Sample_x1_k : Unit ⊕ Unit → AEx
  | .inl _ => .exit 0
  | .inr _ => .ret

def slices_Equal_api_Sample_api_Sample_x1_S (qs1 : List api_Sample) (qs2 : List api_Sample) : Unit ⊕ Unit → St
  | .inl _ => Mem.st ⟨[], []⟩ (tl []) 0
  | .inr _ => Mem.st ⟨[], []⟩ (tl [(4, .v (.one (.d (.bool false))))]) 0

def slices_Equal_api_Sample_api_Sample_x1_H (qs1 : List api_Sample) (qs2 : List api_Sample) : Int → St
  | vx => Mem.st ⟨[], []⟩ (tl [(0, .v (.one (.d (.lst (List.map api_Sample.enc qs1))))), (1, .v (.one (.d (.lst (List.map api_Sample.enc qs2))))), (12, .v (.one (.d (.int .i64 (qs1.length : Int))))), (13, .v (.one (.d (.int .i64 vx))))]) 0

theorem slices_Equal_api_Sample_api_Sample_x1_ok (qs1 : List api_Sample) (qs2 : List api_Sample) (vx : Int) (r : (Int) ⊕ (Unit ⊕ Unit)) (hF : slices_Equal_api_Sample_api_Sample_x1 qs1 qs2 vx = some r) : Awp prog 0 26 (cL (cL (cR (cL (cR (cR (cB f25))))))) (Out 0 (kk slices_Equal_api_Sample_api_Sample_x1_k) (SS (slices_Equal_api_Sample_api_Sample_x1_H qs1 qs2) (slices_Equal_api_Sample_api_Sample_x1_S qs1 qs2)) r) (slices_Equal_api_Sample_api_Sample_x1_H qs1 qs2 vx) := by
  unfold slices_Equal_api_Sample_api_Sample_x1 at hF
  refine awp_seq ?_
  refine awp_region' 0 1000 (by kernel_rfl) (by kernel_rfl) ?_
  refine aops_eff hΓ (.v (.one (.d (.bool (decide (vx < (qs1.length : Int))))))) [] [] (by kernel_rfl) ?_
  refine aops_nil ?_
  refine awp_seq ?_
  rcases cond_or hF with ⟨h2, hF⟩ | ⟨h2, hF⟩
  · refine awp_true (by kernel_rfl) h2 ?_
    refine awp_skip ?_
    refine awp_seq ?_
    refine awp_block ?_
    refine awp_seq ?_
    refine awp_region' 1000 3000 (by kernel_rfl) (by kernel_rfl) ?_
    refine aops_eff hΓ (.v (.one (.d (.int .i64 vx)))) [] [] (by kernel_rfl) ?_
    refine aops_eff hΓ (.v (.one (.d (.int .i64 vx)))) [] [] (by kernel_rfl) ?_
    refine aops_nil ?_
    refine awp_seq ?_
    obtain ⟨vy2, h3, hF⟩ := bind_some hF
    obtain ⟨vy3, h4, hF⟩ := bind_some hF
    refine awp_region_any' hm 3000 12000 [(some ⟨.v (.one (.d (.lst (List.map api_Sample.enc qs1)))), [], [], []⟩, []), (some ⟨.v (.one (.d (.int .i64 vx))), [], [], []⟩, []), (some ⟨.v (.one (.cp [.str vy2.Device, .str vy2.Metric, .int .i64 vy2.At, .int .i64 vy2.Value])), [], [], []⟩, []), (some ⟨.v (.agg [.d (.str vy2.Device), .d (.str vy2.Metric), .d (.int .i64 vy2.At), .d (.int .i64 vy2.Value)]), [], [], []⟩, []), (some ⟨.v (.one (.d (.lst (List.map api_Sample.enc qs2)))), [], [], []⟩, []), (some ⟨.v (.one (.d (.int .i64 vx))), [], [], []⟩, []), (some ⟨.v (.one (.cp [.str vy3.Device, .str vy3.Metric, .int .i64 vy3.At, .int .i64 vy3.Value])), [], [], []⟩, []), (some ⟨.v (.agg [.d (.str vy3.Device), .d (.str vy3.Metric), .d (.int .i64 vy3.At), .d (.int .i64 vy3.Value)]), [], [], []⟩, []), (some ⟨.v (.one (.d (.bool (!(decide (vy2.Device = vy3.Device) && (decide (vy2.Metric = vy3.Metric) && (decide (vy2.At = vy3.At) && (decide (vy2.Value = vy3.Value) && true)))))))), [], [], []⟩, [])] [[], [], [0, 1], [0, 1, 2], [], [], [4, 5], [4, 5, 6], [0, 1, 2, 3, 4, 5, 6, 7]] (by kernel_rfl) (by kernel_rfl) (by kernel_rfl) (by kernel_rfl) ?_
    refine And.intro (step_eff hΓ (.v (.one (.d (.lst (List.map api_Sample.enc qs1))))) [] [] (by kernel_rfl) (by kernel_rfl)) ?_
    refine And.intro (step_eff hΓ (.v (.one (.d (.int .i64 vx)))) [] [] (by kernel_rfl) (by kernel_rfl)) ?_
    refine And.intro (step_eff hΓ (.v (.one (.cp [.str vy2.Device, .str vy2.Metric, .int .i64 vy2.At, .int .i64 vy2.Value]))) [] [] (opx_of (by kernel_rfl) (by kernel_rfl) (eff_indexAddr (k := .i64) (ti := ti26) (te := ti42) (l := qs1) (f := api_Sample.enc) (y := vy2) (by kernel_rfl) rfl (by kernel_rfl) (by kernel_rfl) (by kernel_rfl) h3 (by kernel_rfl))) (by kernel_rfl)) ?_
    refine And.intro (step_eff hΓ (.v (.agg [.d (.str vy2.Device), .d (.str vy2.Metric), .d (.int .i64 vy2.At), .d (.int .i64 vy2.Value)])) [] [] (by kernel_rfl) (by kernel_rfl)) ?_
    refine And.intro (step_eff hΓ (.v (.one (.d (.lst (List.map api_Sample.enc qs2))))) [] [] (by kernel_rfl) (by kernel_rfl)) ?_
    refine And.intro (step_eff hΓ (.v (.one (.d (.int .i64 vx)))) [] [] (by kernel_rfl) (by kernel_rfl)) ?_
    refine And.intro (step_eff hΓ (.v (.one (.cp [.str vy3.Device, .str vy3.Metric, .int .i64 vy3.At, .int .i64 vy3.Value]))) [] [] (opx_of (by kernel_rfl) (by kernel_rfl) (eff_indexAddr (k := .i64) (ti := ti26) (te := ti42) (l := qs2) (f := api_Sample.enc) (y := vy3) (by kernel_rfl) rfl (by kernel_rfl) (by kernel_rfl) (by kernel_rfl) h4 (by kernel_rfl))) (by kernel_rfl)) ?_
    refine And.intro (step_eff hΓ (.v (.agg [.d (.str vy3.Device), .d (.str vy3.Metric), .d (.int .i64 vy3.At), .d (.int .i64 vy3.Value)])) [] [] (by kernel_rfl) (by kernel_rfl)) ?_
    refine And.intro (step_call (by kernel_rfl) (by kernel_rfl) (stable_eqS (op := .neq) (xs := [.str vy2.Device, .str vy2.Metric, .int .i64 vy2.At, .int .i64 vy2.Value]) (ys := [.str vy3.Device, .str vy3.Metric, .int .i64 vy3.At, .int .i64 vy3.Value]) (b := (decide (vy2.Device = vy3.Device) && (decide (vy2.Metric = vy3.Metric) && (decide (vy2.At = vy3.At) && (decide (vy2.Value = vy3.Value) && true))))) (c := (!(decide (vy2.Device = vy3.Device) && (decide (vy2.Metric = vy3.Metric) && (decide (vy2.At = vy3.At) && (decide (vy2.Value = vy3.Value) && true)))))) rfl (.inr ⟨rfl, rfl⟩) (by kernel_rfl) (by kernel_rfl) (by kernel_rfl) (by kernel_rfl) (by kernel_rfl) (by kernel_rfl)) (.v (.one (.d (.bool (!(decide (vy2.Device = vy3.Device) && (decide (vy2.Metric = vy3.Metric) && (decide (vy2.At = vy3.At) && (decide (vy2.Value = vy3.Value) && true))))))))) [] [] (by kernel_rfl)) ?_
    rcases cond_or hF with ⟨h5, hF⟩ | ⟨h5, hF⟩
    · refine awp_true (by kernel_rfl) h5 ?_
      refine awp_seq ?_
      refine awp_region' 12000 13000 (by kernel_rfl) (by kernel_rfl) ?_
      refine aops_eff hΓ (.v (.one (.d (.bool false)))) [] [] (by kernel_rfl) ?_
      refine aops_nil ?_
      refine awp_ret ?_
      obtain rfl := some_eq hF
      exact out_intro rfl (to_see [] [] ⟨[], []⟩ [(4, .v (.one (.d (.bool false))))] 0 (by kernel_rfl) (by kernel_rfl) (lowc_of (by kernel_rfl)) trivial trivial (⟨t_same (by kernel_rfl) (by kernel_rfl), trivial⟩))
    · refine awp_false (by kernel_rfl) h5 ?_
      refine awp_skip ?_
      refine awp_region' 12000 14000 (by kernel_rfl) (by kernel_rfl) ?_
      refine aops_eff hΓ (.v (.one (.d (.int .i64 (IntKind.wrap .i64 (vx + 1)))))) [] [] (by kernel_rfl) ?_
      refine aops_eff hΓ (.v (.one (.d (.int .i64 (IntKind.wrap .i64 (vx + 1)))))) [] [] (by kernel_rfl) ?_
      refine aops_nil ?_
      obtain rfl := some_eq hF
      exact out_intro rfl (to_see [] [] ⟨[], []⟩ [(0, .v (.one (.d (.lst (List.map api_Sample.enc qs1))))), (1, .v (.one (.d (.lst (List.map api_Sample.enc qs2))))), (12, .v (.one (.d (.int .i64 (qs1.length : Int))))), (13, .v (.one (.d (.int .i64 (IntKind.wrap .i64 (vx + 1))))))] 0 (by kernel_rfl) (by kernel_rfl) (lowc_of (by kernel_rfl)) trivial trivial (⟨t_same (by kernel_rfl) (by kernel_rfl), t_same (by kernel_rfl) (by kernel_rfl), t_same (by kernel_rfl) (by kernel_rfl), t_same (by kernel_rfl) (by kernel_rfl), trivial⟩))
  · refine awp_false (by kernel_rfl) h2 ?_
    refine awp_exit ?_
    obtain rfl := some_eq hF
    exact out_intro rfl (to_see [] [] ⟨[], []⟩ [] 0 (by kernel_rfl) (by kernel_rfl) (lowc_of (by kernel_rfl)) trivial trivial trivial)

theorem slices_Equal_api_Sample_api_Sample_ok (qs1 : List api_Sample) (qs2 : List api_Sample) (r : Bool) (hF : slices_Equal_api_Sample_api_Sample qs1 qs2 = some r) : Holds prog 25 [.v (.one (.d (.lst (List.map api_Sample.enc qs1)))), .v (.one (.d (.lst (List.map api_Sample.enc qs2))))] ⟨[], []⟩ (fun tv m => tv = .v (.one (.d (.bool r))) ∧ m = ⟨[], []⟩) := by
  unfold slices_Equal_api_Sample_api_Sample at hF
  refine holds_of_awp hΓ (fn := f25) (c := cB f25) (A := 0) (nx := 0) (by kernel_rfl) (by kernel_rfl) (by kernel_rfl) (by kernel_rfl) (by kernel_rfl) (by kernel_rfl) (lowc_of (by kernel_rfl)) ?_
  show Awp prog 0 26 (cB f25) _ _
  refine awp_seq ?_
  refine awp_region' 0 1000 (by kernel_rfl) (by kernel_rfl) ?_
  refine aops_eff hΓ (.v (.one (.d (.bool false)))) [] [] (by kernel_rfl) ?_
  refine aops_nil ?_
  refine awp_seq ?_
  refine awp_seq ?_
  refine awp_region' 1000 6000 (by kernel_rfl) (by kernel_rfl) ?_
  refine aops_eff hΓ (.v (.one (.d (.lst (List.map api_Sample.enc qs1))))) [] [] (by kernel_rfl) ?_
  refine aops_eff hΓ (.v (.one (.d (.int .i64 (qs1.length : Int))))) [] [] (opx_len (f := api_Sample.enc) (l := qs1) (by kernel_rfl)) ?_
  refine aops_eff hΓ (.v (.one (.d (.lst (List.map api_Sample.enc qs2))))) [] [] (by kernel_rfl) ?_
  refine aops_eff hΓ (.v (.one (.d (.int .i64 (qs2.length : Int))))) [] [] (opx_len (f := api_Sample.enc) (l := qs2) (by kernel_rfl)) ?_
  refine aops_eff hΓ (.v (.one (.d (.bool (!decide ((qs1.length : Int) = (qs2.length : Int))))))) [] [] (by kernel_rfl) ?_
  refine aops_nil ?_
  rcases cond_or hF with ⟨h1, hF⟩ | ⟨h1, hF⟩
  · refine awp_true (by kernel_rfl) h1 ?_
    refine awp_seq ?_
    refine awp_region' 6000 7000 (by kernel_rfl) (by kernel_rfl) ?_
    refine aops_eff hΓ (.v (.one (.d (.bool false)))) [] [] (by kernel_rfl) ?_
    refine aops_nil ?_
    refine awp_ret ?_
    obtain rfl := some_eq hF
    exact fin_intro (xs := [.one (.d (.bool false))]) (m' := ⟨[], []⟩) (tv := (.v (.one (.d (.bool false))))) (rl := []) (nl := []) (by kernel_rfl) (by kernel_rfl) (by kernel_rfl) (sees_of (by kernel_rfl) trivial trivial) (t_same (by kernel_rfl) (by kernel_rfl)) ⟨rfl, rfl⟩
  · refine awp_false (by kernel_rfl) h1 ?_
    refine awp_skip ?_
    refine awp_seq ?_
    refine awp_seq ?_
    refine awp_region' 6000 9000 (by kernel_rfl) (by kernel_rfl) ?_
    refine aops_eff hΓ (.v (.one (.d (.lst (List.map api_Sample.enc qs1))))) [] [] (by kernel_rfl) ?_
    refine aops_eff hΓ (.v (.one (.d (.int .i64 (qs1.length : Int))))) [] [] (opx_len (f := api_Sample.enc) (l := qs1) (by kernel_rfl)) ?_
    refine aops_eff hΓ (.v (.one (.d (.int .i64 0)))) [] [] (by kernel_rfl) ?_
    refine aops_nil ?_
    refine awp_block ?_
    refine awp_to (st' := slices_Equal_api_Sample_api_Sample_x1_H qs1 qs2 0) (to_see [] [] ⟨[], []⟩ [(0, .v (.one (.d (.lst (List.map api_Sample.enc qs1))))), (1, .v (.one (.d (.lst (List.map api_Sample.enc qs2))))), (12, .v (.one (.d (.int .i64 (qs1.length : Int))))), (13, .v (.one (.d (.int .i64 0))))] 0 (by kernel_rfl) (by kernel_rfl) (lowc_of (by kernel_rfl)) trivial trivial (⟨t_same (by kernel_rfl) (by kernel_rfl), t_same (by kernel_rfl) (by kernel_rfl), t_same (by kernel_rfl) (by kernel_rfl), t_same (by kernel_rfl) (by kernel_rfl), trivial⟩)) ?_
    obtain ⟨(_ | _), h6, hF⟩ := bind_some hF
    · refine awp_sub (awp_loop' (slices_Equal_api_Sample_api_Sample_x1_H qs1 qs2) slices_Equal_api_Sample_api_Sample_x1_k (slices_Equal_api_Sample_api_Sample_x1_S qs1 qs2) (by intro x; rcases x with x | x <;> exact fun h => nomatch h) h6 (slices_Equal_api_Sample_api_Sample_x1_ok qs1 qs2)) ?_
      refine awp_seq ?_
      refine awp_region' 0 1000 (by kernel_rfl) (by kernel_rfl) ?_
      refine aops_eff hΓ (.v (.one (.d (.bool true)))) [] [] (by kernel_rfl) ?_
      refine aops_nil ?_
      refine awp_ret ?_
      obtain rfl := some_eq hF
      exact fin_intro (xs := [.one (.d (.bool true))]) (m' := ⟨[], []⟩) (tv := (.v (.one (.d (.bool true))))) (rl := []) (nl := []) (by kernel_rfl) (by kernel_rfl) (by kernel_rfl) (sees_of (by kernel_rfl) trivial trivial) (t_same (by kernel_rfl) (by kernel_rfl)) ⟨rfl, rfl⟩
    · refine awp_sub (awp_loop' (slices_Equal_api_Sample_api_Sample_x1_H qs1 qs2) slices_Equal_api_Sample_api_Sample_x1_k (slices_Equal_api_Sample_api_Sample_x1_S qs1 qs2) (by intro x; rcases x with x | x <;> exact fun h => nomatch h) h6 (slices_Equal_api_Sample_api_Sample_x1_ok qs1 qs2)) ?_
      obtain rfl := some_eq hF
      exact fin_intro (xs := [.one (.d (.bool false))]) (m' := ⟨[], []⟩) (tv := (.v (.one (.d (.bool false))))) (rl := []) (nl := []) (by kernel_rfl) (by kernel_rfl) (by kernel_rfl) (sees_of (by kernel_rfl) trivial trivial) (t_same (by kernel_rfl) (by kernel_rfl)) ⟨rfl, rfl⟩

/-! ### beaconfleet/series.seven -/
def series_seven_n0_x1_k : ((List Int) × Int) → AEx
  | _ => .exit 0

def series_seven_n0_x1_S : ((List Int) × Int) → St
  | (vb1, vn1) => Mem.st ⟨[(0, ⟨5, 1, List.map (encI .u8) vb1⟩)], []⟩ (tl [(0, .v (.one (.own 0 none))), (1, .v (.one (.d (.int .u64 vn1))))]) 1

def series_seven_n0_x1_H : (List Int) × Int → St
  | (vb, vn) => Mem.st ⟨[(0, ⟨5, 1, List.map (encI .u8) vb⟩)], []⟩ (tl [(0, .v (.one (.own 0 none))), (1, .v (.one (.d (.int .u64 vn))))]) 1

theorem series_seven_n0_x1_ok (s : (List Int) × Int) (r : ((List Int) × Int) ⊕ (((List Int) × Int))) (hF : series_seven_n0_x1  s = some r) : Awp prog 0 21 (cL (cL (cL (cR (cB f213))))) (Out 0 (kk series_seven_n0_x1_k) (SS (series_seven_n0_x1_H ) (series_seven_n0_x1_S )) r) (series_seven_n0_x1_H  s) := by
  obtain ⟨vb, vn⟩ := s
  unfold series_seven_n0_x1 at hF
  refine awp_seq ?_
  refine awp_seq ?_
  refine awp_region' 1 2001 (by kernel_rfl) (by kernel_rfl) ?_
  refine aops_eff hΓ (.v (.one (.d (.int .u64 vn)))) [] [] (by kernel_rfl) ?_
  refine aops_eff hΓ (.v (.one (.d (.bool (decide (128 ≤ vn)))))) [] [] (by kernel_rfl) ?_
  refine aops_nil ?_
  rcases cond_or hF with ⟨h1, hF⟩ | ⟨h1, hF⟩
  · refine awp_true (by kernel_rfl) h1 ?_
    refine awp_skip ?_
    refine awp_block ?_
    obtain ⟨h2, hF⟩ := gd_some hF
    refine awp_region' 2001 13001 (by kernel_rfl) (by kernel_rfl) ?_
    refine aops_eff hΓ (.v (.one (.own 0 none))) [] [] (by kernel_rfl) ?_
    refine aops_eff hΓ (.v (.one (.d (.int .u64 vn)))) [] [] (by kernel_rfl) ?_
    refine aops_eff hΓ (.v (.one (.d (.int .u64 (ibits .and .u64 vn 127))))) [] [] (by kernel_rfl) ?_
    refine aops_eff hΓ (.v (.one (.d (.int .u8 (IntKind.wrap .u8 (ibits .and .u64 vn 127)))))) [] [] (by kernel_rfl) ?_
    refine aops_eff hΓ (.v (.one (.d (.int .u8 (ibits .or .u8 (IntKind.wrap .u8 (ibits .and .u64 vn 127)) 128))))) [] [] (by kernel_rfl) ?_
    refine aops_eff hΓ (.v (.one (.own 7001 none))) [(7001, some ⟨5, 1, List.map (encI .u8) ([ibits .or .u8 (IntKind.wrap .u8 (ibits .and .u64 vn 127)) 128] : List Int)⟩)] [] (by kernel_rfl) ?_
    refine aops_eff hΓ (.v (.one (.own 8001 none))) [(0, none), (8001, some ⟨5, 1, List.map (encI .u8) (vb ++ ([ibits .or .u8 (IntKind.wrap .u8 (ibits .and .u64 vn 127)) 128] : List Int))⟩)] [] (opx_of (by kernel_rfl) (by kernel_rfl) (eff_append (ti := ti45) (te := ti5) (tv := .v (.one (.own 7001 none))) (id := 0) (l := vb) (ys := ([ibits .or .u8 (IntKind.wrap .u8 (ibits .and .u64 vn 127)) 128] : List Int)) (us := [7001]) (f := (encI .u8)) (by kernel_rfl) rfl (by kernel_rfl) (by kernel_rfl) (by kernel_rfl) (by kernel_rfl) (by kernel_rfl) (fun _ => rfl) ⟨Nat.zero_lt_succ _, Nat.le_of_ble_eq_true (by kernel_rfl), Nat.zero_lt_succ _⟩ h2)) ?_
    refine aops_eff hΓ (.v (.one (.d (.int .u64 vn)))) [] [] (by kernel_rfl) ?_
    refine aops_eff hΓ (.v (.one (.d (.int .u64 (ishr .u64 vn 7))))) [] [] (by kernel_rfl) ?_
    refine aops_eff hΓ (.v (.one (.own 8001 none))) [] [] (by kernel_rfl) ?_
    refine aops_eff hΓ (.v (.one (.d (.int .u64 (ishr .u64 vn 7))))) [] [] (by kernel_rfl) ?_
    refine aops_nil ?_
    obtain rfl := some_eq hF
    exact out_intro rfl (to_see [(0, 8001)] [] ⟨[(0, ⟨5, 1, List.map (encI .u8) (vb ++ ([ibits .or .u8 (IntKind.wrap .u8 (ibits .and .u64 vn 127)) 128] : List Int))⟩)], []⟩ [(0, .v (.one (.own 0 none))), (1, .v (.one (.d (.int .u64 (ishr .u64 vn 7)))))] 1 (by kernel_rfl) (by kernel_rfl) (lowc_of (by kernel_rfl)) (⟨.inr ⟨by kernel_rfl, by kernel_rfl⟩, trivial⟩) trivial (⟨t_same (by kernel_rfl) (by kernel_rfl), t_same (by kernel_rfl) (by kernel_rfl), trivial⟩))
  · refine awp_false (by kernel_rfl) h1 ?_
    refine awp_exit ?_
    obtain rfl := some_eq hF
    exact out_intro rfl (to_see [] [] ⟨[(0, ⟨5, 1, List.map (encI .u8) vb⟩)], []⟩ [(0, .v (.one (.own 0 none))), (1, .v (.one (.d (.int .u64 vn))))] 1 (by kernel_rfl) (by kernel_rfl) (lowc_of (by kernel_rfl)) (⟨.inr ⟨by kernel_rfl, by kernel_rfl⟩, trivial⟩) trivial (⟨t_same (by kernel_rfl) (by kernel_rfl), t_same (by kernel_rfl) (by kernel_rfl), trivial⟩))

theorem series_seven_n0_ok (qn : Int) (r : (List Int)) (hF : series_seven_n0 qn = some r) : Holds prog 213 [.v (.one (.nil)), .v (.one (.d (.int .u64 qn)))] ⟨[], []⟩ (fun tv m => tv = .v (.one (.own 0 none)) ∧ m = ⟨[(0, ⟨5, 1, List.map (encI .u8) r⟩)], []⟩) := by
  unfold series_seven_n0 at hF
  refine holds_of_awp hΓ (fn := f213) (c := cB f213) (A := 0) (nx := 0) (by kernel_rfl) (by kernel_rfl) (by kernel_rfl) (by kernel_rfl) (by kernel_rfl) (by kernel_rfl) (lowc_of (by kernel_rfl)) ?_
  show Awp prog 0 21 (cB f213) _ _
  refine awp_seq ?_
  refine awp_region' 0 1000 (by kernel_rfl) (by kernel_rfl) ?_
  refine aops_eff hΓ (.v (.one (.nil))) [] [] (by kernel_rfl) ?_
  refine aops_nil ?_
  refine awp_seq ?_
  refine awp_block ?_
  refine awp_to (st' := series_seven_n0_x1_H  ([], qn)) (to_see [] [0] ⟨[(0, ⟨5, 1, List.map (encI .u8) []⟩)], []⟩ [(0, .v (.one (.own 0 none))), (1, .v (.one (.d (.int .u64 qn))))] 1 (by kernel_rfl) (by kernel_rfl) (lowc_of (by kernel_rfl)) (⟨.inl ⟨by kernel_rfl, by kernel_rfl, Nat.zero_lt_succ _⟩, trivial⟩) trivial (⟨t_cell (c := .nil) (by kernel_rfl) (see_nilown rfl (by kernel_rfl) (by kernel_rfl)), t_same (by kernel_rfl) (by kernel_rfl), trivial⟩)) ?_
  obtain ⟨⟨vb1_1, vn1_1⟩, h3, hF⟩ := bind_some hF
  refine awp_sub (awp_loop' (series_seven_n0_x1_H ) series_seven_n0_x1_k (series_seven_n0_x1_S ) (by intro x; exact fun h => nomatch h) h3 (series_seven_n0_x1_ok )) ?_
  refine awp_seq ?_
  obtain ⟨h4, hF⟩ := gd_some hF
  refine awp_region' 1 6001 (by kernel_rfl) (by kernel_rfl) ?_
  refine aops_eff hΓ (.v (.one (.own 0 none))) [] [] (by kernel_rfl) ?_
  refine aops_eff hΓ (.v (.one (.d (.int .u64 vn1_1)))) [] [] (by kernel_rfl) ?_
  refine aops_eff hΓ (.v (.one (.d (.int .u8 (IntKind.wrap .u8 (vn1_1)))))) [] [] (by kernel_rfl) ?_
  refine aops_eff hΓ (.v (.one (.own 3001 none))) [(3001, some ⟨5, 1, List.map (encI .u8) ([IntKind.wrap .u8 (vn1_1)] : List Int)⟩)] [] (by kernel_rfl) ?_
  refine aops_eff hΓ (.v (.one (.own 4001 none))) [(0, none), (4001, some ⟨5, 1, List.map (encI .u8) (vb1_1 ++ ([IntKind.wrap .u8 (vn1_1)] : List Int))⟩)] [] (opx_of (by kernel_rfl) (by kernel_rfl) (eff_append (ti := ti45) (te := ti5) (tv := .v (.one (.own 3001 none))) (id := 0) (l := vb1_1) (ys := ([IntKind.wrap .u8 (vn1_1)] : List Int)) (us := [3001]) (f := (encI .u8)) (by kernel_rfl) rfl (by kernel_rfl) (by kernel_rfl) (by kernel_rfl) (by kernel_rfl) (by kernel_rfl) (fun _ => rfl) ⟨Nat.zero_lt_succ _, Nat.le_of_ble_eq_true (by kernel_rfl), Nat.zero_lt_succ _⟩ h4)) ?_
  refine aops_eff hΓ (.v (.one (.own 4001 none))) [] [] (by kernel_rfl) ?_
  refine aops_nil ?_
  refine awp_ret ?_
  obtain rfl := some_eq hF
  exact fin_intro (xs := [.one (.own 4001 none)]) (m' := ⟨[(0, ⟨5, 1, List.map (encI .u8) (vb1_1 ++ ([IntKind.wrap .u8 (vn1_1)] : List Int))⟩)], []⟩) (tv := (.v (.one (.own 0 none)))) (rl := [(0, 4001)]) (nl := []) (by kernel_rfl) (by kernel_rfl) (by kernel_rfl) (sees_of (by kernel_rfl) (⟨.inr ⟨by kernel_rfl, by kernel_rfl⟩, trivial⟩) trivial) (t_same (by kernel_rfl) (by kernel_rfl)) ⟨rfl, rfl⟩

/-! ### beaconfleet/series.doubled -/
theorem series_doubled_ok (qn : Int) (r : Int) (hF : series_doubled qn = some r) : Holds prog 214 [.v (.one (.d (.int .i64 qn)))] ⟨[], []⟩ (fun tv m => tv = .v (.one (.d (.int .u64 r))) ∧ m = ⟨[], []⟩) := by
  unfold series_doubled at hF
  refine holds_of_awp hΓ (fn := f214) (c := cB f214) (A := 0) (nx := 0) (by kernel_rfl) (by kernel_rfl) (by kernel_rfl) (by kernel_rfl) (by kernel_rfl) (by kernel_rfl) (lowc_of (by kernel_rfl)) ?_
  show Awp prog 0 12 (cB f214) _ _
  refine awp_seq ?_
  refine awp_region' 0 1000 (by kernel_rfl) (by kernel_rfl) ?_
  refine aops_eff hΓ (.v (.one (.d (.int .u64 0)))) [] [] (by kernel_rfl) ?_
  refine aops_nil ?_
  refine awp_seq ?_
  refine awp_seq ?_
  refine awp_region' 1000 3000 (by kernel_rfl) (by kernel_rfl) ?_
  refine aops_eff hΓ (.v (.one (.d (.int .i64 qn)))) [] [] (by kernel_rfl) ?_
  refine aops_eff hΓ (.v (.one (.d (.bool (decide (qn < 0)))))) [] [] (by kernel_rfl) ?_
  refine aops_nil ?_
  rcases cond_or hF with ⟨h1, hF⟩ | ⟨h1, hF⟩
  · refine awp_true (by kernel_rfl) h1 ?_
    refine awp_seq ?_
    refine awp_region' 3000 8000 (by kernel_rfl) (by kernel_rfl) ?_
    refine aops_eff hΓ (.v (.one (.d (.int .i64 qn)))) [] [] (by kernel_rfl) ?_
    refine aops_eff hΓ (.v (.one (.d (.int .i64 (IntKind.wrap .i64 (((-2) : Int) * qn)))))) [] [] (by kernel_rfl) ?_
    refine aops_eff hΓ (.v (.one (.d (.int .i64 (IntKind.wrap .i64 ((IntKind.wrap .i64 (((-2) : Int) * qn)) - 1)))))) [] [] (by kernel_rfl) ?_
    refine aops_eff hΓ (.v (.one (.d (.int .u64 (IntKind.wrap .u64 (IntKind.wrap .i64 ((IntKind.wrap .i64 (((-2) : Int) * qn)) - 1))))))) [] [] (by kernel_rfl) ?_
    refine aops_eff hΓ (.v (.one (.d (.int .u64 (IntKind.wrap .u64 (IntKind.wrap .i64 ((IntKind.wrap .i64 (((-2) : Int) * qn)) - 1))))))) [] [] (by kernel_rfl) ?_
    refine aops_nil ?_
    refine awp_ret ?_
    obtain rfl := some_eq hF
    exact fin_intro (xs := [.one (.d (.int .u64 (IntKind.wrap .u64 (IntKind.wrap .i64 ((IntKind.wrap .i64 (((-2) : Int) * qn)) - 1)))))]) (m' := ⟨[], []⟩) (tv := (.v (.one (.d (.int .u64 (IntKind.wrap .u64 (IntKind.wrap .i64 ((IntKind.wrap .i64 (((-2) : Int) * qn)) - 1)))))))) (rl := []) (nl := []) (by kernel_rfl) (by kernel_rfl) (by kernel_rfl) (sees_of (by kernel_rfl) trivial trivial) (t_same (by kernel_rfl) (by kernel_rfl)) ⟨rfl, rfl⟩
  · refine awp_false (by kernel_rfl) h1 ?_
    refine awp_skip ?_
    refine awp_seq ?_
    refine awp_region' 3000 7000 (by kernel_rfl) (by kernel_rfl) ?_
    refine aops_eff hΓ (.v (.one (.d (.int .i64 qn)))) [] [] (by kernel_rfl) ?_
    refine aops_eff hΓ (.v (.one (.d (.int .i64 (IntKind.wrap .i64 ((2 : Int) * qn)))))) [] [] (by kernel_rfl) ?_
    refine aops_eff hΓ (.v (.one (.d (.int .u64 (IntKind.wrap .u64 (IntKind.wrap .i64 ((2 : Int) * qn))))))) [] [] (by kernel_rfl) ?_
    refine aops_eff hΓ (.v (.one (.d (.int .u64 (IntKind.wrap .u64 (IntKind.wrap .i64 ((2 : Int) * qn))))))) [] [] (by kernel_rfl) ?_
    refine aops_nil ?_
    refine awp_ret ?_
    obtain rfl := some_eq hF
    exact fin_intro (xs := [.one (.d (.int .u64 (IntKind.wrap .u64 (IntKind.wrap .i64 ((2 : Int) * qn)))))]) (m' := ⟨[], []⟩) (tv := (.v (.one (.d (.int .u64 (IntKind.wrap .u64 (IntKind.wrap .i64 ((2 : Int) * qn)))))))) (rl := []) (nl := []) (by kernel_rfl) (by kernel_rfl) (by kernel_rfl) (sees_of (by kernel_rfl) trivial trivial) (t_same (by kernel_rfl) (by kernel_rfl)) ⟨rfl, rfl⟩

/-! ### beaconfleet/series.seven -/
def series_seven_o0_x1_k : ((List Int) × Int) → AEx
  | _ => .exit 0

def series_seven_o0_x1_S : ((List Int) × Int) → St
  | (vb1, vn1) => Mem.st ⟨[(0, ⟨5, 1, List.map (encI .u8) vb1⟩)], []⟩ (tl [(0, .v (.one (.own 0 none))), (1, .v (.one (.d (.int .u64 vn1))))]) 1

def series_seven_o0_x1_H : (List Int) × Int → St
  | (vb, vn) => Mem.st ⟨[(0, ⟨5, 1, List.map (encI .u8) vb⟩)], []⟩ (tl [(0, .v (.one (.own 0 none))), (1, .v (.one (.d (.int .u64 vn))))]) 1

theorem series_seven_o0_x1_ok (s : (List Int) × Int) (r : ((List Int) × Int) ⊕ (((List Int) × Int))) (hF : series_seven_o0_x1  s = some r) : Awp prog 0 21 (cL (cL (cL (cR (cB f213))))) (Out 0 (kk series_seven_o0_x1_k) (SS (series_seven_o0_x1_H ) (series_seven_o0_x1_S )) r) (series_seven_o0_x1_H  s) := by
  obtain ⟨vb, vn⟩ := s
  unfold series_seven_o0_x1 at hF
  refine awp_seq ?_
  refine awp_seq ?_
  refine awp_region' 1 2001 (by kernel_rfl) (by kernel_rfl) ?_
  refine aops_eff hΓ (.v (.one (.d (.int .u64 vn)))) [] [] (by kernel_rfl) ?_
  refine aops_eff hΓ (.v (.one (.d (.bool (decide (128 ≤ vn)))))) [] [] (by kernel_rfl) ?_
  refine aops_nil ?_
  rcases cond_or hF with ⟨h1, hF⟩ | ⟨h1, hF⟩
  · refine awp_true (by kernel_rfl) h1 ?_
    refine awp_skip ?_
    refine awp_block ?_
    obtain ⟨h2, hF⟩ := gd_some hF
    refine awp_region' 2001 13001 (by kernel_rfl) (by kernel_rfl) ?_
    refine aops_eff hΓ (.v (.one (.own 0 none))) [] [] (by kernel_rfl) ?_
    refine aops_eff hΓ (.v (.one (.d (.int .u64 vn)))) [] [] (by kernel_rfl) ?_
    refine aops_eff hΓ (.v (.one (.d (.int .u64 (ibits .and .u64 vn 127))))) [] [] (by kernel_rfl) ?_
    refine aops_eff hΓ (.v (.one (.d (.int .u8 (IntKind.wrap .u8 (ibits .and .u64 vn 127)))))) [] [] (by kernel_rfl) ?_
    refine aops_eff hΓ (.v (.one (.d (.int .u8 (ibits .or .u8 (IntKind.wrap .u8 (ibits .and .u64 vn 127)) 128))))) [] [] (by kernel_rfl) ?_
    refine aops_eff hΓ (.v (.one (.own 7001 none))) [(7001, some ⟨5, 1, List.map (encI .u8) ([ibits .or .u8 (IntKind.wrap .u8 (ibits .and .u64 vn 127)) 128] : List Int)⟩)] [] (by kernel_rfl) ?_
    refine aops_eff hΓ (.v (.one (.own 8001 none))) [(0, none), (8001, some ⟨5, 1, List.map (encI .u8) (vb ++ ([ibits .or .u8 (IntKind.wrap .u8 (ibits .and .u64 vn 127)) 128] : List Int))⟩)] [] (opx_of (by kernel_rfl) (by kernel_rfl) (eff_append (ti := ti45) (te := ti5) (tv := .v (.one (.own 7001 none))) (id := 0) (l := vb) (ys := ([ibits .or .u8 (IntKind.wrap .u8 (ibits .and .u64 vn 127)) 128] : List Int)) (us := [7001]) (f := (encI .u8)) (by kernel_rfl) rfl (by kernel_rfl) (by kernel_rfl) (by kernel_rfl) (by kernel_rfl) (by kernel_rfl) (fun _ => rfl) ⟨Nat.zero_lt_succ _, Nat.le_of_ble_eq_true (by kernel_rfl), Nat.zero_lt_succ _⟩ h2)) ?_
    refine aops_eff hΓ (.v (.one (.d (.int .u64 vn)))) [] [] (by kernel_rfl) ?_
    refine aops_eff hΓ (.v (.one (.d (.int .u64 (ishr .u64 vn 7))))) [] [] (by kernel_rfl) ?_
    refine aops_eff hΓ (.v (.one (.own 8001 none))) [] [] (by kernel_rfl) ?_
    refine aops_eff hΓ (.v (.one (.d (.int .u64 (ishr .u64 vn 7))))) [] [] (by kernel_rfl) ?_
    refine aops_nil ?_
    obtain rfl := some_eq hF
    exact out_intro rfl (to_see [(0, 8001)] [] ⟨[(0, ⟨5, 1, List.map (encI .u8) (vb ++ ([ibits .or .u8 (IntKind.wrap .u8 (ibits .and .u64 vn 127)) 128] : List Int))⟩)], []⟩ [(0, .v (.one (.own 0 none))), (1, .v (.one (.d (.int .u64 (ishr .u64 vn 7)))))] 1 (by kernel_rfl) (by kernel_rfl) (lowc_of (by kernel_rfl)) (⟨.inr ⟨by kernel_rfl, by kernel_rfl⟩, trivial⟩) trivial (⟨t_same (by kernel_rfl) (by kernel_rfl), t_same (by kernel_rfl) (by kernel_rfl), trivial⟩))
  · refine awp_false (by kernel_rfl) h1 ?_
    refine awp_exit ?_
    obtain rfl := some_eq hF
    exact out_intro rfl (to_see [] [] ⟨[(0, ⟨5, 1, List.map (encI .u8) vb⟩)], []⟩ [(0, .v (.one (.own 0 none))), (1, .v (.one (.d (.int .u64 vn))))] 1 (by kernel_rfl) (by kernel_rfl) (lowc_of (by kernel_rfl)) (⟨.inr ⟨by kernel_rfl, by kernel_rfl⟩, trivial⟩) trivial (⟨t_same (by kernel_rfl) (by kernel_rfl), t_same (by kernel_rfl) (by kernel_rfl), trivial⟩))

theorem series_seven_o0_ok (qb : List Int) (qn : Int) (r : (List Int)) (hF : series_seven_o0 qb qn = some r) : Holds prog 213 [.v (.one (.own 0 none)), .v (.one (.d (.int .u64 qn)))] ⟨[(0, ⟨5, 1, List.map (encI .u8) qb⟩)], []⟩ (fun tv m => tv = .v (.one (.own 0 none)) ∧ m = ⟨[(0, ⟨5, 1, List.map (encI .u8) r⟩)], []⟩) := by
  unfold series_seven_o0 at hF
  refine holds_of_awp hΓ (fn := f213) (c := cB f213) (A := 0) (nx := 1) (by kernel_rfl) (by kernel_rfl) (by kernel_rfl) (by kernel_rfl) (by kernel_rfl) (by kernel_rfl) (lowc_of (by kernel_rfl)) ?_
  show Awp prog 0 21 (cB f213) _ _
  refine awp_seq ?_
  refine awp_region' 1 1001 (by kernel_rfl) (by kernel_rfl) ?_
  refine aops_eff hΓ (.v (.one (.nil))) [] [] (by kernel_rfl) ?_
  refine aops_nil ?_
  refine awp_seq ?_
  refine awp_block ?_
  refine awp_to (st' := series_seven_o0_x1_H  (qb, qn)) (to_see [] [] ⟨[(0, ⟨5, 1, List.map (encI .u8) qb⟩)], []⟩ [(0, .v (.one (.own 0 none))), (1, .v (.one (.d (.int .u64 qn))))] 1 (by kernel_rfl) (by kernel_rfl) (lowc_of (by kernel_rfl)) (⟨.inr ⟨by kernel_rfl, by kernel_rfl⟩, trivial⟩) trivial (⟨t_same (by kernel_rfl) (by kernel_rfl), t_same (by kernel_rfl) (by kernel_rfl), trivial⟩)) ?_
  obtain ⟨⟨vb1_1, vn1_1⟩, h3, hF⟩ := bind_some hF
  refine awp_sub (awp_loop' (series_seven_o0_x1_H ) series_seven_o0_x1_k (series_seven_o0_x1_S ) (by intro x; exact fun h => nomatch h) h3 (series_seven_o0_x1_ok )) ?_
  refine awp_seq ?_
  obtain ⟨h4, hF⟩ := gd_some hF
  refine awp_region' 1 6001 (by kernel_rfl) (by kernel_rfl) ?_
  refine aops_eff hΓ (.v (.one (.own 0 none))) [] [] (by kernel_rfl) ?_
  refine aops_eff hΓ (.v (.one (.d (.int .u64 vn1_1)))) [] [] (by kernel_rfl) ?_
  refine aops_eff hΓ (.v (.one (.d (.int .u8 (IntKind.wrap .u8 (vn1_1)))))) [] [] (by kernel_rfl) ?_
  refine aops_eff hΓ (.v (.one (.own 3001 none))) [(3001, some ⟨5, 1, List.map (encI .u8) ([IntKind.wrap .u8 (vn1_1)] : List Int)⟩)] [] (by kernel_rfl) ?_
  refine aops_eff hΓ (.v (.one (.own 4001 none))) [(0, none), (4001, some ⟨5, 1, List.map (encI .u8) (vb1_1 ++ ([IntKind.wrap .u8 (vn1_1)] : List Int))⟩)] [] (opx_of (by kernel_rfl) (by kernel_rfl) (eff_append (ti := ti45) (te := ti5) (tv := .v (.one (.own 3001 none))) (id := 0) (l := vb1_1) (ys := ([IntKind.wrap .u8 (vn1_1)] : List Int)) (us := [3001]) (f := (encI .u8)) (by kernel_rfl) rfl (by kernel_rfl) (by kernel_rfl) (by kernel_rfl) (by kernel_rfl) (by kernel_rfl) (fun _ => rfl) ⟨Nat.zero_lt_succ _, Nat.le_of_ble_eq_true (by kernel_rfl), Nat.zero_lt_succ _⟩ h4)) ?_
  refine aops_eff hΓ (.v (.one (.own 4001 none))) [] [] (by kernel_rfl) ?_
  refine aops_nil ?_
  refine awp_ret ?_
  obtain rfl := some_eq hF
  exact fin_intro (xs := [.one (.own 4001 none)]) (m' := ⟨[(0, ⟨5, 1, List.map (encI .u8) (vb1_1 ++ ([IntKind.wrap .u8 (vn1_1)] : List Int))⟩)], []⟩) (tv := (.v (.one (.own 0 none)))) (rl := [(0, 4001)]) (nl := []) (by kernel_rfl) (by kernel_rfl) (by kernel_rfl) (sees_of (by kernel_rfl) (⟨.inr ⟨by kernel_rfl, by kernel_rfl⟩, trivial⟩) trivial) (t_same (by kernel_rfl) (by kernel_rfl)) ⟨rfl, rfl⟩

/-! ### beaconfleet/series.pack -/
def series_pack_x2_k : Int → AEx
  | _ => .normal

def series_pack_x2_S (ql : List api_Sample) (vat : Int) (vby : Int) (vx : Int) (vy1 : api_Sample) (vr8 : List Int) : Int → St
  | vby2 => Mem.st ⟨[(0, ⟨5, 1, List.map (encI .u8) vr8⟩)], [(1, [.d (.str vy1.Device), .d (.str vy1.Metric), .d (.int .i64 vy1.At), .d (.int .i64 vy1.Value)])]⟩ (tl [(3, .v (.one (.own 0 none))), (5, .v (.one (.d (.int .i64 vby2)))), (8, .v (.one (.box 1 0))), (14, .v (.one (.d (.lst (List.map api_Sample.enc ql))))), (15, .v (.one (.d (.int .i64 (ql.length : Int))))), (16, .v (.one (.d (.int .i64 vx))))]) 2

theorem series_pack_x2_ok (ql : List api_Sample) (vat : Int) (vby : Int) (vx : Int) (vy1 : api_Sample) (vr8 : List Int) (r : Int) (hF : series_pack_x2 vat vby vx vy1 = some r) : Awp prog 0 47 (cL (cR (cR (cR (cR (cL (cL (cR (cR (cL (cL (cR (cL (cR (cR (cR (cB f123))))))))))))))))) (Out 0 series_pack_x2_k (series_pack_x2_S ql vat vby vx vy1 vr8) r) (Mem.st ⟨[(0, ⟨5, 1, List.map (encI .u8) vr8⟩)], [(1, [.d (.str vy1.Device), .d (.str vy1.Metric), .d (.int .i64 vy1.At), .d (.int .i64 vy1.Value)])]⟩ (tl [(3, .v (.one (.own 0 none))), (5, .v (.one (.d (.int .i64 vby)))), (7, .v (.one (.d (.int .i64 vx)))), (8, .v (.one (.box 1 0))), (9, .v (.one (.d (.int .i64 (IntKind.wrap .i64 (vy1.At - vat)))))), (14, .v (.one (.d (.lst (List.map api_Sample.enc ql))))), (15, .v (.one (.d (.int .i64 (ql.length : Int))))), (16, .v (.one (.d (.int .i64 vx))))]) 2) := by
  unfold series_pack_x2 at hF
  refine awp_seq ?_
  refine awp_region' 2 2002 (by kernel_rfl) (by kernel_rfl) ?_
  refine aops_eff hΓ (.v (.one (.d (.int .i64 vx)))) [] [] (by kernel_rfl) ?_
  refine aops_eff hΓ (.v (.one (.d (.bool (decide (0 < vx)))))) [] [] (by kernel_rfl) ?_
  refine aops_nil ?_
  rcases cond_or hF with ⟨h8, hF⟩ | ⟨h8, hF⟩
  · refine awp_true (by kernel_rfl) h8 ?_
    refine awp_region' 2002 4002 (by kernel_rfl) (by kernel_rfl) ?_
    refine aops_eff hΓ (.v (.one (.d (.int .i64 (IntKind.wrap .i64 (vy1.At - vat)))))) [] [] (by kernel_rfl) ?_
    refine aops_eff hΓ (.v (.one (.d (.int .i64 (IntKind.wrap .i64 (vy1.At - vat)))))) [] [] (by kernel_rfl) ?_
    refine aops_nil ?_
    obtain rfl := some_eq hF
    exact out_intro rfl (to_see [] [] ⟨[(0, ⟨5, 1, List.map (encI .u8) vr8⟩)], [(1, [.d (.str vy1.Device), .d (.str vy1.Metric), .d (.int .i64 vy1.At), .d (.int .i64 vy1.Value)])]⟩ [(3, .v (.one (.own 0 none))), (5, .v (.one (.d (.int .i64 (IntKind.wrap .i64 (vy1.At - vat)))))), (8, .v (.one (.box 1 0))), (14, .v (.one (.d (.lst (List.map api_Sample.enc ql))))), (15, .v (.one (.d (.int .i64 (ql.length : Int))))), (16, .v (.one (.d (.int .i64 vx))))] 2 (by kernel_rfl) (by kernel_rfl) (lowc_of (by kernel_rfl)) (⟨.inr ⟨by kernel_rfl, by kernel_rfl⟩, trivial⟩) (⟨⟨by kernel_rfl, [.d (.str vy1.Device), .d (.str vy1.Metric), .d (.int .i64 vy1.At), .d (.int .i64 vy1.Value)], by kernel_rfl, l2_same (by kernel_rfl) (by kernel_rfl)⟩, trivial⟩) (⟨t_same (by kernel_rfl) (by kernel_rfl), t_same (by kernel_rfl) (by kernel_rfl), t_same (by kernel_rfl) (by kernel_rfl), t_same (by kernel_rfl) (by kernel_rfl), t_same (by kernel_rfl) (by kernel_rfl), t_same (by kernel_rfl) (by kernel_rfl), trivial⟩))
  · refine awp_false (by kernel_rfl) h8 ?_
    refine awp_skip ?_
    obtain rfl := some_eq hF
    exact out_intro rfl (to_see [] [] ⟨[(0, ⟨5, 1, List.map (encI .u8) vr8⟩)], [(1, [.d (.str vy1.Device), .d (.str vy1.Metric), .d (.int .i64 vy1.At), .d (.int .i64 vy1.Value)])]⟩ [(3, .v (.one (.own 0 none))), (5, .v (.one (.d (.int .i64 vby)))), (8, .v (.one (.box 1 0))), (14, .v (.one (.d (.lst (List.map api_Sample.enc ql))))), (15, .v (.one (.d (.int .i64 (ql.length : Int))))), (16, .v (.one (.d (.int .i64 vx))))] 2 (by kernel_rfl) (by kernel_rfl) (lowc_of (by kernel_rfl)) (⟨.inr ⟨by kernel_rfl, by kernel_rfl⟩, trivial⟩) (⟨⟨by kernel_rfl, [.d (.str vy1.Device), .d (.str vy1.Metric), .d (.int .i64 vy1.At), .d (.int .i64 vy1.Value)], by kernel_rfl, l2_same (by kernel_rfl) (by kernel_rfl)⟩, trivial⟩) (⟨t_same (by kernel_rfl) (by kernel_rfl), t_same (by kernel_rfl) (by kernel_rfl), t_same (by kernel_rfl) (by kernel_rfl), t_same (by kernel_rfl) (by kernel_rfl), t_same (by kernel_rfl) (by kernel_rfl), t_same (by kernel_rfl) (by kernel_rfl), trivial⟩))

def series_pack_x1_k : (List Int) → AEx
  | _ => .exit 0

def series_pack_x1_S (ql : List api_Sample) : (List Int) → St
  | vout1 => Mem.st ⟨[(0, ⟨5, 1, List.map (encI .u8) vout1⟩)], []⟩ (tl [(3, .v (.one (.own 0 none)))]) 1

def series_pack_x1_H (ql : List api_Sample) : (List Int) × Int × Int × Int × Int → St
  | (vout, vat, vby, vvalue, vx) => Mem.st ⟨[(0, ⟨5, 1, List.map (encI .u8) vout⟩)], []⟩ (tl [(3, .v (.one (.own 0 none))), (4, .v (.one (.d (.int .i64 vat)))), (5, .v (.one (.d (.int .i64 vby)))), (6, .v (.one (.d (.int .i64 vvalue)))), (14, .v (.one (.d (.lst (List.map api_Sample.enc ql))))), (15, .v (.one (.d (.int .i64 (ql.length : Int))))), (16, .v (.one (.d (.int .i64 vx))))]) 1

theorem series_pack_x1_ok (ql : List api_Sample) (s : (List Int) × Int × Int × Int × Int) (r : ((List Int) × Int × Int × Int × Int) ⊕ ((List Int))) (hF : series_pack_x1 ql s = some r) : Awp prog 0 47 (cL (cL (cR (cL (cR (cR (cR (cB f123)))))))) (Out 0 (kk series_pack_x1_k) (SS (series_pack_x1_H ql) (series_pack_x1_S ql)) r) (series_pack_x1_H ql s) := by
  obtain ⟨vout, vat, vby, vvalue, vx⟩ := s
  unfold series_pack_x1 at hF
  refine awp_seq ?_
  refine awp_region' 1 1001 (by kernel_rfl) (by kernel_rfl) ?_
  refine aops_eff hΓ (.v (.one (.d (.bool (decide (vx < (ql.length : Int))))))) [] [] (by kernel_rfl) ?_
  refine aops_nil ?_
  refine awp_seq ?_
  rcases cond_or hF with ⟨h2, hF⟩ | ⟨h2, hF⟩
  · refine awp_true (by kernel_rfl) h2 ?_
    refine awp_skip ?_
    refine awp_seq ?_
    refine awp_block ?_
    refine awp_seq ?_
    obtain ⟨vy1, h3, hF⟩ := bind_some hF
    refine awp_region' 1001 7001 (by kernel_rfl) (by kernel_rfl) ?_
    refine aops_eff hΓ (.v (.one (.d (.int .i64 vx)))) [] [] (by kernel_rfl) ?_
    refine aops_eff hΓ (.v (.one (.cp [.str vy1.Device, .str vy1.Metric, .int .i64 vy1.At, .int .i64 vy1.Value]))) [] [] (opx_of (by kernel_rfl) (by kernel_rfl) (eff_indexAddr (k := .i64) (ti := ti26) (te := ti42) (l := ql) (f := api_Sample.enc) (y := vy1) (by kernel_rfl) rfl (by kernel_rfl) (by kernel_rfl) (by kernel_rfl) h3 (by kernel_rfl))) ?_
    refine aops_eff hΓ (.v (.agg [.d (.str vy1.Device), .d (.str vy1.Metric), .d (.int .i64 vy1.At), .d (.int .i64 vy1.Value)])) [] [] (by kernel_rfl) ?_
    refine aops_eff hΓ (.v (.one (.box 4001 0))) [] [(4001, some [.d (.str ([] : List UInt8)), .d (.str ([] : List UInt8)), .d (.int .i64 0), .d (.int .i64 0)])] (by kernel_rfl) ?_
    refine aops_eff hΓ (.v (.one (.d (.int .i64 vx)))) [] [] (by kernel_rfl) ?_
    refine aops_eff hΓ (.undef) [] [(4001, some [.d (.str vy1.Device), .d (.str vy1.Metric), .d (.int .i64 vy1.At), .d (.int .i64 vy1.Value)])] (by kernel_rfl) ?_
    refine aops_nil ?_
    refine awp_seq ?_
    refine awp_region' 7001 12001 (by kernel_rfl) (by kernel_rfl) ?_
    refine aops_eff hΓ (.v (.one (.box 4001 2))) [] [] (by kernel_rfl) ?_
    refine aops_eff hΓ (.v (.one (.d (.int .i64 vy1.At)))) [] [] (by kernel_rfl) ?_
    refine aops_eff hΓ (.v (.one (.d (.int .i64 vat)))) [] [] (by kernel_rfl) ?_
    refine aops_eff hΓ (.v (.one (.d (.int .i64 (IntKind.wrap .i64 (vy1.At - vat)))))) [] [] (by kernel_rfl) ?_
    refine aops_eff hΓ (.v (.one (.d (.int .i64 (IntKind.wrap .i64 (vy1.At - vat)))))) [] [] (by kernel_rfl) ?_
    refine aops_nil ?_
    refine awp_seq ?_
    obtain ⟨vr5, h4, hF⟩ := bind_some hF
    obtain ⟨vr6, h5, hF⟩ := bind_some hF
    refine awp_region' 12001 19001 (by kernel_rfl) (by kernel_rfl) ?_
    refine aops_eff hΓ (.v (.one (.own 0 none))) [] [] (by kernel_rfl) ?_
    refine aops_eff hΓ (.v (.one (.d (.int .i64 (IntKind.wrap .i64 (vy1.At - vat)))))) [] [] (by kernel_rfl) ?_
    refine aops_eff hΓ (.v (.one (.d (.int .i64 vby)))) [] [] (by kernel_rfl) ?_
    refine aops_eff hΓ (.v (.one (.d (.int .i64 (IntKind.wrap .i64 ((IntKind.wrap .i64 (vy1.At - vat)) - vby)))))) [] [] (by kernel_rfl) ?_
    refine aops_call (by kernel_rfl) (by kernel_rfl) (does_call (f := (.func 214)) (g := 214) (caps := []) (tvs := [.v (.one (.d (.int .i64 (IntKind.wrap .i64 ((IntKind.wrap .i64 (vy1.At - vat)) - vby)))))]) (al := [.v (.one (.d (.int .i64 (IntKind.wrap .i64 ((IntKind.wrap .i64 (vy1.At - vat)) - vby)))))]) (m := ⟨[], []⟩) (m' := ⟨[], []⟩) (tv := .v (.one (.d (.int .u64 vr5)))) (lens := []) rfl (by kernel_rfl) (by kernel_rfl) (sees_of (rl := []) (nl := []) (by kernel_rfl) trivial trivial) (⟨t_same (by kernel_rfl) (by kernel_rfl), trivial⟩) (series_doubled_ok _ _ h4) (left_of (by kernel_rfl))) (.v (.one (.d (.int .u64 vr5)))) [] [] (by kernel_rfl) ?_
    refine aops_call (by kernel_rfl) (by kernel_rfl) (does_call (f := (.func 213)) (g := 213) (caps := []) (tvs := [.v (.one (.own 0 none)), .v (.one (.d (.int .u64 vr5)))]) (al := [.v (.one (.own 0 none)), .v (.one (.d (.int .u64 vr5)))]) (m := ⟨[(0, ⟨5, 1, List.map (encI .u8) vout⟩)], []⟩) (m' := ⟨[(0, ⟨5, 1, List.map (encI .u8) vr6⟩)], []⟩) (tv := .v (.one (.own 0 none))) (lens := []) rfl (by kernel_rfl) (by kernel_rfl) (sees_of (rl := []) (nl := []) (by kernel_rfl) (⟨.inr ⟨by kernel_rfl, by kernel_rfl⟩, trivial⟩) trivial) (⟨t_same (by kernel_rfl) (by kernel_rfl), t_same (by kernel_rfl) (by kernel_rfl), trivial⟩) (series_seven_o0_ok _ _ _ h5) (left_of (by kernel_rfl))) (.v (.one (.own 17001 none))) [(0, none), (17001, some ⟨5, 1, List.map (encI .u8) vr6⟩)] [] (by kernel_rfl) ?_
    refine aops_eff hΓ (.v (.one (.own 17001 none))) [] [] (by kernel_rfl) ?_
    refine aops_nil ?_
    refine awp_seq ?_
    obtain ⟨vr7, h6, hF⟩ := bind_some hF
    obtain ⟨vr8, h7, hF⟩ := bind_some hF
    refine awp_region' 19001 27001 (by kernel_rfl) (by kernel_rfl) ?_
    refine aops_eff hΓ (.v (.one (.own 17001 none))) [] [] (by kernel_rfl) ?_
    refine aops_eff hΓ (.v (.one (.box 4001 3))) [] [] (by kernel_rfl) ?_
    refine aops_eff hΓ (.v (.one (.d (.int .i64 vy1.Value)))) [] [] (by kernel_rfl) ?_
    refine aops_eff hΓ (.v (.one (.d (.int .i64 vvalue)))) [] [] (by kernel_rfl) ?_
    refine aops_eff hΓ (.v (.one (.d (.int .i64 (IntKind.wrap .i64 (vy1.Value - vvalue)))))) [] [] (by kernel_rfl) ?_
    refine aops_call (by kernel_rfl) (by kernel_rfl) (does_call (f := (.func 214)) (g := 214) (caps := []) (tvs := [.v (.one (.d (.int .i64 (IntKind.wrap .i64 (vy1.Value - vvalue)))))]) (al := [.v (.one (.d (.int .i64 (IntKind.wrap .i64 (vy1.Value - vvalue)))))]) (m := ⟨[], []⟩) (m' := ⟨[], []⟩) (tv := .v (.one (.d (.int .u64 vr7)))) (lens := []) rfl (by kernel_rfl) (by kernel_rfl) (sees_of (rl := []) (nl := []) (by kernel_rfl) trivial trivial) (⟨t_same (by kernel_rfl) (by kernel_rfl), trivial⟩) (series_doubled_ok _ _ h6) (left_of (by kernel_rfl))) (.v (.one (.d (.int .u64 vr7)))) [] [] (by kernel_rfl) ?_
    refine aops_call (by kernel_rfl) (by kernel_rfl) (does_call (f := (.func 213)) (g := 213) (caps := []) (tvs := [.v (.one (.own 17001 none)), .v (.one (.d (.int .u64 vr7)))]) (al := [.v (.one (.own 0 none)), .v (.one (.d (.int .u64 vr7)))]) (m := ⟨[(0, ⟨5, 1, List.map (encI .u8) vr6⟩)], []⟩) (m' := ⟨[(0, ⟨5, 1, List.map (encI .u8) vr8⟩)], []⟩) (tv := .v (.one (.own 0 none))) (lens := []) rfl (by kernel_rfl) (by kernel_rfl) (sees_of (rl := [(0, 17001)]) (nl := []) (by kernel_rfl) (⟨.inr ⟨by kernel_rfl, by kernel_rfl⟩, trivial⟩) trivial) (⟨t_same (by kernel_rfl) (by kernel_rfl), t_same (by kernel_rfl) (by kernel_rfl), trivial⟩) (series_seven_o0_ok _ _ _ h7) (left_of (by kernel_rfl))) (.v (.one (.own 25001 none))) [(17001, none), (25001, some ⟨5, 1, List.map (encI .u8) vr8⟩)] [] (by kernel_rfl) ?_
    refine aops_eff hΓ (.v (.one (.own 25001 none))) [] [] (by kernel_rfl) ?_
    refine aops_nil ?_
    refine awp_seq ?_
    refine awp_to (to_see [(0, 25001), (1, 4001)] [] ⟨[(0, ⟨5, 1, List.map (encI .u8) vr8⟩)], [(1, [.d (.str vy1.Device), .d (.str vy1.Metric), .d (.int .i64 vy1.At), .d (.int .i64 vy1.Value)])]⟩ [(3, .v (.one (.own 0 none))), (5, .v (.one (.d (.int .i64 vby)))), (7, .v (.one (.d (.int .i64 vx)))), (8, .v (.one (.box 1 0))), (9, .v (.one (.d (.int .i64 (IntKind.wrap .i64 (vy1.At - vat)))))), (14, .v (.one (.d (.lst (List.map api_Sample.enc ql))))), (15, .v (.one (.d (.int .i64 (ql.length : Int))))), (16, .v (.one (.d (.int .i64 vx))))] 2 (by kernel_rfl) (by kernel_rfl) (lowc_of (by kernel_rfl)) (⟨.inr ⟨by kernel_rfl, by kernel_rfl⟩, trivial⟩) (⟨⟨by kernel_rfl, [.d (.str vy1.Device), .d (.str vy1.Metric), .d (.int .i64 vy1.At), .d (.int .i64 vy1.Value)], by kernel_rfl, l2_same (by kernel_rfl) (by kernel_rfl)⟩, trivial⟩) (⟨t_same (by kernel_rfl) (by kernel_rfl), t_same (by kernel_rfl) (by kernel_rfl), t_same (by kernel_rfl) (by kernel_rfl), t_same (by kernel_rfl) (by kernel_rfl), t_same (by kernel_rfl) (by kernel_rfl), t_same (by kernel_rfl) (by kernel_rfl), t_same (by kernel_rfl) (by kernel_rfl), t_same (by kernel_rfl) (by kernel_rfl), trivial⟩)) ?_
    obtain ⟨vby2_1, h9, hF⟩ := bind_some hF
    refine awp_sub (series_pack_x2_ok ql vat vby vx vy1 vr8 _ h9) ?_
    refine awp_region_any' hm 2 6002 [(some ⟨.v (.one (.box 1 2)), [], [], []⟩, [1]), (some ⟨.v (.one (.d (.int .i64 vy1.At))), [], [], []⟩, [1]), (some ⟨.v (.one (.box 1 3)), [], [], []⟩, [1]), (some ⟨.v (.one (.d (.int .i64 vy1.Value))), [], [], []⟩, [1]), (some ⟨.v (.one (.d (.int .i64 vy1.At))), [], [], []⟩, []), (some ⟨.v (.one (.d (.int .i64 vy1.Value))), [], [], []⟩, [])] [[], [0], [], [2], [0, 1], [0, 1, 2, 3, 4]] (by kernel_rfl) (by kernel_rfl) (by kernel_rfl) (by kernel_rfl) ?_
    refine And.intro (step_eff hΓ (.v (.one (.box 1 2))) [] [] (by kernel_rfl) (by kernel_rfl)) ?_
    refine And.intro (step_eff hΓ (.v (.one (.d (.int .i64 vy1.At)))) [] [] (by kernel_rfl) (by kernel_rfl)) ?_
    refine And.intro (step_eff hΓ (.v (.one (.box 1 3))) [] [] (by kernel_rfl) (by kernel_rfl)) ?_
    refine And.intro (step_eff hΓ (.v (.one (.d (.int .i64 vy1.Value)))) [] [] (by kernel_rfl) (by kernel_rfl)) ?_
    refine And.intro (step_eff hΓ (.v (.one (.d (.int .i64 vy1.At)))) [] [] (by kernel_rfl) (by kernel_rfl)) ?_
    refine And.intro (step_eff hΓ (.v (.one (.d (.int .i64 vy1.Value)))) [] [] (by kernel_rfl) (by kernel_rfl)) ?_
    refine awp_region' 6002 8002 (by kernel_rfl) (by kernel_rfl) ?_
    refine aops_eff hΓ (.v (.one (.d (.int .i64 (IntKind.wrap .i64 (vx + 1)))))) [] [] (by kernel_rfl) ?_
    refine aops_eff hΓ (.v (.one (.d (.int .i64 (IntKind.wrap .i64 (vx + 1)))))) [] [] (by kernel_rfl) ?_
    refine aops_nil ?_
    obtain rfl := some_eq hF
    exact out_intro rfl (to_see [] [] ⟨[(0, ⟨5, 1, List.map (encI .u8) vr8⟩)], []⟩ [(3, .v (.one (.own 0 none))), (4, .v (.one (.d (.int .i64 vy1.At)))), (5, .v (.one (.d (.int .i64 vby2_1)))), (6, .v (.one (.d (.int .i64 vy1.Value)))), (14, .v (.one (.d (.lst (List.map api_Sample.enc ql))))), (15, .v (.one (.d (.int .i64 (ql.length : Int))))), (16, .v (.one (.d (.int .i64 (IntKind.wrap .i64 (vx + 1))))))] 1 (by kernel_rfl) (by kernel_rfl) (lowc_of (by kernel_rfl)) (⟨.inr ⟨by kernel_rfl, by kernel_rfl⟩, trivial⟩) trivial (⟨t_same (by kernel_rfl) (by kernel_rfl), t_same (by kernel_rfl) (by kernel_rfl), t_same (by kernel_rfl) (by kernel_rfl), t_same (by kernel_rfl) (by kernel_rfl), t_same (by kernel_rfl) (by kernel_rfl), t_same (by kernel_rfl) (by kernel_rfl), t_same (by kernel_rfl) (by kernel_rfl), trivial⟩))
  · refine awp_false (by kernel_rfl) h2 ?_
    refine awp_exit ?_
    obtain rfl := some_eq hF
    exact out_intro rfl (to_see [] [] ⟨[(0, ⟨5, 1, List.map (encI .u8) vout⟩)], []⟩ [(3, .v (.one (.own 0 none)))] 1 (by kernel_rfl) (by kernel_rfl) (lowc_of (by kernel_rfl)) (⟨.inr ⟨by kernel_rfl, by kernel_rfl⟩, trivial⟩) trivial (⟨t_same (by kernel_rfl) (by kernel_rfl), trivial⟩))

theorem series_pack_ok (ql : List api_Sample) (r : (List Int)) (hF : series_pack ql = some r) : Holds prog 123 [.v (.one (.d (.lst (List.map api_Sample.enc ql))))] ⟨[], []⟩ (fun tv m => tv = .v (.one (.own 0 none)) ∧ m = ⟨[(0, ⟨5, 1, List.map (encI .u8) r⟩)], []⟩) := by
  unfold series_pack at hF
  refine holds_of_awp hΓ (fn := f123) (c := cB f123) (A := 0) (nx := 0) (by kernel_rfl) (by kernel_rfl) (by kernel_rfl) (by kernel_rfl) (by kernel_rfl) (by kernel_rfl) (lowc_of (by kernel_rfl)) ?_
  show Awp prog 0 47 (cB f123) _ _
  refine awp_seq ?_
  refine awp_region' 0 1000 (by kernel_rfl) (by kernel_rfl) ?_
  refine aops_eff hΓ (.v (.one (.nil))) [] [] (by kernel_rfl) ?_
  refine aops_nil ?_
  refine awp_seq ?_
  obtain ⟨vr, h1, hF⟩ := bind_some hF
  refine awp_region' 1000 6000 (by kernel_rfl) (by kernel_rfl) ?_
  refine aops_eff hΓ (.v (.one (.d (.lst (List.map api_Sample.enc ql))))) [] [] (by kernel_rfl) ?_
  refine aops_eff hΓ (.v (.one (.d (.int .i64 (ql.length : Int))))) [] [] (opx_len (f := api_Sample.enc) (l := ql) (by kernel_rfl)) ?_
  refine aops_eff hΓ (.v (.one (.d (.int .u64 (IntKind.wrap .u64 ((ql.length : Int))))))) [] [] (by kernel_rfl) ?_
  refine aops_call (by kernel_rfl) (by kernel_rfl) (does_call (f := (.func 213)) (g := 213) (caps := []) (tvs := [.v (.one (.nil)), .v (.one (.d (.int .u64 (IntKind.wrap .u64 ((ql.length : Int))))))]) (al := [.v (.one (.nil)), .v (.one (.d (.int .u64 (IntKind.wrap .u64 ((ql.length : Int))))))]) (m := ⟨[], []⟩) (m' := ⟨[(0, ⟨5, 1, List.map (encI .u8) vr⟩)], []⟩) (tv := .v (.one (.own 0 none))) (lens := []) rfl (by kernel_rfl) (by kernel_rfl) (sees_of (rl := []) (nl := []) (by kernel_rfl) trivial trivial) (⟨t_same (by kernel_rfl) (by kernel_rfl), t_same (by kernel_rfl) (by kernel_rfl), trivial⟩) (series_seven_n0_ok _ _ h1) (left_of (by kernel_rfl))) (.v (.one (.own 4000 none))) [(4000, some ⟨5, 1, List.map (encI .u8) vr⟩)] [] (by kernel_rfl) ?_
  refine aops_eff hΓ (.v (.one (.own 4000 none))) [] [] (by kernel_rfl) ?_
  refine aops_nil ?_
  refine awp_seq ?_
  refine awp_region' 6000 9000 (by kernel_rfl) (by kernel_rfl) ?_
  refine aops_eff hΓ (.v (.one (.d (.int .i64 0)))) [] [] (by kernel_rfl) ?_
  refine aops_eff hΓ (.v (.one (.d (.int .i64 0)))) [] [] (by kernel_rfl) ?_
  refine aops_eff hΓ (.v (.one (.d (.int .i64 0)))) [] [] (by kernel_rfl) ?_
  refine aops_nil ?_
  refine awp_seq ?_
  refine awp_seq ?_
  refine awp_region' 9000 12000 (by kernel_rfl) (by kernel_rfl) ?_
  refine aops_eff hΓ (.v (.one (.d (.lst (List.map api_Sample.enc ql))))) [] [] (by kernel_rfl) ?_
  refine aops_eff hΓ (.v (.one (.d (.int .i64 (ql.length : Int))))) [] [] (opx_len (f := api_Sample.enc) (l := ql) (by kernel_rfl)) ?_
  refine aops_eff hΓ (.v (.one (.d (.int .i64 0)))) [] [] (by kernel_rfl) ?_
  refine aops_nil ?_
  refine awp_block ?_
  refine awp_to (st' := series_pack_x1_H ql (vr, 0, 0, 0, 0)) (to_see [(0, 4000)] [] ⟨[(0, ⟨5, 1, List.map (encI .u8) vr⟩)], []⟩ [(3, .v (.one (.own 0 none))), (4, .v (.one (.d (.int .i64 0)))), (5, .v (.one (.d (.int .i64 0)))), (6, .v (.one (.d (.int .i64 0)))), (14, .v (.one (.d (.lst (List.map api_Sample.enc ql))))), (15, .v (.one (.d (.int .i64 (ql.length : Int))))), (16, .v (.one (.d (.int .i64 0))))] 1 (by kernel_rfl) (by kernel_rfl) (lowc_of (by kernel_rfl)) (⟨.inr ⟨by kernel_rfl, by kernel_rfl⟩, trivial⟩) trivial (⟨t_same (by kernel_rfl) (by kernel_rfl), t_same (by kernel_rfl) (by kernel_rfl), t_same (by kernel_rfl) (by kernel_rfl), t_same (by kernel_rfl) (by kernel_rfl), t_same (by kernel_rfl) (by kernel_rfl), t_same (by kernel_rfl) (by kernel_rfl), t_same (by kernel_rfl) (by kernel_rfl), trivial⟩)) ?_
  obtain ⟨vout1_1, h10, hF⟩ := bind_some hF
  refine awp_sub (awp_loop' (series_pack_x1_H ql) series_pack_x1_k (series_pack_x1_S ql) (by intro x; exact fun h => nomatch h) h10 (series_pack_x1_ok ql)) ?_
  refine awp_seq ?_
  refine awp_region' 1 2001 (by kernel_rfl) (by kernel_rfl) ?_
  refine aops_eff hΓ (.v (.one (.own 0 none))) [] [] (by kernel_rfl) ?_
  refine aops_eff hΓ (.v (.one (.own 0 none))) [] [] (by kernel_rfl) ?_
  refine aops_nil ?_
  refine awp_ret ?_
  obtain rfl := some_eq hF
  exact fin_intro (xs := [.one (.own 0 none)]) (m' := ⟨[(0, ⟨5, 1, List.map (encI .u8) vout1_1⟩)], []⟩) (tv := (.v (.one (.own 0 none)))) (rl := []) (nl := []) (by kernel_rfl) (by kernel_rfl) (by kernel_rfl) (sees_of (by kernel_rfl) (⟨.inr ⟨by kernel_rfl, by kernel_rfl⟩, trivial⟩) trivial) (t_same (by kernel_rfl) (by kernel_rfl)) ⟨rfl, rfl⟩

/-! ### beaconfleet/series.Pack -/
theorem series_Pack_o0_ok (ql : List api_Sample) (r : (List Int) × Int) (hF : series_Pack_o0 ql = some r) : Holds prog 29 [.v (.one (.own 0 none))] ⟨[(0, ⟨42, 4, List.map api_Sample.enc ql⟩)], []⟩ (fun tv m => tv = .tup [.one (.own 0 none), .one (.d (.int .i64 r.2))] ∧ m = ⟨[(0, ⟨5, 1, List.map (encI .u8) r.1⟩)], []⟩) := by
  unfold series_Pack_o0 at hF
  refine holds_of_awp hΓ (fn := f29) (c := cB f29) (A := 0) (nx := 1) (by kernel_rfl) (by kernel_rfl) (by kernel_rfl) (by kernel_rfl) (by kernel_rfl) (by kernel_rfl) (lowc_of (by kernel_rfl)) ?_
  show Awp prog 0 12 (cB f29) _ _
  refine awp_seq ?_
  refine awp_region' 1 2001 (by kernel_rfl) (by kernel_rfl) ?_
  refine aops_eff hΓ (.v (.one (.nil))) [] [] (by kernel_rfl) ?_
  refine aops_eff hΓ (.v (.one (.d (.int .i64 0)))) [] [] (by kernel_rfl) ?_
  refine aops_nil ?_
  refine awp_to (to_see [] [] ⟨[], []⟩ [(0, .v (.one (.d (.lst (List.map api_Sample.enc ql)))))] 0 (by kernel_rfl) (by kernel_rfl) (lowc_of (by kernel_rfl)) trivial trivial (⟨t_cell (c := .own 0 none) (by kernel_rfl) (see_own (us := [0]) trivial rfl (by kernel_rfl) (by kernel_rfl)), trivial⟩)) ?_
  refine awp_seq ?_
  refine awp_seq ?_
  obtain ⟨vr1, h1, hF⟩ := bind_some hF
  refine awp_region' 0 3000 (by kernel_rfl) (by kernel_rfl) ?_
  refine aops_eff hΓ (.v (.one (.d (.lst (List.map api_Sample.enc ql))))) [] [] (by kernel_rfl) ?_
  refine aops_call (by kernel_rfl) (by kernel_rfl) (does_call (f := (.func 122)) (g := 122) (caps := []) (tvs := [.v (.one (.d (.lst (List.map api_Sample.enc ql))))]) (al := [.v (.one (.d (.lst (List.map api_Sample.enc ql))))]) (m := ⟨[], []⟩) (m' := ⟨[], []⟩) (tv := .v (.one (.d (.int .i64 vr1)))) (lens := []) rfl (by kernel_rfl) (by kernel_rfl) (sees_of (rl := []) (nl := []) (by kernel_rfl) trivial trivial) (⟨t_same (by kernel_rfl) (by kernel_rfl), trivial⟩) (series_CheckSeries_ok _ _ h1) (left_of (by kernel_rfl))) (.v (.one (.d (.int .i64 vr1)))) [] [] (by kernel_rfl) ?_
  refine aops_eff hΓ (.v (.one (.d (.int .i64 vr1)))) [] [] (by kernel_rfl) ?_
  refine aops_nil ?_
  refine awp_seq ?_
  refine awp_region' 3000 5000 (by kernel_rfl) (by kernel_rfl) ?_
  refine aops_eff hΓ (.v (.one (.d (.int .i64 vr1)))) [] [] (by kernel_rfl) ?_
  refine aops_eff hΓ (.v (.one (.d (.bool (!decide (vr1 = 0)))))) [] [] (by kernel_rfl) ?_
  refine aops_nil ?_
  rcases cond_or hF with ⟨h2, hF⟩ | ⟨h2, hF⟩
  · refine awp_true (by kernel_rfl) h2 ?_
    refine awp_seq ?_
    refine awp_region' 5000 8000 (by kernel_rfl) (by kernel_rfl) ?_
    refine aops_eff hΓ (.v (.one (.d (.int .i64 vr1)))) [] [] (by kernel_rfl) ?_
    refine aops_eff hΓ (.v (.one (.nil))) [] [] (by kernel_rfl) ?_
    refine aops_eff hΓ (.v (.one (.d (.int .i64 vr1)))) [] [] (by kernel_rfl) ?_
    refine aops_nil ?_
    refine awp_ret ?_
    obtain rfl := some_eq hF
    exact fin_intro (xs := [.one (.nil), .one (.d (.int .i64 vr1))]) (m' := ⟨[(0, ⟨5, 1, List.map (encI .u8) []⟩)], []⟩) (tv := (.tup [.one (.own 0 none), .one (.d (.int .i64 vr1))])) (rl := []) (nl := [0]) (by kernel_rfl) (by kernel_rfl) (by kernel_rfl) (sees_of (by kernel_rfl) (⟨.inl ⟨by kernel_rfl, by kernel_rfl, Nat.zero_lt_succ _⟩, trivial⟩) trivial) (t_tup (cs := [.one (.nil), .one (.d (.int .i64 vr1))]) (by kernel_rfl) ⟨(see_nilown rfl (by kernel_rfl) (by kernel_rfl)), (see_same (by kernel_rfl) (by kernel_rfl)), trivial⟩) ⟨rfl, rfl⟩
  · refine awp_false (by kernel_rfl) h2 ?_
    refine awp_skip ?_
    refine awp_seq ?_
    obtain ⟨vr9, h3, hF⟩ := bind_some hF
    refine awp_region' 5000 9000 (by kernel_rfl) (by kernel_rfl) ?_
    refine aops_eff hΓ (.v (.one (.d (.lst (List.map api_Sample.enc ql))))) [] [] (by kernel_rfl) ?_
    refine aops_call (by kernel_rfl) (by kernel_rfl) (does_call (f := (.func 123)) (g := 123) (caps := []) (tvs := [.v (.one (.d (.lst (List.map api_Sample.enc ql))))]) (al := [.v (.one (.d (.lst (List.map api_Sample.enc ql))))]) (m := ⟨[], []⟩) (m' := ⟨[(0, ⟨5, 1, List.map (encI .u8) vr9⟩)], []⟩) (tv := .v (.one (.own 0 none))) (lens := []) rfl (by kernel_rfl) (by kernel_rfl) (sees_of (rl := []) (nl := []) (by kernel_rfl) trivial trivial) (⟨t_same (by kernel_rfl) (by kernel_rfl), trivial⟩) (series_pack_ok _ _ h3) (left_of (by kernel_rfl))) (.v (.one (.own 6000 none))) [(6000, some ⟨5, 1, List.map (encI .u8) vr9⟩)] [] (by kernel_rfl) ?_
    refine aops_eff hΓ (.v (.one (.own 6000 none))) [] [] (by kernel_rfl) ?_
    refine aops_eff hΓ (.v (.one (.d (.int .i64 0)))) [] [] (by kernel_rfl) ?_
    refine aops_nil ?_
    refine awp_ret ?_
    obtain rfl := some_eq hF
    exact fin_intro (xs := [.one (.own 6000 none), .one (.d (.int .i64 0))]) (m' := ⟨[(0, ⟨5, 1, List.map (encI .u8) vr9⟩)], []⟩) (tv := (.tup [.one (.own 0 none), .one (.d (.int .i64 0))])) (rl := [(0, 6000)]) (nl := []) (by kernel_rfl) (by kernel_rfl) (by kernel_rfl) (sees_of (by kernel_rfl) (⟨.inr ⟨by kernel_rfl, by kernel_rfl⟩, trivial⟩) trivial) (t_same (by kernel_rfl) (by kernel_rfl)) ⟨rfl, rfl⟩

/-! ### slices.Equal[[]byte,byte] -/
def slices_Equal_byte_byte_x1_k : Unit ⊕ Unit → AEx
  | .inl _ => .exit 0
  | .inr _ => .ret

def slices_Equal_byte_byte_x1_S (qs1 : List Int) (qs2 : List Int) : Unit ⊕ Unit → St
  | .inl _ => Mem.st ⟨[], []⟩ (tl []) 0
  | .inr _ => Mem.st ⟨[], []⟩ (tl [(4, .v (.one (.d (.bool false))))]) 0

def slices_Equal_byte_byte_x1_H (qs1 : List Int) (qs2 : List Int) : Int → St
  | vx => Mem.st ⟨[], []⟩ (tl [(0, .v (.one (.d (.lst (List.map (encI .u8) qs1))))), (1, .v (.one (.d (.lst (List.map (encI .u8) qs2))))), (12, .v (.one (.d (.int .i64 (qs1.length : Int))))), (13, .v (.one (.d (.int .i64 vx))))]) 0

theorem slices_Equal_byte_byte_x1_ok (qs1 : List Int) (qs2 : List Int) (vx : Int) (r : (Int) ⊕ (Unit ⊕ Unit)) (hF : slices_Equal_byte_byte_x1 qs1 qs2 vx = some r) : Awp prog 0 26 (cL (cL (cR (cL (cR (cR (cB f34))))))) (Out 0 (kk slices_Equal_byte_byte_x1_k) (SS (slices_Equal_byte_byte_x1_H qs1 qs2) (slices_Equal_byte_byte_x1_S qs1 qs2)) r) (slices_Equal_byte_byte_x1_H qs1 qs2 vx) := by
  unfold slices_Equal_byte_byte_x1 at hF
  refine awp_seq ?_
  refine awp_region' 0 1000 (by kernel_rfl) (by kernel_rfl) ?_
  refine aops_eff hΓ (.v (.one (.d (.bool (decide (vx < (qs1.length : Int))))))) [] [] (by kernel_rfl) ?_
  refine aops_nil ?_
  refine awp_seq ?_
  rcases cond_or hF with ⟨h2, hF⟩ | ⟨h2, hF⟩
  · refine awp_true (by kernel_rfl) h2 ?_
    refine awp_skip ?_
    refine awp_seq ?_
    refine awp_block ?_
    refine awp_seq ?_
    refine awp_region' 1000 3000 (by kernel_rfl) (by kernel_rfl) ?_
    refine aops_eff hΓ (.v (.one (.d (.int .i64 vx)))) [] [] (by kernel_rfl) ?_
    refine aops_eff hΓ (.v (.one (.d (.int .i64 vx)))) [] [] (by kernel_rfl) ?_
    refine aops_nil ?_
    refine awp_seq ?_
    obtain ⟨vy2, h3, hF⟩ := bind_some hF
    obtain ⟨vy3, h4, hF⟩ := bind_some hF
    refine awp_region_any' hm 3000 12000 [(some ⟨.v (.one (.d (.lst (List.map (encI .u8) qs1)))), [], [], []⟩, []), (some ⟨.v (.one (.d (.int .i64 vx))), [], [], []⟩, []), (some ⟨.v (.one (.cp [.int .u8 vy2])), [], [], []⟩, []), (some ⟨.v (.one (.d (.int .u8 vy2))), [], [], []⟩, []), (some ⟨.v (.one (.d (.lst (List.map (encI .u8) qs2)))), [], [], []⟩, []), (some ⟨.v (.one (.d (.int .i64 vx))), [], [], []⟩, []), (some ⟨.v (.one (.cp [.int .u8 vy3])), [], [], []⟩, []), (some ⟨.v (.one (.d (.int .u8 vy3))), [], [], []⟩, []), (some ⟨.v (.one (.d (.bool (!decide (vy2 = vy3))))), [], [], []⟩, [])] [[], [], [0, 1], [0, 1, 2], [], [], [4, 5], [4, 5, 6], [0, 1, 2, 3, 4, 5, 6, 7]] (by kernel_rfl) (by kernel_rfl) (by kernel_rfl) (by kernel_rfl) ?_
    refine And.intro (step_eff hΓ (.v (.one (.d (.lst (List.map (encI .u8) qs1))))) [] [] (by kernel_rfl) (by kernel_rfl)) ?_
    refine And.intro (step_eff hΓ (.v (.one (.d (.int .i64 vx)))) [] [] (by kernel_rfl) (by kernel_rfl)) ?_
    refine And.intro (step_eff hΓ (.v (.one (.cp [.int .u8 vy2]))) [] [] (opx_of (by kernel_rfl) (by kernel_rfl) (eff_indexAddr (k := .i64) (ti := ti45) (te := ti5) (l := qs1) (f := (encI .u8)) (y := vy2) (by kernel_rfl) rfl (by kernel_rfl) (by kernel_rfl) (by kernel_rfl) h3 (by kernel_rfl))) (by kernel_rfl)) ?_
    refine And.intro (step_eff hΓ (.v (.one (.d (.int .u8 vy2)))) [] [] (by kernel_rfl) (by kernel_rfl)) ?_
    refine And.intro (step_eff hΓ (.v (.one (.d (.lst (List.map (encI .u8) qs2))))) [] [] (by kernel_rfl) (by kernel_rfl)) ?_
    refine And.intro (step_eff hΓ (.v (.one (.d (.int .i64 vx)))) [] [] (by kernel_rfl) (by kernel_rfl)) ?_
    refine And.intro (step_eff hΓ (.v (.one (.cp [.int .u8 vy3]))) [] [] (opx_of (by kernel_rfl) (by kernel_rfl) (eff_indexAddr (k := .i64) (ti := ti45) (te := ti5) (l := qs2) (f := (encI .u8)) (y := vy3) (by kernel_rfl) rfl (by kernel_rfl) (by kernel_rfl) (by kernel_rfl) h4 (by kernel_rfl))) (by kernel_rfl)) ?_
    refine And.intro (step_eff hΓ (.v (.one (.d (.int .u8 vy3)))) [] [] (by kernel_rfl) (by kernel_rfl)) ?_
    refine And.intro (step_eff hΓ (.v (.one (.d (.bool (!decide (vy2 = vy3)))))) [] [] (by kernel_rfl) (by kernel_rfl)) ?_
    rcases cond_or hF with ⟨h5, hF⟩ | ⟨h5, hF⟩
    · refine awp_true (by kernel_rfl) h5 ?_
      refine awp_seq ?_
      refine awp_region' 12000 13000 (by kernel_rfl) (by kernel_rfl) ?_
      refine aops_eff hΓ (.v (.one (.d (.bool false)))) [] [] (by kernel_rfl) ?_
      refine aops_nil ?_
      refine awp_ret ?_
      obtain rfl := some_eq hF
      exact out_intro rfl (to_see [] [] ⟨[], []⟩ [(4, .v (.one (.d (.bool false))))] 0 (by kernel_rfl) (by kernel_rfl) (lowc_of (by kernel_rfl)) trivial trivial (⟨t_same (by kernel_rfl) (by kernel_rfl), trivial⟩))
    · refine awp_false (by kernel_rfl) h5 ?_
      refine awp_skip ?_
      refine awp_region' 12000 14000 (by kernel_rfl) (by kernel_rfl) ?_
      refine aops_eff hΓ (.v (.one (.d (.int .i64 (IntKind.wrap .i64 (vx + 1)))))) [] [] (by kernel_rfl) ?_
      refine aops_eff hΓ (.v (.one (.d (.int .i64 (IntKind.wrap .i64 (vx + 1)))))) [] [] (by kernel_rfl) ?_
      refine aops_nil ?_
      obtain rfl := some_eq hF
      exact out_intro rfl (to_see [] [] ⟨[], []⟩ [(0, .v (.one (.d (.lst (List.map (encI .u8) qs1))))), (1, .v (.one (.d (.lst (List.map (encI .u8) qs2))))), (12, .v (.one (.d (.int .i64 (qs1.length : Int))))), (13, .v (.one (.d (.int .i64 (IntKind.wrap .i64 (vx + 1))))))] 0 (by kernel_rfl) (by kernel_rfl) (lowc_of (by kernel_rfl)) trivial trivial (⟨t_same (by kernel_rfl) (by kernel_rfl), t_same (by kernel_rfl) (by kernel_rfl), t_same (by kernel_rfl) (by kernel_rfl), t_same (by kernel_rfl) (by kernel_rfl), trivial⟩))
  · refine awp_false (by kernel_rfl) h2 ?_
    refine awp_exit ?_
    obtain rfl := some_eq hF
    exact out_intro rfl (to_see [] [] ⟨[], []⟩ [] 0 (by kernel_rfl) (by kernel_rfl) (lowc_of (by kernel_rfl)) trivial trivial trivial)

theorem slices_Equal_byte_byte_ok (qs1 : List Int) (qs2 : List Int) (r : Bool) (hF : slices_Equal_byte_byte qs1 qs2 = some r) : Holds prog 34 [.v (.one (.d (.lst (List.map (encI .u8) qs1)))), .v (.one (.d (.lst (List.map (encI .u8) qs2))))] ⟨[], []⟩ (fun tv m => tv = .v (.one (.d (.bool r))) ∧ m = ⟨[], []⟩) := by
  unfold slices_Equal_byte_byte at hF
  refine holds_of_awp hΓ (fn := f34) (c := cB f34) (A := 0) (nx := 0) (by kernel_rfl) (by kernel_rfl) (by kernel_rfl) (by kernel_rfl) (by kernel_rfl) (by kernel_rfl) (lowc_of (by kernel_rfl)) ?_
  show Awp prog 0 26 (cB f34) _ _
  refine awp_seq ?_
  refine awp_region' 0 1000 (by kernel_rfl) (by kernel_rfl) ?_
  refine aops_eff hΓ (.v (.one (.d (.bool false)))) [] [] (by kernel_rfl) ?_
  refine aops_nil ?_
  refine awp_seq ?_
  refine awp_seq ?_
  refine awp_region' 1000 6000 (by kernel_rfl) (by kernel_rfl) ?_
  refine aops_eff hΓ (.v (.one (.d (.lst (List.map (encI .u8) qs1))))) [] [] (by kernel_rfl) ?_
  refine aops_eff hΓ (.v (.one (.d (.int .i64 (qs1.length : Int))))) [] [] (opx_len (f := (encI .u8)) (l := qs1) (by kernel_rfl)) ?_
  refine aops_eff hΓ (.v (.one (.d (.lst (List.map (encI .u8) qs2))))) [] [] (by kernel_rfl) ?_
  refine aops_eff hΓ (.v (.one (.d (.int .i64 (qs2.length : Int))))) [] [] (opx_len (f := (encI .u8)) (l := qs2) (by kernel_rfl)) ?_
  refine aops_eff hΓ (.v (.one (.d (.bool (!decide ((qs1.length : Int) = (qs2.length : Int))))))) [] [] (by kernel_rfl) ?_
  refine aops_nil ?_
  rcases cond_or hF with ⟨h1, hF⟩ | ⟨h1, hF⟩
  · refine awp_true (by kernel_rfl) h1 ?_
    refine awp_seq ?_
    refine awp_region' 6000 7000 (by kernel_rfl) (by kernel_rfl) ?_
    refine aops_eff hΓ (.v (.one (.d (.bool false)))) [] [] (by kernel_rfl) ?_
    refine aops_nil ?_
    refine awp_ret ?_
    obtain rfl := some_eq hF
    exact fin_intro (xs := [.one (.d (.bool false))]) (m' := ⟨[], []⟩) (tv := (.v (.one (.d (.bool false))))) (rl := []) (nl := []) (by kernel_rfl) (by kernel_rfl) (by kernel_rfl) (sees_of (by kernel_rfl) trivial trivial) (t_same (by kernel_rfl) (by kernel_rfl)) ⟨rfl, rfl⟩
  · refine awp_false (by kernel_rfl) h1 ?_
    refine awp_skip ?_
    refine awp_seq ?_
    refine awp_seq ?_
    refine awp_region' 6000 9000 (by kernel_rfl) (by kernel_rfl) ?_
    refine aops_eff hΓ (.v (.one (.d (.lst (List.map (encI .u8) qs1))))) [] [] (by kernel_rfl) ?_
    refine aops_eff hΓ (.v (.one (.d (.int .i64 (qs1.length : Int))))) [] [] (opx_len (f := (encI .u8)) (l := qs1) (by kernel_rfl)) ?_
    refine aops_eff hΓ (.v (.one (.d (.int .i64 0)))) [] [] (by kernel_rfl) ?_
    refine aops_nil ?_
    refine awp_block ?_
    refine awp_to (st' := slices_Equal_byte_byte_x1_H qs1 qs2 0) (to_see [] [] ⟨[], []⟩ [(0, .v (.one (.d (.lst (List.map (encI .u8) qs1))))), (1, .v (.one (.d (.lst (List.map (encI .u8) qs2))))), (12, .v (.one (.d (.int .i64 (qs1.length : Int))))), (13, .v (.one (.d (.int .i64 0))))] 0 (by kernel_rfl) (by kernel_rfl) (lowc_of (by kernel_rfl)) trivial trivial (⟨t_same (by kernel_rfl) (by kernel_rfl), t_same (by kernel_rfl) (by kernel_rfl), t_same (by kernel_rfl) (by kernel_rfl), t_same (by kernel_rfl) (by kernel_rfl), trivial⟩)) ?_
    obtain ⟨(_ | _), h6, hF⟩ := bind_some hF
    · refine awp_sub (awp_loop' (slices_Equal_byte_byte_x1_H qs1 qs2) slices_Equal_byte_byte_x1_k (slices_Equal_byte_byte_x1_S qs1 qs2) (by intro x; rcases x with x | x <;> exact fun h => nomatch h) h6 (slices_Equal_byte_byte_x1_ok qs1 qs2)) ?_
      refine awp_seq ?_
      refine awp_region' 0 1000 (by kernel_rfl) (by kernel_rfl) ?_
      refine aops_eff hΓ (.v (.one (.d (.bool true)))) [] [] (by kernel_rfl) ?_
      refine aops_nil ?_
      refine awp_ret ?_
      obtain rfl := some_eq hF
      exact fin_intro (xs := [.one (.d (.bool true))]) (m' := ⟨[], []⟩) (tv := (.v (.one (.d (.bool true))))) (rl := []) (nl := []) (by kernel_rfl) (by kernel_rfl) (by kernel_rfl) (sees_of (by kernel_rfl) trivial trivial) (t_same (by kernel_rfl) (by kernel_rfl)) ⟨rfl, rfl⟩
    · refine awp_sub (awp_loop' (slices_Equal_byte_byte_x1_H qs1 qs2) slices_Equal_byte_byte_x1_k (slices_Equal_byte_byte_x1_S qs1 qs2) (by intro x; rcases x with x | x <;> exact fun h => nomatch h) h6 (slices_Equal_byte_byte_x1_ok qs1 qs2)) ?_
      obtain rfl := some_eq hF
      exact fin_intro (xs := [.one (.d (.bool false))]) (m' := ⟨[], []⟩) (tv := (.v (.one (.d (.bool false))))) (rl := []) (nl := []) (by kernel_rfl) (by kernel_rfl) (by kernel_rfl) (sees_of (by kernel_rfl) trivial trivial) (t_same (by kernel_rfl) (by kernel_rfl)) ⟨rfl, rfl⟩

/-! ### beaconfleet/fleetlaw2.measured -/
def fleetlaw2_measured_x1_k : Bool → AEx
  | _ => .normal

def fleetlaw2_measured_x1_S (vr : List Int) (vr2 : Int) : Bool → St
  | vx => Mem.st ⟨[], []⟩ (tl [(0, .v (.one (.d (.bool vx))))]) 0

theorem fleetlaw2_measured_x1_ok (vr : List Int) (vr2 : Int) (r : Bool) (hF : fleetlaw2_measured_x1 vr vr2 = some r) : Awp prog 0 16 (cL (cR (cR (cB f26)))) (Out 0 fleetlaw2_measured_x1_k (fleetlaw2_measured_x1_S vr vr2) r) (Mem.st ⟨[], []⟩ (tl [(1, .v (.one (.d (.lst (List.map (encI .u8) vr))))), (2, .v (.one (.d (.int .i64 vr2))))]) 0) := by
  unfold fleetlaw2_measured_x1 at hF
  rcases cond_or hF with ⟨h2, hF⟩ | ⟨h2, hF⟩
  · obtain ⟨vr1, h3, hF⟩ := bind_some hF
    refine awp_region' 0 8000 (by kernel_rfl) (by kernel_rfl) ?_
    refine aops_eff hΓ (.v (.one (.d (.int .i64 vr2)))) [] [] (by kernel_rfl) ?_
    refine aops_eff hΓ (.v (.one (.d (.bool true)))) [] [] (opx_b (by kernel_rfl) h2) ?_
    refine aops_eff hΓ (.v (.one (.d (.bool true)))) [] [] (by kernel_rfl) ?_
    refine aops_eff hΓ (.v (.one (.d (.lst (List.map (encI .u8) vr))))) [] [] (by kernel_rfl) ?_
    refine aops_eff hΓ (.v (.one (.own 4000 none))) [(4000, some ⟨5, 1, List.map (encI .u8) ([1, 2, 2] : List Int)⟩)] [] (by kernel_rfl) ?_
    refine aops_call (by kernel_rfl) (by kernel_rfl) (does_call (f := (.func 34)) (g := 34) (caps := []) (tvs := [.v (.one (.d (.lst (List.map (encI .u8) vr)))), .v (.one (.own 4000 none))]) (al := [.v (.one (.d (.lst (List.map (encI .u8) vr)))), .v (.one (.d (.lst (List.map (encI .u8) ([1, 2, 2] : List Int)))))]) (m := ⟨[], []⟩) (m' := ⟨[], []⟩) (tv := .v (.one (.d (.bool vr1)))) (lens := [4000]) rfl (by kernel_rfl) (by kernel_rfl) (sees_of (rl := []) (nl := []) (by kernel_rfl) trivial trivial) (⟨t_same (by kernel_rfl) (by kernel_rfl), t_cell (c := .own 4000 none) (by kernel_rfl) (see_own (us := [4000]) (by simp) rfl (by kernel_rfl) (by kernel_rfl)), trivial⟩) (slices_Equal_byte_byte_ok _ _ _ h3) (left_of (by kernel_rfl))) (.v (.one (.d (.bool vr1)))) [] [] (by kernel_rfl) ?_
    refine aops_eff hΓ (.v (.one (.d (.bool vr1)))) [] [] (by kernel_rfl) ?_
    refine aops_eff hΓ (.v (.one (.d (.bool vr1)))) [] [] (by kernel_rfl) ?_
    refine aops_nil ?_
    obtain rfl := some_eq hF
    exact out_intro rfl (to_see [] [] ⟨[], []⟩ [(0, .v (.one (.d (.bool vr1))))] 0 (by kernel_rfl) (by kernel_rfl) (lowc_of (by kernel_rfl)) trivial trivial (⟨t_same (by kernel_rfl) (by kernel_rfl), trivial⟩))
  · refine awp_region' 0 8000 (by kernel_rfl) (by kernel_rfl) ?_
    refine aops_eff hΓ (.v (.one (.d (.int .i64 vr2)))) [] [] (by kernel_rfl) ?_
    refine aops_eff hΓ (.v (.one (.d (.bool false)))) [] [] (opx_b (by kernel_rfl) h2) ?_
    refine aops_eff hΓ (.v (.one (.d (.bool false)))) [] [] (by kernel_rfl) ?_
    refine aops_skip' (by kernel_rfl) ?_
    refine aops_skip' (by kernel_rfl) ?_
    refine aops_skip' (by kernel_rfl) ?_
    refine aops_eff hΓ (.v (.one (.d (.bool false)))) [] [] (by kernel_rfl) ?_
    refine aops_eff hΓ (.v (.one (.d (.bool false)))) [] [] (by kernel_rfl) ?_
    refine aops_nil ?_
    obtain rfl := some_eq hF
    exact out_intro rfl (to_see [] [] ⟨[], []⟩ [(0, .v (.one (.d (.bool false))))] 0 (by kernel_rfl) (by kernel_rfl) (lowc_of (by kernel_rfl)) trivial trivial (⟨t_same (by kernel_rfl) (by kernel_rfl), trivial⟩))

theorem fleetlaw2_measured_ok (r : Bool) (hF : fleetlaw2_measured = some r) : Holds prog 26 [] ⟨[], []⟩ (fun tv m => tv = .v (.one (.d (.bool r))) ∧ m = ⟨[], []⟩) := by
  unfold fleetlaw2_measured at hF
  refine holds_of_awp hΓ (fn := f26) (c := cB f26) (A := 0) (nx := 0) (by kernel_rfl) (by kernel_rfl) (by kernel_rfl) (by kernel_rfl) (by kernel_rfl) (by kernel_rfl) (lowc_of (by kernel_rfl)) ?_
  show Awp prog 0 16 (cB f26) _ _
  refine awp_seq ?_
  refine awp_region' 0 1000 (by kernel_rfl) (by kernel_rfl) ?_
  refine aops_eff hΓ (.v (.one (.d (.bool false)))) [] [] (by kernel_rfl) ?_
  refine aops_nil ?_
  refine awp_seq ?_
  obtain ⟨⟨vr, vr2⟩, h1, hF⟩ := bind_some hF
  refine awp_region' 1000 9000 (by kernel_rfl) (by kernel_rfl) ?_
  refine aops_eff hΓ (.v (.agg [.d (.str ([100] : List UInt8)), .d (.str ([109] : List UInt8)), .d (.int .i64 1), .d (.int .i64 1)])) [] [] (by kernel_rfl) ?_
  refine aops_eff hΓ (.v (.one (.own 2000 none))) [(2000, some ⟨42, 4, List.map api_Sample.enc ([api_Sample.mk ([100] : List UInt8) ([109] : List UInt8) 1 1] : List api_Sample)⟩)] [] (by kernel_rfl) ?_
  refine aops_call (by kernel_rfl) (by kernel_rfl) (does_call (f := (.func 29)) (g := 29) (caps := []) (tvs := [.v (.one (.own 2000 none))]) (al := [.v (.one (.own 0 none))]) (m := ⟨[(0, ⟨42, 4, List.map api_Sample.enc ([api_Sample.mk ([100] : List UInt8) ([109] : List UInt8) 1 1] : List api_Sample)⟩)], []⟩) (m' := ⟨[(0, ⟨5, 1, List.map (encI .u8) vr⟩)], []⟩) (tv := .tup [.one (.own 0 none), .one (.d (.int .i64 vr2))]) (lens := []) rfl (by kernel_rfl) (by kernel_rfl) (sees_of (rl := [(0, 2000)]) (nl := []) (by kernel_rfl) (⟨.inr ⟨by kernel_rfl, by kernel_rfl⟩, trivial⟩) trivial) (⟨t_same (by kernel_rfl) (by kernel_rfl), trivial⟩) (series_Pack_o0_ok _ _ h1) (left_of (by kernel_rfl))) (.tup [.one (.own 3000 none), .one (.d (.int .i64 vr2))]) [(2000, none), (3000, some ⟨5, 1, List.map (encI .u8) vr⟩)] [] (by kernel_rfl) ?_
  refine aops_eff hΓ (.tup [.one (.own 3000 none), .one (.d (.int .i64 vr2))]) [] [] (by kernel_rfl) ?_
  refine aops_eff hΓ (.v (.one (.own 3000 none))) [] [] (by kernel_rfl) ?_
  refine aops_eff hΓ (.v (.one (.d (.int .i64 vr2)))) [] [] (by kernel_rfl) ?_
  refine aops_eff hΓ (.v (.one (.own 3000 none))) [] [] (by kernel_rfl) ?_
  refine aops_eff hΓ (.v (.one (.d (.int .i64 vr2)))) [] [] (by kernel_rfl) ?_
  refine aops_nil ?_
  refine awp_to (to_see [] [] ⟨[], []⟩ [(1, .v (.one (.d (.lst (List.map (encI .u8) vr))))), (2, .v (.one (.d (.int .i64 vr2))))] 0 (by kernel_rfl) (by kernel_rfl) (lowc_of (by kernel_rfl)) trivial trivial (⟨t_cell (c := .own 3000 none) (by kernel_rfl) (see_own (us := [3000]) trivial rfl (by kernel_rfl) (by kernel_rfl)), t_same (by kernel_rfl) (by kernel_rfl), trivial⟩)) ?_
  refine awp_seq ?_
  refine awp_to (to_see [] [] ⟨[], []⟩ [(1, .v (.one (.d (.lst (List.map (encI .u8) vr))))), (2, .v (.one (.d (.int .i64 vr2))))] 0 (by kernel_rfl) (by kernel_rfl) (lowc_of (by kernel_rfl)) trivial trivial (⟨t_same (by kernel_rfl) (by kernel_rfl), t_same (by kernel_rfl) (by kernel_rfl), trivial⟩)) ?_
  obtain ⟨vx1, h4, hF⟩ := bind_some hF
  refine awp_sub (fleetlaw2_measured_x1_ok vr vr2 _ h4) ?_
  refine awp_ret ?_
  obtain rfl := some_eq hF
  exact fin_intro (xs := [.one (.d (.bool vx1))]) (m' := ⟨[], []⟩) (tv := (.v (.one (.d (.bool vx1))))) (rl := []) (nl := []) (by kernel_rfl) (by kernel_rfl) (by kernel_rfl) (sees_of (by kernel_rfl) trivial trivial) (t_same (by kernel_rfl) (by kernel_rfl)) ⟨rfl, rfl⟩

/-! ### beaconfleet/fleetlaw2.SeriesFilled -/
def fleetlaw2_SeriesFilled_x2_k : Bool → AEx
  | _ => .normal

def fleetlaw2_SeriesFilled_x2_S (vr9 : List api_Sample) (vs5 : fleetmake_Stream) (vr7 : api_Window) (vr : Int) (vr1 : Int) : Bool → St
  | vx => Mem.st ⟨[], [(0, [.d (.int .i64 vr7.From), .d (.int .i64 vr7.To)])]⟩ (tl [(4, .v (.one (.d (.lst (List.map api_Sample.enc vr9))))), (5, .v (.one (.box 0 0))), (6, .v (.one (.d (.int .i64 vr)))), (7, .v (.one (.d (.int .i64 vr1)))), (39, .v (.one (.d (.bool vx))))]) 1

theorem fleetlaw2_SeriesFilled_x2_ok (vr9 : List api_Sample) (vs5 : fleetmake_Stream) (vr7 : api_Window) (vr : Int) (vr1 : Int) (r : Bool) (hF : fleetlaw2_SeriesFilled_x2 vs5 vr7 = some r) : Awp prog 0 91 (cL (cL (cR (cR (cR (cB f3)))))) (Out 0 fleetlaw2_SeriesFilled_x2_k (fleetlaw2_SeriesFilled_x2_S vr9 vs5 vr7 vr vr1) r) (Mem.st ⟨[], [(0, [.d (.lst (List.map (encI .i64) vs5.L)), .d (.int .i64 (IntKind.wrap .i64 ((IntKind.wrap .i64 (vs5.at_ + 1)) + 1)))]), (1, [.d (.int .i64 vr7.From), .d (.int .i64 vr7.To)])]⟩ (tl [(3, .v (.one (.box 0 0))), (4, .v (.one (.d (.lst (List.map api_Sample.enc vr9))))), (5, .v (.one (.box 1 0))), (6, .v (.one (.d (.int .i64 vr)))), (7, .v (.one (.d (.int .i64 vr1))))]) 2) := by
  unfold fleetlaw2_SeriesFilled_x2 at hF
  obtain ⟨vr2, h5, hF⟩ := bind_some hF
  rcases cond_or hF with ⟨h6, hF⟩ | ⟨h6, hF⟩
  · rcases cond_or hF with ⟨h7, hF⟩ | ⟨h7, hF⟩
    · refine awp_region' 2 15002 (by kernel_rfl) (by kernel_rfl) ?_
      refine aops_eff hΓ (.v (.one (.box 0 0))) [] [] (by kernel_rfl) ?_
      refine aops_call (by kernel_rfl) (by kernel_rfl) (does_call (f := (.func 18)) (g := 18) (caps := []) (tvs := [.v (.one (.box 0 0)), .v (.one (.d (.int .i64 2)))]) (al := [.v (.one (.box 0 0)), .v (.one (.d (.int .i64 2)))]) (m := ⟨[], [(0, [.d (.lst (List.map (encI .i64) vs5.L)), .d (.int .i64 (IntKind.wrap .i64 ((IntKind.wrap .i64 (vs5.at_ + 1)) + 1)))])]⟩) (m' := ⟨[], [(0, [.d (.lst (List.map (encI .i64) vs5.L)), .d (.int .i64 (IntKind.wrap .i64 ((IntKind.wrap .i64 ((IntKind.wrap .i64 (vs5.at_ + 1)) + 1)) + 1)))])]⟩) (tv := .v (.one (.d (.bool vr2)))) (lens := []) rfl (by kernel_rfl) (by kernel_rfl) (sees_of (rl := []) (nl := []) (by kernel_rfl) trivial (⟨⟨by kernel_rfl, [.d (.lst (List.map (encI .i64) vs5.L)), .d (.int .i64 (IntKind.wrap .i64 ((IntKind.wrap .i64 (vs5.at_ + 1)) + 1)))], by kernel_rfl, l2_same (by kernel_rfl) (by kernel_rfl)⟩, trivial⟩)) (⟨t_same (by kernel_rfl) (by kernel_rfl), t_same (by kernel_rfl) (by kernel_rfl), trivial⟩) (fleetmake_Stream_Flip_ok _ _ _ h5) (left_of (by kernel_rfl))) (.v (.one (.d (.bool true)))) [] [(0, some [.d (.lst (List.map (encI .i64) vs5.L)), .d (.int .i64 (IntKind.wrap .i64 ((IntKind.wrap .i64 ((IntKind.wrap .i64 (vs5.at_ + 1)) + 1)) + 1)))])] (callb h6) ?_
      refine aops_eff hΓ (.v (.one (.d (.bool true)))) [] [] (by kernel_rfl) ?_
      refine aops_eff hΓ (.v (.one (.box 1 1))) [] [] (by kernel_rfl) ?_
      refine aops_eff hΓ (.v (.one (.d (.int .i64 vr7.To)))) [] [] (by kernel_rfl) ?_
      refine aops_eff hΓ (.v (.one (.d (.bool true)))) [] [] (opx_b (by kernel_rfl) h7) ?_
      refine aops_eff hΓ (.v (.one (.d (.bool true)))) [] [] (by kernel_rfl) ?_
      refine aops_eff hΓ (.v (.one (.d (.bool true)))) [] [] (by kernel_rfl) ?_
      refine aops_eff hΓ (.v (.one (.box 1 1))) [] [] (by kernel_rfl) ?_
      refine aops_eff hΓ (.v (.one (.d (.int .i64 vr7.To)))) [] [] (by kernel_rfl) ?_
      refine aops_eff hΓ (.v (.one (.box 1 0))) [] [] (by kernel_rfl) ?_
      refine aops_eff hΓ (.v (.one (.d (.int .i64 vr7.From)))) [] [] (by kernel_rfl) ?_
      refine aops_eff hΓ (.v (.one (.d (.int .i64 (IntKind.wrap .i64 (vr7.To - vr7.From)))))) [] [] (by kernel_rfl) ?_
      refine aops_eff hΓ (.v (.one (.d (.bool (decide (400 < (IntKind.wrap .i64 (vr7.To - vr7.From)))))))) [] [] (by kernel_rfl) ?_
      refine aops_eff hΓ (.v (.one (.d (.bool (decide (400 < (IntKind.wrap .i64 (vr7.To - vr7.From)))))))) [] [] (by kernel_rfl) ?_
      refine aops_nil ?_
      obtain rfl := some_eq hF
      exact out_intro rfl (to_see [(0, 1)] [] ⟨[], [(0, [.d (.int .i64 vr7.From), .d (.int .i64 vr7.To)])]⟩ [(4, .v (.one (.d (.lst (List.map api_Sample.enc vr9))))), (5, .v (.one (.box 0 0))), (6, .v (.one (.d (.int .i64 vr)))), (7, .v (.one (.d (.int .i64 vr1)))), (39, .v (.one (.d (.bool (decide (400 < (IntKind.wrap .i64 (vr7.To - vr7.From))))))))] 1 (by kernel_rfl) (by kernel_rfl) (lowc_of (by kernel_rfl)) trivial (⟨⟨by kernel_rfl, [.d (.int .i64 vr7.From), .d (.int .i64 vr7.To)], by kernel_rfl, l2_same (by kernel_rfl) (by kernel_rfl)⟩, trivial⟩) (⟨t_same (by kernel_rfl) (by kernel_rfl), t_same (by kernel_rfl) (by kernel_rfl), t_same (by kernel_rfl) (by kernel_rfl), t_same (by kernel_rfl) (by kernel_rfl), t_same (by kernel_rfl) (by kernel_rfl), trivial⟩))
    · refine awp_region' 2 15002 (by kernel_rfl) (by kernel_rfl) ?_
      refine aops_eff hΓ (.v (.one (.box 0 0))) [] [] (by kernel_rfl) ?_
      refine aops_call (by kernel_rfl) (by kernel_rfl) (does_call (f := (.func 18)) (g := 18) (caps := []) (tvs := [.v (.one (.box 0 0)), .v (.one (.d (.int .i64 2)))]) (al := [.v (.one (.box 0 0)), .v (.one (.d (.int .i64 2)))]) (m := ⟨[], [(0, [.d (.lst (List.map (encI .i64) vs5.L)), .d (.int .i64 (IntKind.wrap .i64 ((IntKind.wrap .i64 (vs5.at_ + 1)) + 1)))])]⟩) (m' := ⟨[], [(0, [.d (.lst (List.map (encI .i64) vs5.L)), .d (.int .i64 (IntKind.wrap .i64 ((IntKind.wrap .i64 ((IntKind.wrap .i64 (vs5.at_ + 1)) + 1)) + 1)))])]⟩) (tv := .v (.one (.d (.bool vr2)))) (lens := []) rfl (by kernel_rfl) (by kernel_rfl) (sees_of (rl := []) (nl := []) (by kernel_rfl) trivial (⟨⟨by kernel_rfl, [.d (.lst (List.map (encI .i64) vs5.L)), .d (.int .i64 (IntKind.wrap .i64 ((IntKind.wrap .i64 (vs5.at_ + 1)) + 1)))], by kernel_rfl, l2_same (by kernel_rfl) (by kernel_rfl)⟩, trivial⟩)) (⟨t_same (by kernel_rfl) (by kernel_rfl), t_same (by kernel_rfl) (by kernel_rfl), trivial⟩) (fleetmake_Stream_Flip_ok _ _ _ h5) (left_of (by kernel_rfl))) (.v (.one (.d (.bool true)))) [] [(0, some [.d (.lst (List.map (encI .i64) vs5.L)), .d (.int .i64 (IntKind.wrap .i64 ((IntKind.wrap .i64 ((IntKind.wrap .i64 (vs5.at_ + 1)) + 1)) + 1)))])] (callb h6) ?_
      refine aops_eff hΓ (.v (.one (.d (.bool true)))) [] [] (by kernel_rfl) ?_
      refine aops_eff hΓ (.v (.one (.box 1 1))) [] [] (by kernel_rfl) ?_
      refine aops_eff hΓ (.v (.one (.d (.int .i64 vr7.To)))) [] [] (by kernel_rfl) ?_
      refine aops_eff hΓ (.v (.one (.d (.bool false)))) [] [] (opx_b (by kernel_rfl) h7) ?_
      refine aops_eff hΓ (.v (.one (.d (.bool false)))) [] [] (by kernel_rfl) ?_
      refine aops_eff hΓ (.v (.one (.d (.bool false)))) [] [] (by kernel_rfl) ?_
      refine aops_skip' (by kernel_rfl) ?_
      refine aops_skip' (by kernel_rfl) ?_
      refine aops_skip' (by kernel_rfl) ?_
      refine aops_skip' (by kernel_rfl) ?_
      refine aops_skip' (by kernel_rfl) ?_
      refine aops_skip' (by kernel_rfl) ?_
      refine aops_eff hΓ (.v (.one (.d (.bool false)))) [] [] (by kernel_rfl) ?_
      refine aops_nil ?_
      obtain rfl := some_eq hF
      exact out_intro rfl (to_see [(0, 1)] [] ⟨[], [(0, [.d (.int .i64 vr7.From), .d (.int .i64 vr7.To)])]⟩ [(4, .v (.one (.d (.lst (List.map api_Sample.enc vr9))))), (5, .v (.one (.box 0 0))), (6, .v (.one (.d (.int .i64 vr)))), (7, .v (.one (.d (.int .i64 vr1)))), (39, .v (.one (.d (.bool false))))] 1 (by kernel_rfl) (by kernel_rfl) (lowc_of (by kernel_rfl)) trivial (⟨⟨by kernel_rfl, [.d (.int .i64 vr7.From), .d (.int .i64 vr7.To)], by kernel_rfl, l2_same (by kernel_rfl) (by kernel_rfl)⟩, trivial⟩) (⟨t_same (by kernel_rfl) (by kernel_rfl), t_same (by kernel_rfl) (by kernel_rfl), t_same (by kernel_rfl) (by kernel_rfl), t_same (by kernel_rfl) (by kernel_rfl), t_same (by kernel_rfl) (by kernel_rfl), trivial⟩))
  · refine awp_region' 2 15002 (by kernel_rfl) (by kernel_rfl) ?_
    refine aops_eff hΓ (.v (.one (.box 0 0))) [] [] (by kernel_rfl) ?_
    refine aops_call (by kernel_rfl) (by kernel_rfl) (does_call (f := (.func 18)) (g := 18) (caps := []) (tvs := [.v (.one (.box 0 0)), .v (.one (.d (.int .i64 2)))]) (al := [.v (.one (.box 0 0)), .v (.one (.d (.int .i64 2)))]) (m := ⟨[], [(0, [.d (.lst (List.map (encI .i64) vs5.L)), .d (.int .i64 (IntKind.wrap .i64 ((IntKind.wrap .i64 (vs5.at_ + 1)) + 1)))])]⟩) (m' := ⟨[], [(0, [.d (.lst (List.map (encI .i64) vs5.L)), .d (.int .i64 (IntKind.wrap .i64 ((IntKind.wrap .i64 ((IntKind.wrap .i64 (vs5.at_ + 1)) + 1)) + 1)))])]⟩) (tv := .v (.one (.d (.bool vr2)))) (lens := []) rfl (by kernel_rfl) (by kernel_rfl) (sees_of (rl := []) (nl := []) (by kernel_rfl) trivial (⟨⟨by kernel_rfl, [.d (.lst (List.map (encI .i64) vs5.L)), .d (.int .i64 (IntKind.wrap .i64 ((IntKind.wrap .i64 (vs5.at_ + 1)) + 1)))], by kernel_rfl, l2_same (by kernel_rfl) (by kernel_rfl)⟩, trivial⟩)) (⟨t_same (by kernel_rfl) (by kernel_rfl), t_same (by kernel_rfl) (by kernel_rfl), trivial⟩) (fleetmake_Stream_Flip_ok _ _ _ h5) (left_of (by kernel_rfl))) (.v (.one (.d (.bool false)))) [] [(0, some [.d (.lst (List.map (encI .i64) vs5.L)), .d (.int .i64 (IntKind.wrap .i64 ((IntKind.wrap .i64 ((IntKind.wrap .i64 (vs5.at_ + 1)) + 1)) + 1)))])] (callb h6) ?_
    refine aops_eff hΓ (.v (.one (.d (.bool false)))) [] [] (by kernel_rfl) ?_
    refine aops_skip' (by kernel_rfl) ?_
    refine aops_skip' (by kernel_rfl) ?_
    refine aops_skip' (by kernel_rfl) ?_
    refine aops_eff hΓ (.v (.one (.d (.bool false)))) [] [] (by kernel_rfl) ?_
    refine aops_eff hΓ (.v (.one (.d (.bool false)))) [] [] (by kernel_rfl) ?_
    refine aops_skip' (by kernel_rfl) ?_
    refine aops_skip' (by kernel_rfl) ?_
    refine aops_skip' (by kernel_rfl) ?_
    refine aops_skip' (by kernel_rfl) ?_
    refine aops_skip' (by kernel_rfl) ?_
    refine aops_skip' (by kernel_rfl) ?_
    refine aops_eff hΓ (.v (.one (.d (.bool false)))) [] [] (by kernel_rfl) ?_
    refine aops_nil ?_
    obtain rfl := some_eq hF
    exact out_intro rfl (to_see [(0, 1)] [] ⟨[], [(0, [.d (.int .i64 vr7.From), .d (.int .i64 vr7.To)])]⟩ [(4, .v (.one (.d (.lst (List.map api_Sample.enc vr9))))), (5, .v (.one (.box 0 0))), (6, .v (.one (.d (.int .i64 vr)))), (7, .v (.one (.d (.int .i64 vr1)))), (39, .v (.one (.d (.bool false))))] 1 (by kernel_rfl) (by kernel_rfl) (lowc_of (by kernel_rfl)) trivial (⟨⟨by kernel_rfl, [.d (.int .i64 vr7.From), .d (.int .i64 vr7.To)], by kernel_rfl, l2_same (by kernel_rfl) (by kernel_rfl)⟩, trivial⟩) (⟨t_same (by kernel_rfl) (by kernel_rfl), t_same (by kernel_rfl) (by kernel_rfl), t_same (by kernel_rfl) (by kernel_rfl), t_same (by kernel_rfl) (by kernel_rfl), t_same (by kernel_rfl) (by kernel_rfl), trivial⟩))

def fleetlaw2_SeriesFilled_x1_k : Int → AEx
  | _ => .normal

def fleetlaw2_SeriesFilled_x1_S (vr9 : List api_Sample) (vs5 : fleetmake_Stream) (vr7 : api_Window) (vr : Int) (vr1 : Int) : Int → St
  | vx2 => Mem.st ⟨[], [(0, [.d (.int .i64 vr7.From), .d (.int .i64 vr7.To)])]⟩ (tl [(4, .v (.one (.d (.lst (List.map api_Sample.enc vr9))))), (5, .v (.one (.box 0 0))), (6, .v (.one (.d (.int .i64 vx2)))), (7, .v (.one (.d (.int .i64 vr1))))]) 1

theorem fleetlaw2_SeriesFilled_x1_ok (vr9 : List api_Sample) (vs5 : fleetmake_Stream) (vr7 : api_Window) (vr : Int) (vr1 : Int) (r : Int) (hF : fleetlaw2_SeriesFilled_x1 vs5 vr7 vr = some r) : Awp prog 0 91 (cL (cR (cR (cR (cB f3))))) (Out 0 fleetlaw2_SeriesFilled_x1_k (fleetlaw2_SeriesFilled_x1_S vr9 vs5 vr7 vr vr1) r) (Mem.st ⟨[], [(0, [.d (.lst (List.map (encI .i64) vs5.L)), .d (.int .i64 (IntKind.wrap .i64 ((IntKind.wrap .i64 (vs5.at_ + 1)) + 1)))]), (1, [.d (.int .i64 vr7.From), .d (.int .i64 vr7.To)])]⟩ (tl [(3, .v (.one (.box 0 0))), (4, .v (.one (.d (.lst (List.map api_Sample.enc vr9))))), (5, .v (.one (.box 1 0))), (6, .v (.one (.d (.int .i64 vr)))), (7, .v (.one (.d (.int .i64 vr1))))]) 2) := by
  unfold fleetlaw2_SeriesFilled_x1 at hF
  refine awp_seq ?_
  refine awp_to (to_see [] [] ⟨[], [(0, [.d (.lst (List.map (encI .i64) vs5.L)), .d (.int .i64 (IntKind.wrap .i64 ((IntKind.wrap .i64 (vs5.at_ + 1)) + 1)))]), (1, [.d (.int .i64 vr7.From), .d (.int .i64 vr7.To)])]⟩ [(3, .v (.one (.box 0 0))), (4, .v (.one (.d (.lst (List.map api_Sample.enc vr9))))), (5, .v (.one (.box 1 0))), (6, .v (.one (.d (.int .i64 vr)))), (7, .v (.one (.d (.int .i64 vr1))))] 2 (by kernel_rfl) (by kernel_rfl) (lowc_of (by kernel_rfl)) trivial (⟨⟨by kernel_rfl, [.d (.lst (List.map (encI .i64) vs5.L)), .d (.int .i64 (IntKind.wrap .i64 ((IntKind.wrap .i64 (vs5.at_ + 1)) + 1)))], by kernel_rfl, l2_same (by kernel_rfl) (by kernel_rfl)⟩, ⟨by kernel_rfl, [.d (.int .i64 vr7.From), .d (.int .i64 vr7.To)], by kernel_rfl, l2_same (by kernel_rfl) (by kernel_rfl)⟩, trivial⟩) (⟨t_same (by kernel_rfl) (by kernel_rfl), t_same (by kernel_rfl) (by kernel_rfl), t_same (by kernel_rfl) (by kernel_rfl), t_same (by kernel_rfl) (by kernel_rfl), t_same (by kernel_rfl) (by kernel_rfl), trivial⟩)) ?_
  obtain ⟨vx1, h8, hF⟩ := bind_some hF
  refine awp_sub (fleetlaw2_SeriesFilled_x2_ok vr9 vs5 vr7 vr vr1 _ h8) ?_
  rcases cond_or hF with ⟨h9, hF⟩ | ⟨h9, hF⟩
  · refine awp_true (by kernel_rfl) h9 ?_
    refine awp_region' 1 3001 (by kernel_rfl) (by kernel_rfl) ?_
    refine aops_eff hΓ (.v (.one (.d (.int .i64 vr)))) [] [] (by kernel_rfl) ?_
    refine aops_eff hΓ (.v (.one (.d (.int .i64 (imax vr 100))))) [] [] (by kernel_rfl) ?_
    refine aops_eff hΓ (.v (.one (.d (.int .i64 (imax vr 100))))) [] [] (by kernel_rfl) ?_
    refine aops_nil ?_
    obtain rfl := some_eq hF
    exact out_intro rfl (to_see [] [] ⟨[], [(0, [.d (.int .i64 vr7.From), .d (.int .i64 vr7.To)])]⟩ [(4, .v (.one (.d (.lst (List.map api_Sample.enc vr9))))), (5, .v (.one (.box 0 0))), (6, .v (.one (.d (.int .i64 (imax vr 100))))), (7, .v (.one (.d (.int .i64 vr1))))] 1 (by kernel_rfl) (by kernel_rfl) (lowc_of (by kernel_rfl)) trivial (⟨⟨by kernel_rfl, [.d (.int .i64 vr7.From), .d (.int .i64 vr7.To)], by kernel_rfl, l2_same (by kernel_rfl) (by kernel_rfl)⟩, trivial⟩) (⟨t_same (by kernel_rfl) (by kernel_rfl), t_same (by kernel_rfl) (by kernel_rfl), t_same (by kernel_rfl) (by kernel_rfl), t_same (by kernel_rfl) (by kernel_rfl), trivial⟩))
  · refine awp_false (by kernel_rfl) h9 ?_
    refine awp_skip ?_
    obtain rfl := some_eq hF
    exact out_intro rfl (to_see [] [] ⟨[], [(0, [.d (.int .i64 vr7.From), .d (.int .i64 vr7.To)])]⟩ [(4, .v (.one (.d (.lst (List.map api_Sample.enc vr9))))), (5, .v (.one (.box 0 0))), (6, .v (.one (.d (.int .i64 vr)))), (7, .v (.one (.d (.int .i64 vr1))))] 1 (by kernel_rfl) (by kernel_rfl) (lowc_of (by kernel_rfl)) trivial (⟨⟨by kernel_rfl, [.d (.int .i64 vr7.From), .d (.int .i64 vr7.To)], by kernel_rfl, l2_same (by kernel_rfl) (by kernel_rfl)⟩, trivial⟩) (⟨t_same (by kernel_rfl) (by kernel_rfl), t_same (by kernel_rfl) (by kernel_rfl), t_same (by kernel_rfl) (by kernel_rfl), t_same (by kernel_rfl) (by kernel_rfl), trivial⟩))

def fleetlaw2_SeriesFilled_x3_k : Int → AEx
  | _ => .normal

def fleetlaw2_SeriesFilled_x3_S (vr9 : List api_Sample) (vr7 : api_Window) (vr1 : Int) (vx2_1 : Int) (vr4 : List api_Sample) (vr5 : Int) : Int → St
  | vx3 => Mem.st ⟨[], [(0, [.d (.int .i64 vr7.From), .d (.int .i64 vr7.To)])]⟩ (tl [(4, .v (.one (.d (.lst (List.map api_Sample.enc vr9))))), (5, .v (.one (.box 0 0))), (6, .v (.one (.d (.int .i64 vx2_1)))), (7, .v (.one (.d (.int .i64 vr1)))), (8, .v (.one (.d (.lst (List.map api_Sample.enc vr4))))), (9, .v (.one (.d (.int .i64 vr5)))), (10, .v (.one (.d (.int .i64 vx3))))]) 1

theorem fleetlaw2_SeriesFilled_x3_ok (vr9 : List api_Sample) (vr7 : api_Window) (vr1 : Int) (vx2_1 : Int) (vr4 : List api_Sample) (vr5 : Int) (r : Int) (hF : fleetlaw2_SeriesFilled_x3 vr9 vr7 vr1 vx2_1 = some r) : Awp prog 0 91 (cL (cR (cR (cR (cR (cR (cB f3))))))) (Out 0 fleetlaw2_SeriesFilled_x3_k (fleetlaw2_SeriesFilled_x3_S vr9 vr7 vr1 vx2_1 vr4 vr5) r) (Mem.st ⟨[], [(0, [.d (.int .i64 vr7.From), .d (.int .i64 vr7.To)])]⟩ (tl [(4, .v (.one (.d (.lst (List.map api_Sample.enc vr9))))), (5, .v (.one (.box 0 0))), (6, .v (.one (.d (.int .i64 vx2_1)))), (7, .v (.one (.d (.int .i64 vr1)))), (8, .v (.one (.d (.lst (List.map api_Sample.enc vr4))))), (9, .v (.one (.d (.int .i64 vr5))))]) 1) := by
  unfold fleetlaw2_SeriesFilled_x3 at hF
  obtain ⟨vr1_1, h12, hF⟩ := bind_some hF
  obtain ⟨vr1_2, h13, hF⟩ := bind_some hF
  rcases cond_or hF with ⟨h14, hF⟩ | ⟨h14, hF⟩
  · obtain ⟨vr3, h15, hF⟩ := bind_some hF
    rcases cond_or hF with ⟨h16, hF⟩ | ⟨h16, hF⟩
    · obtain ⟨vr6, h17, hF⟩ := bind_some hF
      obtain ⟨vr8, h18, hF⟩ := bind_some hF
      refine awp_region_any' hm 1 21001 [(some ⟨.v (.one (.d (.lst (List.map api_Sample.enc vr9)))), [], [], []⟩, []), (some ⟨.v (.one (.d (.int .i64 vr1_1))), [], [], []⟩, []), (some ⟨.v (.agg [.d (.int .i64 vr7.From), .d (.int .i64 vr7.To)]), [], [], []⟩, [0]), (some ⟨.v (.one (.d (.int .i64 vr1_2))), [], [], []⟩, []), (some ⟨.v (.one (.d (.int .i64 vx2_1))), [], [], []⟩, []), (some ⟨.v (.one (.d (.bool true))), [], [], []⟩, []), (some ⟨.v (.one (.d (.bool true))), [], [], []⟩, []), (none, []), (none, []), (some ⟨.v (.one (.d (.bool true))), [], [], []⟩, []), (some ⟨.v (.one (.d (.int .i64 vr3))), [], [], []⟩, []), (some ⟨.v (.one (.d (.int .i64 vr1))), [], [], []⟩, []), (some ⟨.v (.one (.d (.bool true))), [], [], []⟩, []), (some ⟨.v (.one (.d (.bool true))), [], [], []⟩, []), (some ⟨.v (.one (.d (.int .i64 vr1))), [], [], []⟩, []), (some ⟨.v (.one (.d (.bool (!decide (vr1 = 2))))), [], [], []⟩, []), (some ⟨.v (.one (.d (.bool (!decide (vr1 = 2))))), [], [], []⟩, []), (some ⟨.v (.one (.d (.int .i64 vr6))), [], [], []⟩, []), (some ⟨.v (.one (.own 18001 none)), [(18001, some ⟨33, 1, List.map (encI .i64) ([vr1_1, vr1_2, vr3, vr6] : List Int)⟩)], [], []⟩, []), (some ⟨.v (.one (.d (.int .i64 vr8))), [], [], []⟩, [18001]), (some ⟨.v (.one (.d (.int .i64 vr8))), [], [], []⟩, [])] [[], [0], [], [0, 1, 2], [], [4], [0, 1, 2, 3, 4, 5], [0, 1, 2, 3, 4, 5, 6], [0, 1, 2, 3, 4, 5, 6, 7], [0, 1, 2, 3, 4, 5, 6, 7, 8], [0, 1, 2, 3, 4, 5, 6, 7, 8, 9], [], [11], [0, 1, 2, 3, 4, 5, 6, 7, 8, 9, 10, 11, 12], [0, 1, 2, 3, 4, 5, 6, 7, 8, 9, 10, 11, 12, 13], [0, 1, 2, 3, 4, 5, 6, 7, 8, 9, 10, 11, 12, 13, 14], [0, 1, 2, 3, 4, 5, 6, 7, 8, 9, 10, 11, 12, 13, 14, 15], [0, 1, 2, 3, 4, 5, 6, 7, 8, 9, 10, 11, 12, 13, 14, 15, 16], [0, 1, 2, 3, 4, 5, 6, 7, 8, 9, 10, 11, 12, 13, 14, 15, 16, 17], [0, 1, 2, 3, 4, 5, 6, 7, 8, 9, 10, 11, 12, 13, 14, 15, 16, 17, 18], [0, 1, 2, 3, 4, 5, 6, 7, 8, 9, 10, 11, 12, 13, 14, 15, 16, 17, 18, 19]] (by kernel_rfl) (by kernel_rfl) (by kernel_rfl) (by kernel_rfl) ?_
      refine And.intro (step_eff hΓ (.v (.one (.d (.lst (List.map api_Sample.enc vr9))))) [] [] (by kernel_rfl) (by kernel_rfl)) ?_
      refine And.intro (step_call (by kernel_rfl) (by kernel_rfl) (stable_call (f := (.func 21)) (g := 21) (caps := []) (tvs := [.v (.one (.d (.lst (List.map api_Sample.enc vr9))))]) (al := [.v (.one (.d (.lst (List.map api_Sample.enc vr9))))]) (m := ⟨[], []⟩) (m' := ⟨[], []⟩) (tv := .v (.one (.d (.int .i64 vr1_1)))) (lens := []) rfl (by kernel_rfl) (by kernel_rfl) (sees_of (rl := []) (nl := []) (by kernel_rfl) trivial trivial) (⟨t_same (by kernel_rfl) (by kernel_rfl), trivial⟩) (fleetref2_SeriesFault_ok _ _ h12) (left_of (by kernel_rfl)) (by kernel_rfl)) (.v (.one (.d (.int .i64 vr1_1)))) [] [] (by kernel_rfl)) ?_
      refine And.intro (step_eff hΓ (.v (.agg [.d (.int .i64 vr7.From), .d (.int .i64 vr7.To)])) [] [] (by kernel_rfl) (by kernel_rfl)) ?_
      refine And.intro (step_call (by kernel_rfl) (by kernel_rfl) (stable_call (f := (.func 22)) (g := 22) (caps := []) (tvs := [.v (.agg [.d (.int .i64 vr7.From), .d (.int .i64 vr7.To)])]) (al := [.v (.agg [.d (.int .i64 vr7.From), .d (.int .i64 vr7.To)])]) (m := ⟨[], []⟩) (m' := ⟨[], []⟩) (tv := .v (.one (.d (.int .i64 vr1_2)))) (lens := []) rfl (by kernel_rfl) (by kernel_rfl) (sees_of (rl := []) (nl := []) (by kernel_rfl) trivial trivial) (⟨t_same (by kernel_rfl) (by kernel_rfl), trivial⟩) (fleetref2_WindowFault_ok _ _ h13) (left_of (by kernel_rfl)) (by kernel_rfl)) (.v (.one (.d (.int .i64 vr1_2)))) [] [] (by kernel_rfl)) ?_
      refine And.intro (step_eff hΓ (.v (.one (.d (.int .i64 vx2_1)))) [] [] (by kernel_rfl) (by kernel_rfl)) ?_
      refine And.intro (step_eff hΓ (.v (.one (.d (.bool true)))) [] [] (opx_b (by kernel_rfl) h14) (by kernel_rfl)) ?_
      refine And.intro (step_eff hΓ (.v (.one (.d (.bool true)))) [] [] (by kernel_rfl) (by kernel_rfl)) ?_
      refine And.intro (step_skip' (by kernel_rfl)) ?_
      refine And.intro (step_skip' (by kernel_rfl)) ?_
      refine And.intro (step_eff hΓ (.v (.one (.d (.bool true)))) [] [] (by kernel_rfl) (by kernel_rfl)) ?_
      refine And.intro (step_call (by kernel_rfl) (by kernel_rfl) (stable_call (f := (.func 23)) (g := 23) (caps := []) (tvs := [.v (.one (.d (.bool true))), .v (.one (.d (.int .i64 1)))]) (al := [.v (.one (.d (.bool true))), .v (.one (.d (.int .i64 1)))]) (m := ⟨[], []⟩) (m' := ⟨[], []⟩) (tv := .v (.one (.d (.int .i64 vr3)))) (lens := []) rfl (by kernel_rfl) (by kernel_rfl) (sees_of (rl := []) (nl := []) (by kernel_rfl) trivial trivial) (⟨t_same (by kernel_rfl) (by kernel_rfl), t_same (by kernel_rfl) (by kernel_rfl), trivial⟩) (fleetlaw2_when_ok _ _ _ h15) (left_of (by kernel_rfl)) (by kernel_rfl)) (.v (.one (.d (.int .i64 vr3)))) [] [] (by kernel_rfl)) ?_
      refine And.intro (step_eff hΓ (.v (.one (.d (.int .i64 vr1)))) [] [] (by kernel_rfl) (by kernel_rfl)) ?_
      refine And.intro (step_eff hΓ (.v (.one (.d (.bool true)))) [] [] (opx_b (by kernel_rfl) h16) (by kernel_rfl)) ?_
      refine And.intro (step_eff hΓ (.v (.one (.d (.bool true)))) [] [] (by kernel_rfl) (by kernel_rfl)) ?_
      refine And.intro (step_eff hΓ (.v (.one (.d (.int .i64 vr1)))) [] [] (by kernel_rfl) (by kernel_rfl)) ?_
      refine And.intro (step_eff hΓ (.v (.one (.d (.bool (!decide (vr1 = 2)))))) [] [] (by kernel_rfl) (by kernel_rfl)) ?_
      refine And.intro (step_eff hΓ (.v (.one (.d (.bool (!decide (vr1 = 2)))))) [] [] (by kernel_rfl) (by kernel_rfl)) ?_
      refine And.intro (step_call (by kernel_rfl) (by kernel_rfl) (stable_call (f := (.func 23)) (g := 23) (caps := []) (tvs := [.v (.one (.d (.bool (!decide (vr1 = 2))))), .v (.one (.d (.int .i64 4)))]) (al := [.v (.one (.d (.bool (!decide (vr1 = 2))))), .v (.one (.d (.int .i64 4)))]) (m := ⟨[], []⟩) (m' := ⟨[], []⟩) (tv := .v (.one (.d (.int .i64 vr6)))) (lens := []) rfl (by kernel_rfl) (by kernel_rfl) (sees_of (rl := []) (nl := []) (by kernel_rfl) trivial trivial) (⟨t_same (by kernel_rfl) (by kernel_rfl), t_same (by kernel_rfl) (by kernel_rfl), trivial⟩) (fleetlaw2_when_ok _ _ _ h17) (left_of (by kernel_rfl)) (by kernel_rfl)) (.v (.one (.d (.int .i64 vr6)))) [] [] (by kernel_rfl)) ?_
      refine And.intro (step_eff hΓ (.v (.one (.own 18001 none))) [(18001, some ⟨33, 1, List.map (encI .i64) ([vr1_1, vr1_2, vr3, vr6] : List Int)⟩)] [] (by kernel_rfl) (by kernel_rfl)) ?_
      refine And.intro (step_call (by kernel_rfl) (by kernel_rfl) (stable_call (f := (.func 20)) (g := 20) (caps := []) (tvs := [.v (.one (.own 18001 none))]) (al := [.v (.one (.d (.lst (List.map (encI .i64) ([vr1_1, vr1_2, vr3, vr6] : List Int)))))]) (m := ⟨[], []⟩) (m' := ⟨[], []⟩) (tv := .v (.one (.d (.int .i64 vr8)))) (lens := [18001]) rfl (by kernel_rfl) (by kernel_rfl) (sees_of (rl := []) (nl := []) (by kernel_rfl) trivial trivial) (⟨t_cell (c := .own 18001 none) (by kernel_rfl) (see_own (us := [18001]) (by simp) rfl (by kernel_rfl) (by kernel_rfl)), trivial⟩) (fleetlaw2_errs_ok _ _ h18) (left_of (by kernel_rfl)) (by kernel_rfl)) (.v (.one (.d (.int .i64 vr8)))) [] [] (by kernel_rfl)) ?_
      refine And.intro (step_eff hΓ (.v (.one (.d (.int .i64 vr8)))) [] [] (by kernel_rfl) (by kernel_rfl)) ?_
      obtain rfl := some_eq hF
      exact out_intro rfl (to_see [] [] ⟨[], [(0, [.d (.int .i64 vr7.From), .d (.int .i64 vr7.To)])]⟩ [(4, .v (.one (.d (.lst (List.map api_Sample.enc vr9))))), (5, .v (.one (.box 0 0))), (6, .v (.one (.d (.int .i64 vx2_1)))), (7, .v (.one (.d (.int .i64 vr1)))), (8, .v (.one (.d (.lst (List.map api_Sample.enc vr4))))), (9, .v (.one (.d (.int .i64 vr5)))), (10, .v (.one (.d (.int .i64 vr8))))] 1 (by kernel_rfl) (by kernel_rfl) (lowc_of (by kernel_rfl)) trivial (⟨⟨by kernel_rfl, [.d (.int .i64 vr7.From), .d (.int .i64 vr7.To)], by kernel_rfl, l2_same (by kernel_rfl) (by kernel_rfl)⟩, trivial⟩) (⟨t_same (by kernel_rfl) (by kernel_rfl), t_same (by kernel_rfl) (by kernel_rfl), t_same (by kernel_rfl) (by kernel_rfl), t_same (by kernel_rfl) (by kernel_rfl), t_same (by kernel_rfl) (by kernel_rfl), t_same (by kernel_rfl) (by kernel_rfl), t_same (by kernel_rfl) (by kernel_rfl), trivial⟩))
    · obtain ⟨vr10, h19, hF⟩ := bind_some hF
      obtain ⟨vr11, h20, hF⟩ := bind_some hF
      refine awp_region_any' hm 1 21001 [(some ⟨.v (.one (.d (.lst (List.map api_Sample.enc vr9)))), [], [], []⟩, []), (some ⟨.v (.one (.d (.int .i64 vr1_1))), [], [], []⟩, []), (some ⟨.v (.agg [.d (.int .i64 vr7.From), .d (.int .i64 vr7.To)]), [], [], []⟩, [0]), (some ⟨.v (.one (.d (.int .i64 vr1_2))), [], [], []⟩, []), (some ⟨.v (.one (.d (.int .i64 vx2_1))), [], [], []⟩, []), (some ⟨.v (.one (.d (.bool true))), [], [], []⟩, []), (some ⟨.v (.one (.d (.bool true))), [], [], []⟩, []), (none, []), (none, []), (some ⟨.v (.one (.d (.bool true))), [], [], []⟩, []), (some ⟨.v (.one (.d (.int .i64 vr3))), [], [], []⟩, []), (some ⟨.v (.one (.d (.int .i64 vr1))), [], [], []⟩, []), (some ⟨.v (.one (.d (.bool false))), [], [], []⟩, []), (some ⟨.v (.one (.d (.bool false))), [], [], []⟩, []), (none, []), (none, []), (some ⟨.v (.one (.d (.bool false))), [], [], []⟩, []), (some ⟨.v (.one (.d (.int .i64 vr10))), [], [], []⟩, []), (some ⟨.v (.one (.own 18001 none)), [(18001, some ⟨33, 1, List.map (encI .i64) ([vr1_1, vr1_2, vr3, vr10] : List Int)⟩)], [], []⟩, []), (some ⟨.v (.one (.d (.int .i64 vr11))), [], [], []⟩, [18001]), (some ⟨.v (.one (.d (.int .i64 vr11))), [], [], []⟩, [])] [[], [0], [], [0, 1, 2], [], [4], [0, 1, 2, 3, 4, 5], [0, 1, 2, 3, 4, 5, 6], [0, 1, 2, 3, 4, 5, 6, 7], [0, 1, 2, 3, 4, 5, 6, 7, 8], [0, 1, 2, 3, 4, 5, 6, 7, 8, 9], [], [11], [0, 1, 2, 3, 4, 5, 6, 7, 8, 9, 10, 11, 12], [0, 1, 2, 3, 4, 5, 6, 7, 8, 9, 10, 11, 12, 13], [0, 1, 2, 3, 4, 5, 6, 7, 8, 9, 10, 11, 12, 13, 14], [0, 1, 2, 3, 4, 5, 6, 7, 8, 9, 10, 11, 12, 13, 14, 15], [0, 1, 2, 3, 4, 5, 6, 7, 8, 9, 10, 11, 12, 13, 14, 15, 16], [0, 1, 2, 3, 4, 5, 6, 7, 8, 9, 10, 11, 12, 13, 14, 15, 16, 17], [0, 1, 2, 3, 4, 5, 6, 7, 8, 9, 10, 11, 12, 13, 14, 15, 16, 17, 18], [0, 1, 2, 3, 4, 5, 6, 7, 8, 9, 10, 11, 12, 13, 14, 15, 16, 17, 18, 19]] (by kernel_rfl) (by kernel_rfl) (by kernel_rfl) (by kernel_rfl) ?_
      refine And.intro (step_eff hΓ (.v (.one (.d (.lst (List.map api_Sample.enc vr9))))) [] [] (by kernel_rfl) (by kernel_rfl)) ?_
      refine And.intro (step_call (by kernel_rfl) (by kernel_rfl) (stable_call (f := (.func 21)) (g := 21) (caps := []) (tvs := [.v (.one (.d (.lst (List.map api_Sample.enc vr9))))]) (al := [.v (.one (.d (.lst (List.map api_Sample.enc vr9))))]) (m := ⟨[], []⟩) (m' := ⟨[], []⟩) (tv := .v (.one (.d (.int .i64 vr1_1)))) (lens := []) rfl (by kernel_rfl) (by kernel_rfl) (sees_of (rl := []) (nl := []) (by kernel_rfl) trivial trivial) (⟨t_same (by kernel_rfl) (by kernel_rfl), trivial⟩) (fleetref2_SeriesFault_ok _ _ h12) (left_of (by kernel_rfl)) (by kernel_rfl)) (.v (.one (.d (.int .i64 vr1_1)))) [] [] (by kernel_rfl)) ?_
      refine And.intro (step_eff hΓ (.v (.agg [.d (.int .i64 vr7.From), .d (.int .i64 vr7.To)])) [] [] (by kernel_rfl) (by kernel_rfl)) ?_
      refine And.intro (step_call (by kernel_rfl) (by kernel_rfl) (stable_call (f := (.func 22)) (g := 22) (caps := []) (tvs := [.v (.agg [.d (.int .i64 vr7.From), .d (.int .i64 vr7.To)])]) (al := [.v (.agg [.d (.int .i64 vr7.From), .d (.int .i64 vr7.To)])]) (m := ⟨[], []⟩) (m' := ⟨[], []⟩) (tv := .v (.one (.d (.int .i64 vr1_2)))) (lens := []) rfl (by kernel_rfl) (by kernel_rfl) (sees_of (rl := []) (nl := []) (by kernel_rfl) trivial trivial) (⟨t_same (by kernel_rfl) (by kernel_rfl), trivial⟩) (fleetref2_WindowFault_ok _ _ h13) (left_of (by kernel_rfl)) (by kernel_rfl)) (.v (.one (.d (.int .i64 vr1_2)))) [] [] (by kernel_rfl)) ?_
      refine And.intro (step_eff hΓ (.v (.one (.d (.int .i64 vx2_1)))) [] [] (by kernel_rfl) (by kernel_rfl)) ?_
      refine And.intro (step_eff hΓ (.v (.one (.d (.bool true)))) [] [] (opx_b (by kernel_rfl) h14) (by kernel_rfl)) ?_
      refine And.intro (step_eff hΓ (.v (.one (.d (.bool true)))) [] [] (by kernel_rfl) (by kernel_rfl)) ?_
      refine And.intro (step_skip' (by kernel_rfl)) ?_
      refine And.intro (step_skip' (by kernel_rfl)) ?_
      refine And.intro (step_eff hΓ (.v (.one (.d (.bool true)))) [] [] (by kernel_rfl) (by kernel_rfl)) ?_
      refine And.intro (step_call (by kernel_rfl) (by kernel_rfl) (stable_call (f := (.func 23)) (g := 23) (caps := []) (tvs := [.v (.one (.d (.bool true))), .v (.one (.d (.int .i64 1)))]) (al := [.v (.one (.d (.bool true))), .v (.one (.d (.int .i64 1)))]) (m := ⟨[], []⟩) (m' := ⟨[], []⟩) (tv := .v (.one (.d (.int .i64 vr3)))) (lens := []) rfl (by kernel_rfl) (by kernel_rfl) (sees_of (rl := []) (nl := []) (by kernel_rfl) trivial trivial) (⟨t_same (by kernel_rfl) (by kernel_rfl), t_same (by kernel_rfl) (by kernel_rfl), trivial⟩) (fleetlaw2_when_ok _ _ _ h15) (left_of (by kernel_rfl)) (by kernel_rfl)) (.v (.one (.d (.int .i64 vr3)))) [] [] (by kernel_rfl)) ?_
      refine And.intro (step_eff hΓ (.v (.one (.d (.int .i64 vr1)))) [] [] (by kernel_rfl) (by kernel_rfl)) ?_
      refine And.intro (step_eff hΓ (.v (.one (.d (.bool false)))) [] [] (opx_b (by kernel_rfl) h16) (by kernel_rfl)) ?_
      refine And.intro (step_eff hΓ (.v (.one (.d (.bool false)))) [] [] (by kernel_rfl) (by kernel_rfl)) ?_
      refine And.intro (step_skip' (by kernel_rfl)) ?_
      refine And.intro (step_skip' (by kernel_rfl)) ?_
      refine And.intro (step_eff hΓ (.v (.one (.d (.bool false)))) [] [] (by kernel_rfl) (by kernel_rfl)) ?_
      refine And.intro (step_call (by kernel_rfl) (by kernel_rfl) (stable_call (f := (.func 23)) (g := 23) (caps := []) (tvs := [.v (.one (.d (.bool false))), .v (.one (.d (.int .i64 4)))]) (al := [.v (.one (.d (.bool false))), .v (.one (.d (.int .i64 4)))]) (m := ⟨[], []⟩) (m' := ⟨[], []⟩) (tv := .v (.one (.d (.int .i64 vr10)))) (lens := []) rfl (by kernel_rfl) (by kernel_rfl) (sees_of (rl := []) (nl := []) (by kernel_rfl) trivial trivial) (⟨t_same (by kernel_rfl) (by kernel_rfl), t_same (by kernel_rfl) (by kernel_rfl), trivial⟩) (fleetlaw2_when_ok _ _ _ h19) (left_of (by kernel_rfl)) (by kernel_rfl)) (.v (.one (.d (.int .i64 vr10)))) [] [] (by kernel_rfl)) ?_
      refine And.intro (step_eff hΓ (.v (.one (.own 18001 none))) [(18001, some ⟨33, 1, List.map (encI .i64) ([vr1_1, vr1_2, vr3, vr10] : List Int)⟩)] [] (by kernel_rfl) (by kernel_rfl)) ?_
      refine And.intro (step_call (by kernel_rfl) (by kernel_rfl) (stable_call (f := (.func 20)) (g := 20) (caps := []) (tvs := [.v (.one (.own 18001 none))]) (al := [.v (.one (.d (.lst (List.map (encI .i64) ([vr1_1, vr1_2, vr3, vr10] : List Int)))))]) (m := ⟨[], []⟩) (m' := ⟨[], []⟩) (tv := .v (.one (.d (.int .i64 vr11)))) (lens := [18001]) rfl (by kernel_rfl) (by kernel_rfl) (sees_of (rl := []) (nl := []) (by kernel_rfl) trivial trivial) (⟨t_cell (c := .own 18001 none) (by kernel_rfl) (see_own (us := [18001]) (by simp) rfl (by kernel_rfl) (by kernel_rfl)), trivial⟩) (fleetlaw2_errs_ok _ _ h20) (left_of (by kernel_rfl)) (by kernel_rfl)) (.v (.one (.d (.int .i64 vr11)))) [] [] (by kernel_rfl)) ?_
      refine And.intro (step_eff hΓ (.v (.one (.d (.int .i64 vr11)))) [] [] (by kernel_rfl) (by kernel_rfl)) ?_
      obtain rfl := some_eq hF
      exact out_intro rfl (to_see [] [] ⟨[], [(0, [.d (.int .i64 vr7.From), .d (.int .i64 vr7.To)])]⟩ [(4, .v (.one (.d (.lst (List.map api_Sample.enc vr9))))), (5, .v (.one (.box 0 0))), (6, .v (.one (.d (.int .i64 vx2_1)))), (7, .v (.one (.d (.int .i64 vr1)))), (8, .v (.one (.d (.lst (List.map api_Sample.enc vr4))))), (9, .v (.one (.d (.int .i64 vr5)))), (10, .v (.one (.d (.int .i64 vr11))))] 1 (by kernel_rfl) (by kernel_rfl) (lowc_of (by kernel_rfl)) trivial (⟨⟨by kernel_rfl, [.d (.int .i64 vr7.From), .d (.int .i64 vr7.To)], by kernel_rfl, l2_same (by kernel_rfl) (by kernel_rfl)⟩, trivial⟩) (⟨t_same (by kernel_rfl) (by kernel_rfl), t_same (by kernel_rfl) (by kernel_rfl), t_same (by kernel_rfl) (by kernel_rfl), t_same (by kernel_rfl) (by kernel_rfl), t_same (by kernel_rfl) (by kernel_rfl), t_same (by kernel_rfl) (by kernel_rfl), t_same (by kernel_rfl) (by kernel_rfl), trivial⟩))
  · obtain ⟨vr12, h21, hF⟩ := bind_some hF
    rcases cond_or hF with ⟨h22, hF⟩ | ⟨h22, hF⟩
    · obtain ⟨vr13, h23, hF⟩ := bind_some hF
      obtain ⟨vr14, h24, hF⟩ := bind_some hF
      refine awp_region_any' hm 1 21001 [(some ⟨.v (.one (.d (.lst (List.map api_Sample.enc vr9)))), [], [], []⟩, []), (some ⟨.v (.one (.d (.int .i64 vr1_1))), [], [], []⟩, []), (some ⟨.v (.agg [.d (.int .i64 vr7.From), .d (.int .i64 vr7.To)]), [], [], []⟩, [0]), (some ⟨.v (.one (.d (.int .i64 vr1_2))), [], [], []⟩, []), (some ⟨.v (.one (.d (.int .i64 vx2_1))), [], [], []⟩, []), (some ⟨.v (.one (.d (.bool false))), [], [], []⟩, []), (some ⟨.v (.one (.d (.bool false))), [], [], []⟩, []), (some ⟨.v (.one (.d (.int .i64 vx2_1))), [], [], []⟩, []), (some ⟨.v (.one (.d (.bool (decide (345686400000 < vx2_1))))), [], [], []⟩, []), (some ⟨.v (.one (.d (.bool (decide (345686400000 < vx2_1))))), [], [], []⟩, []), (some ⟨.v (.one (.d (.int .i64 vr12))), [], [], []⟩, []), (some ⟨.v (.one (.d (.int .i64 vr1))), [], [], []⟩, []), (some ⟨.v (.one (.d (.bool true))), [], [], []⟩, []), (some ⟨.v (.one (.d (.bool true))), [], [], []⟩, []), (some ⟨.v (.one (.d (.int .i64 vr1))), [], [], []⟩, []), (some ⟨.v (.one (.d (.bool (!decide (vr1 = 2))))), [], [], []⟩, []), (some ⟨.v (.one (.d (.bool (!decide (vr1 = 2))))), [], [], []⟩, []), (some ⟨.v (.one (.d (.int .i64 vr13))), [], [], []⟩, []), (some ⟨.v (.one (.own 18001 none)), [(18001, some ⟨33, 1, List.map (encI .i64) ([vr1_1, vr1_2, vr12, vr13] : List Int)⟩)], [], []⟩, []), (some ⟨.v (.one (.d (.int .i64 vr14))), [], [], []⟩, [18001]), (some ⟨.v (.one (.d (.int .i64 vr14))), [], [], []⟩, [])] [[], [0], [], [0, 1, 2], [], [4], [0, 1, 2, 3, 4, 5], [0, 1, 2, 3, 4, 5, 6], [0, 1, 2, 3, 4, 5, 6, 7], [0, 1, 2, 3, 4, 5, 6, 7, 8], [0, 1, 2, 3, 4, 5, 6, 7, 8, 9], [], [11], [0, 1, 2, 3, 4, 5, 6, 7, 8, 9, 10, 11, 12], [0, 1, 2, 3, 4, 5, 6, 7, 8, 9, 10, 11, 12, 13], [0, 1, 2, 3, 4, 5, 6, 7, 8, 9, 10, 11, 12, 13, 14], [0, 1, 2, 3, 4, 5, 6, 7, 8, 9, 10, 11, 12, 13, 14, 15], [0, 1, 2, 3, 4, 5, 6, 7, 8, 9, 10, 11, 12, 13, 14, 15, 16], [0, 1, 2, 3, 4, 5, 6, 7, 8, 9, 10, 11, 12, 13, 14, 15, 16, 17], [0, 1, 2, 3, 4, 5, 6, 7, 8, 9, 10, 11, 12, 13, 14, 15, 16, 17, 18], [0, 1, 2, 3, 4, 5, 6, 7, 8, 9, 10, 11, 12, 13, 14, 15, 16, 17, 18, 19]] (by kernel_rfl) (by kernel_rfl) (by kernel_rfl) (by kernel_rfl) ?_
      refine And.intro (step_eff hΓ (.v (.one (.d (.lst (List.map api_Sample.enc vr9))))) [] [] (by kernel_rfl) (by kernel_rfl)) ?_
      refine And.intro (step_call (by kernel_rfl) (by kernel_rfl) (stable_call (f := (.func 21)) (g := 21) (caps := []) (tvs := [.v (.one (.d (.lst (List.map api_Sample.enc vr9))))]) (al := [.v (.one (.d (.lst (List.map api_Sample.enc vr9))))]) (m := ⟨[], []⟩) (m' := ⟨[], []⟩) (tv := .v (.one (.d (.int .i64 vr1_1)))) (lens := []) rfl (by kernel_rfl) (by kernel_rfl) (sees_of (rl := []) (nl := []) (by kernel_rfl) trivial trivial) (⟨t_same (by kernel_rfl) (by kernel_rfl), trivial⟩) (fleetref2_SeriesFault_ok _ _ h12) (left_of (by kernel_rfl)) (by kernel_rfl)) (.v (.one (.d (.int .i64 vr1_1)))) [] [] (by kernel_rfl)) ?_
      refine And.intro (step_eff hΓ (.v (.agg [.d (.int .i64 vr7.From), .d (.int .i64 vr7.To)])) [] [] (by kernel_rfl) (by kernel_rfl)) ?_
      refine And.intro (step_call (by kernel_rfl) (by kernel_rfl) (stable_call (f := (.func 22)) (g := 22) (caps := []) (tvs := [.v (.agg [.d (.int .i64 vr7.From), .d (.int .i64 vr7.To)])]) (al := [.v (.agg [.d (.int .i64 vr7.From), .d (.int .i64 vr7.To)])]) (m := ⟨[], []⟩) (m' := ⟨[], []⟩) (tv := .v (.one (.d (.int .i64 vr1_2)))) (lens := []) rfl (by kernel_rfl) (by kernel_rfl) (sees_of (rl := []) (nl := []) (by kernel_rfl) trivial trivial) (⟨t_same (by kernel_rfl) (by kernel_rfl), trivial⟩) (fleetref2_WindowFault_ok _ _ h13) (left_of (by kernel_rfl)) (by kernel_rfl)) (.v (.one (.d (.int .i64 vr1_2)))) [] [] (by kernel_rfl)) ?_
      refine And.intro (step_eff hΓ (.v (.one (.d (.int .i64 vx2_1)))) [] [] (by kernel_rfl) (by kernel_rfl)) ?_
      refine And.intro (step_eff hΓ (.v (.one (.d (.bool false)))) [] [] (opx_b (by kernel_rfl) h14) (by kernel_rfl)) ?_
      refine And.intro (step_eff hΓ (.v (.one (.d (.bool false)))) [] [] (by kernel_rfl) (by kernel_rfl)) ?_
      refine And.intro (step_eff hΓ (.v (.one (.d (.int .i64 vx2_1)))) [] [] (by kernel_rfl) (by kernel_rfl)) ?_
      refine And.intro (step_eff hΓ (.v (.one (.d (.bool (decide (345686400000 < vx2_1)))))) [] [] (by kernel_rfl) (by kernel_rfl)) ?_
      refine And.intro (step_eff hΓ (.v (.one (.d (.bool (decide (345686400000 < vx2_1)))))) [] [] (by kernel_rfl) (by kernel_rfl)) ?_
      refine And.intro (step_call (by kernel_rfl) (by kernel_rfl) (stable_call (f := (.func 23)) (g := 23) (caps := []) (tvs := [.v (.one (.d (.bool (decide (345686400000 < vx2_1))))), .v (.one (.d (.int .i64 1)))]) (al := [.v (.one (.d (.bool (decide (345686400000 < vx2_1))))), .v (.one (.d (.int .i64 1)))]) (m := ⟨[], []⟩) (m' := ⟨[], []⟩) (tv := .v (.one (.d (.int .i64 vr12)))) (lens := []) rfl (by kernel_rfl) (by kernel_rfl) (sees_of (rl := []) (nl := []) (by kernel_rfl) trivial trivial) (⟨t_same (by kernel_rfl) (by kernel_rfl), t_same (by kernel_rfl) (by kernel_rfl), trivial⟩) (fleetlaw2_when_ok _ _ _ h21) (left_of (by kernel_rfl)) (by kernel_rfl)) (.v (.one (.d (.int .i64 vr12)))) [] [] (by kernel_rfl)) ?_
      refine And.intro (step_eff hΓ (.v (.one (.d (.int .i64 vr1)))) [] [] (by kernel_rfl) (by kernel_rfl)) ?_
      refine And.intro (step_eff hΓ (.v (.one (.d (.bool true)))) [] [] (opx_b (by kernel_rfl) h22) (by kernel_rfl)) ?_
      refine And.intro (step_eff hΓ (.v (.one (.d (.bool true)))) [] [] (by kernel_rfl) (by kernel_rfl)) ?_
      refine And.intro (step_eff hΓ (.v (.one (.d (.int .i64 vr1)))) [] [] (by kernel_rfl) (by kernel_rfl)) ?_
      refine And.intro (step_eff hΓ (.v (.one (.d (.bool (!decide (vr1 = 2)))))) [] [] (by kernel_rfl) (by kernel_rfl)) ?_
      refine And.intro (step_eff hΓ (.v (.one (.d (.bool (!decide (vr1 = 2)))))) [] [] (by kernel_rfl) (by kernel_rfl)) ?_
      refine And.intro (step_call (by kernel_rfl) (by kernel_rfl) (stable_call (f := (.func 23)) (g := 23) (caps := []) (tvs := [.v (.one (.d (.bool (!decide (vr1 = 2))))), .v (.one (.d (.int .i64 4)))]) (al := [.v (.one (.d (.bool (!decide (vr1 = 2))))), .v (.one (.d (.int .i64 4)))]) (m := ⟨[], []⟩) (m' := ⟨[], []⟩) (tv := .v (.one (.d (.int .i64 vr13)))) (lens := []) rfl (by kernel_rfl) (by kernel_rfl) (sees_of (rl := []) (nl := []) (by kernel_rfl) trivial trivial) (⟨t_same (by kernel_rfl) (by kernel_rfl), t_same (by kernel_rfl) (by kernel_rfl), trivial⟩) (fleetlaw2_when_ok _ _ _ h23) (left_of (by kernel_rfl)) (by kernel_rfl)) (.v (.one (.d (.int .i64 vr13)))) [] [] (by kernel_rfl)) ?_
      refine And.intro (step_eff hΓ (.v (.one (.own 18001 none))) [(18001, some ⟨33, 1, List.map (encI .i64) ([vr1_1, vr1_2, vr12, vr13] : List Int)⟩)] [] (by kernel_rfl) (by kernel_rfl)) ?_
      refine And.intro (step_call (by kernel_rfl) (by kernel_rfl) (stable_call (f := (.func 20)) (g := 20) (caps := []) (tvs := [.v (.one (.own 18001 none))]) (al := [.v (.one (.d (.lst (List.map (encI .i64) ([vr1_1, vr1_2, vr12, vr13] : List Int)))))]) (m := ⟨[], []⟩) (m' := ⟨[], []⟩) (tv := .v (.one (.d (.int .i64 vr14)))) (lens := [18001]) rfl (by kernel_rfl) (by kernel_rfl) (sees_of (rl := []) (nl := []) (by kernel_rfl) trivial trivial) (⟨t_cell (c := .own 18001 none) (by kernel_rfl) (see_own (us := [18001]) (by simp) rfl (by kernel_rfl) (by kernel_rfl)), trivial⟩) (fleetlaw2_errs_ok _ _ h24) (left_of (by kernel_rfl)) (by kernel_rfl)) (.v (.one (.d (.int .i64 vr14)))) [] [] (by kernel_rfl)) ?_
      refine And.intro (step_eff hΓ (.v (.one (.d (.int .i64 vr14)))) [] [] (by kernel_rfl) (by kernel_rfl)) ?_
      obtain rfl := some_eq hF
      exact out_intro rfl (to_see [] [] ⟨[], [(0, [.d (.int .i64 vr7.From), .d (.int .i64 vr7.To)])]⟩ [(4, .v (.one (.d (.lst (List.map api_Sample.enc vr9))))), (5, .v (.one (.box 0 0))), (6, .v (.one (.d (.int .i64 vx2_1)))), (7, .v (.one (.d (.int .i64 vr1)))), (8, .v (.one (.d (.lst (List.map api_Sample.enc vr4))))), (9, .v (.one (.d (.int .i64 vr5)))), (10, .v (.one (.d (.int .i64 vr14))))] 1 (by kernel_rfl) (by kernel_rfl) (lowc_of (by kernel_rfl)) trivial (⟨⟨by kernel_rfl, [.d (.int .i64 vr7.From), .d (.int .i64 vr7.To)], by kernel_rfl, l2_same (by kernel_rfl) (by kernel_rfl)⟩, trivial⟩) (⟨t_same (by kernel_rfl) (by kernel_rfl), t_same (by kernel_rfl) (by kernel_rfl), t_same (by kernel_rfl) (by kernel_rfl), t_same (by kernel_rfl) (by kernel_rfl), t_same (by kernel_rfl) (by kernel_rfl), t_same (by kernel_rfl) (by kernel_rfl), t_same (by kernel_rfl) (by kernel_rfl), trivial⟩))
    · obtain ⟨vr15, h25, hF⟩ := bind_some hF
      obtain ⟨vr16, h26, hF⟩ := bind_some hF
      refine awp_region_any' hm 1 21001 [(some ⟨.v (.one (.d (.lst (List.map api_Sample.enc vr9)))), [], [], []⟩, []), (some ⟨.v (.one (.d (.int .i64 vr1_1))), [], [], []⟩, []), (some ⟨.v (.agg [.d (.int .i64 vr7.From), .d (.int .i64 vr7.To)]), [], [], []⟩, [0]), (some ⟨.v (.one (.d (.int .i64 vr1_2))), [], [], []⟩, []), (some ⟨.v (.one (.d (.int .i64 vx2_1))), [], [], []⟩, []), (some ⟨.v (.one (.d (.bool false))), [], [], []⟩, []), (some ⟨.v (.one (.d (.bool false))), [], [], []⟩, []), (some ⟨.v (.one (.d (.int .i64 vx2_1))), [], [], []⟩, []), (some ⟨.v (.one (.d (.bool (decide (345686400000 < vx2_1))))), [], [], []⟩, []), (some ⟨.v (.one (.d (.bool (decide (345686400000 < vx2_1))))), [], [], []⟩, []), (some ⟨.v (.one (.d (.int .i64 vr12))), [], [], []⟩, []), (some ⟨.v (.one (.d (.int .i64 vr1))), [], [], []⟩, []), (some ⟨.v (.one (.d (.bool false))), [], [], []⟩, []), (some ⟨.v (.one (.d (.bool false))), [], [], []⟩, []), (none, []), (none, []), (some ⟨.v (.one (.d (.bool false))), [], [], []⟩, []), (some ⟨.v (.one (.d (.int .i64 vr15))), [], [], []⟩, []), (some ⟨.v (.one (.own 18001 none)), [(18001, some ⟨33, 1, List.map (encI .i64) ([vr1_1, vr1_2, vr12, vr15] : List Int)⟩)], [], []⟩, []), (some ⟨.v (.one (.d (.int .i64 vr16))), [], [], []⟩, [18001]), (some ⟨.v (.one (.d (.int .i64 vr16))), [], [], []⟩, [])] [[], [0], [], [0, 1, 2], [], [4], [0, 1, 2, 3, 4, 5], [0, 1, 2, 3, 4, 5, 6], [0, 1, 2, 3, 4, 5, 6, 7], [0, 1, 2, 3, 4, 5, 6, 7, 8], [0, 1, 2, 3, 4, 5, 6, 7, 8, 9], [], [11], [0, 1, 2, 3, 4, 5, 6, 7, 8, 9, 10, 11, 12], [0, 1, 2, 3, 4, 5, 6, 7, 8, 9, 10, 11, 12, 13], [0, 1, 2, 3, 4, 5, 6, 7, 8, 9, 10, 11, 12, 13, 14], [0, 1, 2, 3, 4, 5, 6, 7, 8, 9, 10, 11, 12, 13, 14, 15], [0, 1, 2, 3, 4, 5, 6, 7, 8, 9, 10, 11, 12, 13, 14, 15, 16], [0, 1, 2, 3, 4, 5, 6, 7, 8, 9, 10, 11, 12, 13, 14, 15, 16, 17], [0, 1, 2, 3, 4, 5, 6, 7, 8, 9, 10, 11, 12, 13, 14, 15, 16, 17, 18], [0, 1, 2, 3, 4, 5, 6, 7, 8, 9, 10, 11, 12, 13, 14, 15, 16, 17, 18, 19]] (by kernel_rfl) (by kernel_rfl) (by kernel_rfl) (by kernel_rfl) ?_
      refine And.intro (step_eff hΓ (.v (.one (.d (.lst (List.map api_Sample.enc vr9))))) [] [] (by kernel_rfl) (by kernel_rfl)) ?_
      refine And.intro (step_call (by kernel_rfl) (by kernel_rfl) (stable_call (f := (.func 21)) (g := 21) (caps := []) (tvs := [.v (.one (.d (.lst (List.map api_Sample.enc vr9))))]) (al := [.v (.one (.d (.lst (List.map api_Sample.enc vr9))))]) (m := ⟨[], []⟩) (m' := ⟨[], []⟩) (tv := .v (.one (.d (.int .i64 vr1_1)))) (lens := []) rfl (by kernel_rfl) (by kernel_rfl) (sees_of (rl := []) (nl := []) (by kernel_rfl) trivial trivial) (⟨t_same (by kernel_rfl) (by kernel_rfl), trivial⟩) (fleetref2_SeriesFault_ok _ _ h12) (left_of (by kernel_rfl)) (by kernel_rfl)) (.v (.one (.d (.int .i64 vr1_1)))) [] [] (by kernel_rfl)) ?_
      refine And.intro (step_eff hΓ (.v (.agg [.d (.int .i64 vr7.From), .d (.int .i64 vr7.To)])) [] [] (by kernel_rfl) (by kernel_rfl)) ?_
      refine And.intro (step_call (by kernel_rfl) (by kernel_rfl) (stable_call (f := (.func 22)) (g := 22) (caps := []) (tvs := [.v (.agg [.d (.int .i64 vr7.From), .d (.int .i64 vr7.To)])]) (al := [.v (.agg [.d (.int .i64 vr7.From), .d (.int .i64 vr7.To)])]) (m := ⟨[], []⟩) (m' := ⟨[], []⟩) (tv := .v (.one (.d (.int .i64 vr1_2)))) (lens := []) rfl (by kernel_rfl) (by kernel_rfl) (sees_of (rl := []) (nl := []) (by kernel_rfl) trivial trivial) (⟨t_same (by kernel_rfl) (by kernel_rfl), trivial⟩) (fleetref2_WindowFault_ok _ _ h13) (left_of (by kernel_rfl)) (by kernel_rfl)) (.v (.one (.d (.int .i64 vr1_2)))) [] [] (by kernel_rfl)) ?_
      refine And.intro (step_eff hΓ (.v (.one (.d (.int .i64 vx2_1)))) [] [] (by kernel_rfl) (by kernel_rfl)) ?_
      refine And.intro (step_eff hΓ (.v (.one (.d (.bool false)))) [] [] (opx_b (by kernel_rfl) h14) (by kernel_rfl)) ?_
      refine And.intro (step_eff hΓ (.v (.one (.d (.bool false)))) [] [] (by kernel_rfl) (by kernel_rfl)) ?_
      refine And.intro (step_eff hΓ (.v (.one (.d (.int .i64 vx2_1)))) [] [] (by kernel_rfl) (by kernel_rfl)) ?_
      refine And.intro (step_eff hΓ (.v (.one (.d (.bool (decide (345686400000 < vx2_1)))))) [] [] (by kernel_rfl) (by kernel_rfl)) ?_
      refine And.intro (step_eff hΓ (.v (.one (.d (.bool (decide (345686400000 < vx2_1)))))) [] [] (by kernel_rfl) (by kernel_rfl)) ?_
      refine And.intro (step_call (by kernel_rfl) (by kernel_rfl) (stable_call (f := (.func 23)) (g := 23) (caps := []) (tvs := [.v (.one (.d (.bool (decide (345686400000 < vx2_1))))), .v (.one (.d (.int .i64 1)))]) (al := [.v (.one (.d (.bool (decide (345686400000 < vx2_1))))), .v (.one (.d (.int .i64 1)))]) (m := ⟨[], []⟩) (m' := ⟨[], []⟩) (tv := .v (.one (.d (.int .i64 vr12)))) (lens := []) rfl (by kernel_rfl) (by kernel_rfl) (sees_of (rl := []) (nl := []) (by kernel_rfl) trivial trivial) (⟨t_same (by kernel_rfl) (by kernel_rfl), t_same (by kernel_rfl) (by kernel_rfl), trivial⟩) (fleetlaw2_when_ok _ _ _ h21) (left_of (by kernel_rfl)) (by kernel_rfl)) (.v (.one (.d (.int .i64 vr12)))) [] [] (by kernel_rfl)) ?_
      refine And.intro (step_eff hΓ (.v (.one (.d (.int .i64 vr1)))) [] [] (by kernel_rfl) (by kernel_rfl)) ?_
      refine And.intro (step_eff hΓ (.v (.one (.d (.bool false)))) [] [] (opx_b (by kernel_rfl) h22) (by kernel_rfl)) ?_
      refine And.intro (step_eff hΓ (.v (.one (.d (.bool false)))) [] [] (by kernel_rfl) (by kernel_rfl)) ?_
      refine And.intro (step_skip' (by kernel_rfl)) ?_
      refine And.intro (step_skip' (by kernel_rfl)) ?_
      refine And.intro (step_eff hΓ (.v (.one (.d (.bool false)))) [] [] (by kernel_rfl) (by kernel_rfl)) ?_
      refine And.intro (step_call (by kernel_rfl) (by kernel_rfl) (stable_call (f := (.func 23)) (g := 23) (caps := []) (tvs := [.v (.one (.d (.bool false))), .v (.one (.d (.int .i64 4)))]) (al := [.v (.one (.d (.bool false))), .v (.one (.d (.int .i64 4)))]) (m := ⟨[], []⟩) (m' := ⟨[], []⟩) (tv := .v (.one (.d (.int .i64 vr15)))) (lens := []) rfl (by kernel_rfl) (by kernel_rfl) (sees_of (rl := []) (nl := []) (by kernel_rfl) trivial trivial) (⟨t_same (by kernel_rfl) (by kernel_rfl), t_same (by kernel_rfl) (by kernel_rfl), trivial⟩) (fleetlaw2_when_ok _ _ _ h25) (left_of (by kernel_rfl)) (by kernel_rfl)) (.v (.one (.d (.int .i64 vr15)))) [] [] (by kernel_rfl)) ?_
      refine And.intro (step_eff hΓ (.v (.one (.own 18001 none))) [(18001, some ⟨33, 1, List.map (encI .i64) ([vr1_1, vr1_2, vr12, vr15] : List Int)⟩)] [] (by kernel_rfl) (by kernel_rfl)) ?_
      refine And.intro (step_call (by kernel_rfl) (by kernel_rfl) (stable_call (f := (.func 20)) (g := 20) (caps := []) (tvs := [.v (.one (.own 18001 none))]) (al := [.v (.one (.d (.lst (List.map (encI .i64) ([vr1_1, vr1_2, vr12, vr15] : List Int)))))]) (m := ⟨[], []⟩) (m' := ⟨[], []⟩) (tv := .v (.one (.d (.int .i64 vr16)))) (lens := [18001]) rfl (by kernel_rfl) (by kernel_rfl) (sees_of (rl := []) (nl := []) (by kernel_rfl) trivial trivial) (⟨t_cell (c := .own 18001 none) (by kernel_rfl) (see_own (us := [18001]) (by simp) rfl (by kernel_rfl) (by kernel_rfl)), trivial⟩) (fleetlaw2_errs_ok _ _ h26) (left_of (by kernel_rfl)) (by kernel_rfl)) (.v (.one (.d (.int .i64 vr16)))) [] [] (by kernel_rfl)) ?_
      refine And.intro (step_eff hΓ (.v (.one (.d (.int .i64 vr16)))) [] [] (by kernel_rfl) (by kernel_rfl)) ?_
      obtain rfl := some_eq hF
      exact out_intro rfl (to_see [] [] ⟨[], [(0, [.d (.int .i64 vr7.From), .d (.int .i64 vr7.To)])]⟩ [(4, .v (.one (.d (.lst (List.map api_Sample.enc vr9))))), (5, .v (.one (.box 0 0))), (6, .v (.one (.d (.int .i64 vx2_1)))), (7, .v (.one (.d (.int .i64 vr1)))), (8, .v (.one (.d (.lst (List.map api_Sample.enc vr4))))), (9, .v (.one (.d (.int .i64 vr5)))), (10, .v (.one (.d (.int .i64 vr16))))] 1 (by kernel_rfl) (by kernel_rfl) (lowc_of (by kernel_rfl)) trivial (⟨⟨by kernel_rfl, [.d (.int .i64 vr7.From), .d (.int .i64 vr7.To)], by kernel_rfl, l2_same (by kernel_rfl) (by kernel_rfl)⟩, trivial⟩) (⟨t_same (by kernel_rfl) (by kernel_rfl), t_same (by kernel_rfl) (by kernel_rfl), t_same (by kernel_rfl) (by kernel_rfl), t_same (by kernel_rfl) (by kernel_rfl), t_same (by kernel_rfl) (by kernel_rfl), t_same (by kernel_rfl) (by kernel_rfl), t_same (by kernel_rfl) (by kernel_rfl), trivial⟩))

def fleetlaw2_SeriesFilled_x4_k : (Int × (List api_Sample)) → AEx
  | _ => .normal

def fleetlaw2_SeriesFilled_x4_S (vr9 : List api_Sample) (vr7 : api_Window) (vr1 : Int) (vx2_1 : Int) (vr4 : List api_Sample) (vr5 : Int) (vx3_1 : Int) : (Int × (List api_Sample)) → St
  | (vx4, vx5) => Mem.st ⟨[], []⟩ (tl [(8, .v (.one (.d (.lst (List.map api_Sample.enc vr4))))), (9, .v (.one (.d (.int .i64 vr5)))), (10, .v (.one (.d (.int .i64 vx4)))), (11, .v (.one (.d (.lst (List.map api_Sample.enc vx5)))))]) 0

theorem fleetlaw2_SeriesFilled_x4_ok (vr9 : List api_Sample) (vr7 : api_Window) (vr1 : Int) (vx2_1 : Int) (vr4 : List api_Sample) (vr5 : Int) (vx3_1 : Int) (r : (Int × (List api_Sample))) (hF : fleetlaw2_SeriesFilled_x4 vr9 vr7 vr1 vx2_1 vx3_1 = some r) : Awp prog 0 91 (cL (cR (cR (cR (cR (cR (cR (cR (cB f3))))))))) (Out 0 fleetlaw2_SeriesFilled_x4_k (fleetlaw2_SeriesFilled_x4_S vr9 vr7 vr1 vx2_1 vr4 vr5 vx3_1) r) (Mem.st ⟨[], [(0, [.d (.int .i64 vr7.From), .d (.int .i64 vr7.To)])]⟩ (tl [(4, .v (.one (.d (.lst (List.map api_Sample.enc vr9))))), (5, .v (.one (.box 0 0))), (6, .v (.one (.d (.int .i64 vx2_1)))), (7, .v (.one (.d (.int .i64 vr1)))), (8, .v (.one (.d (.lst (List.map api_Sample.enc vr4))))), (9, .v (.one (.d (.int .i64 vr5)))), (10, .v (.one (.d (.int .i64 vx3_1)))), (11, .v (.one (.nil)))]) 1) := by
  unfold fleetlaw2_SeriesFilled_x4 at hF
  refine awp_seq ?_
  refine awp_region' 1 2001 (by kernel_rfl) (by kernel_rfl) ?_
  refine aops_eff hΓ (.v (.one (.d (.int .i64 vx3_1)))) [] [] (by kernel_rfl) ?_
  refine aops_eff hΓ (.v (.one (.d (.bool (decide (vx3_1 = 0)))))) [] [] (by kernel_rfl) ?_
  refine aops_nil ?_
  rcases cond_or hF with ⟨h28, hF⟩ | ⟨h28, hF⟩
  · refine awp_true (by kernel_rfl) h28 ?_
    obtain ⟨⟨vr2_1, vr3_1⟩, h29, hF⟩ := bind_some hF
    refine awp_region' 2001 12001 (by kernel_rfl) (by kernel_rfl) ?_
    refine aops_eff hΓ (.v (.one (.d (.lst (List.map api_Sample.enc vr9))))) [] [] (by kernel_rfl) ?_
    refine aops_eff hΓ (.v (.agg [.d (.int .i64 vr7.From), .d (.int .i64 vr7.To)])) [] [] (by kernel_rfl) ?_
    refine aops_eff hΓ (.v (.one (.d (.int .i64 vx2_1)))) [] [] (by kernel_rfl) ?_
    refine aops_eff hΓ (.v (.one (.d (.int .i64 vr1)))) [] [] (by kernel_rfl) ?_
    refine aops_call (by kernel_rfl) (by kernel_rfl) (does_call (f := (.func 24)) (g := 24) (caps := []) (tvs := [.v (.one (.d (.lst (List.map api_Sample.enc vr9)))), .v (.agg [.d (.int .i64 vr7.From), .d (.int .i64 vr7.To)]), .v (.one (.d (.int .i64 vx2_1))), .v (.one (.d (.int .i64 vr1)))]) (al := [.v (.one (.d (.lst (List.map api_Sample.enc vr9)))), .v (.agg [.d (.int .i64 vr7.From), .d (.int .i64 vr7.To)]), .v (.one (.d (.int .i64 vx2_1))), .v (.one (.d (.int .i64 vr1)))]) (m := ⟨[], []⟩) (m' := ⟨[(0, ⟨42, 4, List.map api_Sample.enc vr2_1⟩)], []⟩) (tv := .tup [.one (.own 0 none), .one (.d (.int .i64 vr3_1))]) (lens := []) rfl (by kernel_rfl) (by kernel_rfl) (sees_of (rl := []) (nl := []) (by kernel_rfl) trivial trivial) (⟨t_same (by kernel_rfl) (by kernel_rfl), t_same (by kernel_rfl) (by kernel_rfl), t_same (by kernel_rfl) (by kernel_rfl), t_same (by kernel_rfl) (by kernel_rfl), trivial⟩) (fleetref2_FillOf_ok _ _ _ _ _ h29) (left_of (by kernel_rfl))) (.tup [.one (.own 6001 none), .one (.d (.int .i64 vr3_1))]) [(6001, some ⟨42, 4, List.map api_Sample.enc vr2_1⟩)] [] (by kernel_rfl) ?_
    refine aops_eff hΓ (.tup [.one (.own 6001 none), .one (.d (.int .i64 vr3_1))]) [] [] (by kernel_rfl) ?_
    refine aops_eff hΓ (.v (.one (.own 6001 none))) [] [] (by kernel_rfl) ?_
    refine aops_eff hΓ (.v (.one (.d (.int .i64 vr3_1)))) [] [] (by kernel_rfl) ?_
    refine aops_eff hΓ (.v (.one (.own 6001 none))) [] [] (by kernel_rfl) ?_
    refine aops_eff hΓ (.v (.one (.d (.int .i64 vr3_1)))) [] [] (by kernel_rfl) ?_
    refine aops_nil ?_
    obtain rfl := some_eq hF
    exact out_intro rfl (to_see [] [] ⟨[], []⟩ [(8, .v (.one (.d (.lst (List.map api_Sample.enc vr4))))), (9, .v (.one (.d (.int .i64 vr5)))), (10, .v (.one (.d (.int .i64 vr3_1)))), (11, .v (.one (.d (.lst (List.map api_Sample.enc vr2_1)))))] 0 (by kernel_rfl) (by kernel_rfl) (lowc_of (by kernel_rfl)) trivial trivial (⟨t_same (by kernel_rfl) (by kernel_rfl), t_same (by kernel_rfl) (by kernel_rfl), t_same (by kernel_rfl) (by kernel_rfl), t_cell (c := .own 6001 none) (by kernel_rfl) (see_own (us := [6001]) trivial rfl (by kernel_rfl) (by kernel_rfl)), trivial⟩))
  · refine awp_false (by kernel_rfl) h28 ?_
    refine awp_skip ?_
    obtain rfl := some_eq hF
    exact out_intro rfl (to_see [] [] ⟨[], []⟩ [(8, .v (.one (.d (.lst (List.map api_Sample.enc vr4))))), (9, .v (.one (.d (.int .i64 vr5)))), (10, .v (.one (.d (.int .i64 vx3_1)))), (11, .v (.one (.d (.lst (List.map api_Sample.enc [])))))] 0 (by kernel_rfl) (by kernel_rfl) (lowc_of (by kernel_rfl)) trivial trivial (⟨t_same (by kernel_rfl) (by kernel_rfl), t_same (by kernel_rfl) (by kernel_rfl), t_same (by kernel_rfl) (by kernel_rfl), t_cell (c := .nil) (by kernel_rfl) (see_nil rfl), trivial⟩))

def fleetlaw2_SeriesFilled_x5_k : Bool → AEx
  | _ => .normal

def fleetlaw2_SeriesFilled_x5_S (vr4 : List api_Sample) (vr5 : Int) (vx4_1 : Int) (vx5_1 : List api_Sample) : Bool → St
  | vx6 => Mem.st ⟨[], []⟩ (tl [(2, .v (.one (.d (.bool vx6))))]) 0

theorem fleetlaw2_SeriesFilled_x5_ok (vr4 : List api_Sample) (vr5 : Int) (vx4_1 : Int) (vx5_1 : List api_Sample) (r : Bool) (hF : fleetlaw2_SeriesFilled_x5 vr4 vr5 vx4_1 vx5_1 = some r) : Awp prog 0 91 (cL (cR (cR (cR (cR (cR (cR (cR (cR (cB f3)))))))))) (Out 0 fleetlaw2_SeriesFilled_x5_k (fleetlaw2_SeriesFilled_x5_S vr4 vr5 vx4_1 vx5_1) r) (Mem.st ⟨[], []⟩ (tl [(8, .v (.one (.d (.lst (List.map api_Sample.enc vr4))))), (9, .v (.one (.d (.int .i64 vr5)))), (10, .v (.one (.d (.int .i64 vx4_1)))), (11, .v (.one (.d (.lst (List.map api_Sample.enc vx5_1)))))]) 0) := by
  unfold fleetlaw2_SeriesFilled_x5 at hF
  rcases cond_or hF with ⟨h31, hF⟩ | ⟨h31, hF⟩
  · obtain ⟨vr17, h32, hF⟩ := bind_some hF
    rcases cond_or hF with ⟨h33, hF⟩ | ⟨h33, hF⟩
    · obtain ⟨vr3_2, h34, hF⟩ := bind_some hF
      refine awp_region' 0 12000 (by kernel_rfl) (by kernel_rfl) ?_
      refine aops_eff hΓ (.v (.one (.d (.int .i64 vr5)))) [] [] (by kernel_rfl) ?_
      refine aops_eff hΓ (.v (.one (.d (.int .i64 vx4_1)))) [] [] (by kernel_rfl) ?_
      refine aops_eff hΓ (.v (.one (.d (.bool true)))) [] [] (opx_b (by kernel_rfl) h31) ?_
      refine aops_eff hΓ (.v (.one (.d (.bool true)))) [] [] (by kernel_rfl) ?_
      refine aops_eff hΓ (.v (.one (.d (.lst (List.map api_Sample.enc vr4))))) [] [] (by kernel_rfl) ?_
      refine aops_eff hΓ (.v (.one (.d (.lst (List.map api_Sample.enc vx5_1))))) [] [] (by kernel_rfl) ?_
      refine aops_call (by kernel_rfl) (by kernel_rfl) (does_call (f := (.func 25)) (g := 25) (caps := []) (tvs := [.v (.one (.d (.lst (List.map api_Sample.enc vr4)))), .v (.one (.d (.lst (List.map api_Sample.enc vx5_1))))]) (al := [.v (.one (.d (.lst (List.map api_Sample.enc vr4)))), .v (.one (.d (.lst (List.map api_Sample.enc vx5_1))))]) (m := ⟨[], []⟩) (m' := ⟨[], []⟩) (tv := .v (.one (.d (.bool vr17)))) (lens := []) rfl (by kernel_rfl) (by kernel_rfl) (sees_of (rl := []) (nl := []) (by kernel_rfl) trivial trivial) (⟨t_same (by kernel_rfl) (by kernel_rfl), t_same (by kernel_rfl) (by kernel_rfl), trivial⟩) (slices_Equal_api_Sample_api_Sample_ok _ _ _ h32) (left_of (by kernel_rfl))) (.v (.one (.d (.bool true)))) [] [] (callb h33) ?_
      refine aops_eff hΓ (.v (.one (.d (.bool true)))) [] [] (by kernel_rfl) ?_
      refine aops_eff hΓ (.v (.one (.d (.bool true)))) [] [] (by kernel_rfl) ?_
      refine aops_call (by kernel_rfl) (by kernel_rfl) (does_call (f := (.func 26)) (g := 26) (caps := []) (tvs := []) (al := []) (m := ⟨[], []⟩) (m' := ⟨[], []⟩) (tv := .v (.one (.d (.bool vr3_2)))) (lens := []) rfl (by kernel_rfl) (by kernel_rfl) (sees_of (rl := []) (nl := []) (by kernel_rfl) trivial trivial) trivial (fleetlaw2_measured_ok _ h34) (left_of (by kernel_rfl))) (.v (.one (.d (.bool vr3_2)))) [] [] (by kernel_rfl) ?_
      refine aops_eff hΓ (.v (.one (.d (.bool vr3_2)))) [] [] (by kernel_rfl) ?_
      refine aops_eff hΓ (.v (.one (.d (.bool vr3_2)))) [] [] (by kernel_rfl) ?_
      refine aops_nil ?_
      obtain rfl := some_eq hF
      exact out_intro rfl (to_see [] [] ⟨[], []⟩ [(2, .v (.one (.d (.bool vr3_2))))] 0 (by kernel_rfl) (by kernel_rfl) (lowc_of (by kernel_rfl)) trivial trivial (⟨t_same (by kernel_rfl) (by kernel_rfl), trivial⟩))
    · refine awp_region' 0 12000 (by kernel_rfl) (by kernel_rfl) ?_
      refine aops_eff hΓ (.v (.one (.d (.int .i64 vr5)))) [] [] (by kernel_rfl) ?_
      refine aops_eff hΓ (.v (.one (.d (.int .i64 vx4_1)))) [] [] (by kernel_rfl) ?_
      refine aops_eff hΓ (.v (.one (.d (.bool true)))) [] [] (opx_b (by kernel_rfl) h31) ?_
      refine aops_eff hΓ (.v (.one (.d (.bool true)))) [] [] (by kernel_rfl) ?_
      refine aops_eff hΓ (.v (.one (.d (.lst (List.map api_Sample.enc vr4))))) [] [] (by kernel_rfl) ?_
      refine aops_eff hΓ (.v (.one (.d (.lst (List.map api_Sample.enc vx5_1))))) [] [] (by kernel_rfl) ?_
      refine aops_call (by kernel_rfl) (by kernel_rfl) (does_call (f := (.func 25)) (g := 25) (caps := []) (tvs := [.v (.one (.d (.lst (List.map api_Sample.enc vr4)))), .v (.one (.d (.lst (List.map api_Sample.enc vx5_1))))]) (al := [.v (.one (.d (.lst (List.map api_Sample.enc vr4)))), .v (.one (.d (.lst (List.map api_Sample.enc vx5_1))))]) (m := ⟨[], []⟩) (m' := ⟨[], []⟩) (tv := .v (.one (.d (.bool vr17)))) (lens := []) rfl (by kernel_rfl) (by kernel_rfl) (sees_of (rl := []) (nl := []) (by kernel_rfl) trivial trivial) (⟨t_same (by kernel_rfl) (by kernel_rfl), t_same (by kernel_rfl) (by kernel_rfl), trivial⟩) (slices_Equal_api_Sample_api_Sample_ok _ _ _ h32) (left_of (by kernel_rfl))) (.v (.one (.d (.bool false)))) [] [] (callb h33) ?_
      refine aops_eff hΓ (.v (.one (.d (.bool false)))) [] [] (by kernel_rfl) ?_
      refine aops_eff hΓ (.v (.one (.d (.bool false)))) [] [] (by kernel_rfl) ?_
      refine aops_skip' (by kernel_rfl) ?_
      refine aops_eff hΓ (.v (.one (.d (.bool false)))) [] [] (by kernel_rfl) ?_
      refine aops_eff hΓ (.v (.one (.d (.bool false)))) [] [] (by kernel_rfl) ?_
      refine aops_nil ?_
      obtain rfl := some_eq hF
      exact out_intro rfl (to_see [] [] ⟨[], []⟩ [(2, .v (.one (.d (.bool false))))] 0 (by kernel_rfl) (by kernel_rfl) (lowc_of (by kernel_rfl)) trivial trivial (⟨t_same (by kernel_rfl) (by kernel_rfl), trivial⟩))
  · refine awp_region' 0 12000 (by kernel_rfl) (by kernel_rfl) ?_
    refine aops_eff hΓ (.v (.one (.d (.int .i64 vr5)))) [] [] (by kernel_rfl) ?_
    refine aops_eff hΓ (.v (.one (.d (.int .i64 vx4_1)))) [] [] (by kernel_rfl) ?_
    refine aops_eff hΓ (.v (.one (.d (.bool false)))) [] [] (opx_b (by kernel_rfl) h31) ?_
    refine aops_eff hΓ (.v (.one (.d (.bool false)))) [] [] (by kernel_rfl) ?_
    refine aops_skip' (by kernel_rfl) ?_
    refine aops_skip' (by kernel_rfl) ?_
    refine aops_skip' (by kernel_rfl) ?_
    refine aops_eff hΓ (.v (.one (.d (.bool false)))) [] [] (by kernel_rfl) ?_
    refine aops_eff hΓ (.v (.one (.d (.bool false)))) [] [] (by kernel_rfl) ?_
    refine aops_skip' (by kernel_rfl) ?_
    refine aops_eff hΓ (.v (.one (.d (.bool false)))) [] [] (by kernel_rfl) ?_
    refine aops_eff hΓ (.v (.one (.d (.bool false)))) [] [] (by kernel_rfl) ?_
    refine aops_nil ?_
    obtain rfl := some_eq hF
    exact out_intro rfl (to_see [] [] ⟨[], []⟩ [(2, .v (.one (.d (.bool false))))] 0 (by kernel_rfl) (by kernel_rfl) (lowc_of (by kernel_rfl)) trivial trivial (⟨t_same (by kernel_rfl) (by kernel_rfl), trivial⟩))

theorem fleetlaw2_SeriesFilled_ok (qx : List Int) (r : Bool) (hF : fleetlaw2_SeriesFilled qx = some r) : Holds prog 3 [.v (.one (.d (.lst (List.map (encI .i64) qx))))] ⟨[], []⟩ (fun tv m => tv = .v (.one (.d (.bool r))) ∧ m = ⟨[], []⟩) := by
  unfold fleetlaw2_SeriesFilled at hF
  refine holds_of_awp hΓ (fn := f3) (c := cB f3) (A := 0) (nx := 0) (by kernel_rfl) (by kernel_rfl) (by kernel_rfl) (by kernel_rfl) (by kernel_rfl) (by kernel_rfl) (lowc_of (by kernel_rfl)) ?_
  show Awp prog 0 91 (cB f3) _ _
  refine awp_seq ?_
  refine awp_region' 0 1000 (by kernel_rfl) (by kernel_rfl) ?_
  refine aops_eff hΓ (.v (.one (.d (.bool false)))) [] [] (by kernel_rfl) ?_
  refine aops_nil ?_
  refine awp_seq ?_
  refine awp_region' 1000 5000 (by kernel_rfl) (by kernel_rfl) ?_
  refine aops_eff hΓ (.v (.one (.d (.lst (List.map (encI .i64) qx))))) [] [] (by kernel_rfl) ?_
  refine aops_eff hΓ (.v (.agg [.d (.lst (List.map (encI .i64) qx)), .d (.int .i64 0)])) [] [] (by kernel_rfl) ?_
  refine aops_eff hΓ (.v (.one (.box 3000 0))) [] [(3000, some [.d (.lst (List.map (encI .i64) qx)), .d (.int .i64 0)])] (by kernel_rfl) ?_
  refine aops_eff hΓ (.v (.one (.box 3000 0))) [] [] (by kernel_rfl) ?_
  refine aops_nil ?_
  refine awp_seq ?_
  obtain ⟨⟨vs6, vr9⟩, h1, hF⟩ := bind_some hF
  obtain ⟨⟨vs5, vr7⟩, h2, hF⟩ := bind_some hF
  obtain ⟨vr, h3, hF⟩ := bind_some hF
  obtain ⟨vr1, h4, hF⟩ := bind_some hF
  refine awp_region' 5000 20000 (by kernel_rfl) (by kernel_rfl) ?_
  refine aops_eff hΓ (.v (.one (.box 3000 0))) [] [] (by kernel_rfl) ?_
  refine aops_call (by kernel_rfl) (by kernel_rfl) (does_call (f := (.func 15)) (g := 15) (caps := []) (tvs := [.v (.one (.box 3000 0)), .v (.one (.d (.int .i64 9)))]) (al := [.v (.one (.box 0 0)), .v (.one (.d (.int .i64 9)))]) (m := ⟨[], [(0, [.d (.lst (List.map (encI .i64) qx)), .d (.int .i64 0)])]⟩) (m' := ⟨[(1, ⟨42, 4, List.map api_Sample.enc vr9⟩)], [(0, [.d (.lst (List.map (encI .i64) vs6.L)), .d (.int .i64 vs6.at_)])]⟩) (tv := .v (.one (.own 1 none))) (lens := []) rfl (by kernel_rfl) (by kernel_rfl) (sees_of (rl := [(0, 3000)]) (nl := []) (by kernel_rfl) trivial (⟨⟨by kernel_rfl, [.d (.lst (List.map (encI .i64) qx)), .d (.int .i64 0)], by kernel_rfl, l2_same (by kernel_rfl) (by kernel_rfl)⟩, trivial⟩)) (⟨t_same (by kernel_rfl) (by kernel_rfl), t_same (by kernel_rfl) (by kernel_rfl), trivial⟩) (fleetmake_Stream_Series_ok _ _ _ h1) (left_of (by kernel_rfl))) (.v (.one (.own 6001 none))) [(6001, some ⟨42, 4, List.map api_Sample.enc vr9⟩)] [(3000, some [.d (.lst (List.map (encI .i64) vs6.L)), .d (.int .i64 vs6.at_)])] (by kernel_rfl) ?_
  refine aops_eff hΓ (.v (.one (.box 3000 0))) [] [] (by kernel_rfl) ?_
  refine aops_call (by kernel_rfl) (by kernel_rfl) (does_call (f := (.func 16)) (g := 16) (caps := []) (tvs := [.v (.one (.box 3000 0))]) (al := [.v (.one (.box 0 0))]) (m := ⟨[], [(0, [.d (.lst (List.map (encI .i64) vs6.L)), .d (.int .i64 vs6.at_)])]⟩) (m' := ⟨[], [(0, [.d (.lst (List.map (encI .i64) vs5.L)), .d (.int .i64 vs5.at_)])]⟩) (tv := .v (.agg [.d (.int .i64 vr7.From), .d (.int .i64 vr7.To)])) (lens := []) rfl (by kernel_rfl) (by kernel_rfl) (sees_of (rl := [(0, 3000)]) (nl := []) (by kernel_rfl) trivial (⟨⟨by kernel_rfl, [.d (.lst (List.map (encI .i64) vs6.L)), .d (.int .i64 vs6.at_)], by kernel_rfl, l2_same (by kernel_rfl) (by kernel_rfl)⟩, trivial⟩)) (⟨t_same (by kernel_rfl) (by kernel_rfl), trivial⟩) (fleetmake_Stream_Frame_ok _ _ h2) (left_of (by kernel_rfl))) (.v (.agg [.d (.int .i64 vr7.From), .d (.int .i64 vr7.To)])) [] [(3000, some [.d (.lst (List.map (encI .i64) vs5.L)), .d (.int .i64 vs5.at_)])] (by kernel_rfl) ?_
  refine aops_eff hΓ (.v (.one (.box 3000 0))) [] [] (by kernel_rfl) ?_
  refine aops_eff hΓ (.v (.one (.own 10000 none))) [(10000, some ⟨3, 1, List.map (encI .i64) ([1, 5, 10, 33, 100, 0, 345686400000, 345686400001] : List Int)⟩)] [] (by kernel_rfl) ?_
  refine aops_call (by kernel_rfl) (by kernel_rfl) (does_call (f := (.func 17)) (g := 17) (caps := []) (tvs := [.v (.one (.box 3000 0)), .v (.one (.own 10000 none))]) (al := [.v (.one (.box 0 0)), .v (.one (.own 1 none))]) (m := ⟨[(1, ⟨3, 1, List.map (encI .i64) ([1, 5, 10, 33, 100, 0, 345686400000, 345686400001] : List Int)⟩)], [(0, [.d (.lst (List.map (encI .i64) vs5.L)), .d (.int .i64 vs5.at_)])]⟩) (m' := ⟨[], [(0, [.d (.lst (List.map (encI .i64) vs5.L)), .d (.int .i64 (IntKind.wrap .i64 (vs5.at_ + 1)))])]⟩) (tv := .v (.one (.d (.int .i64 vr)))) (lens := []) rfl (by kernel_rfl) (by kernel_rfl) (sees_of (rl := [(0, 3000), (1, 10000)]) (nl := []) (by kernel_rfl) (⟨.inr ⟨by kernel_rfl, by kernel_rfl⟩, trivial⟩) (⟨⟨by kernel_rfl, [.d (.lst (List.map (encI .i64) vs5.L)), .d (.int .i64 vs5.at_)], by kernel_rfl, l2_same (by kernel_rfl) (by kernel_rfl)⟩, trivial⟩)) (⟨t_same (by kernel_rfl) (by kernel_rfl), t_same (by kernel_rfl) (by kernel_rfl), trivial⟩) (fleetmake_Stream_Pick_o1_ok _ _ _ h3) (left_of (by kernel_rfl))) (.v (.one (.d (.int .i64 vr)))) [(10000, none)] [(3000, some [.d (.lst (List.map (encI .i64) vs5.L)), .d (.int .i64 (IntKind.wrap .i64 (vs5.at_ + 1)))])] (by kernel_rfl) ?_
  refine aops_eff hΓ (.v (.one (.box 3000 0))) [] [] (by kernel_rfl) ?_
  refine aops_eff hΓ (.v (.one (.own 13000 none))) [(13000, some ⟨3, 1, List.map (encI .i64) ([1, 1, 2, 2, 2, 0, 3] : List Int)⟩)] [] (by kernel_rfl) ?_
  refine aops_call (by kernel_rfl) (by kernel_rfl) (does_call (f := (.func 17)) (g := 17) (caps := []) (tvs := [.v (.one (.box 3000 0)), .v (.one (.own 13000 none))]) (al := [.v (.one (.box 0 0)), .v (.one (.own 1 none))]) (m := ⟨[(1, ⟨3, 1, List.map (encI .i64) ([1, 1, 2, 2, 2, 0, 3] : List Int)⟩)], [(0, [.d (.lst (List.map (encI .i64) vs5.L)), .d (.int .i64 (IntKind.wrap .i64 (vs5.at_ + 1)))])]⟩) (m' := ⟨[], [(0, [.d (.lst (List.map (encI .i64) vs5.L)), .d (.int .i64 (IntKind.wrap .i64 ((IntKind.wrap .i64 (vs5.at_ + 1)) + 1)))])]⟩) (tv := .v (.one (.d (.int .i64 vr1)))) (lens := []) rfl (by kernel_rfl) (by kernel_rfl) (sees_of (rl := [(0, 3000), (1, 13000)]) (nl := []) (by kernel_rfl) (⟨.inr ⟨by kernel_rfl, by kernel_rfl⟩, trivial⟩) (⟨⟨by kernel_rfl, [.d (.lst (List.map (encI .i64) vs5.L)), .d (.int .i64 (IntKind.wrap .i64 (vs5.at_ + 1)))], by kernel_rfl, l2_same (by kernel_rfl) (by kernel_rfl)⟩, trivial⟩)) (⟨t_same (by kernel_rfl) (by kernel_rfl), t_same (by kernel_rfl) (by kernel_rfl), trivial⟩) (fleetmake_Stream_Pick_o1_ok _ _ _ h4) (left_of (by kernel_rfl))) (.v (.one (.d (.int .i64 vr1)))) [(13000, none)] [(3000, some [.d (.lst (List.map (encI .i64) vs5.L)), .d (.int .i64 (IntKind.wrap .i64 ((IntKind.wrap .i64 (vs5.at_ + 1)) + 1)))])] (by kernel_rfl) ?_
  refine aops_eff hΓ (.v (.one (.box 15000 0))) [] [(15000, some [.d (.int .i64 0), .d (.int .i64 0)])] (by kernel_rfl) ?_
  refine aops_eff hΓ (.v (.one (.own 6001 none))) [] [] (by kernel_rfl) ?_
  refine aops_eff hΓ (.undef) [] [(15000, some [.d (.int .i64 vr7.From), .d (.int .i64 vr7.To)])] (by kernel_rfl) ?_
  refine aops_eff hΓ (.v (.one (.d (.int .i64 vr)))) [] [] (by kernel_rfl) ?_
  refine aops_eff hΓ (.v (.one (.d (.int .i64 vr1)))) [] [] (by kernel_rfl) ?_
  refine aops_nil ?_
  refine awp_to (to_see [(0, 3000), (1, 15000)] [] ⟨[], [(0, [.d (.lst (List.map (encI .i64) vs5.L)), .d (.int .i64 (IntKind.wrap .i64 ((IntKind.wrap .i64 (vs5.at_ + 1)) + 1)))]), (1, [.d (.int .i64 vr7.From), .d (.int .i64 vr7.To)])]⟩ [(3, .v (.one (.box 0 0))), (4, .v (.one (.d (.lst (List.map api_Sample.enc vr9))))), (5, .v (.one (.box 1 0))), (6, .v (.one (.d (.int .i64 vr)))), (7, .v (.one (.d (.int .i64 vr1))))] 2 (by kernel_rfl) (by kernel_rfl) (lowc_of (by kernel_rfl)) trivial (⟨⟨by kernel_rfl, [.d (.lst (List.map (encI .i64) vs5.L)), .d (.int .i64 (IntKind.wrap .i64 ((IntKind.wrap .i64 (vs5.at_ + 1)) + 1)))], by kernel_rfl, l2_same (by kernel_rfl) (by kernel_rfl)⟩, ⟨by kernel_rfl, [.d (.int .i64 vr7.From), .d (.int .i64 vr7.To)], by kernel_rfl, l2_same (by kernel_rfl) (by kernel_rfl)⟩, trivial⟩) (⟨t_same (by kernel_rfl) (by kernel_rfl), t_cell (c := .own 6001 none) (by kernel_rfl) (see_own (us := [6001]) trivial rfl (by kernel_rfl) (by kernel_rfl)), t_same (by kernel_rfl) (by kernel_rfl), t_same (by kernel_rfl) (by kernel_rfl), t_same (by kernel_rfl) (by kernel_rfl), trivial⟩)) ?_
  refine awp_seq ?_
  refine awp_to (to_see [] [] ⟨[], [(0, [.d (.lst (List.map (encI .i64) vs5.L)), .d (.int .i64 (IntKind.wrap .i64 ((IntKind.wrap .i64 (vs5.at_ + 1)) + 1)))]), (1, [.d (.int .i64 vr7.From), .d (.int .i64 vr7.To)])]⟩ [(3, .v (.one (.box 0 0))), (4, .v (.one (.d (.lst (List.map api_Sample.enc vr9))))), (5, .v (.one (.box 1 0))), (6, .v (.one (.d (.int .i64 vr)))), (7, .v (.one (.d (.int .i64 vr1))))] 2 (by kernel_rfl) (by kernel_rfl) (lowc_of (by kernel_rfl)) trivial (⟨⟨by kernel_rfl, [.d (.lst (List.map (encI .i64) vs5.L)), .d (.int .i64 (IntKind.wrap .i64 ((IntKind.wrap .i64 (vs5.at_ + 1)) + 1)))], by kernel_rfl, l2_same (by kernel_rfl) (by kernel_rfl)⟩, ⟨by kernel_rfl, [.d (.int .i64 vr7.From), .d (.int .i64 vr7.To)], by kernel_rfl, l2_same (by kernel_rfl) (by kernel_rfl)⟩, trivial⟩) (⟨t_same (by kernel_rfl) (by kernel_rfl), t_same (by kernel_rfl) (by kernel_rfl), t_same (by kernel_rfl) (by kernel_rfl), t_same (by kernel_rfl) (by kernel_rfl), t_same (by kernel_rfl) (by kernel_rfl), trivial⟩)) ?_
  obtain ⟨vx2_1, h10, hF⟩ := bind_some hF
  refine awp_sub (fleetlaw2_SeriesFilled_x1_ok vr9 vs5 vr7 vr vr1 _ h10) ?_
  refine awp_seq ?_
  obtain ⟨⟨vr4, vr5⟩, h11, hF⟩ := bind_some hF
  refine awp_region' 1 10001 (by kernel_rfl) (by kernel_rfl) ?_
  refine aops_eff hΓ (.v (.one (.d (.lst (List.map api_Sample.enc vr9))))) [] [] (by kernel_rfl) ?_
  refine aops_eff hΓ (.v (.agg [.d (.int .i64 vr7.From), .d (.int .i64 vr7.To)])) [] [] (by kernel_rfl) ?_
  refine aops_eff hΓ (.v (.one (.d (.int .i64 vx2_1)))) [] [] (by kernel_rfl) ?_
  refine aops_eff hΓ (.v (.one (.d (.int .i64 vr1)))) [] [] (by kernel_rfl) ?_
  refine aops_call (by kernel_rfl) (by kernel_rfl) (does_call (f := (.func 19)) (g := 19) (caps := []) (tvs := [.v (.one (.d (.lst (List.map api_Sample.enc vr9)))), .v (.agg [.d (.int .i64 vr7.From), .d (.int .i64 vr7.To)]), .v (.one (.d (.int .i64 vx2_1))), .v (.one (.d (.int .i64 vr1)))]) (al := [.v (.one (.d (.lst (List.map api_Sample.enc vr9)))), .v (.agg [.d (.int .i64 vr7.From), .d (.int .i64 vr7.To)]), .v (.one (.d (.int .i64 vx2_1))), .v (.one (.d (.int .i64 vr1)))]) (m := ⟨[], []⟩) (m' := ⟨[(0, ⟨42, 4, List.map api_Sample.enc vr4⟩)], []⟩) (tv := .tup [.one (.own 0 none), .one (.d (.int .i64 vr5))]) (lens := []) rfl (by kernel_rfl) (by kernel_rfl) (sees_of (rl := []) (nl := []) (by kernel_rfl) trivial trivial) (⟨t_same (by kernel_rfl) (by kernel_rfl), t_same (by kernel_rfl) (by kernel_rfl), t_same (by kernel_rfl) (by kernel_rfl), t_same (by kernel_rfl) (by kernel_rfl), trivial⟩) (series_Fill_ok _ _ _ _ _ h11) (left_of (by kernel_rfl))) (.tup [.one (.own 4001 none), .one (.d (.int .i64 vr5))]) [(4001, some ⟨42, 4, List.map api_Sample.enc vr4⟩)] [] (by kernel_rfl) ?_
  refine aops_eff hΓ (.tup [.one (.own 4001 none), .one (.d (.int .i64 vr5))]) [] [] (by kernel_rfl) ?_
  refine aops_eff hΓ (.v (.one (.own 4001 none))) [] [] (by kernel_rfl) ?_
  refine aops_eff hΓ (.v (.one (.d (.int .i64 vr5)))) [] [] (by kernel_rfl) ?_
  refine aops_eff hΓ (.v (.one (.own 4001 none))) [] [] (by kernel_rfl) ?_
  refine aops_eff hΓ (.v (.one (.d (.int .i64 vr5)))) [] [] (by kernel_rfl) ?_
  refine aops_nil ?_
  refine awp_to (to_see [] [] ⟨[], [(0, [.d (.int .i64 vr7.From), .d (.int .i64 vr7.To)])]⟩ [(4, .v (.one (.d (.lst (List.map api_Sample.enc vr9))))), (5, .v (.one (.box 0 0))), (6, .v (.one (.d (.int .i64 vx2_1)))), (7, .v (.one (.d (.int .i64 vr1)))), (8, .v (.one (.d (.lst (List.map api_Sample.enc vr4))))), (9, .v (.one (.d (.int .i64 vr5))))] 1 (by kernel_rfl) (by kernel_rfl) (lowc_of (by kernel_rfl)) trivial (⟨⟨by kernel_rfl, [.d (.int .i64 vr7.From), .d (.int .i64 vr7.To)], by kernel_rfl, l2_same (by kernel_rfl) (by kernel_rfl)⟩, trivial⟩) (⟨t_same (by kernel_rfl) (by kernel_rfl), t_same (by kernel_rfl) (by kernel_rfl), t_same (by kernel_rfl) (by kernel_rfl), t_same (by kernel_rfl) (by kernel_rfl), t_cell (c := .own 4001 none) (by kernel_rfl) (see_own (us := [4001]) trivial rfl (by kernel_rfl) (by kernel_rfl)), t_same (by kernel_rfl) (by kernel_rfl), trivial⟩)) ?_
  refine awp_seq ?_
  refine awp_to (to_see [] [] ⟨[], [(0, [.d (.int .i64 vr7.From), .d (.int .i64 vr7.To)])]⟩ [(4, .v (.one (.d (.lst (List.map api_Sample.enc vr9))))), (5, .v (.one (.box 0 0))), (6, .v (.one (.d (.int .i64 vx2_1)))), (7, .v (.one (.d (.int .i64 vr1)))), (8, .v (.one (.d (.lst (List.map api_Sample.enc vr4))))), (9, .v (.one (.d (.int .i64 vr5))))] 1 (by kernel_rfl) (by kernel_rfl) (lowc_of (by kernel_rfl)) trivial (⟨⟨by kernel_rfl, [.d (.int .i64 vr7.From), .d (.int .i64 vr7.To)], by kernel_rfl, l2_same (by kernel_rfl) (by kernel_rfl)⟩, trivial⟩) (⟨t_same (by kernel_rfl) (by kernel_rfl), t_same (by kernel_rfl) (by kernel_rfl), t_same (by kernel_rfl) (by kernel_rfl), t_same (by kernel_rfl) (by kernel_rfl), t_same (by kernel_rfl) (by kernel_rfl), t_same (by kernel_rfl) (by kernel_rfl), trivial⟩)) ?_
  obtain ⟨vx3_1, h27, hF⟩ := bind_some hF
  refine awp_sub (fleetlaw2_SeriesFilled_x3_ok vr9 vr7 vr1 vx2_1 vr4 vr5 _ h27) ?_
  refine awp_seq ?_
  refine awp_region' 1 1001 (by kernel_rfl) (by kernel_rfl) ?_
  refine aops_eff hΓ (.v (.one (.nil))) [] [] (by kernel_rfl) ?_
  refine aops_nil ?_
  refine awp_seq ?_
  refine awp_to (to_see [] [] ⟨[], [(0, [.d (.int .i64 vr7.From), .d (.int .i64 vr7.To)])]⟩ [(4, .v (.one (.d (.lst (List.map api_Sample.enc vr9))))), (5, .v (.one (.box 0 0))), (6, .v (.one (.d (.int .i64 vx2_1)))), (7, .v (.one (.d (.int .i64 vr1)))), (8, .v (.one (.d (.lst (List.map api_Sample.enc vr4))))), (9, .v (.one (.d (.int .i64 vr5)))), (10, .v (.one (.d (.int .i64 vx3_1)))), (11, .v (.one (.nil)))] 1 (by kernel_rfl) (by kernel_rfl) (lowc_of (by kernel_rfl)) trivial (⟨⟨by kernel_rfl, [.d (.int .i64 vr7.From), .d (.int .i64 vr7.To)], by kernel_rfl, l2_same (by kernel_rfl) (by kernel_rfl)⟩, trivial⟩) (⟨t_same (by kernel_rfl) (by kernel_rfl), t_same (by kernel_rfl) (by kernel_rfl), t_same (by kernel_rfl) (by kernel_rfl), t_same (by kernel_rfl) (by kernel_rfl), t_same (by kernel_rfl) (by kernel_rfl), t_same (by kernel_rfl) (by kernel_rfl), t_same (by kernel_rfl) (by kernel_rfl), t_same (by kernel_rfl) (by kernel_rfl), trivial⟩)) ?_
  obtain ⟨⟨vx4_1, vx5_1⟩, h30, hF⟩ := bind_some hF
  refine awp_sub (fleetlaw2_SeriesFilled_x4_ok vr9 vr7 vr1 vx2_1 vr4 vr5 vx3_1 _ h30) ?_
  refine awp_seq ?_
  refine awp_to (to_see [] [] ⟨[], []⟩ [(8, .v (.one (.d (.lst (List.map api_Sample.enc vr4))))), (9, .v (.one (.d (.int .i64 vr5)))), (10, .v (.one (.d (.int .i64 vx4_1)))), (11, .v (.one (.d (.lst (List.map api_Sample.enc vx5_1)))))] 0 (by kernel_rfl) (by kernel_rfl) (lowc_of (by kernel_rfl)) trivial trivial (⟨t_same (by kernel_rfl) (by kernel_rfl), t_same (by kernel_rfl) (by kernel_rfl), t_same (by kernel_rfl) (by kernel_rfl), t_same (by kernel_rfl) (by kernel_rfl), trivial⟩)) ?_
  obtain ⟨vx6_1, h35, hF⟩ := bind_some hF
  refine awp_sub (fleetlaw2_SeriesFilled_x5_ok vr4 vr5 vx4_1 vx5_1 _ h35) ?_
  refine awp_ret ?_
  obtain rfl := some_eq hF
  exact fin_intro (xs := [.one (.d (.bool vx6_1))]) (m' := ⟨[], []⟩) (tv := (.v (.one (.d (.bool vx6_1))))) (rl := []) (nl := []) (by kernel_rfl) (by kernel_rfl) (by kernel_rfl) (sees_of (by kernel_rfl) trivial trivial) (t_same (by kernel_rfl) (by kernel_rfl)) ⟨rfl, rfl⟩

end Go.Eng
