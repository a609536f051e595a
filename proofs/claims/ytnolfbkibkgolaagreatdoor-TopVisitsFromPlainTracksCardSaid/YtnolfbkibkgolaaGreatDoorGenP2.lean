/-
The code of the Go functions that the law TopVisitsFromPlainTracks reaches does what the plain functions say, part 2.
-/
import Derived.Test.YtnolfbkibkgolaaGreatDoorGenP1

namespace Go.Eng

open Go Go.Proofs.Tryz

set_option linter.unusedVariables false

set_option maxRecDepth 20000

set_option maxHeartbeats 0

/-! ### beaconfleet/place.Visits -/
def place_Visits_o1_x3_k : Bool → AEx
  | _ => .normal

def place_Visits_o1_x3_S (qx : api_Fence) (qx1 : List api_Fix) (vx : List api_Visit) (vx1 : Int) (vy3 : api_Fix) : Bool → St
  | vx4 => Mem.st ⟨[(3, ⟨81, 2, List.map api_Visit.enc vx⟩)], [(1, [.d (.str qx.Key), .d (.lst (List.map api_Spot.enc qx.Corners))]), (2, [.d (.str vy3.Device), .d (.int .i64 vy3.At), .d (.int .i64 vy3.X), .d (.int .i64 vy3.Y), .d (.int .i64 vy3.Error)])]⟩ (tl [(2, .v (.one (.box 1 0))), (7, .v (.one (.own 3 none))), (9, .v (.one (.box 2 0))), (10, .v (.one (.d (.bool vx4)))), (20, .v (.one (.d (.lst (List.map api_Fix.enc qx1))))), (21, .v (.one (.d (.int .i64 (qx1.length : Int))))), (22, .v (.one (.d (.int .i64 vx1))))]) 4

def place_Visits_o1_x3_I (qx : api_Fence) (qx1 : List api_Fix) (vx : List api_Visit) (vx1 : Int) (vy3 : api_Fix) : St := Mem.st ⟨[(3, ⟨81, 2, List.map api_Visit.enc vx⟩)], [(1, [.d (.str qx.Key), .d (.lst (List.map api_Spot.enc qx.Corners))]), (2, [.d (.str vy3.Device), .d (.int .i64 vy3.At), .d (.int .i64 vy3.X), .d (.int .i64 vy3.Y), .d (.int .i64 vy3.Error)])]⟩ (tl [(2, .v (.one (.box 1 0))), (7, .v (.one (.own 3 none))), (9, .v (.one (.box 2 0))), (20, .v (.one (.d (.lst (List.map api_Fix.enc qx1))))), (21, .v (.one (.d (.int .i64 (qx1.length : Int))))), (22, .v (.one (.d (.int .i64 vx1))))]) 4

theorem place_Visits_o1_x3_ok (qx : api_Fence) (qx1 : List api_Fix) (vx : List api_Visit) (vx1 : Int) (vy3 : api_Fix) {r} (hF : place_Visits_o1_x3 vx = some r) : Awp prog 1 66 (cL (cR (cL (cL (cR (cR (cL (cL (cR (cL (cR (cR (cR (cB f10)))))))))))))) (Out 1 place_Visits_o1_x3_k (place_Visits_o1_x3_S qx qx1 vx vx1 vy3) r) (place_Visits_o1_x3_I qx qx1 vx vx1 vy3) := by
  unfold place_Visits_o1_x3 at hF
  refine cE hF (fun h7 hF => ?_) fun h7 hF => ?_
  · refine bE hF fun vy4 h8 hF => ?_
    refine awp_region ?_
    refine aR 1 ?_
    refine aL api_Visit.enc vx ?_
    refine aB h7 ?_
    refine aR 3 ?_
    refine aL api_Visit.enc vx ?_
    refine aR 1 ?_
    refine aX (x_idxO api_Visit.enc 3 h8) ?_
    refine aR 1 ?_
    refine aX (x_ldE api_Visit.enc h8) ?_
    refine aR 3 ?_
    refine aE ?_
    exact oO hF [] [] rfl
  · refine awp_region ?_
    refine aR 1 ?_
    refine aL api_Visit.enc vx ?_
    refine aB h7 ?_
    refine aR 11 ?_
    refine aE ?_
    exact oO hF [] [] rfl

def place_Visits_o1_x2_k : (List api_Visit) → AEx
  | _ => .normal

def place_Visits_o1_x2_S (qx : api_Fence) (qx1 : List api_Fix) (vx : List api_Visit) (vx1 : Int) : (List api_Visit) → St
  | vx5 => Mem.st ⟨[(2, ⟨81, 2, List.map api_Visit.enc vx5⟩)], [(1, [.d (.str qx.Key), .d (.lst (List.map api_Spot.enc qx.Corners))])]⟩ (tl [(2, .v (.one (.box 1 0))), (7, .v (.one (.own 2 none))), (20, .v (.one (.d (.lst (List.map api_Fix.enc qx1))))), (21, .v (.one (.d (.int .i64 (qx1.length : Int))))), (22, .v (.one (.d (.int .i64 vx1))))]) 3

def place_Visits_o1_x2_I (qx : api_Fence) (qx1 : List api_Fix) (vx : List api_Visit) (vx1 : Int) : St := Mem.st ⟨[(2, ⟨81, 2, List.map api_Visit.enc vx⟩)], [(1, [.d (.str qx.Key), .d (.lst (List.map api_Spot.enc qx.Corners))])]⟩ (tl [(2, .v (.one (.box 1 0))), (7, .v (.one (.own 2 none))), (20, .v (.one (.d (.lst (List.map api_Fix.enc qx1))))), (21, .v (.one (.d (.int .i64 (qx1.length : Int))))), (22, .v (.one (.d (.int .i64 vx1))))]) 3

theorem place_Visits_o1_x2_ok (qx : api_Fence) (qx1 : List api_Fix) (vx : List api_Visit) (vx1 : Int) {r} (hF : place_Visits_o1_x2 qx qx1 vx vx1 = some r) : Awp prog 1 66 (cL (cR (cR (cL (cL (cR (cL (cR (cR (cR (cB f10))))))))))) (Out 1 place_Visits_o1_x2_k (place_Visits_o1_x2_S qx qx1 vx vx1) r) (place_Visits_o1_x2_I qx qx1 vx vx1) := by
  unfold place_Visits_o1_x2 at hF
  refine awp_block ?_
  refine awp_seq ?_
  refine bE hF fun vy3 h6 hF => ?_
  refine awp_region ?_
  refine aX (x_idx api_Fix.enc h6) ?_
  refine aR 3 ?_
  refine aE ?_
  refine awp_seq ?_
  refine awp_to (st' := place_Visits_o1_x3_I qx qx1 vx vx1 vy3) (oT [(2, 2003), (3, 2)] []) ?_
  refine bE hF fun vx4_1 h9 hF => ?_
  refine awp_sub (place_Visits_o1_x3_ok qx qx1 vx vx1 vy3 h9) ?_
  refine awp_seq ?_
  refine bE hF fun vr2_1 h10 hF => ?_
  refine awp_region ?_
  refine aR 3 ?_
  refine aC (place_surely_ok h10) [] [] [] ?_
  refine aE ?_
  refine awp_block ?_
  refine awp_seq ?_
  refine awp_region ?_
  refine aR 2 ?_
  refine aE ?_
  refine cE hF (fun h11 hF => ?_) fun h11 hF => ?_
  · refine awp_true (by kernel_rfl) h11 ?_
    refine awp_seq ?_
    refine awp_region ?_
    refine aR 2 ?_
    refine aE ?_
    refine cE hF (fun h12 hF => ?_) fun h12 hF => ?_
    · refine awp_true (by kernel_rfl) h12 ?_
      refine gE hF fun h13 hF => ?_
      refine awp_region ?_
      refine aR 5 ?_
      refine aX (x_app api_Visit.enc 3 h13) ?_
      refine aR 1 ?_
      refine aE ?_
      exact oO hF [(2, 13004)] [] rfl
    · refine awp_false (by kernel_rfl) h12 ?_
      refine awp_skip ?_
      exact oO hF [(2, 3)] [] rfl
  · refine awp_false (by kernel_rfl) h11 ?_
    refine awp_seq ?_
    refine awp_region ?_
    refine aR 2 ?_
    refine aE ?_
    refine cE hF (fun h14 hF => ?_) fun h14 hF => ?_
    · refine awp_true (by kernel_rfl) h14 ?_
      refine awp_seq ?_
      refine awp_region ?_
      refine aR 1 ?_
      refine aE ?_
      refine cE hF (fun h15 hF => ?_) fun h15 hF => ?_
      · refine awp_true (by kernel_rfl) h15 ?_
        refine bE hF fun vy5 h16 hF => ?_
        refine awp_region ?_
        refine aR 2 ?_
        refine aL api_Visit.enc vx ?_
        refine aR 3 ?_
        refine aX (x_idxO api_Visit.enc 3 h16) ?_
        refine aR 1 ?_
        refine aX (x_stE api_Visit.enc (api_Visit.mk vy5.From vy3.At) h16) ?_
        refine aE ?_
        exact oO hF [(2, 3)] [] rfl
      · refine awp_false (by kernel_rfl) h15 ?_
        refine awp_skip ?_
        exact oO hF [(2, 3)] [] rfl
    · refine awp_false (by kernel_rfl) h14 ?_
      refine awp_skip ?_
      exact oO hF [(2, 3)] [] rfl

def place_Visits_o1_x1_k : (List api_Visit) → AEx
  | _ => .exit 0

def place_Visits_o1_x1_S (qx : api_Fence) (qx1 : List api_Fix) : (List api_Visit) → St
  | vx6 => Mem.st ⟨[(1, ⟨81, 2, List.map api_Visit.enc vx6⟩)], []⟩ (tl [(7, .v (.one (.own 1 none)))]) 2

def place_Visits_o1_x1_H (qx : api_Fence) (qx1 : List api_Fix) : (List api_Visit) × Int → St
  | (vx, vx1) => Mem.st ⟨[(2, ⟨81, 2, List.map api_Visit.enc vx⟩)], [(1, [.d (.str qx.Key), .d (.lst (List.map api_Spot.enc qx.Corners))])]⟩ (tl [(2, .v (.one (.box 1 0))), (7, .v (.one (.own 2 none))), (20, .v (.one (.d (.lst (List.map api_Fix.enc qx1))))), (21, .v (.one (.d (.int .i64 (qx1.length : Int))))), (22, .v (.one (.d (.int .i64 vx1))))]) 3

theorem place_Visits_o1_x1_ok (qx : api_Fence) (qx1 : List api_Fix) (s : (List api_Visit) × Int) (r : ((List api_Visit) × Int) ⊕ ((List api_Visit))) (hF : place_Visits_o1_x1 qx qx1 s = some r) : Awp prog 1 66 (cL (cL (cR (cL (cR (cR (cR (cB f10)))))))) (Out 1 (kk place_Visits_o1_x1_k) (SS (place_Visits_o1_x1_H qx qx1) (place_Visits_o1_x1_S qx qx1)) r) (place_Visits_o1_x1_H qx qx1 s) := by
  obtain ⟨vx, vx1⟩ := s
  unfold place_Visits_o1_x1 at hF
  refine awp_seq ?_
  refine awp_region ?_
  refine aR 1 ?_
  refine aE ?_
  refine awp_seq ?_
  refine cE hF (fun h5 hF => ?_) fun h5 hF => ?_
  · refine awp_true (by kernel_rfl) h5 ?_
    refine awp_skip ?_
    refine awp_seq ?_
    refine awp_to (st' := place_Visits_o1_x2_I qx qx1 vx vx1) (oT [] []) ?_
    refine bE hF fun vx5_1 h17 hF => ?_
    refine awp_sub (place_Visits_o1_x2_ok qx qx1 vx vx1 h17) ?_
    refine awp_region ?_
    refine aR 2 ?_
    refine aE ?_
    exact oO hF [] [] rfl
  · refine awp_false (by kernel_rfl) h5 ?_
    refine awp_exit ?_
    exact oO hF [(1, 2)] [] rfl

def place_Visits_o1_R (qx : api_Fence) (qx1 : List api_Fix) (r : (List api_Visit) × Int) : TV × Mem := (.tup [.one (.own 1 none), .one (.d (.int .i64 r.2))], ⟨[(1, ⟨81, 2, List.map api_Visit.enc r.1⟩)], []⟩)

theorem place_Visits_o1_ok {qx : api_Fence} {qx1 : List api_Fix} {r} (hF : place_Visits_o1 qx qx1 = some r) : Holds prog 10 [.v (.agg [.d (.str qx.Key), .d (.lst (List.map api_Spot.enc qx.Corners))]), .v (.one (.own 0 none))] ⟨[(0, ⟨33, 5, List.map api_Fix.enc qx1⟩)], []⟩ (Is (place_Visits_o1_R qx qx1 r)) := by
  unfold place_Visits_o1 at hF
  refine holds_of_awp hΓ (fn := f10) (c := cB f10) (A := 1) (nx := 1) (by kernel_rfl) (by kernel_rfl) (by kernel_rfl) (by kernel_rfl) (by kernel_rfl) (by kernel_rfl) (lowc_of (by kernel_rfl)) ?_
  show Awp prog 1 66 (cB f10) _ _
  refine awp_seq ?_
  refine awp_region ?_
  refine aR 3 ?_
  refine aE ?_
  refine awp_to (oT (m := ⟨[], [(1, [.d (.str qx.Key), .d (.lst (List.map api_Spot.enc qx.Corners))])]⟩) (ts := [(1, .v (.one (.d (.lst (List.map api_Fix.enc qx1))))), (2, .v (.one (.box 1 0)))]) (nx := 2) [] []) ?_
  refine awp_seq ?_
  refine awp_seq ?_
  refine bE hF fun vr3 h1 hF => ?_
  refine bE hF fun vr1 h2 hF => ?_
  refine bE hF fun vr h3 hF => ?_
  refine awp_region ?_
  refine aR 1 ?_
  refine aC (place_CheckFence_ok h1) [] [] [] ?_
  refine aR 1 ?_
  refine aC (place_trackFault_ok h2) [] [] [] ?_
  refine aR 1 ?_
  refine aC (base_First_ok h3) [] [] [4002] ?_
  refine aR 1 ?_
  refine aE ?_
  refine awp_seq ?_
  refine awp_region ?_
  refine aR 2 ?_
  refine aE ?_
  refine cE hF (fun h4 hF => ?_) fun h4 hF => ?_
  · refine awp_true (by kernel_rfl) h4 ?_
    refine awp_seq ?_
    refine awp_region ?_
    refine aR 3 ?_
    refine aE ?_
    refine awp_ret ?_
    exact oF hF [] [1]
  · refine awp_false (by kernel_rfl) h4 ?_
    refine awp_skip ?_
    refine awp_seq ?_
    refine awp_region ?_
    refine aR 1 ?_
    refine aE ?_
    refine awp_seq ?_
    refine awp_seq ?_
    refine awp_region ?_
    refine aR 1 ?_
    refine aL api_Fix.enc qx1 ?_
    refine aR 1 ?_
    refine aE ?_
    refine awp_block ?_
    refine awp_to (st' := place_Visits_o1_x1_H qx qx1 ([], 0)) (oT [] [2]) ?_
    refine bE hF fun vx6_1 h18 hF => ?_
    refine awp_sub (awp_loop' (place_Visits_o1_x1_H qx qx1) place_Visits_o1_x1_k (place_Visits_o1_x1_S qx qx1) (by intro x; exact fun h => nomatch h) h18 (place_Visits_o1_x1_ok qx qx1)) ?_
    refine awp_seq ?_
    refine awp_region ?_
    refine aR 3 ?_
    refine aE ?_
    refine awp_ret ?_
    exact oF hF [] []

/-! ### beaconfleet/series.byDevice -/
def series_byDevice_R (qa : api_Sample) (qb : api_Sample) (r : Int) : TV × Mem := (.v (.one (.d (.int .i64 r))), ⟨[], []⟩)

theorem series_byDevice_ok {qa : api_Sample} {qb : api_Sample} {r} (hF : series_byDevice qa qb = some r) : Holds prog 155 [.v (.agg [.d (.str qa.Device), .d (.str qa.Metric), .d (.int .i64 qa.At), .d (.int .i64 qa.Value)]), .v (.agg [.d (.str qb.Device), .d (.str qb.Metric), .d (.int .i64 qb.At), .d (.int .i64 qb.Value)])] ⟨[], []⟩ (Is (series_byDevice_R qa qb r)) := by
  unfold series_byDevice at hF
  refine holds_of_awp hΓ (fn := f155) (c := cB f155) (A := 0) (nx := 0) (by kernel_rfl) (by kernel_rfl) (by kernel_rfl) (by kernel_rfl) (by kernel_rfl) (by kernel_rfl) (lowc_of (by kernel_rfl)) ?_
  show Awp prog 0 22 (cB f155) _ _
  refine awp_seq ?_
  refine awp_region ?_
  refine aR 3 ?_
  refine aE ?_
  refine awp_seq ?_
  refine bE hF fun _ h1 hF => ?_
  refine bE hF fun _ h2 hF => ?_
  refine bE hF fun vr h3 hF => ?_
  refine bE hF fun vr1 h4 hF => ?_
  refine aD ?_
  refine dR 4 ?_
  refine dC (strings_Compare_ok h1) [] [] [] ?_
  refine dR 4 ?_
  refine dC (strings_Compare_ok h2) [] [] [] ?_
  refine dR 4 ?_
  refine dC (cmp_Compare_int_ok h3) [] [] [] ?_
  refine dR 1 ?_
  refine dC (cmp_Or_int_ok h4) [] [] [18000] ?_
  refine dR 1 ?_
  refine dE ?_
  refine awp_ret ?_
  exact oF hF [] []

/-! ### beaconfleet/series.Check -/
def series_Check_x2_k : Bool → AEx
  | _ => .normal

def series_Check_x2_S (ql : List api_Sample) (vx : Int) (vy2 : api_Sample) : Bool → St
  | vx4 => Mem.st ⟨[], [(0, [.d (.str vy2.Device), .d (.str vy2.Metric), .d (.int .i64 vy2.At), .d (.int .i64 vy2.Value)])]⟩ (tl [(0, .v (.one (.d (.lst (List.map api_Sample.enc ql))))), (3, .v (.one (.d (.int .i64 vx)))), (4, .v (.one (.box 0 0))), (8, .v (.one (.d (.lst (List.map api_Sample.enc ql))))), (9, .v (.one (.d (.int .i64 (ql.length : Int))))), (10, .v (.one (.d (.int .i64 vx)))), (15, .v (.one (.d (.bool vx4))))]) 1

def series_Check_x2_I (ql : List api_Sample) (vx : Int) (vy2 : api_Sample) : St := Mem.st ⟨[], [(0, [.d (.str vy2.Device), .d (.str vy2.Metric), .d (.int .i64 vy2.At), .d (.int .i64 vy2.Value)])]⟩ (tl [(0, .v (.one (.d (.lst (List.map api_Sample.enc ql))))), (3, .v (.one (.d (.int .i64 vx)))), (4, .v (.one (.box 0 0))), (8, .v (.one (.d (.lst (List.map api_Sample.enc ql))))), (9, .v (.one (.d (.int .i64 (ql.length : Int))))), (10, .v (.one (.d (.int .i64 vx))))]) 1

theorem series_Check_x2_ok (ql : List api_Sample) (vx : Int) (vy2 : api_Sample) {r} (hF : series_Check_x2 vy2 = some r) : Awp prog 0 50 (cL (cL (cR (cL (cL (cR (cR (cL (cL (cR (cL (cR (cR (cB f123)))))))))))))) (Out 0 series_Check_x2_k (series_Check_x2_S ql vx vy2) r) (series_Check_x2_I ql vx vy2) := by
  unfold series_Check_x2 at hF
  refine bE hF fun vr3 h4 hF => ?_
  refine cE hF (fun h5 hF => ?_) fun h5 hF => ?_
  · refine awp_region ?_
    refine aR 2 ?_
    refine aC (base_Key_ok h4) [] [] [] ?_
    refine aB h5 ?_
    refine aR 7 ?_
    refine aE ?_
    exact oO hF [] [] rfl
  · refine bE hF fun vr4 h6 hF => ?_
    refine awp_region ?_
    refine aR 2 ?_
    refine aC (base_Key_ok h4) [] [] [] ?_
    refine aB h5 ?_
    refine aR 3 ?_
    refine aC (base_Key_ok h6) [] [] [] ?_
    refine aR 3 ?_
    refine aE ?_
    exact oO hF [] [] rfl

def series_Check_x3_k : Bool → AEx
  | _ => .normal

def series_Check_x3_S (ql : List api_Sample) (vx : Int) (vy2 : api_Sample) : Bool → St
  | vx5 => Mem.st ⟨[], [(0, [.d (.str vy2.Device), .d (.str vy2.Metric), .d (.int .i64 vy2.At), .d (.int .i64 vy2.Value)])]⟩ (tl [(0, .v (.one (.d (.lst (List.map api_Sample.enc ql))))), (3, .v (.one (.d (.int .i64 vx)))), (4, .v (.one (.box 0 0))), (8, .v (.one (.d (.lst (List.map api_Sample.enc ql))))), (9, .v (.one (.d (.int .i64 (ql.length : Int))))), (10, .v (.one (.d (.int .i64 vx)))), (26, .v (.one (.d (.bool vx5))))]) 1

def series_Check_x3_I (ql : List api_Sample) (vx : Int) (vy2 : api_Sample) : St := Mem.st ⟨[], [(0, [.d (.str vy2.Device), .d (.str vy2.Metric), .d (.int .i64 vy2.At), .d (.int .i64 vy2.Value)])]⟩ (tl [(0, .v (.one (.d (.lst (List.map api_Sample.enc ql))))), (3, .v (.one (.d (.int .i64 vx)))), (4, .v (.one (.box 0 0))), (8, .v (.one (.d (.lst (List.map api_Sample.enc ql))))), (9, .v (.one (.d (.int .i64 (ql.length : Int))))), (10, .v (.one (.d (.int .i64 vx))))]) 1

theorem series_Check_x3_ok (ql : List api_Sample) (vx : Int) (vy2 : api_Sample) {r} (hF : series_Check_x3 vy2 = some r) : Awp prog 0 50 (cL (cR (cR (cL (cR (cL (cL (cR (cR (cL (cL (cR (cL (cR (cR (cB f123)))))))))))))))) (Out 0 series_Check_x3_k (series_Check_x3_S ql vx vy2) r) (series_Check_x3_I ql vx vy2) := by
  unfold series_Check_x3 at hF
  refine bE hF fun vr1_2 h9 hF => ?_
  refine cE hF (fun h10 hF => ?_) fun h10 hF => ?_
  · refine awp_region ?_
    refine aR 2 ?_
    refine aC (base_Moment_ok h9) [] [] [] ?_
    refine aB h10 ?_
    refine aR 6 ?_
    refine aE ?_
    exact oO hF [] [] rfl
  · refine bE hF fun vr5 h11 hF => ?_
    refine awp_region ?_
    refine aR 2 ?_
    refine aC (base_Moment_ok h9) [] [] [] ?_
    refine aB h10 ?_
    refine aR 3 ?_
    refine aC (base_Out_ok h11) [] [] [] ?_
    refine aR 2 ?_
    refine aE ?_
    exact oO hF [] [] rfl

def series_Check_x4_k : Bool → AEx
  | _ => .normal

def series_Check_x4_S (ql : List api_Sample) (vx : Int) (vy2 : api_Sample) : Bool → St
  | vx6 => Mem.st ⟨[], []⟩ (tl [(0, .v (.one (.d (.lst (List.map api_Sample.enc ql))))), (8, .v (.one (.d (.lst (List.map api_Sample.enc ql))))), (9, .v (.one (.d (.int .i64 (ql.length : Int))))), (10, .v (.one (.d (.int .i64 vx)))), (36, .v (.one (.d (.bool vx6))))]) 0

def series_Check_x4_I (ql : List api_Sample) (vx : Int) (vy2 : api_Sample) : St := Mem.st ⟨[], [(0, [.d (.str vy2.Device), .d (.str vy2.Metric), .d (.int .i64 vy2.At), .d (.int .i64 vy2.Value)])]⟩ (tl [(0, .v (.one (.d (.lst (List.map api_Sample.enc ql))))), (3, .v (.one (.d (.int .i64 vx)))), (4, .v (.one (.box 0 0))), (8, .v (.one (.d (.lst (List.map api_Sample.enc ql))))), (9, .v (.one (.d (.int .i64 (ql.length : Int))))), (10, .v (.one (.d (.int .i64 vx))))]) 1

theorem series_Check_x4_ok (ql : List api_Sample) (vx : Int) (vy2 : api_Sample) {r} (hF : series_Check_x4 ql vx vy2 = some r) : Awp prog 0 50 (cL (cR (cR (cR (cR (cL (cR (cL (cL (cR (cR (cL (cL (cR (cL (cR (cR (cB f123)))))))))))))))))) (Out 0 series_Check_x4_k (series_Check_x4_S ql vx vy2) r) (series_Check_x4_I ql vx vy2) := by
  unfold series_Check_x4 at hF
  refine cE hF (fun h14 hF => ?_) fun h14 hF => ?_
  · refine bE hF fun vy3 h15 hF => ?_
    refine bE hF fun vr2_2 h16 hF => ?_
    refine aD ?_
    refine dR 1 ?_
    refine dB h14 ?_
    refine dR 5 ?_
    refine dX (x_idx api_Sample.enc h15) ?_
    refine dR 1 ?_
    refine dC (series_byDevice_ok h16) [] [] [] ?_
    refine dR 3 ?_
    refine dE ?_
    exact oO hF [] [] rfl
  · refine aD ?_
    refine dR 1 ?_
    refine dB h14 ?_
    refine dR 11 ?_
    refine dE ?_
    exact oO hF [] [] rfl

def series_Check_x1_k : Unit ⊕ Int → AEx
  | .inl _ => .exit 0
  | .inr _ => .ret

def series_Check_x1_S (ql : List api_Sample) : Unit ⊕ Int → St
  | .inl _ => Mem.st ⟨[], []⟩ (tl []) 0
  | .inr vx7 => Mem.st ⟨[], []⟩ (tl [(2, .v (.one (.d (.int .i64 vx7))))]) 0

def series_Check_x1_H (ql : List api_Sample) : Int → St
  | vx => Mem.st ⟨[], []⟩ (tl [(0, .v (.one (.d (.lst (List.map api_Sample.enc ql))))), (8, .v (.one (.d (.lst (List.map api_Sample.enc ql))))), (9, .v (.one (.d (.int .i64 (ql.length : Int))))), (10, .v (.one (.d (.int .i64 vx))))]) 0

theorem series_Check_x1_ok (ql : List api_Sample) (vx : Int) (r : (Int) ⊕ (Unit ⊕ Int)) (hF : series_Check_x1 ql vx = some r) : Awp prog 0 50 (cL (cL (cR (cL (cR (cR (cB f123))))))) (Out 0 (kk series_Check_x1_k) (SS (series_Check_x1_H ql) (series_Check_x1_S ql)) r) (series_Check_x1_H ql vx) := by
  unfold series_Check_x1 at hF
  refine awp_seq ?_
  refine awp_region ?_
  refine aR 1 ?_
  refine aE ?_
  refine awp_seq ?_
  refine cE hF (fun h2 hF => ?_) fun h2 hF => ?_
  · refine awp_true (by kernel_rfl) h2 ?_
    refine awp_skip ?_
    refine awp_seq ?_
    refine awp_block ?_
    refine awp_seq ?_
    refine bE hF fun vy2 h3 hF => ?_
    refine awp_region ?_
    refine aR 1 ?_
    refine aX (x_idx api_Sample.enc h3) ?_
    refine aR 4 ?_
    refine aE ?_
    refine awp_block ?_
    refine awp_seq ?_
    refine awp_to (st' := series_Check_x2_I ql vx vy2) (oT [(0, 4000)] []) ?_
    refine bE hF fun vx4_1 h7 hF => ?_
    refine awp_sub (series_Check_x2_ok ql vx vy2 h7) ?_
    refine cE hF (fun h8 hF => ?_) fun h8 hF => ?_
    · refine awp_true (by kernel_rfl) h8 ?_
      refine awp_seq ?_
      refine awp_region ?_
      refine aR 1 ?_
      refine aE ?_
      refine awp_ret ?_
      exact oO hF [] [] rfl
    · refine awp_false (by kernel_rfl) h8 ?_
      refine awp_seq ?_
      refine awp_to (st' := series_Check_x3_I ql vx vy2) (oT [] []) ?_
      refine bE hF fun vx5_1 h12 hF => ?_
      refine awp_sub (series_Check_x3_ok ql vx vy2 h12) ?_
      refine cE hF (fun h13 hF => ?_) fun h13 hF => ?_
      · refine awp_true (by kernel_rfl) h13 ?_
        refine awp_seq ?_
        refine awp_region ?_
        refine aR 1 ?_
        refine aE ?_
        refine awp_ret ?_
        exact oO hF [] [] rfl
      · refine awp_false (by kernel_rfl) h13 ?_
        refine awp_seq ?_
        refine awp_to (st' := series_Check_x4_I ql vx vy2) (oT [] []) ?_
        refine bE hF fun vx6_1 h17 hF => ?_
        refine awp_sub (series_Check_x4_ok ql vx vy2 h17) ?_
        refine cE hF (fun h18 hF => ?_) fun h18 hF => ?_
        · refine awp_true (by kernel_rfl) h18 ?_
          refine awp_seq ?_
          refine awp_region ?_
          refine aR 1 ?_
          refine aE ?_
          refine awp_ret ?_
          exact oO hF [] [] rfl
        · refine awp_false (by kernel_rfl) h18 ?_
          refine awp_skip ?_
          refine awp_region ?_
          refine aR 2 ?_
          refine aE ?_
          exact oO hF [] [] rfl
  · refine awp_false (by kernel_rfl) h2 ?_
    refine awp_exit ?_
    exact oO hF [] [] rfl

def series_Check_R (ql : List api_Sample) (r : Int) : TV × Mem := (.v (.one (.d (.int .i64 r))), ⟨[], []⟩)

theorem series_Check_ok {ql : List api_Sample} {r} (hF : series_Check ql = some r) : Holds prog 123 [.v (.one (.d (.lst (List.map api_Sample.enc ql))))] ⟨[], []⟩ (Is (series_Check_R ql r)) := by
  unfold series_Check at hF
  refine holds_of_awp hΓ (fn := f123) (c := cB f123) (A := 0) (nx := 0) (by kernel_rfl) (by kernel_rfl) (by kernel_rfl) (by kernel_rfl) (by kernel_rfl) (by kernel_rfl) (lowc_of (by kernel_rfl)) ?_
  show Awp prog 0 50 (cB f123) _ _
  refine awp_seq ?_
  refine awp_region ?_
  refine aR 1 ?_
  refine aE ?_
  refine awp_seq ?_
  refine awp_seq ?_
  refine awp_region ?_
  refine aR 1 ?_
  refine aL api_Sample.enc ql ?_
  refine aR 1 ?_
  refine aE ?_
  refine cE hF (fun h1 hF => ?_) fun h1 hF => ?_
  · refine awp_true (by kernel_rfl) h1 ?_
    refine awp_seq ?_
    refine awp_region ?_
    refine aR 1 ?_
    refine aE ?_
    refine awp_ret ?_
    exact oF hF [] []
  · refine awp_false (by kernel_rfl) h1 ?_
    refine awp_skip ?_
    refine awp_seq ?_
    refine awp_seq ?_
    refine awp_region ?_
    refine aR 1 ?_
    refine aL api_Sample.enc ql ?_
    refine aR 1 ?_
    refine aE ?_
    refine awp_block ?_
    refine awp_to (st' := series_Check_x1_H ql 0) (oT [] []) ?_
    refine bE hF fun x h19 hF => ?_
    rcases x with _ | vx7_1
    · refine awp_sub (awp_loop' (series_Check_x1_H ql) series_Check_x1_k (series_Check_x1_S ql) (by intro x; rcases x with x | x <;> exact fun h => nomatch h) h19 (series_Check_x1_ok ql)) ?_
      refine awp_seq ?_
      refine awp_region ?_
      refine aR 1 ?_
      refine aE ?_
      refine awp_ret ?_
      exact oF hF [] []
    · refine awp_sub (awp_loop' (series_Check_x1_H ql) series_Check_x1_k (series_Check_x1_S ql) (by intro x; rcases x with x | x <;> exact fun h => nomatch h) h19 (series_Check_x1_ok ql)) ?_
      exact oF hF [] []

/-! ### beaconfleet/series.CheckSeries$1 -/
def series_CheckSeries_1_x1_k : Bool → AEx
  | _ => .normal

def series_CheckSeries_1_x1_S (qs : api_Sample) (qx : List api_Sample) : Bool → St
  | vx => Mem.st ⟨[], [(0, [.d (.lst (List.map api_Sample.enc qx))])]⟩ (tl [(3, .v (.one (.d (.bool vx))))]) 1

def series_CheckSeries_1_x1_I (qs : api_Sample) (qx : List api_Sample) : St := Mem.st ⟨[], [(0, [.d (.lst (List.map api_Sample.enc qx))]), (1, [.d (.str qs.Device), .d (.str qs.Metric), .d (.int .i64 qs.At), .d (.int .i64 qs.Value)])]⟩ (tl [(1, .v (.one (.box 0 0))), (2, .v (.one (.box 1 0)))]) 2

theorem series_CheckSeries_1_x1_ok (qs : api_Sample) (qx : List api_Sample) {r} (hF : series_CheckSeries_1_x1 qs qx = some r) : Awp prog 1 20 (cL (cR (cB f125))) (Out 1 series_CheckSeries_1_x1_k (series_CheckSeries_1_x1_S qs qx) r) (series_CheckSeries_1_x1_I qs qx) := by
  unfold series_CheckSeries_1_x1 at hF
  refine bE hF fun vy h1 hF => ?_
  refine cE hF (fun h2 hF => ?_) fun h2 hF => ?_
  · refine aD ?_
    refine dR 3 ?_
    refine dX (x_idx api_Sample.enc h1) ?_
    refine dR 2 ?_
    refine dB h2 ?_
    refine dR 10 ?_
    refine dE ?_
    exact oO hF [] [] rfl
  · refine aD ?_
    refine dR 3 ?_
    refine dX (x_idx api_Sample.enc h1) ?_
    refine dR 2 ?_
    refine dB h2 ?_
    refine dR 4 ?_
    refine dX (x_idx api_Sample.enc h1) ?_
    refine dR 5 ?_
    refine dE ?_
    exact oO hF [] [] rfl

def series_CheckSeries_1_R (qs : api_Sample) (qx : List api_Sample) (r : Bool) : TV × Mem := (.v (.one (.d (.bool r))), ⟨[], [(0, [.d (.lst (List.map api_Sample.enc qx))])]⟩)

theorem series_CheckSeries_1_ok {qs : api_Sample} {qx : List api_Sample} {r} (hF : series_CheckSeries_1 qs qx = some r) : Holds prog 125 [.v (.agg [.d (.str qs.Device), .d (.str qs.Metric), .d (.int .i64 qs.At), .d (.int .i64 qs.Value)]), .v (.one (.box 0 0))] ⟨[], [(0, [.d (.lst (List.map api_Sample.enc qx))])]⟩ (Is (series_CheckSeries_1_R qs qx r)) := by
  unfold series_CheckSeries_1 at hF
  refine holds_of_awp hΓ (fn := f125) (c := cB f125) (A := 1) (nx := 1) (by kernel_rfl) (by kernel_rfl) (by kernel_rfl) (by kernel_rfl) (by kernel_rfl) (by kernel_rfl) (lowc_of (by kernel_rfl)) ?_
  show Awp prog 1 20 (cB f125) _ _
  refine awp_seq ?_
  refine awp_region ?_
  refine aR 2 ?_
  refine aE ?_
  refine awp_seq ?_
  refine awp_to (st' := series_CheckSeries_1_x1_I qs qx) (oT [] []) ?_
  refine bE hF fun vx1 h3 hF => ?_
  refine awp_sub (series_CheckSeries_1_x1_ok qs qx h3) ?_
  refine awp_ret ?_
  exact oF hF [] []

/-! ### slices.IndexFunc[[]beaconfleet/api.Sample,beaconfleet/api.Sample] -/
def slices_IndexFunc_api_Sample_api_Sample_f1_series_CheckSeries_1_x1_k : Unit ⊕ Int → AEx
  | .inl _ => .exit 0
  | .inr _ => .ret

def slices_IndexFunc_api_Sample_api_Sample_f1_series_CheckSeries_1_x1_S (qs : List api_Sample) : Unit ⊕ Int → St
  | .inl _ => Mem.st ⟨[], [(0, [.d (.lst (List.map api_Sample.enc qs))])]⟩ (tl []) 1
  | .inr vx1 => Mem.st ⟨[], [(0, [.d (.lst (List.map api_Sample.enc qs))])]⟩ (tl [(4, .v (.one (.d (.int .i64 vx1))))]) 1

def slices_IndexFunc_api_Sample_api_Sample_f1_series_CheckSeries_1_x1_H (qs : List api_Sample) : Int → St
  | vx => Mem.st ⟨[], [(0, [.d (.lst (List.map api_Sample.enc qs))])]⟩ (tl [(0, .v (.one (.d (.lst (List.map api_Sample.enc qs))))), (1, .v (.one (.fn 125 [0]))), (7, .v (.one (.d (.int .i64 (qs.length : Int))))), (8, .v (.one (.d (.int .i64 vx))))]) 1

theorem slices_IndexFunc_api_Sample_api_Sample_f1_series_CheckSeries_1_x1_ok (qs : List api_Sample) (vx : Int) (r : (Int) ⊕ (Unit ⊕ Int)) (hF : slices_IndexFunc_api_Sample_api_Sample_f1_series_CheckSeries_1_x1 qs vx = some r) : Awp prog 1 19 (cL (cL (cR (cL (cR (cB f156)))))) (Out 1 (kk slices_IndexFunc_api_Sample_api_Sample_f1_series_CheckSeries_1_x1_k) (SS (slices_IndexFunc_api_Sample_api_Sample_f1_series_CheckSeries_1_x1_H qs) (slices_IndexFunc_api_Sample_api_Sample_f1_series_CheckSeries_1_x1_S qs)) r) (slices_IndexFunc_api_Sample_api_Sample_f1_series_CheckSeries_1_x1_H qs vx) := by
  unfold slices_IndexFunc_api_Sample_api_Sample_f1_series_CheckSeries_1_x1 at hF
  refine awp_seq ?_
  refine awp_region ?_
  refine aR 1 ?_
  refine aE ?_
  refine awp_seq ?_
  refine cE hF (fun h1 hF => ?_) fun h1 hF => ?_
  · refine awp_true (by kernel_rfl) h1 ?_
    refine awp_skip ?_
    refine awp_seq ?_
    refine awp_block ?_
    refine awp_seq ?_
    refine awp_region ?_
    refine aR 2 ?_
    refine aE ?_
    refine awp_seq ?_
    refine bE hF fun vy1 h2 hF => ?_
    refine bE hF fun vr1 h3 hF => ?_
    refine awp_region ?_
    refine aR 3 ?_
    refine aX (x_idx api_Sample.enc h2) ?_
    refine aR 1 ?_
    refine aC (series_CheckSeries_1_ok h3) [] [] [] ?_
    refine aE ?_
    refine cE hF (fun h4 hF => ?_) fun h4 hF => ?_
    · refine awp_true (by kernel_rfl) h4 ?_
      refine awp_seq ?_
      refine awp_region ?_
      refine aR 2 ?_
      refine aE ?_
      refine awp_ret ?_
      exact oO hF [] [] rfl
    · refine awp_false (by kernel_rfl) h4 ?_
      refine awp_skip ?_
      refine awp_region ?_
      refine aR 2 ?_
      refine aE ?_
      exact oO hF [] [] rfl
  · refine awp_false (by kernel_rfl) h1 ?_
    refine awp_exit ?_
    exact oO hF [] [] rfl

def slices_IndexFunc_api_Sample_api_Sample_f1_series_CheckSeries_1_R (qs : List api_Sample) (r : Int) : TV × Mem := (.v (.one (.d (.int .i64 r))), ⟨[], [(0, [.d (.lst (List.map api_Sample.enc qs))])]⟩)

theorem slices_IndexFunc_api_Sample_api_Sample_f1_series_CheckSeries_1_ok {qs : List api_Sample} {r} (hF : slices_IndexFunc_api_Sample_api_Sample_f1_series_CheckSeries_1 qs = some r) : Holds prog 156 [.v (.one (.d (.lst (List.map api_Sample.enc qs)))), .v (.one (.fn 125 [0]))] ⟨[], [(0, [.d (.lst (List.map api_Sample.enc qs))])]⟩ (Is (slices_IndexFunc_api_Sample_api_Sample_f1_series_CheckSeries_1_R qs r)) := by
  unfold slices_IndexFunc_api_Sample_api_Sample_f1_series_CheckSeries_1 at hF
  refine holds_of_awp hΓ (fn := f156) (c := cB f156) (A := 1) (nx := 1) (by kernel_rfl) (by kernel_rfl) (by kernel_rfl) (by kernel_rfl) (by kernel_rfl) (by kernel_rfl) (lowc_of (by kernel_rfl)) ?_
  show Awp prog 1 19 (cB f156) _ _
  refine awp_seq ?_
  refine awp_region ?_
  refine aR 1 ?_
  refine aE ?_
  refine awp_seq ?_
  refine awp_seq ?_
  refine awp_region ?_
  refine aR 1 ?_
  refine aL api_Sample.enc qs ?_
  refine aR 1 ?_
  refine aE ?_
  refine awp_block ?_
  refine awp_to (st' := slices_IndexFunc_api_Sample_api_Sample_f1_series_CheckSeries_1_x1_H qs 0) (oT [] []) ?_
  refine bE hF fun x h5 hF => ?_
  rcases x with _ | vx1_1
  · refine awp_sub (awp_loop' (slices_IndexFunc_api_Sample_api_Sample_f1_series_CheckSeries_1_x1_H qs) slices_IndexFunc_api_Sample_api_Sample_f1_series_CheckSeries_1_x1_k (slices_IndexFunc_api_Sample_api_Sample_f1_series_CheckSeries_1_x1_S qs) (by intro x; rcases x with x | x <;> exact fun h => nomatch h) h5 (slices_IndexFunc_api_Sample_api_Sample_f1_series_CheckSeries_1_x1_ok qs)) ?_
    refine awp_seq ?_
    refine awp_region ?_
    refine aR 1 ?_
    refine aE ?_
    refine awp_ret ?_
    exact oF hF [] []
  · refine awp_sub (awp_loop' (slices_IndexFunc_api_Sample_api_Sample_f1_series_CheckSeries_1_x1_H qs) slices_IndexFunc_api_Sample_api_Sample_f1_series_CheckSeries_1_x1_k (slices_IndexFunc_api_Sample_api_Sample_f1_series_CheckSeries_1_x1_S qs) (by intro x; rcases x with x | x <;> exact fun h => nomatch h) h5 (slices_IndexFunc_api_Sample_api_Sample_f1_series_CheckSeries_1_x1_ok qs)) ?_
    exact oF hF [] []

/-! ### slices.ContainsFunc[[]beaconfleet/api.Sample,beaconfleet/api.Sample] -/
def slices_ContainsFunc_api_Sample_api_Sample_f1_series_CheckSeries_1_R (qs : List api_Sample) (r : Bool) : TV × Mem := (.v (.one (.d (.bool r))), ⟨[], [(0, [.d (.lst (List.map api_Sample.enc qs))])]⟩)

theorem slices_ContainsFunc_api_Sample_api_Sample_f1_series_CheckSeries_1_ok {qs : List api_Sample} {r} (hF : slices_ContainsFunc_api_Sample_api_Sample_f1_series_CheckSeries_1 qs = some r) : Holds prog 124 [.v (.one (.d (.lst (List.map api_Sample.enc qs)))), .v (.one (.fn 125 [0]))] ⟨[], [(0, [.d (.lst (List.map api_Sample.enc qs))])]⟩ (Is (slices_ContainsFunc_api_Sample_api_Sample_f1_series_CheckSeries_1_R qs r)) := by
  unfold slices_ContainsFunc_api_Sample_api_Sample_f1_series_CheckSeries_1 at hF
  refine holds_of_awp hΓ (fn := f124) (c := cB f124) (A := 1) (nx := 1) (by kernel_rfl) (by kernel_rfl) (by kernel_rfl) (by kernel_rfl) (by kernel_rfl) (by kernel_rfl) (lowc_of (by kernel_rfl)) ?_
  show Awp prog 1 9 (cB f124) _ _
  refine awp_seq ?_
  refine awp_region ?_
  refine aR 1 ?_
  refine aE ?_
  refine awp_seq ?_
  refine bE hF fun vr2 h1 hF => ?_
  refine awp_region ?_
  refine aR 2 ?_
  refine aC (slices_IndexFunc_api_Sample_api_Sample_f1_series_CheckSeries_1_ok h1) [] [] [] ?_
  refine aR 2 ?_
  refine aE ?_
  refine awp_ret ?_
  exact oF hF [] []

/-! ### beaconfleet/series.CheckSeries -/
def series_CheckSeries_R (ql : List api_Sample) (r : Int) : TV × Mem := (.v (.one (.d (.int .i64 r))), ⟨[], []⟩)

theorem series_CheckSeries_ok {ql : List api_Sample} {r} (hF : series_CheckSeries ql = some r) : Holds prog 82 [.v (.one (.d (.lst (List.map api_Sample.enc ql))))] ⟨[], []⟩ (Is (series_CheckSeries_R ql r)) := by
  unfold series_CheckSeries at hF
  refine holds_of_awp hΓ (fn := f82) (c := cB f82) (A := 0) (nx := 0) (by kernel_rfl) (by kernel_rfl) (by kernel_rfl) (by kernel_rfl) (by kernel_rfl) (by kernel_rfl) (lowc_of (by kernel_rfl)) ?_
  show Awp prog 0 12 (cB f82) _ _
  refine awp_seq ?_
  refine awp_region ?_
  refine aR 2 ?_
  refine aE ?_
  refine awp_seq ?_
  refine awp_seq ?_
  refine bE hF fun vr6 h1 hF => ?_
  refine awp_region ?_
  refine aR 1 ?_
  refine aC (series_Check_ok h1) [] [] [] ?_
  refine aR 1 ?_
  refine aE ?_
  refine awp_seq ?_
  refine awp_region ?_
  refine aR 2 ?_
  refine aE ?_
  refine cE hF (fun h2 hF => ?_) fun h2 hF => ?_
  · refine awp_true (by kernel_rfl) h2 ?_
    refine awp_seq ?_
    refine awp_region ?_
    refine aR 2 ?_
    refine aE ?_
    refine awp_ret ?_
    exact oF hF [] []
  · refine awp_false (by kernel_rfl) h2 ?_
    refine awp_skip ?_
    refine awp_seq ?_
    refine awp_seq ?_
    refine bE hF fun vr h3 hF => ?_
    refine awp_region ?_
    refine aR 2 ?_
    refine aC (slices_ContainsFunc_api_Sample_api_Sample_f1_series_CheckSeries_1_ok h3) [] [] [] ?_
    refine aE ?_
    refine cE hF (fun h4 hF => ?_) fun h4 hF => ?_
    · refine awp_true (by kernel_rfl) h4 ?_
      refine awp_seq ?_
      refine awp_region ?_
      refine aR 1 ?_
      refine aE ?_
      refine awp_ret ?_
      exact oF hF [] []
    · refine awp_false (by kernel_rfl) h4 ?_
      refine awp_skip ?_
      refine awp_seq ?_
      refine awp_region ?_
      refine aR 1 ?_
      refine aE ?_
      refine awp_ret ?_
      exact oF hF [] []

/-! ### beaconfleet/series.seven -/
def series_seven_n0_x1_k : ((List Int) × Int) → AEx
  | _ => .exit 0

def series_seven_n0_x1_S : ((List Int) × Int) → St
  | (vb1, vn1) => Mem.st ⟨[(0, ⟨5, 1, List.map (encI .u8) vb1⟩)], []⟩ (tl [(0, .v (.one (.own 0 none))), (1, .v (.one (.d (.int .u64 vn1))))]) 1

def series_seven_n0_x1_H : (List Int) × Int → St
  | (vb, vn) => Mem.st ⟨[(0, ⟨5, 1, List.map (encI .u8) vb⟩)], []⟩ (tl [(0, .v (.one (.own 0 none))), (1, .v (.one (.d (.int .u64 vn))))]) 1

theorem series_seven_n0_x1_ok (s : (List Int) × Int) (r : ((List Int) × Int) ⊕ (((List Int) × Int))) (hF : series_seven_n0_x1  s = some r) : Awp prog 0 21 (cL (cL (cL (cR (cB f126))))) (Out 0 (kk series_seven_n0_x1_k) (SS (series_seven_n0_x1_H ) (series_seven_n0_x1_S )) r) (series_seven_n0_x1_H  s) := by
  obtain ⟨vb, vn⟩ := s
  unfold series_seven_n0_x1 at hF
  refine awp_seq ?_
  refine awp_seq ?_
  refine awp_region ?_
  refine aR 2 ?_
  refine aE ?_
  refine cE hF (fun h1 hF => ?_) fun h1 hF => ?_
  · refine awp_true (by kernel_rfl) h1 ?_
    refine awp_skip ?_
    refine awp_block ?_
    refine gE hF fun h2 hF => ?_
    refine awp_region ?_
    refine aR 6 ?_
    refine aX (x_app (encI .u8) 0 h2) ?_
    refine aR 4 ?_
    refine aE ?_
    exact oO hF [(0, 8001)] [] rfl
  · refine awp_false (by kernel_rfl) h1 ?_
    refine awp_exit ?_
    exact oO hF [] [] rfl

def series_seven_n0_R (qn : Int) (r : (List Int)) : TV × Mem := (.v (.one (.own 0 none)), ⟨[(0, ⟨5, 1, List.map (encI .u8) r⟩)], []⟩)

theorem series_seven_n0_ok {qn : Int} {r} (hF : series_seven_n0 qn = some r) : Holds prog 126 [.v (.one (.nil)), .v (.one (.d (.int .u64 qn)))] ⟨[], []⟩ (Is (series_seven_n0_R qn r)) := by
  unfold series_seven_n0 at hF
  refine holds_of_awp hΓ (fn := f126) (c := cB f126) (A := 0) (nx := 0) (by kernel_rfl) (by kernel_rfl) (by kernel_rfl) (by kernel_rfl) (by kernel_rfl) (by kernel_rfl) (lowc_of (by kernel_rfl)) ?_
  show Awp prog 0 21 (cB f126) _ _
  refine awp_seq ?_
  refine awp_region ?_
  refine aR 1 ?_
  refine aE ?_
  refine awp_seq ?_
  refine awp_block ?_
  refine awp_to (st' := series_seven_n0_x1_H  ([], qn)) (oT [] [0]) ?_
  refine bE hF fun x h3 hF => ?_
  obtain ⟨vb1_1, vn1_1⟩ := x
  refine awp_sub (awp_loop' (series_seven_n0_x1_H ) series_seven_n0_x1_k (series_seven_n0_x1_S ) (by intro x; exact fun h => nomatch h) h3 (series_seven_n0_x1_ok )) ?_
  refine awp_seq ?_
  refine gE hF fun h4 hF => ?_
  refine awp_region ?_
  refine aR 4 ?_
  refine aX (x_app (encI .u8) 0 h4) ?_
  refine aR 1 ?_
  refine aE ?_
  refine awp_ret ?_
  exact oF hF [(0, 4001)] []

/-! ### beaconfleet/series.doubled -/
def series_doubled_R (qn : Int) (r : Int) : TV × Mem := (.v (.one (.d (.int .u64 r))), ⟨[], []⟩)

theorem series_doubled_ok {qn : Int} {r} (hF : series_doubled qn = some r) : Holds prog 127 [.v (.one (.d (.int .i64 qn)))] ⟨[], []⟩ (Is (series_doubled_R qn r)) := by
  unfold series_doubled at hF
  refine holds_of_awp hΓ (fn := f127) (c := cB f127) (A := 0) (nx := 0) (by kernel_rfl) (by kernel_rfl) (by kernel_rfl) (by kernel_rfl) (by kernel_rfl) (by kernel_rfl) (lowc_of (by kernel_rfl)) ?_
  show Awp prog 0 12 (cB f127) _ _
  refine awp_seq ?_
  refine awp_region ?_
  refine aR 1 ?_
  refine aE ?_
  refine awp_seq ?_
  refine awp_seq ?_
  refine awp_region ?_
  refine aR 2 ?_
  refine aE ?_
  refine cE hF (fun h1 hF => ?_) fun h1 hF => ?_
  · refine awp_true (by kernel_rfl) h1 ?_
    refine awp_seq ?_
    refine awp_region ?_
    refine aR 5 ?_
    refine aE ?_
    refine awp_ret ?_
    exact oF hF [] []
  · refine awp_false (by kernel_rfl) h1 ?_
    refine awp_skip ?_
    refine awp_seq ?_
    refine awp_region ?_
    refine aR 4 ?_
    refine aE ?_
    refine awp_ret ?_
    exact oF hF [] []

/-! ### beaconfleet/series.seven -/
def series_seven_o0_x1_k : ((List Int) × Int) → AEx
  | _ => .exit 0

def series_seven_o0_x1_S : ((List Int) × Int) → St
  | (vb1, vn1) => Mem.st ⟨[(1, ⟨5, 1, List.map (encI .u8) vb1⟩)], []⟩ (tl [(0, .v (.one (.own 1 none))), (1, .v (.one (.d (.int .u64 vn1))))]) 2

def series_seven_o0_x1_H : (List Int) × Int → St
  | (vb, vn) => Mem.st ⟨[(1, ⟨5, 1, List.map (encI .u8) vb⟩)], []⟩ (tl [(0, .v (.one (.own 1 none))), (1, .v (.one (.d (.int .u64 vn))))]) 2

theorem series_seven_o0_x1_ok (s : (List Int) × Int) (r : ((List Int) × Int) ⊕ (((List Int) × Int))) (hF : series_seven_o0_x1  s = some r) : Awp prog 1 21 (cL (cL (cL (cR (cB f126))))) (Out 1 (kk series_seven_o0_x1_k) (SS (series_seven_o0_x1_H ) (series_seven_o0_x1_S )) r) (series_seven_o0_x1_H  s) := by
  obtain ⟨vb, vn⟩ := s
  unfold series_seven_o0_x1 at hF
  refine awp_seq ?_
  refine awp_seq ?_
  refine awp_region ?_
  refine aR 2 ?_
  refine aE ?_
  refine cE hF (fun h1 hF => ?_) fun h1 hF => ?_
  · refine awp_true (by kernel_rfl) h1 ?_
    refine awp_skip ?_
    refine awp_block ?_
    refine gE hF fun h2 hF => ?_
    refine awp_region ?_
    refine aR 6 ?_
    refine aX (x_app (encI .u8) 1 h2) ?_
    refine aR 4 ?_
    refine aE ?_
    exact oO hF [(1, 8002)] [] rfl
  · refine awp_false (by kernel_rfl) h1 ?_
    refine awp_exit ?_
    exact oO hF [] [] rfl

def series_seven_o0_R (qb : List Int) (qn : Int) (r : (List Int)) : TV × Mem := (.v (.one (.own 1 none)), ⟨[(1, ⟨5, 1, List.map (encI .u8) r⟩)], []⟩)

theorem series_seven_o0_ok {qb : List Int} {qn : Int} {r} (hF : series_seven_o0 qb qn = some r) : Holds prog 126 [.v (.one (.own 0 none)), .v (.one (.d (.int .u64 qn)))] ⟨[(0, ⟨5, 1, List.map (encI .u8) qb⟩)], []⟩ (Is (series_seven_o0_R qb qn r)) := by
  unfold series_seven_o0 at hF
  refine holds_of_awp hΓ (fn := f126) (c := cB f126) (A := 1) (nx := 1) (by kernel_rfl) (by kernel_rfl) (by kernel_rfl) (by kernel_rfl) (by kernel_rfl) (by kernel_rfl) (lowc_of (by kernel_rfl)) ?_
  show Awp prog 1 21 (cB f126) _ _
  refine awp_seq ?_
  refine awp_region ?_
  refine aR 1 ?_
  refine aE ?_
  refine awp_seq ?_
  refine awp_block ?_
  refine awp_to (st' := series_seven_o0_x1_H  (qb, qn)) (oT [(1, 0)] []) ?_
  refine bE hF fun x h3 hF => ?_
  obtain ⟨vb1_1, vn1_1⟩ := x
  refine awp_sub (awp_loop' (series_seven_o0_x1_H ) series_seven_o0_x1_k (series_seven_o0_x1_S ) (by intro x; exact fun h => nomatch h) h3 (series_seven_o0_x1_ok )) ?_
  refine awp_seq ?_
  refine gE hF fun h4 hF => ?_
  refine awp_region ?_
  refine aR 4 ?_
  refine aX (x_app (encI .u8) 1 h4) ?_
  refine aR 1 ?_
  refine aE ?_
  refine awp_ret ?_
  exact oF hF [(1, 4002)] []

/-! ### beaconfleet/series.pack -/
def series_pack_x2_k : Int → AEx
  | _ => .normal

def series_pack_x2_S (ql : List api_Sample) (vat : Int) (vby : Int) (vx : Int) (vy1 : api_Sample) (vr8 : List Int) : Int → St
  | vby2 => Mem.st ⟨[(1, ⟨5, 1, List.map (encI .u8) vr8⟩)], [(0, [.d (.str vy1.Device), .d (.str vy1.Metric), .d (.int .i64 vy1.At), .d (.int .i64 vy1.Value)])]⟩ (tl [(3, .v (.one (.own 1 none))), (5, .v (.one (.d (.int .i64 vby2)))), (8, .v (.one (.box 0 0))), (14, .v (.one (.d (.lst (List.map api_Sample.enc ql))))), (15, .v (.one (.d (.int .i64 (ql.length : Int))))), (16, .v (.one (.d (.int .i64 vx))))]) 2

def series_pack_x2_I (ql : List api_Sample) (vat : Int) (vby : Int) (vx : Int) (vy1 : api_Sample) (vr8 : List Int) : St := Mem.st ⟨[(1, ⟨5, 1, List.map (encI .u8) vr8⟩)], [(0, [.d (.str vy1.Device), .d (.str vy1.Metric), .d (.int .i64 vy1.At), .d (.int .i64 vy1.Value)])]⟩ (tl [(3, .v (.one (.own 1 none))), (5, .v (.one (.d (.int .i64 vby)))), (7, .v (.one (.d (.int .i64 vx)))), (8, .v (.one (.box 0 0))), (9, .v (.one (.d (.int .i64 (IntKind.wrap .i64 (vy1.At - vat)))))), (14, .v (.one (.d (.lst (List.map api_Sample.enc ql))))), (15, .v (.one (.d (.int .i64 (ql.length : Int))))), (16, .v (.one (.d (.int .i64 vx))))]) 2

theorem series_pack_x2_ok (ql : List api_Sample) (vat : Int) (vby : Int) (vx : Int) (vy1 : api_Sample) (vr8 : List Int) {r} (hF : series_pack_x2 vat vby vx vy1 = some r) : Awp prog 0 47 (cL (cR (cR (cR (cR (cL (cL (cR (cR (cL (cL (cR (cL (cR (cR (cR (cB f83))))))))))))))))) (Out 0 series_pack_x2_k (series_pack_x2_S ql vat vby vx vy1 vr8) r) (series_pack_x2_I ql vat vby vx vy1 vr8) := by
  unfold series_pack_x2 at hF
  refine awp_seq ?_
  refine awp_region ?_
  refine aR 2 ?_
  refine aE ?_
  refine cE hF (fun h8 hF => ?_) fun h8 hF => ?_
  · refine awp_true (by kernel_rfl) h8 ?_
    refine awp_region ?_
    refine aR 2 ?_
    refine aE ?_
    exact oO hF [] [] rfl
  · refine awp_false (by kernel_rfl) h8 ?_
    refine awp_skip ?_
    exact oO hF [] [] rfl

def series_pack_x1_k : (List Int) → AEx
  | _ => .exit 0

def series_pack_x1_S (ql : List api_Sample) : (List Int) → St
  | vout1 => Mem.st ⟨[(0, ⟨5, 1, List.map (encI .u8) vout1⟩)], []⟩ (tl [(3, .v (.one (.own 0 none)))]) 1

def series_pack_x1_H (ql : List api_Sample) : (List Int) × Int × Int × Int × Int → St
  | (vout, vat, vby, vvalue, vx) => Mem.st ⟨[(0, ⟨5, 1, List.map (encI .u8) vout⟩)], []⟩ (tl [(3, .v (.one (.own 0 none))), (4, .v (.one (.d (.int .i64 vat)))), (5, .v (.one (.d (.int .i64 vby)))), (6, .v (.one (.d (.int .i64 vvalue)))), (14, .v (.one (.d (.lst (List.map api_Sample.enc ql))))), (15, .v (.one (.d (.int .i64 (ql.length : Int))))), (16, .v (.one (.d (.int .i64 vx))))]) 1

theorem series_pack_x1_ok (ql : List api_Sample) (s : (List Int) × Int × Int × Int × Int) (r : ((List Int) × Int × Int × Int × Int) ⊕ ((List Int))) (hF : series_pack_x1 ql s = some r) : Awp prog 0 47 (cL (cL (cR (cL (cR (cR (cR (cB f83)))))))) (Out 0 (kk series_pack_x1_k) (SS (series_pack_x1_H ql) (series_pack_x1_S ql)) r) (series_pack_x1_H ql s) := by
  obtain ⟨vout, vat, vby, vvalue, vx⟩ := s
  unfold series_pack_x1 at hF
  refine awp_seq ?_
  refine awp_region ?_
  refine aR 1 ?_
  refine aE ?_
  refine awp_seq ?_
  refine cE hF (fun h2 hF => ?_) fun h2 hF => ?_
  · refine awp_true (by kernel_rfl) h2 ?_
    refine awp_skip ?_
    refine awp_seq ?_
    refine awp_block ?_
    refine awp_seq ?_
    refine bE hF fun vy1 h3 hF => ?_
    refine awp_region ?_
    refine aR 1 ?_
    refine aX (x_idx api_Sample.enc h3) ?_
    refine aR 4 ?_
    refine aE ?_
    refine awp_seq ?_
    refine awp_region ?_
    refine aR 5 ?_
    refine aE ?_
    refine awp_seq ?_
    refine bE hF fun vr5 h4 hF => ?_
    refine bE hF fun vr6 h5 hF => ?_
    refine awp_region ?_
    refine aR 4 ?_
    refine aC (series_doubled_ok h4) [] [] [] ?_
    refine aC (series_seven_o0_ok h5) [] [] [] ?_
    refine aR 1 ?_
    refine aE ?_
    refine awp_seq ?_
    refine bE hF fun vr7 h6 hF => ?_
    refine bE hF fun vr8 h7 hF => ?_
    refine awp_region ?_
    refine aR 5 ?_
    refine aC (series_doubled_ok h6) [] [] [] ?_
    refine aC (series_seven_o0_ok h7) [(0, 17002)] [] [] ?_
    refine aR 1 ?_
    refine aE ?_
    refine awp_seq ?_
    refine awp_to (st' := series_pack_x2_I ql vat vby vx vy1 vr8) (oT [(0, 4001), (1, 25002)] []) ?_
    refine bE hF fun vby2_1 h9 hF => ?_
    refine awp_sub (series_pack_x2_ok ql vat vby vx vy1 vr8 h9) ?_
    refine aD ?_
    refine dR 6 ?_
    refine dE ?_
    refine awp_region ?_
    refine aR 2 ?_
    refine aE ?_
    exact oO hF [(0, 1)] [] rfl
  · refine awp_false (by kernel_rfl) h2 ?_
    refine awp_exit ?_
    exact oO hF [] [] rfl

def series_pack_R (ql : List api_Sample) (r : (List Int)) : TV × Mem := (.v (.one (.own 0 none)), ⟨[(0, ⟨5, 1, List.map (encI .u8) r⟩)], []⟩)

theorem series_pack_ok {ql : List api_Sample} {r} (hF : series_pack ql = some r) : Holds prog 83 [.v (.one (.d (.lst (List.map api_Sample.enc ql))))] ⟨[], []⟩ (Is (series_pack_R ql r)) := by
  unfold series_pack at hF
  refine holds_of_awp hΓ (fn := f83) (c := cB f83) (A := 0) (nx := 0) (by kernel_rfl) (by kernel_rfl) (by kernel_rfl) (by kernel_rfl) (by kernel_rfl) (by kernel_rfl) (lowc_of (by kernel_rfl)) ?_
  show Awp prog 0 47 (cB f83) _ _
  refine awp_seq ?_
  refine awp_region ?_
  refine aR 1 ?_
  refine aE ?_
  refine awp_seq ?_
  refine bE hF fun vr h1 hF => ?_
  refine awp_region ?_
  refine aR 1 ?_
  refine aL api_Sample.enc ql ?_
  refine aR 1 ?_
  refine aC (series_seven_n0_ok h1) [] [] [] ?_
  refine aR 1 ?_
  refine aE ?_
  refine awp_seq ?_
  refine awp_region ?_
  refine aR 3 ?_
  refine aE ?_
  refine awp_seq ?_
  refine awp_seq ?_
  refine awp_region ?_
  refine aR 1 ?_
  refine aL api_Sample.enc ql ?_
  refine aR 1 ?_
  refine aE ?_
  refine awp_block ?_
  refine awp_to (st' := series_pack_x1_H ql (vr, 0, 0, 0, 0)) (oT [(0, 4000)] []) ?_
  refine bE hF fun vout1_1 h10 hF => ?_
  refine awp_sub (awp_loop' (series_pack_x1_H ql) series_pack_x1_k (series_pack_x1_S ql) (by intro x; exact fun h => nomatch h) h10 (series_pack_x1_ok ql)) ?_
  refine awp_seq ?_
  refine awp_region ?_
  refine aR 2 ?_
  refine aE ?_
  refine awp_ret ?_
  exact oF hF [] []

/-! ### beaconfleet/series.Pack -/
def series_Pack_o0_R (ql : List api_Sample) (r : (List Int) × Int) : TV × Mem := (.tup [.one (.own 1 none), .one (.d (.int .i64 r.2))], ⟨[(1, ⟨5, 1, List.map (encI .u8) r.1⟩)], []⟩)

theorem series_Pack_o0_ok {ql : List api_Sample} {r} (hF : series_Pack_o0 ql = some r) : Holds prog 43 [.v (.one (.own 0 none))] ⟨[(0, ⟨87, 4, List.map api_Sample.enc ql⟩)], []⟩ (Is (series_Pack_o0_R ql r)) := by
  unfold series_Pack_o0 at hF
  refine holds_of_awp hΓ (fn := f43) (c := cB f43) (A := 1) (nx := 1) (by kernel_rfl) (by kernel_rfl) (by kernel_rfl) (by kernel_rfl) (by kernel_rfl) (by kernel_rfl) (lowc_of (by kernel_rfl)) ?_
  show Awp prog 1 12 (cB f43) _ _
  refine awp_seq ?_
  refine awp_region ?_
  refine aR 2 ?_
  refine aE ?_
  refine awp_to (oT (m := ⟨[], []⟩) (ts := [(0, .v (.one (.d (.lst (List.map api_Sample.enc ql)))))]) (nx := 1) [] []) ?_
  refine awp_seq ?_
  refine awp_seq ?_
  refine bE hF fun vr1 h1 hF => ?_
  refine awp_region ?_
  refine aR 1 ?_
  refine aC (series_CheckSeries_ok h1) [] [] [] ?_
  refine aR 1 ?_
  refine aE ?_
  refine awp_seq ?_
  refine awp_region ?_
  refine aR 2 ?_
  refine aE ?_
  refine cE hF (fun h2 hF => ?_) fun h2 hF => ?_
  · refine awp_true (by kernel_rfl) h2 ?_
    refine awp_seq ?_
    refine awp_region ?_
    refine aR 3 ?_
    refine aE ?_
    refine awp_ret ?_
    exact oF hF [] [1]
  · refine awp_false (by kernel_rfl) h2 ?_
    refine awp_skip ?_
    refine awp_seq ?_
    refine bE hF fun vr9 h3 hF => ?_
    refine awp_region ?_
    refine aR 1 ?_
    refine aC (series_pack_ok h3) [] [] [] ?_
    refine aR 2 ?_
    refine aE ?_
    refine awp_ret ?_
    exact oF hF [(1, 6001)] []

/-! ### unicode/utf8.RuneCountInString -/
def utf8_RuneCountInString_x1_k : Int → AEx
  | _ => .exit 0

def utf8_RuneCountInString_x1_S (qs : List UInt8) : Int → St
  | vn1 => Mem.st ⟨[], []⟩ (tl [(2, .v (.one (.d (.int .i64 vn1))))]) 0

def utf8_RuneCountInString_x1_H (qs : List UInt8) : Nat × Int → St
  | (vpos, vn) => Mem.st ⟨[], [(0, [.iters qs vpos])]⟩ (tl [(2, .v (.one (.d (.int .i64 vn)))), (4, .v (.one (.box 0 0)))]) 1

theorem utf8_RuneCountInString_x1_ok (qs : List UInt8) (s : Nat × Int) (r : (Nat × Int) ⊕ (Int)) (hF : utf8_RuneCountInString_x1 qs s = some r) : Awp prog 0 10 (cL (cL (cR (cL (cR (cB f185)))))) (Out 0 (kk utf8_RuneCountInString_x1_k) (SS (utf8_RuneCountInString_x1_H qs) (utf8_RuneCountInString_x1_S qs)) r) (utf8_RuneCountInString_x1_H qs s) := by
  obtain ⟨vpos, vn⟩ := s
  unfold utf8_RuneCountInString_x1 at hF
  refine awp_seq ?_
  refine cE hF (fun h1 hF => ?_) fun h1 hF => ?_
  · refine bE hF fun vd1 h2 hF => ?_
    refine awp_region ?_
    refine aX (x_next 0 qs vpos h1 h2) ?_
    refine aR 1 ?_
    refine aE ?_
    refine awp_seq ?_
    refine awp_true (by kernel_rfl) rfl ?_
    refine awp_skip ?_
    refine awp_block ?_
    refine awp_region ?_
    refine aR 3 ?_
    refine aE ?_
    exact oO hF [] [] rfl
  · refine awp_region ?_
    refine aX (x_nextE 0 qs vpos h1) ?_
    refine aR 1 ?_
    refine aE ?_
    refine awp_seq ?_
    refine awp_false (by kernel_rfl) rfl ?_
    refine awp_exit ?_
    exact oO hF [] [] rfl

def utf8_RuneCountInString_R (qs : List UInt8) (r : Int) : TV × Mem := (.v (.one (.d (.int .i64 r))), ⟨[], []⟩)

theorem utf8_RuneCountInString_ok {qs : List UInt8} {r} (hF : utf8_RuneCountInString qs = some r) : Holds prog 185 [.v (.one (.d (.str qs)))] ⟨[], []⟩ (Is (utf8_RuneCountInString_R qs r)) := by
  unfold utf8_RuneCountInString at hF
  refine holds_of_awp hΓ (fn := f185) (c := cB f185) (A := 0) (nx := 0) (by kernel_rfl) (by kernel_rfl) (by kernel_rfl) (by kernel_rfl) (by kernel_rfl) (by kernel_rfl) (lowc_of (by kernel_rfl)) ?_
  show Awp prog 0 10 (cB f185) _ _
  refine awp_seq ?_
  refine awp_region ?_
  refine aR 1 ?_
  refine aE ?_
  refine awp_seq ?_
  refine awp_seq ?_
  refine awp_region ?_
  refine aR 2 ?_
  refine aE ?_
  refine awp_block ?_
  refine awp_to (st' := utf8_RuneCountInString_x1_H qs ((0 : Nat), 0)) (oT [(0, 2000)] []) ?_
  refine bE hF fun vn1_1 h3 hF => ?_
  refine awp_sub (awp_loop' (utf8_RuneCountInString_x1_H qs) utf8_RuneCountInString_x1_k (utf8_RuneCountInString_x1_S qs) (by intro x; exact fun h => nomatch h) h3 (utf8_RuneCountInString_x1_ok qs)) ?_
  refine awp_seq ?_
  refine awp_region ?_
  refine aR 2 ?_
  refine aE ?_
  refine awp_ret ?_
  exact oF hF [] []

/-! ### unicode/utf8.decodeRuneInStringSlow -/
def utf8_decodeRuneInStringSlow_R (qx : List UInt8) (r : Unit) : TV × Mem := (.tup [.one (.d (.int .i32 65533)), .one (.d (.int .i64 0))], ⟨[], []⟩)

theorem utf8_decodeRuneInStringSlow_ok {qx : List UInt8} {r} (hF : utf8_decodeRuneInStringSlow qx = some r) : Holds prog 211 [.v (.one (.d (.str qx)))] ⟨[], []⟩ (Is (utf8_decodeRuneInStringSlow_R qx r)) := by
  unfold utf8_decodeRuneInStringSlow at hF
  refine holds_of_awp hΓ (fn := f211) (c := cB f211) (A := 0) (nx := 0) (by kernel_rfl) (by kernel_rfl) (by kernel_rfl) (by kernel_rfl) (by kernel_rfl) (by kernel_rfl) (lowc_of (by kernel_rfl)) ?_
  show Awp prog 0 117 (cB f211) _ _
  refine awp_seq ?_
  refine awp_region ?_
  refine aR 2 ?_
  refine aE ?_
  refine awp_seq ?_
  refine awp_region ?_
  refine aR 3 ?_
  refine aE ?_
  refine awp_seq ?_
  refine awp_seq ?_
  refine awp_region ?_
  refine aR 2 ?_
  refine aE ?_
  refine cE hF (fun h1 hF => ?_) fun h1 hF => ?_
  · refine awp_true (by kernel_rfl) h1 ?_
    refine awp_seq ?_
    refine awp_region ?_
    refine aR 2 ?_
    refine aE ?_
    refine awp_ret ?_
    exact oF hF [] []
  · refine awp_false (by kernel_rfl) h1 ?_
    refine awp_skip ?_
    refine awp_seq ?_
    refine bE hF fun vc h2 hF => ?_
    refine awp_region ?_
    refine aR 1 ?_
    refine aX (x_idxS h2) ?_
    refine aR 1 ?_
    refine aE ?_
    refine awp_seq ?_
    exact nE hF

/-! ### unicode/utf8.DecodeRuneInString -/
def utf8_DecodeRuneInString_x1_k : Bool → AEx
  | _ => .normal

def utf8_DecodeRuneInString_x1_S (qs : List UInt8) : Bool → St
  | vx => Mem.st ⟨[], []⟩ (tl [(0, .v (.one (.d (.str qs)))), (10, .v (.one (.d (.bool vx))))]) 0

def utf8_DecodeRuneInString_x1_I (qs : List UInt8) : St := Mem.st ⟨[], []⟩ (tl [(0, .v (.one (.d (.str qs))))]) 0

theorem utf8_DecodeRuneInString_x1_ok (qs : List UInt8) {r} (hF : utf8_DecodeRuneInString_x1 qs = some r) : Awp prog 0 19 (cL (cL (cR (cB f186)))) (Out 0 utf8_DecodeRuneInString_x1_k (utf8_DecodeRuneInString_x1_S qs) r) (utf8_DecodeRuneInString_x1_I qs) := by
  unfold utf8_DecodeRuneInString_x1 at hF
  refine cE hF (fun h1 hF => ?_) fun h1 hF => ?_
  · refine bE hF fun vc h2 hF => ?_
    refine awp_region ?_
    refine aR 1 ?_
    refine aB h1 ?_
    refine aR 2 ?_
    refine aX (x_idxS h2) ?_
    refine aR 2 ?_
    refine aE ?_
    exact oO hF [] [] rfl
  · refine awp_region ?_
    refine aR 1 ?_
    refine aB h1 ?_
    refine aR 5 ?_
    refine aE ?_
    exact oO hF [] [] rfl

def utf8_DecodeRuneInString_R (qs : List UInt8) (r : Int × Int) : TV × Mem := (.tup [.one (.d (.int .i32 r.1)), .one (.d (.int .i64 r.2))], ⟨[], []⟩)

theorem utf8_DecodeRuneInString_ok {qs : List UInt8} {r} (hF : utf8_DecodeRuneInString qs = some r) : Holds prog 186 [.v (.one (.d (.str qs)))] ⟨[], []⟩ (Is (utf8_DecodeRuneInString_R qs r)) := by
  unfold utf8_DecodeRuneInString at hF
  refine holds_of_awp hΓ (fn := f186) (c := cB f186) (A := 0) (nx := 0) (by kernel_rfl) (by kernel_rfl) (by kernel_rfl) (by kernel_rfl) (by kernel_rfl) (by kernel_rfl) (lowc_of (by kernel_rfl)) ?_
  show Awp prog 0 19 (cB f186) _ _
  refine awp_seq ?_
  refine awp_region ?_
  refine aR 2 ?_
  refine aE ?_
  refine awp_seq ?_
  refine awp_seq ?_
  refine awp_to (st' := utf8_DecodeRuneInString_x1_I qs) (oT [] []) ?_
  refine bE hF fun vx1 h3 hF => ?_
  refine awp_sub (utf8_DecodeRuneInString_x1_ok qs h3) ?_
  refine cE hF (fun h4 hF => ?_) fun h4 hF => ?_
  · refine awp_true (by kernel_rfl) h4 ?_
    refine awp_seq ?_
    refine bE hF fun vc1 h5 hF => ?_
    refine awp_region ?_
    refine aR 1 ?_
    refine aX (x_idxS h5) ?_
    refine aR 3 ?_
    refine aE ?_
    refine awp_ret ?_
    exact oF hF [] []
  · refine awp_false (by kernel_rfl) h4 ?_
    refine bE hF fun _ h6 hF => ?_
    refine awp_region ?_
    refine aR 1 ?_
    refine aC (utf8_decodeRuneInStringSlow_ok h6) [] [] [] ?_
    refine aR 5 ?_
    refine aE ?_
    refine awp_ret ?_
    exact oF hF [] []

/-! ### strings.explode -/
def strings_explode_x2_k : Bool → AEx
  | _ => .normal

def strings_explode_x2_S (qs : List UInt8) (qn : Int) (vr : Int) : Bool → St
  | vx => Mem.st ⟨[], []⟩ (tl [(0, .v (.one (.d (.str qs)))), (1, .v (.one (.d (.int .i64 qn)))), (5, .v (.one (.d (.int .i64 vr)))), (18, .v (.one (.d (.bool vx))))]) 0

def strings_explode_x2_I (qs : List UInt8) (qn : Int) (vr : Int) : St := Mem.st ⟨[], []⟩ (tl [(0, .v (.one (.d (.str qs)))), (1, .v (.one (.d (.int .i64 qn)))), (5, .v (.one (.d (.int .i64 vr))))]) 0

theorem strings_explode_x2_ok (qs : List UInt8) (qn : Int) (vr : Int) {r} (hF : strings_explode_x2 qn vr = some r) : Awp prog 0 50 (cL (cL (cR (cR (cB f159))))) (Out 0 strings_explode_x2_k (strings_explode_x2_S qs qn vr) r) (strings_explode_x2_I qs qn vr) := by
  unfold strings_explode_x2 at hF
  refine cE hF (fun h2 hF => ?_) fun h2 hF => ?_
  · refine awp_region ?_
    refine aR 1 ?_
    refine aB h2 ?_
    refine aR 5 ?_
    refine aE ?_
    exact oO hF [] [] rfl
  · refine awp_region ?_
    refine aR 1 ?_
    refine aB h2 ?_
    refine aR 5 ?_
    refine aE ?_
    exact oO hF [] [] rfl

def strings_explode_x1_k : Int → AEx
  | _ => .normal

def strings_explode_x1_S (qs : List UInt8) (qn : Int) (vr : Int) : Int → St
  | vn => Mem.st ⟨[], []⟩ (tl [(0, .v (.one (.d (.str qs)))), (1, .v (.one (.d (.int .i64 vn))))]) 0

def strings_explode_x1_I (qs : List UInt8) (qn : Int) (vr : Int) : St := Mem.st ⟨[], []⟩ (tl [(0, .v (.one (.d (.str qs)))), (1, .v (.one (.d (.int .i64 qn)))), (5, .v (.one (.d (.int .i64 vr))))]) 0

theorem strings_explode_x1_ok (qs : List UInt8) (qn : Int) (vr : Int) {r} (hF : strings_explode_x1 qn vr = some r) : Awp prog 0 50 (cL (cR (cR (cB f159)))) (Out 0 strings_explode_x1_k (strings_explode_x1_S qs qn vr) r) (strings_explode_x1_I qs qn vr) := by
  unfold strings_explode_x1 at hF
  refine awp_seq ?_
  refine awp_to (st' := strings_explode_x2_I qs qn vr) (oT [] []) ?_
  refine bE hF fun vx1 h3 hF => ?_
  refine awp_sub (strings_explode_x2_ok qs qn vr h3) ?_
  refine cE hF (fun h4 hF => ?_) fun h4 hF => ?_
  · refine awp_true (by kernel_rfl) h4 ?_
    refine awp_region ?_
    refine aR 2 ?_
    refine aE ?_
    exact oO hF [] [] rfl
  · refine awp_false (by kernel_rfl) h4 ?_
    refine awp_skip ?_
    exact oO hF [] [] rfl

def strings_explode_x3_k : ((List UInt8) × (List (List UInt8))) → AEx
  | _ => .exit 0

def strings_explode_x3_S (vn1 : Int) : ((List UInt8) × (List (List UInt8))) → St
  | (vs5, va1) => Mem.st ⟨[(0, ⟨9, 1, List.map encS va1⟩)], []⟩ (tl [(0, .v (.one (.d (.str vs5)))), (1, .v (.one (.d (.int .i64 vn1)))), (6, .v (.one (.own 0 none)))]) 1

def strings_explode_x3_H (vn1 : Int) : (List UInt8) × (List (List UInt8)) × Int → St
  | (vs, va, vi) => Mem.st ⟨[(0, ⟨9, 1, List.map encS va⟩)], []⟩ (tl [(0, .v (.one (.d (.str vs)))), (1, .v (.one (.d (.int .i64 vn1)))), (6, .v (.one (.own 0 none))), (7, .v (.one (.d (.int .i64 vi))))]) 1

theorem strings_explode_x3_ok (vn1 : Int) (s : (List UInt8) × (List (List UInt8)) × Int) (r : ((List UInt8) × (List (List UInt8)) × Int) ⊕ (((List UInt8) × (List (List UInt8))))) (hF : strings_explode_x3 vn1 s = some r) : Awp prog 0 50 (cL (cL (cR (cL (cR (cR (cR (cR (cB f159))))))))) (Out 0 (kk strings_explode_x3_k) (SS (strings_explode_x3_H vn1) (strings_explode_x3_S vn1)) r) (strings_explode_x3_H vn1 s) := by
  obtain ⟨vs, va, vi⟩ := s
  unfold strings_explode_x3 at hF
  refine awp_seq ?_
  refine awp_seq ?_
  refine awp_region ?_
  refine aR 4 ?_
  refine aE ?_
  refine cE hF (fun h7 hF => ?_) fun h7 hF => ?_
  · refine awp_true (by kernel_rfl) h7 ?_
    refine awp_skip ?_
    refine awp_seq ?_
    refine awp_block ?_
    refine awp_seq ?_
    refine bE hF fun x h8 hF => ?_
    obtain ⟨vr2, vr1_2⟩ := x
    refine awp_region ?_
    refine aR 1 ?_
    refine aC (utf8_DecodeRuneInString_ok h8) [] [] [] ?_
    refine aR 5 ?_
    refine aE ?_
    refine awp_seq ?_
    refine bE hF fun vs3 h9 hF => ?_
    refine bE hF fun vy1 h10 hF => ?_
    refine awp_region ?_
    refine aR 4 ?_
    refine aX (x_sliceS h9) ?_
    refine aX (x_idxO encS 0 h10) ?_
    refine aX (x_stE encS vs3 h10) ?_
    refine aE ?_
    refine bE hF fun vs4 h11 hF => ?_
    refine awp_region ?_
    refine aR 2 ?_
    refine aX (x_sliceS h11) ?_
    refine aR 1 ?_
    refine aE ?_
    refine awp_region ?_
    refine aR 3 ?_
    refine aE ?_
    exact oO hF [] [] rfl
  · refine awp_false (by kernel_rfl) h7 ?_
    refine awp_exit ?_
    exact oO hF [] [] rfl

def strings_explode_x4_k : (List (List UInt8)) → AEx
  | _ => .normal

def strings_explode_x4_S (vn1 : Int) (vs5_1 : List UInt8) (va1_1 : List (List UInt8)) : (List (List UInt8)) → St
  | va2 => Mem.st ⟨[(0, ⟨9, 1, List.map encS va2⟩)], []⟩ (tl [(6, .v (.one (.own 0 none)))]) 1

def strings_explode_x4_I (vn1 : Int) (vs5_1 : List UInt8) (va1_1 : List (List UInt8)) : St := Mem.st ⟨[(0, ⟨9, 1, List.map encS va1_1⟩)], []⟩ (tl [(0, .v (.one (.d (.str vs5_1)))), (1, .v (.one (.d (.int .i64 vn1)))), (6, .v (.one (.own 0 none)))]) 1

theorem strings_explode_x4_ok (vn1 : Int) (vs5_1 : List UInt8) (va1_1 : List (List UInt8)) {r} (hF : strings_explode_x4 vn1 vs5_1 va1_1 = some r) : Awp prog 0 50 (cL (cR (cR (cR (cR (cR (cB f159))))))) (Out 0 strings_explode_x4_k (strings_explode_x4_S vn1 vs5_1 va1_1) r) (strings_explode_x4_I vn1 vs5_1 va1_1) := by
  unfold strings_explode_x4 at hF
  refine awp_seq ?_
  refine awp_region ?_
  refine aR 2 ?_
  refine aE ?_
  refine cE hF (fun h13 hF => ?_) fun h13 hF => ?_
  · refine awp_true (by kernel_rfl) h13 ?_
    refine bE hF fun vy2 h14 hF => ?_
    refine awp_region ?_
    refine aR 4 ?_
    refine aX (x_idxO encS 0 h14) ?_
    refine aX (x_stE encS vs5_1 h14) ?_
    refine aE ?_
    exact oO hF [] [] rfl
  · refine awp_false (by kernel_rfl) h13 ?_
    refine awp_skip ?_
    exact oO hF [] [] rfl

def strings_explode_R (qs : List UInt8) (qn : Int) (r : (List (List UInt8))) : TV × Mem := (.v (.one (.own 0 none)), ⟨[(0, ⟨9, 1, List.map encS r⟩)], []⟩)

theorem strings_explode_ok {qs : List UInt8} {qn : Int} {r} (hF : strings_explode qs qn = some r) : Holds prog 159 [.v (.one (.d (.str qs))), .v (.one (.d (.int .i64 qn)))] ⟨[], []⟩ (Is (strings_explode_R qs qn r)) := by
  unfold strings_explode at hF
  refine holds_of_awp hΓ (fn := f159) (c := cB f159) (A := 0) (nx := 0) (by kernel_rfl) (by kernel_rfl) (by kernel_rfl) (by kernel_rfl) (by kernel_rfl) (by kernel_rfl) (lowc_of (by kernel_rfl)) ?_
  show Awp prog 0 50 (cB f159) _ _
  refine awp_seq ?_
  refine awp_region ?_
  refine aR 1 ?_
  refine aE ?_
  refine awp_seq ?_
  refine bE hF fun vr h1 hF => ?_
  refine awp_region ?_
  refine aR 1 ?_
  refine aC (utf8_RuneCountInString_ok h1) [] [] [] ?_
  refine aR 1 ?_
  refine aE ?_
  refine awp_seq ?_
  refine awp_to (st' := strings_explode_x1_I qs qn vr) (oT [] []) ?_
  refine bE hF fun vn1 h5 hF => ?_
  refine awp_sub (strings_explode_x1_ok qs qn vr h5) ?_
  refine awp_seq ?_
  refine gE hF fun h6 hF => ?_
  refine awp_region ?_
  refine aR 1 ?_
  refine aX (x_mk encS ([] : List UInt8) h6) ?_
  refine aR 1 ?_
  refine aE ?_
  refine awp_seq ?_
  refine awp_seq ?_
  refine awp_region ?_
  refine aR 1 ?_
  refine aE ?_
  refine awp_block ?_
  refine awp_to (st' := strings_explode_x3_H vn1 (qs, List.replicate vn1.toNat ([] : List UInt8), 0)) (oT [(0, 1000)] []) ?_
  refine bE hF fun x h12 hF => ?_
  obtain ⟨vs5_1, va1_1⟩ := x
  refine awp_sub (awp_loop' (strings_explode_x3_H vn1) strings_explode_x3_k (strings_explode_x3_S vn1) (by intro x; exact fun h => nomatch h) h12 (strings_explode_x3_ok vn1)) ?_
  refine awp_seq ?_
  refine awp_to (st' := strings_explode_x4_I vn1 vs5_1 va1_1) (oT [] []) ?_
  refine bE hF fun va2_1 h15 hF => ?_
  refine awp_sub (strings_explode_x4_ok vn1 vs5_1 va1_1 h15) ?_
  refine awp_seq ?_
  refine awp_region ?_
  refine aR 2 ?_
  refine aE ?_
  refine awp_ret ?_
  exact oF hF [] []

/-! ### internal/stringslite.IndexByte -/
def stringslite_IndexByte_R (qs : List UInt8) (qc : Int) (r : Unit) : TV × Mem := (.v (.one (.d (.int .i64 (Lib.indexByte qs qc.toNat.toUInt8)))), ⟨[], []⟩)

theorem stringslite_IndexByte_ok {qs : List UInt8} {qc : Int} {r} (hF : stringslite_IndexByte qs qc = some r) : Holds prog 212 [.v (.one (.d (.str qs))), .v (.one (.d (.int .u8 qc)))] ⟨[], []⟩ (Is (stringslite_IndexByte_R qs qc r)) := by
  unfold stringslite_IndexByte at hF
  refine holds_of_awp hΓ (fn := f212) (c := cB f212) (A := 0) (nx := 0) (by kernel_rfl) (by kernel_rfl) (by kernel_rfl) (by kernel_rfl) (by kernel_rfl) (by kernel_rfl) (lowc_of (by kernel_rfl)) ?_
  show Awp prog 0 8 (cB f212) _ _
  refine awp_seq ?_
  refine awp_region ?_
  refine aR 1 ?_
  refine aE ?_
  refine awp_seq ?_
  refine awp_region ?_
  refine aR 2 ?_
  refine aS (does_indexByte (g := 226) (fn := f226) (a := qs) (c := qc) rfl (by kernel_rfl) (by kernel_rfl) (by kernel_rfl) (by kernel_rfl) (by kernel_rfl) (by kernel_rfl)) ?_
  refine aR 1 ?_
  refine aE ?_
  refine awp_ret ?_
  exact oF hF [] []

/-! ### internal/stringslite.Index -/
def stringslite_Index_x1_k : Bool → AEx
  | _ => .normal

def stringslite_Index_x1_S (qx : List UInt8) (qx1 : List UInt8) : Bool → St
  | vx => Mem.st ⟨[], []⟩ (tl [(0, .v (.one (.d (.str qx)))), (1, .v (.one (.d (.str qx1)))), (5, .v (.one (.d (.int .i64 (qx1.length : Int))))), (16, .v (.one (.d (.bool vx))))]) 0

def stringslite_Index_x1_I (qx : List UInt8) (qx1 : List UInt8) : St := Mem.st ⟨[], []⟩ (tl [(0, .v (.one (.d (.str qx)))), (1, .v (.one (.d (.str qx1)))), (5, .v (.one (.d (.int .i64 (qx1.length : Int)))))]) 0

theorem stringslite_Index_x1_ok (qx : List UInt8) (qx1 : List UInt8) {r} (hF : stringslite_Index_x1 qx qx1 = some r) : Awp prog 0 143 (cL (cL (cL (cR (cR (cB f188)))))) (Out 0 stringslite_Index_x1_k (stringslite_Index_x1_S qx qx1) r) (stringslite_Index_x1_I qx qx1) := by
  unfold stringslite_Index_x1 at hF
  refine cE hF (fun h1 hF => ?_) fun h1 hF => ?_
  · refine awp_region ?_
    refine aR 1 ?_
    refine aB h1 ?_
    refine aR 6 ?_
    refine aE ?_
    exact oO hF [] [] rfl
  · refine awp_region ?_
    refine aR 1 ?_
    refine aB h1 ?_
    refine aR 6 ?_
    refine aE ?_
    exact oO hF [] [] rfl

def stringslite_Index_R (qx : List UInt8) (qx1 : List UInt8) (r : Int) : TV × Mem := (.v (.one (.d (.int .i64 r))), ⟨[], []⟩)

theorem stringslite_Index_ok {qx : List UInt8} {qx1 : List UInt8} {r} (hF : stringslite_Index qx qx1 = some r) : Holds prog 188 [.v (.one (.d (.str qx))), .v (.one (.d (.str qx1)))] ⟨[], []⟩ (Is (stringslite_Index_R qx qx1 r)) := by
  unfold stringslite_Index at hF
  refine holds_of_awp hΓ (fn := f188) (c := cB f188) (A := 0) (nx := 0) (by kernel_rfl) (by kernel_rfl) (by kernel_rfl) (by kernel_rfl) (by kernel_rfl) (by kernel_rfl) (lowc_of (by kernel_rfl)) ?_
  show Awp prog 0 143 (cB f188) _ _
  refine awp_seq ?_
  refine awp_region ?_
  refine aR 1 ?_
  refine aE ?_
  refine awp_seq ?_
  refine awp_region ?_
  refine aR 3 ?_
  refine aE ?_
  refine awp_seq ?_
  refine awp_block ?_
  refine awp_seq ?_
  refine awp_to (st' := stringslite_Index_x1_I qx qx1) (oT [] []) ?_
  refine bE hF fun vx1 h2 hF => ?_
  refine awp_sub (stringslite_Index_x1_ok qx qx1 h2) ?_
  refine cE hF (fun h3 hF => ?_) fun h3 hF => ?_
  · refine awp_true (by kernel_rfl) h3 ?_
    refine awp_seq ?_
    refine awp_region ?_
    refine aR 1 ?_
    refine aE ?_
    refine awp_ret ?_
    exact oF hF [] []
  · refine awp_false (by kernel_rfl) h3 ?_
    refine awp_seq ?_
    refine awp_region ?_
    refine aR 3 ?_
    refine aE ?_
    refine cE hF (fun h4 hF => ?_) fun h4 hF => ?_
    · refine awp_true (by kernel_rfl) h4 ?_
      refine awp_seq ?_
      refine bE hF fun vc h5 hF => ?_
      refine bE hF fun _ h6 hF => ?_
      refine awp_region ?_
      refine aR 2 ?_
      refine aX (x_idxS h5) ?_
      refine aC (stringslite_IndexByte_ok h6) [] [] [] ?_
      refine aR 1 ?_
      refine aE ?_
      refine awp_ret ?_
      exact oF hF [] []
    · refine awp_false (by kernel_rfl) h4 ?_
      refine awp_seq ?_
      refine awp_region ?_
      refine aR 5 ?_
      refine aE ?_
      refine cE hF (fun h7 hF => ?_) fun h7 hF => ?_
      · refine awp_true (by kernel_rfl) h7 ?_
        refine awp_seq ?_
        refine awp_region ?_
        refine aR 1 ?_
        refine aE ?_
        refine awp_ret ?_
        exact oF hF [] []
      · refine awp_false (by kernel_rfl) h7 ?_
        refine awp_seq ?_
        exact nE hF

/-! ### strings.Index -/
def strings_Index_R (qs : List UInt8) (qsubstr : List UInt8) (r : Int) : TV × Mem := (.v (.one (.d (.int .i64 r))), ⟨[], []⟩)

theorem strings_Index_ok {qs : List UInt8} {qsubstr : List UInt8} {r} (hF : strings_Index qs qsubstr = some r) : Holds prog 161 [.v (.one (.d (.str qs))), .v (.one (.d (.str qsubstr)))] ⟨[], []⟩ (Is (strings_Index_R qs qsubstr r)) := by
  unfold strings_Index at hF
  refine holds_of_awp hΓ (fn := f161) (c := cB f161) (A := 0) (nx := 0) (by kernel_rfl) (by kernel_rfl) (by kernel_rfl) (by kernel_rfl) (by kernel_rfl) (by kernel_rfl) (lowc_of (by kernel_rfl)) ?_
  show Awp prog 0 8 (cB f161) _ _
  refine awp_seq ?_
  refine awp_region ?_
  refine aR 1 ?_
  refine aE ?_
  refine awp_seq ?_
  refine bE hF fun vr h1 hF => ?_
  refine awp_region ?_
  refine aR 2 ?_
  refine aC (stringslite_Index_ok h1) [] [] [] ?_
  refine aR 1 ?_
  refine aE ?_
  refine awp_ret ?_
  exact oF hF [] []

/-! ### strings.Count -/
def strings_Count_x1_k : Int → AEx
  | _ => .ret

def strings_Count_x1_S (qsubstr : List UInt8) : Int → St
  | vx => Mem.st ⟨[], []⟩ (tl [(4, .v (.one (.d (.int .i64 vx))))]) 0

def strings_Count_x1_H (qsubstr : List UInt8) : (List UInt8) × Int → St
  | (vs, vn) => Mem.st ⟨[], []⟩ (tl [(0, .v (.one (.d (.str vs)))), (1, .v (.one (.d (.str qsubstr)))), (5, .v (.one (.d (.int .i64 vn))))]) 0

theorem strings_Count_x1_ok (qsubstr : List UInt8) (s : (List UInt8) × Int) (r : ((List UInt8) × Int) ⊕ (Int)) (hF : strings_Count_x1 qsubstr s = some r) : Awp prog 0 34 (cL (cL (cR (cR (cR (cR (cB f160))))))) (Out 0 (kk strings_Count_x1_k) (SS (strings_Count_x1_H qsubstr) (strings_Count_x1_S qsubstr)) r) (strings_Count_x1_H qsubstr s) := by
  obtain ⟨vs, vn⟩ := s
  unfold strings_Count_x1 at hF
  refine awp_block ?_
  refine awp_seq ?_
  refine bE hF fun vr1_1 h5 hF => ?_
  refine awp_region ?_
  refine aR 2 ?_
  refine aC (strings_Index_ok h5) [] [] [] ?_
  refine aR 1 ?_
  refine aE ?_
  refine awp_seq ?_
  refine awp_seq ?_
  refine awp_region ?_
  refine aR 2 ?_
  refine aE ?_
  refine cE hF (fun h6 hF => ?_) fun h6 hF => ?_
  · refine awp_true (by kernel_rfl) h6 ?_
    refine awp_seq ?_
    refine awp_region ?_
    refine aR 2 ?_
    refine aE ?_
    refine awp_ret ?_
    exact oO hF [] [] rfl
  · refine awp_false (by kernel_rfl) h6 ?_
    refine awp_skip ?_
    refine awp_seq ?_
    refine awp_region ?_
    refine aR 3 ?_
    refine aE ?_
    refine bE hF fun vs2 h7 hF => ?_
    refine awp_region ?_
    refine aR 5 ?_
    refine aX (x_sliceS h7) ?_
    refine aR 1 ?_
    refine aE ?_
    exact oO hF [] [] rfl

def strings_Count_R (qs : List UInt8) (qsubstr : List UInt8) (r : Int) : TV × Mem := (.v (.one (.d (.int .i64 r))), ⟨[], []⟩)

theorem strings_Count_ok {qs : List UInt8} {qsubstr : List UInt8} {r} (hF : strings_Count qs qsubstr = some r) : Holds prog 160 [.v (.one (.d (.str qs))), .v (.one (.d (.str qsubstr)))] ⟨[], []⟩ (Is (strings_Count_R qs qsubstr r)) := by
  unfold strings_Count at hF
  refine holds_of_awp hΓ (fn := f160) (c := cB f160) (A := 0) (nx := 0) (by kernel_rfl) (by kernel_rfl) (by kernel_rfl) (by kernel_rfl) (by kernel_rfl) (by kernel_rfl) (lowc_of (by kernel_rfl)) ?_
  show Awp prog 0 34 (cB f160) _ _
  refine awp_seq ?_
  refine awp_region ?_
  refine aR 1 ?_
  refine aE ?_
  refine awp_seq ?_
  refine awp_seq ?_
  refine awp_region ?_
  refine aR 3 ?_
  refine aE ?_
  refine cE hF (fun h1 hF => ?_) fun h1 hF => ?_
  · refine awp_true (by kernel_rfl) h1 ?_
    refine awp_seq ?_
    refine bE hF fun vr h2 hF => ?_
    refine awp_region ?_
    refine aR 1 ?_
    refine aC (utf8_RuneCountInString_ok h2) [] [] [] ?_
    refine aR 2 ?_
    refine aE ?_
    refine awp_ret ?_
    exact oF hF [] []
  · refine awp_false (by kernel_rfl) h1 ?_
    refine awp_skip ?_
    refine awp_seq ?_
    refine awp_seq ?_
    refine awp_region ?_
    refine aR 3 ?_
    refine aE ?_
    refine cE hF (fun h3 hF => ?_) fun h3 hF => ?_
    · refine awp_true (by kernel_rfl) h3 ?_
      refine awp_seq ?_
      refine bE hF fun vc h4 hF => ?_
      refine awp_region ?_
      refine aR 2 ?_
      refine aX (x_idxS h4) ?_
      refine aS (does_count (g := 187) (fn := f187) (a := qs) (c := (vc.toNat : Int)) rfl (by kernel_rfl) (by kernel_rfl) (by kernel_rfl) (by kernel_rfl) (by kernel_rfl) (by kernel_rfl)) ?_
      refine aR 1 ?_
      refine aE ?_
      refine awp_ret ?_
      exact oF hF [] []
    · refine awp_false (by kernel_rfl) h3 ?_
      refine awp_skip ?_
      refine awp_seq ?_
      refine awp_region ?_
      refine aR 1 ?_
      refine aE ?_
      refine awp_block ?_
      refine awp_to (st' := strings_Count_x1_H qsubstr (qs, 0)) (oT [] []) ?_
      refine bE hF fun vx1 h8 hF => ?_
      refine awp_sub (awp_loop' (strings_Count_x1_H qsubstr) strings_Count_x1_k (strings_Count_x1_S qsubstr) (by intro x; exact fun h => nomatch h) h8 (strings_Count_x1_ok qsubstr)) ?_
      exact oF hF [] []

/-! ### strings.genSplit -/
def strings_genSplit_x1_k : Int → AEx
  | _ => .normal

def strings_genSplit_x1_S (qx : List UInt8) (qx1 : List UInt8) (qx2 : Int) (qx3 : Int) : Int → St
  | vx => Mem.st ⟨[], []⟩ (tl [(0, .v (.one (.d (.str qx)))), (1, .v (.one (.d (.str qx1)))), (2, .v (.one (.d (.int .i64 qx2)))), (3, .v (.one (.d (.int .i64 vx))))]) 0

def strings_genSplit_x1_I (qx : List UInt8) (qx1 : List UInt8) (qx2 : Int) (qx3 : Int) : St := Mem.st ⟨[], []⟩ (tl [(0, .v (.one (.d (.str qx)))), (1, .v (.one (.d (.str qx1)))), (2, .v (.one (.d (.int .i64 qx2)))), (3, .v (.one (.d (.int .i64 qx3))))]) 0

theorem strings_genSplit_x1_ok (qx : List UInt8) (qx1 : List UInt8) (qx2 : Int) (qx3 : Int) {r} (hF : strings_genSplit_x1 qx qx1 qx3 = some r) : Awp prog 0 66 (cL (cR (cR (cR (cB f129))))) (Out 0 strings_genSplit_x1_k (strings_genSplit_x1_S qx qx1 qx2 qx3) r) (strings_genSplit_x1_I qx qx1 qx2 qx3) := by
  unfold strings_genSplit_x1 at hF
  refine awp_seq ?_
  refine awp_region ?_
  refine aR 2 ?_
  refine aE ?_
  refine cE hF (fun h4 hF => ?_) fun h4 hF => ?_
  · refine awp_true (by kernel_rfl) h4 ?_
    refine bE hF fun vr2 h5 hF => ?_
    refine awp_region ?_
    refine aR 2 ?_
    refine aC (strings_Count_ok h5) [] [] [] ?_
    refine aR 2 ?_
    refine aE ?_
    exact oO hF [] [] rfl
  · refine awp_false (by kernel_rfl) h4 ?_
    refine awp_skip ?_
    exact oO hF [] [] rfl

def strings_genSplit_x2_k : ((List UInt8) × (List (List UInt8)) × Int) → AEx
  | _ => .exit 0

def strings_genSplit_x2_S (qx : List UInt8) (qx1 : List UInt8) (qx2 : Int) (vx1 : Int) : ((List UInt8) × (List (List UInt8)) × Int) → St
  | (vx5, vx6, vx7) => Mem.st ⟨[(0, ⟨9, 1, List.map encS vx6⟩)], []⟩ (tl [(0, .v (.one (.d (.str vx5)))), (9, .v (.one (.own 0 none))), (10, .v (.one (.d (.int .i64 vx7))))]) 1

def strings_genSplit_x2_H (qx : List UInt8) (qx1 : List UInt8) (qx2 : Int) (vx1 : Int) : (List UInt8) × (List (List UInt8)) × Int → St
  | (vx2, vx3, vx4) => Mem.st ⟨[(0, ⟨9, 1, List.map encS vx3⟩)], []⟩ (tl [(0, .v (.one (.d (.str vx2)))), (1, .v (.one (.d (.str qx1)))), (2, .v (.one (.d (.int .i64 qx2)))), (3, .v (.one (.d (.int .i64 (IntKind.wrap .i64 ((imin vx1 (IntKind.wrap .i64 ((qx.length : Int) + 1))) - 1)))))), (9, .v (.one (.own 0 none))), (10, .v (.one (.d (.int .i64 vx4))))]) 1

theorem strings_genSplit_x2_ok (qx : List UInt8) (qx1 : List UInt8) (qx2 : Int) (vx1 : Int) (s : (List UInt8) × (List (List UInt8)) × Int) (r : ((List UInt8) × (List (List UInt8)) × Int) ⊕ (((List UInt8) × (List (List UInt8)) × Int))) (hF : strings_genSplit_x2 qx qx1 qx2 vx1 s = some r) : Awp prog 0 66 (cL (cL (cL (cR (cR (cR (cR (cR (cR (cR (cR (cB f129)))))))))))) (Out 0 (kk strings_genSplit_x2_k) (SS (strings_genSplit_x2_H qx qx1 qx2 vx1) (strings_genSplit_x2_S qx qx1 qx2 vx1)) r) (strings_genSplit_x2_H qx qx1 qx2 vx1 s) := by
  obtain ⟨vx2, vx3, vx4⟩ := s
  unfold strings_genSplit_x2 at hF
  refine awp_seq ?_
  refine awp_seq ?_
  refine awp_region ?_
  refine aR 3 ?_
  refine aE ?_
  refine cE hF (fun h8 hF => ?_) fun h8 hF => ?_
  · refine awp_true (by kernel_rfl) h8 ?_
    refine awp_skip ?_
    refine awp_block ?_
    refine awp_seq ?_
    refine bE hF fun vr1_1 h9 hF => ?_
    refine awp_region ?_
    refine aR 2 ?_
    refine aC (strings_Index_ok h9) [] [] [] ?_
    refine aR 1 ?_
    refine aE ?_
    refine awp_seq ?_
    refine awp_seq ?_
    refine awp_region ?_
    refine aR 2 ?_
    refine aE ?_
    refine cE hF (fun h10 hF => ?_) fun h10 hF => ?_
    · refine awp_true (by kernel_rfl) h10 ?_
      refine awp_exit ?_
      exact oO hF [] [] rfl
    · refine awp_false (by kernel_rfl) h10 ?_
      refine awp_skip ?_
      refine awp_seq ?_
      refine bE hF fun vs2 h11 hF => ?_
      refine bE hF fun vy1 h12 hF => ?_
      refine awp_region ?_
      refine aR 6 ?_
      refine aX (x_sliceS h11) ?_
      refine aX (x_idxO encS 0 h12) ?_
      refine aX (x_stE encS vs2 h12) ?_
      refine aE ?_
      refine awp_seq ?_
      refine bE hF fun vs3 h13 hF => ?_
      refine awp_region ?_
      refine aR 5 ?_
      refine aX (x_sliceS h13) ?_
      refine aR 1 ?_
      refine aE ?_
      refine awp_region ?_
      refine aR 3 ?_
      refine aE ?_
      exact oO hF [] [] rfl
  · refine awp_false (by kernel_rfl) h8 ?_
    refine awp_exit ?_
    exact oO hF [] [] rfl

def strings_genSplit_R (qx : List UInt8) (qx1 : List UInt8) (qx2 : Int) (qx3 : Int) (r : (List (List UInt8))) : TV × Mem := (.v (.one (.own 0 none)), ⟨[(0, ⟨9, 1, List.map encS r⟩)], []⟩)

theorem strings_genSplit_ok {qx : List UInt8} {qx1 : List UInt8} {qx2 : Int} {qx3 : Int} {r} (hF : strings_genSplit qx qx1 qx2 qx3 = some r) : Holds prog 129 [.v (.one (.d (.str qx))), .v (.one (.d (.str qx1))), .v (.one (.d (.int .i64 qx2))), .v (.one (.d (.int .i64 qx3)))] ⟨[], []⟩ (Is (strings_genSplit_R qx qx1 qx2 qx3 r)) := by
  unfold strings_genSplit at hF
  refine holds_of_awp hΓ (fn := f129) (c := cB f129) (A := 0) (nx := 0) (by kernel_rfl) (by kernel_rfl) (by kernel_rfl) (by kernel_rfl) (by kernel_rfl) (by kernel_rfl) (lowc_of (by kernel_rfl)) ?_
  show Awp prog 0 66 (cB f129) _ _
  refine awp_seq ?_
  refine awp_region ?_
  refine aR 1 ?_
  refine aE ?_
  refine awp_seq ?_
  refine awp_seq ?_
  refine awp_region ?_
  refine aR 2 ?_
  refine aE ?_
  refine cE hF (fun h1 hF => ?_) fun h1 hF => ?_
  · refine awp_true (by kernel_rfl) h1 ?_
    refine awp_seq ?_
    refine awp_region ?_
    refine aR 1 ?_
    refine aE ?_
    refine awp_ret ?_
    exact oF hF [] [0]
  · refine awp_false (by kernel_rfl) h1 ?_
    refine awp_skip ?_
    refine awp_seq ?_
    refine awp_seq ?_
    refine awp_region ?_
    refine aR 2 ?_
    refine aE ?_
    refine cE hF (fun h2 hF => ?_) fun h2 hF => ?_
    · refine awp_true (by kernel_rfl) h2 ?_
      refine awp_seq ?_
      refine bE hF fun vr3 h3 hF => ?_
      refine awp_region ?_
      refine aR 2 ?_
      refine aC (strings_explode_ok h3) [] [] [] ?_
      refine aR 1 ?_
      refine aE ?_
      refine awp_ret ?_
      exact oF hF [(0, 7000)] []
    · refine awp_false (by kernel_rfl) h2 ?_
      refine awp_skip ?_
      refine awp_seq ?_
      refine awp_to (st' := strings_genSplit_x1_I qx qx1 qx2 qx3) (oT [] []) ?_
      refine bE hF fun vx1 h6 hF => ?_
      refine awp_sub (strings_genSplit_x1_ok qx qx1 qx2 qx3 h6) ?_
      refine awp_seq ?_
      refine awp_region ?_
      refine aR 6 ?_
      refine aE ?_
      refine awp_seq ?_
      refine gE hF fun h7 hF => ?_
      refine awp_region ?_
      refine aR 1 ?_
      refine aX (x_mk encS ([] : List UInt8) h7) ?_
      refine aR 1 ?_
      refine aE ?_
      refine awp_seq ?_
      refine awp_region ?_
      refine aR 3 ?_
      refine aE ?_
      refine awp_seq ?_
      refine awp_region ?_
      refine aR 1 ?_
      refine aE ?_
      refine awp_seq ?_
      refine awp_block ?_
      refine awp_to (st' := strings_genSplit_x2_H qx qx1 qx2 vx1 (qx, List.replicate (imin vx1 (IntKind.wrap .i64 ((qx.length : Int) + 1))).toNat ([] : List UInt8), 0)) (oT [(0, 7000)] []) ?_
      refine bE hF fun x h14 hF => ?_
      obtain ⟨vx5_1, vx6_1, vx7_1⟩ := x
      refine awp_sub (awp_loop' (strings_genSplit_x2_H qx qx1 qx2 vx1) strings_genSplit_x2_k (strings_genSplit_x2_S qx qx1 qx2 vx1) (by intro x; exact fun h => nomatch h) h14 (strings_genSplit_x2_ok qx qx1 qx2 vx1)) ?_
      refine awp_seq ?_
      refine bE hF fun vy2 h15 hF => ?_
      refine awp_region ?_
      refine aR 3 ?_
      refine aX (x_idxO encS 0 h15) ?_
      refine aX (x_stE encS vx5_1 h15) ?_
      refine aE ?_
      refine awp_seq ?_
      refine gE hF fun h16 hF => ?_
      refine awp_region ?_
      refine aR 3 ?_
      refine aT encS 0 h16 rfl ?_
      refine aR 1 ?_
      refine aE ?_
      refine awp_ret ?_
      exact oF hF [(0, 8001)] []

/-! ### strings.Split -/
def strings_Split_R (qs : List UInt8) (qsep : List UInt8) (r : (List (List UInt8))) : TV × Mem := (.v (.one (.own 0 none)), ⟨[(0, ⟨9, 1, List.map encS r⟩)], []⟩)

theorem strings_Split_ok {qs : List UInt8} {qsep : List UInt8} {r} (hF : strings_Split qs qsep = some r) : Holds prog 85 [.v (.one (.d (.str qs))), .v (.one (.d (.str qsep)))] ⟨[], []⟩ (Is (strings_Split_R qs qsep r)) := by
  unfold strings_Split at hF
  refine holds_of_awp hΓ (fn := f85) (c := cB f85) (A := 0) (nx := 0) (by kernel_rfl) (by kernel_rfl) (by kernel_rfl) (by kernel_rfl) (by kernel_rfl) (by kernel_rfl) (lowc_of (by kernel_rfl)) ?_
  show Awp prog 0 8 (cB f85) _ _
  refine awp_seq ?_
  refine awp_region ?_
  refine aR 1 ?_
  refine aE ?_
  refine awp_seq ?_
  refine bE hF fun vr h1 hF => ?_
  refine awp_region ?_
  refine aR 2 ?_
  refine aC (strings_genSplit_ok h1) [] [] [] ?_
  refine aR 1 ?_
  refine aE ?_
  refine awp_ret ?_
  exact oF hF [(0, 3000)] []

/-! ### internal/stringslite.HasPrefix -/
def stringslite_HasPrefix_x1_k : Bool → AEx
  | _ => .normal

def stringslite_HasPrefix_x1_S (qs : List UInt8) (qprefix : List UInt8) : Bool → St
  | vx => Mem.st ⟨[], []⟩ (tl [(4, .v (.one (.d (.bool vx))))]) 0

def stringslite_HasPrefix_x1_I (qs : List UInt8) (qprefix : List UInt8) : St := Mem.st ⟨[], []⟩ (tl [(0, .v (.one (.d (.str qs)))), (1, .v (.one (.d (.str qprefix))))]) 0

theorem stringslite_HasPrefix_x1_ok (qs : List UInt8) (qprefix : List UInt8) {r} (hF : stringslite_HasPrefix_x1 qs qprefix = some r) : Awp prog 0 18 (cL (cR (cB f205))) (Out 0 stringslite_HasPrefix_x1_k (stringslite_HasPrefix_x1_S qs qprefix) r) (stringslite_HasPrefix_x1_I qs qprefix) := by
  unfold stringslite_HasPrefix_x1 at hF
  refine cE hF (fun h1 hF => ?_) fun h1 hF => ?_
  · refine bE hF fun vs h2 hF => ?_
    refine awp_region ?_
    refine aR 4 ?_
    refine aB h1 ?_
    refine aR 4 ?_
    refine aX (x_sliceS h2) ?_
    refine aR 4 ?_
    refine aE ?_
    exact oO hF [] [] rfl
  · refine awp_region ?_
    refine aR 4 ?_
    refine aB h1 ?_
    refine aR 9 ?_
    refine aE ?_
    exact oO hF [] [] rfl

def stringslite_HasPrefix_R (qs : List UInt8) (qprefix : List UInt8) (r : Bool) : TV × Mem := (.v (.one (.d (.bool r))), ⟨[], []⟩)

theorem stringslite_HasPrefix_ok {qs : List UInt8} {qprefix : List UInt8} {r} (hF : stringslite_HasPrefix qs qprefix = some r) : Holds prog 205 [.v (.one (.d (.str qs))), .v (.one (.d (.str qprefix)))] ⟨[], []⟩ (Is (stringslite_HasPrefix_R qs qprefix r)) := by
  unfold stringslite_HasPrefix at hF
  refine holds_of_awp hΓ (fn := f205) (c := cB f205) (A := 0) (nx := 0) (by kernel_rfl) (by kernel_rfl) (by kernel_rfl) (by kernel_rfl) (by kernel_rfl) (by kernel_rfl) (lowc_of (by kernel_rfl)) ?_
  show Awp prog 0 18 (cB f205) _ _
  refine awp_seq ?_
  refine awp_region ?_
  refine aR 1 ?_
  refine aE ?_
  refine awp_seq ?_
  refine awp_to (st' := stringslite_HasPrefix_x1_I qs qprefix) (oT [] []) ?_
  refine bE hF fun vx1 h3 hF => ?_
  refine awp_sub (stringslite_HasPrefix_x1_ok qs qprefix h3) ?_
  refine awp_ret ?_
  exact oF hF [] []

/-! ### internal/stringslite.TrimPrefix -/
def stringslite_TrimPrefix_R (qs : List UInt8) (qprefix : List UInt8) (r : (List UInt8)) : TV × Mem := (.v (.one (.d (.str r))), ⟨[], []⟩)

theorem stringslite_TrimPrefix_ok {qs : List UInt8} {qprefix : List UInt8} {r} (hF : stringslite_TrimPrefix qs qprefix = some r) : Holds prog 182 [.v (.one (.d (.str qs))), .v (.one (.d (.str qprefix)))] ⟨[], []⟩ (Is (stringslite_TrimPrefix_R qs qprefix r)) := by
  unfold stringslite_TrimPrefix at hF
  refine holds_of_awp hΓ (fn := f182) (c := cB f182) (A := 0) (nx := 0) (by kernel_rfl) (by kernel_rfl) (by kernel_rfl) (by kernel_rfl) (by kernel_rfl) (by kernel_rfl) (lowc_of (by kernel_rfl)) ?_
  show Awp prog 0 13 (cB f182) _ _
  refine awp_seq ?_
  refine awp_region ?_
  refine aR 1 ?_
  refine aE ?_
  refine awp_seq ?_
  refine awp_seq ?_
  refine bE hF fun vr h1 hF => ?_
  refine awp_region ?_
  refine aR 2 ?_
  refine aC (stringslite_HasPrefix_ok h1) [] [] [] ?_
  refine aE ?_
  refine cE hF (fun h2 hF => ?_) fun h2 hF => ?_
  · refine awp_true (by kernel_rfl) h2 ?_
    refine awp_seq ?_
    refine bE hF fun vs h3 hF => ?_
    refine awp_region ?_
    refine aR 3 ?_
    refine aX (x_sliceS h3) ?_
    refine aR 1 ?_
    refine aE ?_
    refine awp_ret ?_
    exact oF hF [] []
  · refine awp_false (by kernel_rfl) h2 ?_
    refine awp_skip ?_
    refine awp_seq ?_
    refine awp_region ?_
    refine aR 2 ?_
    refine aE ?_
    refine awp_ret ?_
    exact oF hF [] []

/-! ### strings.TrimPrefix -/
def strings_TrimPrefix_R (qs : List UInt8) (qprefix : List UInt8) (r : (List UInt8)) : TV × Mem := (.v (.one (.d (.str r))), ⟨[], []⟩)

theorem strings_TrimPrefix_ok {qs : List UInt8} {qprefix : List UInt8} {r} (hF : strings_TrimPrefix qs qprefix = some r) : Holds prog 157 [.v (.one (.d (.str qs))), .v (.one (.d (.str qprefix)))] ⟨[], []⟩ (Is (strings_TrimPrefix_R qs qprefix r)) := by
  unfold strings_TrimPrefix at hF
  refine holds_of_awp hΓ (fn := f157) (c := cB f157) (A := 0) (nx := 0) (by kernel_rfl) (by kernel_rfl) (by kernel_rfl) (by kernel_rfl) (by kernel_rfl) (by kernel_rfl) (lowc_of (by kernel_rfl)) ?_
  show Awp prog 0 8 (cB f157) _ _
  refine awp_seq ?_
  refine awp_region ?_
  refine aR 1 ?_
  refine aE ?_
  refine awp_seq ?_
  refine bE hF fun vr1 h1 hF => ?_
  refine awp_region ?_
  refine aR 2 ?_
  refine aC (stringslite_TrimPrefix_ok h1) [] [] [] ?_
  refine aR 1 ?_
  refine aE ?_
  refine awp_ret ?_
  exact oF hF [] []

/-! ### internal/strconv.lower -/
def strconv_lower_R (qc : Int) (r : Unit) : TV × Mem := (.v (.one (.d (.int .u8 (ibits .or .u8 qc 32)))), ⟨[], []⟩)

theorem strconv_lower_ok {qc : Int} {r} (hF : strconv_lower qc = some r) : Holds prog 229 [.v (.one (.d (.int .u8 qc)))] ⟨[], []⟩ (Is (strconv_lower_R qc r)) := by
  unfold strconv_lower at hF
  refine holds_of_awp hΓ (fn := f229) (c := cB f229) (A := 0) (nx := 0) (by kernel_rfl) (by kernel_rfl) (by kernel_rfl) (by kernel_rfl) (by kernel_rfl) (by kernel_rfl) (lowc_of (by kernel_rfl)) ?_
  show Awp prog 0 5 (cB f229) _ _
  refine awp_seq ?_
  refine awp_region ?_
  refine aR 1 ?_
  refine aE ?_
  refine awp_seq ?_
  refine awp_region ?_
  refine aR 3 ?_
  refine aE ?_
  refine awp_ret ?_
  exact oF hF [] []

/-! ### internal/strconv.underscoreOK -/
def strconv_underscoreOK_x2_k : Bool → AEx
  | _ => .normal

def strconv_underscoreOK_x2_S (qx : List UInt8) : Bool → St
  | vx => Mem.st ⟨[], []⟩ (tl [(0, .v (.one (.d (.str qx)))), (3, .v (.one (.d (.int .i32 94)))), (4, .v (.one (.d (.int .i64 0)))), (18, .v (.one (.d (.bool vx))))]) 0

def strconv_underscoreOK_x2_I (qx : List UInt8) : St := Mem.st ⟨[], []⟩ (tl [(0, .v (.one (.d (.str qx)))), (3, .v (.one (.d (.int .i32 94)))), (4, .v (.one (.d (.int .i64 0))))]) 0

theorem strconv_underscoreOK_x2_ok (qx : List UInt8) {r} (hF : strconv_underscoreOK_x2 qx = some r) : Awp prog 0 94 (cL (cL (cR (cR (cR (cB f230)))))) (Out 0 strconv_underscoreOK_x2_k (strconv_underscoreOK_x2_S qx) r) (strconv_underscoreOK_x2_I qx) := by
  unfold strconv_underscoreOK_x2 at hF
  refine cE hF (fun h1 hF => ?_) fun h1 hF => ?_
  · refine bE hF fun vc h2 hF => ?_
    refine cE hF (fun h3 hF => ?_) fun h3 hF => ?_
    · refine awp_region ?_
      refine aR 2 ?_
      refine aB h1 ?_
      refine aR 2 ?_
      refine aX (x_idxS h2) ?_
      refine aB h3 ?_
      refine aR 6 ?_
      refine aE ?_
      exact oO hF [] [] rfl
    · refine awp_region ?_
      refine aR 2 ?_
      refine aB h1 ?_
      refine aR 2 ?_
      refine aX (x_idxS h2) ?_
      refine aB h3 ?_
      refine aR 2 ?_
      refine aX (x_idxS h2) ?_
      refine aR 3 ?_
      refine aE ?_
      exact oO hF [] [] rfl
  · refine awp_region ?_
    refine aR 2 ?_
    refine aB h1 ?_
    refine aR 10 ?_
    refine aE ?_
    exact oO hF [] [] rfl

def strconv_underscoreOK_x1_k : (List UInt8) → AEx
  | _ => .normal

def strconv_underscoreOK_x1_S (qx : List UInt8) : (List UInt8) → St
  | vx2 => Mem.st ⟨[], []⟩ (tl [(0, .v (.one (.d (.str vx2)))), (3, .v (.one (.d (.int .i32 94)))), (4, .v (.one (.d (.int .i64 0))))]) 0

def strconv_underscoreOK_x1_I (qx : List UInt8) : St := Mem.st ⟨[], []⟩ (tl [(0, .v (.one (.d (.str qx)))), (3, .v (.one (.d (.int .i32 94)))), (4, .v (.one (.d (.int .i64 0))))]) 0

theorem strconv_underscoreOK_x1_ok (qx : List UInt8) {r} (hF : strconv_underscoreOK_x1 qx = some r) : Awp prog 0 94 (cL (cR (cR (cR (cB f230))))) (Out 0 strconv_underscoreOK_x1_k (strconv_underscoreOK_x1_S qx) r) (strconv_underscoreOK_x1_I qx) := by
  unfold strconv_underscoreOK_x1 at hF
  refine awp_seq ?_
  refine awp_to (st' := strconv_underscoreOK_x2_I qx) (oT [] []) ?_
  refine bE hF fun vx1 h4 hF => ?_
  refine awp_sub (strconv_underscoreOK_x2_ok qx h4) ?_
  refine cE hF (fun h5 hF => ?_) fun h5 hF => ?_
  · refine awp_true (by kernel_rfl) h5 ?_
    refine bE hF fun vs h6 hF => ?_
    refine awp_region ?_
    refine aR 1 ?_
    refine aX (x_sliceS h6) ?_
    refine aR 1 ?_
    refine aE ?_
    exact oO hF [] [] rfl
  · refine awp_false (by kernel_rfl) h5 ?_
    refine awp_skip ?_
    exact oO hF [] [] rfl

def strconv_underscoreOK_x4_k : Bool → AEx
  | _ => .normal

def strconv_underscoreOK_x4_S (vx2_1 : List UInt8) : Bool → St
  | vx3 => Mem.st ⟨[], []⟩ (tl [(0, .v (.one (.d (.str vx2_1)))), (3, .v (.one (.d (.int .i32 94)))), (4, .v (.one (.d (.int .i64 0)))), (5, .v (.one (.d (.bool false)))), (46, .v (.one (.d (.bool vx3))))]) 0

def strconv_underscoreOK_x4_I (vx2_1 : List UInt8) : St := Mem.st ⟨[], []⟩ (tl [(0, .v (.one (.d (.str vx2_1)))), (3, .v (.one (.d (.int .i32 94)))), (4, .v (.one (.d (.int .i64 0)))), (5, .v (.one (.d (.bool false))))]) 0

theorem strconv_underscoreOK_x4_ok (vx2_1 : List UInt8) {r} (hF : strconv_underscoreOK_x4 vx2_1 = some r) : Awp prog 0 94 (cL (cL (cR (cR (cR (cR (cR (cB f230)))))))) (Out 0 strconv_underscoreOK_x4_k (strconv_underscoreOK_x4_S vx2_1) r) (strconv_underscoreOK_x4_I vx2_1) := by
  unfold strconv_underscoreOK_x4 at hF
  refine cE hF (fun h8 hF => ?_) fun h8 hF => ?_
  · refine bE hF fun vc1 h9 hF => ?_
    refine cE hF (fun h10 hF => ?_) fun h10 hF => ?_
    · refine bE hF fun vc2 h11 hF => ?_
      refine bE hF fun _ h12 hF => ?_
      refine cE hF (fun h13 hF => ?_) fun h13 hF => ?_
      · refine awp_region ?_
        refine aR 2 ?_
        refine aB h8 ?_
        refine aR 2 ?_
        refine aX (x_idxS h9) ?_
        refine aB h10 ?_
        refine aR 3 ?_
        refine aX (x_idxS h11) ?_
        refine aC (strconv_lower_ok h12) [] [] [] ?_
        refine aB h13 ?_
        refine aR 13 ?_
        refine aE ?_
        exact oO hF [] [] rfl
      · refine cE hF (fun h14 hF => ?_) fun h14 hF => ?_
        · refine awp_region ?_
          refine aR 2 ?_
          refine aB h8 ?_
          refine aR 2 ?_
          refine aX (x_idxS h9) ?_
          refine aB h10 ?_
          refine aR 3 ?_
          refine aX (x_idxS h11) ?_
          refine aC (strconv_lower_ok h12) [] [] [] ?_
          refine aB h13 ?_
          refine aR 2 ?_
          refine aX (x_idxS h11) ?_
          refine aC (strconv_lower_ok h12) [] [] [] ?_
          refine aB h14 ?_
          refine aR 8 ?_
          refine aE ?_
          exact oO hF [] [] rfl
        · refine awp_region ?_
          refine aR 2 ?_
          refine aB h8 ?_
          refine aR 2 ?_
          refine aX (x_idxS h9) ?_
          refine aB h10 ?_
          refine aR 3 ?_
          refine aX (x_idxS h11) ?_
          refine aC (strconv_lower_ok h12) [] [] [] ?_
          refine aB h13 ?_
          refine aR 2 ?_
          refine aX (x_idxS h11) ?_
          refine aC (strconv_lower_ok h12) [] [] [] ?_
          refine aB h14 ?_
          refine aR 3 ?_
          refine aX (x_idxS h11) ?_
          refine aC (strconv_lower_ok h12) [] [] [] ?_
          refine aR 3 ?_
          refine aE ?_
          exact oO hF [] [] rfl
    · refine awp_region ?_
      refine aR 2 ?_
      refine aB h8 ?_
      refine aR 2 ?_
      refine aX (x_idxS h9) ?_
      refine aB h10 ?_
      refine aR 19 ?_
      refine aE ?_
      exact oO hF [] [] rfl
  · refine awp_region ?_
    refine aR 2 ?_
    refine aB h8 ?_
    refine aR 23 ?_
    refine aE ?_
    exact oO hF [] [] rfl

def strconv_underscoreOK_x3_k : (Int × Int × Bool) → AEx
  | _ => .normal

def strconv_underscoreOK_x3_S (vx2_1 : List UInt8) : (Int × Int × Bool) → St
  | (vx4, vx5, vx6) => Mem.st ⟨[], []⟩ (tl [(0, .v (.one (.d (.str vx2_1)))), (3, .v (.one (.d (.int .i32 vx4)))), (4, .v (.one (.d (.int .i64 vx5)))), (5, .v (.one (.d (.bool vx6))))]) 0

def strconv_underscoreOK_x3_I (vx2_1 : List UInt8) : St := Mem.st ⟨[], []⟩ (tl [(0, .v (.one (.d (.str vx2_1)))), (3, .v (.one (.d (.int .i32 94)))), (4, .v (.one (.d (.int .i64 0)))), (5, .v (.one (.d (.bool false))))]) 0

theorem strconv_underscoreOK_x3_ok (vx2_1 : List UInt8) {r} (hF : strconv_underscoreOK_x3 vx2_1 = some r) : Awp prog 0 94 (cL (cR (cR (cR (cR (cR (cB f230))))))) (Out 0 strconv_underscoreOK_x3_k (strconv_underscoreOK_x3_S vx2_1) r) (strconv_underscoreOK_x3_I vx2_1) := by
  unfold strconv_underscoreOK_x3 at hF
  refine awp_seq ?_
  refine awp_to (st' := strconv_underscoreOK_x4_I vx2_1) (oT [] []) ?_
  refine bE hF fun vx3_1 h15 hF => ?_
  refine awp_sub (strconv_underscoreOK_x4_ok vx2_1 h15) ?_
  refine cE hF (fun h16 hF => ?_) fun h16 hF => ?_
  · refine awp_true (by kernel_rfl) h16 ?_
    refine awp_seq ?_
    refine awp_region ?_
    refine aR 1 ?_
    refine aE ?_
    refine awp_seq ?_
    refine awp_region ?_
    refine aR 1 ?_
    refine aE ?_
    refine bE hF fun vc3 h17 hF => ?_
    refine bE hF fun _ h18 hF => ?_
    refine awp_region ?_
    refine aR 1 ?_
    refine aX (x_idxS h17) ?_
    refine aC (strconv_lower_ok h18) [] [] [] ?_
    refine aR 2 ?_
    refine aE ?_
    exact oO hF [] [] rfl
  · refine awp_false (by kernel_rfl) h16 ?_
    refine awp_skip ?_
    exact oO hF [] [] rfl

def strconv_underscoreOK_x7_k : Bool → AEx
  | _ => .normal

def strconv_underscoreOK_x7_S (vx2_1 : List UInt8) (vx6_1 : Bool) (vx7 : Int) (vx8 : Int) : Bool → St
  | vx11 => Mem.st ⟨[], []⟩ (tl [(0, .v (.one (.d (.str vx2_1)))), (3, .v (.one (.d (.int .i32 vx7)))), (4, .v (.one (.d (.int .i64 vx8)))), (5, .v (.one (.d (.bool vx6_1)))), (83, .v (.one (.d (.bool vx11))))]) 0

def strconv_underscoreOK_x7_I (vx2_1 : List UInt8) (vx6_1 : Bool) (vx7 : Int) (vx8 : Int) : St := Mem.st ⟨[], []⟩ (tl [(0, .v (.one (.d (.str vx2_1)))), (3, .v (.one (.d (.int .i32 vx7)))), (4, .v (.one (.d (.int .i64 vx8)))), (5, .v (.one (.d (.bool vx6_1))))]) 0

theorem strconv_underscoreOK_x7_ok (vx2_1 : List UInt8) (vx6_1 : Bool) (vx7 : Int) (vx8 : Int) {r} (hF : strconv_underscoreOK_x7 vx2_1 vx6_1 vx8 = some r) : Awp prog 0 94 (cL (cL (cL (cL (cR (cL (cL (cL (cR (cR (cR (cR (cR (cR (cB f230))))))))))))))) (Out 0 strconv_underscoreOK_x7_k (strconv_underscoreOK_x7_S vx2_1 vx6_1 vx7 vx8) r) (strconv_underscoreOK_x7_I vx2_1 vx6_1 vx7 vx8) := by
  unfold strconv_underscoreOK_x7 at hF
  refine bE hF fun vc6 h21 hF => ?_
  refine cE hF (fun h22 hF => ?_) fun h22 hF => ?_
  · refine cE hF (fun h23 hF => ?_) fun h23 hF => ?_
    · refine awp_region ?_
      refine aR 2 ?_
      refine aX (x_idxS h21) ?_
      refine aB h22 ?_
      refine aR 3 ?_
      refine aX (x_idxS h21) ?_
      refine aB h23 ?_
      refine aR 18 ?_
      refine aE ?_
      exact oO hF [] [] rfl
    · refine cE hF (fun h24 hF => ?_) fun h24 hF => ?_
      · refine bE hF fun _ h25 hF => ?_
        refine cE hF (fun h26 hF => ?_) fun h26 hF => ?_
        · refine awp_region ?_
          refine aR 2 ?_
          refine aX (x_idxS h21) ?_
          refine aB h22 ?_
          refine aR 3 ?_
          refine aX (x_idxS h21) ?_
          refine aB h23 ?_
          refine aR 2 ?_
          refine aB h24 ?_
          refine aR 3 ?_
          refine aX (x_idxS h21) ?_
          refine aC (strconv_lower_ok h25) [] [] [] ?_
          refine aB h26 ?_
          refine aR 4 ?_
          refine aX (x_idxS h21) ?_
          refine aC (strconv_lower_ok h25) [] [] [] ?_
          refine aR 3 ?_
          refine aE ?_
          exact oO hF [] [] rfl
        · refine awp_region ?_
          refine aR 2 ?_
          refine aX (x_idxS h21) ?_
          refine aB h22 ?_
          refine aR 3 ?_
          refine aX (x_idxS h21) ?_
          refine aB h23 ?_
          refine aR 2 ?_
          refine aB h24 ?_
          refine aR 3 ?_
          refine aX (x_idxS h21) ?_
          refine aC (strconv_lower_ok h25) [] [] [] ?_
          refine aB h26 ?_
          refine aR 9 ?_
          refine aE ?_
          exact oO hF [] [] rfl
      · refine awp_region ?_
        refine aR 2 ?_
        refine aX (x_idxS h21) ?_
        refine aB h22 ?_
        refine aR 3 ?_
        refine aX (x_idxS h21) ?_
        refine aB h23 ?_
        refine aR 2 ?_
        refine aB h24 ?_
        refine aR 15 ?_
        refine aE ?_
        exact oO hF [] [] rfl
  · refine cE hF (fun h27 hF => ?_) fun h27 hF => ?_
    · refine bE hF fun _ h28 hF => ?_
      refine cE hF (fun h29 hF => ?_) fun h29 hF => ?_
      · refine awp_region ?_
        refine aR 2 ?_
        refine aX (x_idxS h21) ?_
        refine aB h22 ?_
        refine aR 7 ?_
        refine aB h27 ?_
        refine aR 3 ?_
        refine aX (x_idxS h21) ?_
        refine aC (strconv_lower_ok h28) [] [] [] ?_
        refine aB h29 ?_
        refine aR 4 ?_
        refine aX (x_idxS h21) ?_
        refine aC (strconv_lower_ok h28) [] [] [] ?_
        refine aR 3 ?_
        refine aE ?_
        exact oO hF [] [] rfl
      · refine awp_region ?_
        refine aR 2 ?_
        refine aX (x_idxS h21) ?_
        refine aB h22 ?_
        refine aR 7 ?_
        refine aB h27 ?_
        refine aR 3 ?_
        refine aX (x_idxS h21) ?_
        refine aC (strconv_lower_ok h28) [] [] [] ?_
        refine aB h29 ?_
        refine aR 9 ?_
        refine aE ?_
        exact oO hF [] [] rfl
    · refine awp_region ?_
      refine aR 2 ?_
      refine aX (x_idxS h21) ?_
      refine aB h22 ?_
      refine aR 7 ?_
      refine aB h27 ?_
      refine aR 15 ?_
      refine aE ?_
      exact oO hF [] [] rfl

def strconv_underscoreOK_x6_k : Int ⊕ Unit → AEx
  | .inl _ => .normal
  | .inr _ => .ret

def strconv_underscoreOK_x6_S (vx2_1 : List UInt8) (vx6_1 : Bool) (vx7 : Int) (vx8 : Int) : Int ⊕ Unit → St
  | .inl vx12 => Mem.st ⟨[], []⟩ (tl [(0, .v (.one (.d (.str vx2_1)))), (3, .v (.one (.d (.int .i32 vx12)))), (4, .v (.one (.d (.int .i64 vx8)))), (5, .v (.one (.d (.bool vx6_1))))]) 0
  | .inr _ => Mem.st ⟨[], []⟩ (tl [(2, .v (.one (.d (.bool false))))]) 0

def strconv_underscoreOK_x6_I (vx2_1 : List UInt8) (vx6_1 : Bool) (vx7 : Int) (vx8 : Int) : St := Mem.st ⟨[], []⟩ (tl [(0, .v (.one (.d (.str vx2_1)))), (3, .v (.one (.d (.int .i32 vx7)))), (4, .v (.one (.d (.int .i64 vx8)))), (5, .v (.one (.d (.bool vx6_1))))]) 0

theorem strconv_underscoreOK_x6_ok (vx2_1 : List UInt8) (vx6_1 : Bool) (vx7 : Int) (vx8 : Int) {r} (hF : strconv_underscoreOK_x6 vx2_1 vx6_1 vx7 vx8 = some r) : Awp prog 0 94 (cL (cR (cL (cL (cL (cR (cR (cR (cR (cR (cR (cB f230)))))))))))) (Out 0 strconv_underscoreOK_x6_k (strconv_underscoreOK_x6_S vx2_1 vx6_1 vx7 vx8) r) (strconv_underscoreOK_x6_I vx2_1 vx6_1 vx7 vx8) := by
  unfold strconv_underscoreOK_x6 at hF
  refine awp_block ?_
  refine awp_seq ?_
  refine awp_seq ?_
  refine awp_to (st' := strconv_underscoreOK_x7_I vx2_1 vx6_1 vx7 vx8) (oT [] []) ?_
  refine bE hF fun vx11_1 h30 hF => ?_
  refine awp_sub (strconv_underscoreOK_x7_ok vx2_1 vx6_1 vx7 vx8 h30) ?_
  refine cE hF (fun h31 hF => ?_) fun h31 hF => ?_
  · refine awp_true (by kernel_rfl) h31 ?_
    refine awp_seq ?_
    refine awp_region ?_
    refine aR 1 ?_
    refine aE ?_
    refine awp_exit ?_
    exact oO hF [] [] rfl
  · refine awp_false (by kernel_rfl) h31 ?_
    refine awp_skip ?_
    refine awp_seq ?_
    refine awp_seq ?_
    refine bE hF fun vc7 h32 hF => ?_
    refine awp_region ?_
    refine aR 2 ?_
    refine aX (x_idxS h32) ?_
    refine aR 1 ?_
    refine aE ?_
    refine cE hF (fun h33 hF => ?_) fun h33 hF => ?_
    · refine awp_true (by kernel_rfl) h33 ?_
      refine awp_seq ?_
      refine awp_seq ?_
      refine awp_region ?_
      refine aR 2 ?_
      refine aE ?_
      refine cE hF (fun h34 hF => ?_) fun h34 hF => ?_
      · refine awp_true (by kernel_rfl) h34 ?_
        refine awp_seq ?_
        refine awp_region ?_
        refine aR 1 ?_
        refine aE ?_
        refine awp_ret ?_
        exact oO hF [] [] rfl
      · refine awp_false (by kernel_rfl) h34 ?_
        refine awp_skip ?_
        refine awp_seq ?_
        refine awp_region ?_
        refine aR 1 ?_
        refine aE ?_
        refine awp_exit ?_
        exact oO hF [] [] rfl
    · refine awp_false (by kernel_rfl) h33 ?_
      refine awp_skip ?_
      refine awp_seq ?_
      refine awp_seq ?_
      refine awp_region ?_
      refine aR 2 ?_
      refine aE ?_
      refine cE hF (fun h35 hF => ?_) fun h35 hF => ?_
      · refine awp_true (by kernel_rfl) h35 ?_
        refine awp_seq ?_
        refine awp_region ?_
        refine aR 1 ?_
        refine aE ?_
        refine awp_ret ?_
        exact oO hF [] [] rfl
      · refine awp_false (by kernel_rfl) h35 ?_
        refine awp_skip ?_
        refine awp_region ?_
        refine aR 1 ?_
        refine aE ?_
        exact oO hF [] [] rfl

def strconv_underscoreOK_x5_k : Int ⊕ Unit → AEx
  | .inl _ => .exit 0
  | .inr _ => .ret

def strconv_underscoreOK_x5_S (vx2_1 : List UInt8) (vx6_1 : Bool) : Int ⊕ Unit → St
  | .inl vx13 => Mem.st ⟨[], []⟩ (tl [(3, .v (.one (.d (.int .i32 vx13))))]) 0
  | .inr _ => Mem.st ⟨[], []⟩ (tl [(2, .v (.one (.d (.bool false))))]) 0

def strconv_underscoreOK_x5_H (vx2_1 : List UInt8) (vx6_1 : Bool) : Int × Int → St
  | (vx7, vx8) => Mem.st ⟨[], []⟩ (tl [(0, .v (.one (.d (.str vx2_1)))), (3, .v (.one (.d (.int .i32 vx7)))), (4, .v (.one (.d (.int .i64 vx8)))), (5, .v (.one (.d (.bool vx6_1))))]) 0

theorem strconv_underscoreOK_x5_ok (vx2_1 : List UInt8) (vx6_1 : Bool) (s : Int × Int) (r : (Int × Int) ⊕ (Int ⊕ Unit)) (hF : strconv_underscoreOK_x5 vx2_1 vx6_1 s = some r) : Awp prog 0 94 (cL (cL (cL (cR (cR (cR (cR (cR (cR (cB f230)))))))))) (Out 0 (kk strconv_underscoreOK_x5_k) (SS (strconv_underscoreOK_x5_H vx2_1 vx6_1) (strconv_underscoreOK_x5_S vx2_1 vx6_1)) r) (strconv_underscoreOK_x5_H vx2_1 vx6_1 s) := by
  obtain ⟨vx7, vx8⟩ := s
  unfold strconv_underscoreOK_x5 at hF
  refine awp_seq ?_
  refine awp_seq ?_
  refine awp_region ?_
  refine aR 4 ?_
  refine aE ?_
  refine cE hF (fun h20 hF => ?_) fun h20 hF => ?_
  · refine awp_true (by kernel_rfl) h20 ?_
    refine awp_skip ?_
    refine awp_seq ?_
    refine awp_to (st' := strconv_underscoreOK_x6_I vx2_1 vx6_1 vx7 vx8) (oT [] []) ?_
    refine bE hF fun x h36 hF => ?_
    rcases x with vx12_1 | _
    · refine awp_sub (strconv_underscoreOK_x6_ok vx2_1 vx6_1 vx7 vx8 h36) ?_
      refine awp_region ?_
      refine aR 3 ?_
      refine aE ?_
      exact oO hF [] [] rfl
    · refine awp_sub (strconv_underscoreOK_x6_ok vx2_1 vx6_1 vx7 vx8 h36) ?_
      exact oO hF [] [] rfl
  · refine awp_false (by kernel_rfl) h20 ?_
    refine awp_exit ?_
    exact oO hF [] [] rfl

def strconv_underscoreOK_R (qx : List UInt8) (r : Bool) : TV × Mem := (.v (.one (.d (.bool r))), ⟨[], []⟩)

theorem strconv_underscoreOK_ok {qx : List UInt8} {r} (hF : strconv_underscoreOK qx = some r) : Holds prog 230 [.v (.one (.d (.str qx)))] ⟨[], []⟩ (Is (strconv_underscoreOK_R qx r)) := by
  unfold strconv_underscoreOK at hF
  refine holds_of_awp hΓ (fn := f230) (c := cB f230) (A := 0) (nx := 0) (by kernel_rfl) (by kernel_rfl) (by kernel_rfl) (by kernel_rfl) (by kernel_rfl) (by kernel_rfl) (lowc_of (by kernel_rfl)) ?_
  show Awp prog 0 94 (cB f230) _ _
  refine awp_seq ?_
  refine awp_region ?_
  refine aR 1 ?_
  refine aE ?_
  refine awp_seq ?_
  refine awp_region ?_
  refine aR 1 ?_
  refine aE ?_
  refine awp_seq ?_
  refine awp_region ?_
  refine aR 1 ?_
  refine aE ?_
  refine awp_seq ?_
  refine awp_to (st' := strconv_underscoreOK_x1_I qx) (oT [] []) ?_
  refine bE hF fun vx2_1 h7 hF => ?_
  refine awp_sub (strconv_underscoreOK_x1_ok qx h7) ?_
  refine awp_seq ?_
  refine awp_region ?_
  refine aR 1 ?_
  refine aE ?_
  refine awp_seq ?_
  refine awp_to (st' := strconv_underscoreOK_x3_I vx2_1) (oT [] []) ?_
  refine bE hF fun x h19 hF => ?_
  obtain ⟨vx4_1, vx5_1, vx6_1⟩ := x
  refine awp_sub (strconv_underscoreOK_x3_ok vx2_1 h19) ?_
  refine awp_seq ?_
  refine awp_block ?_
  refine awp_to (st' := strconv_underscoreOK_x5_H vx2_1 vx6_1 (vx4_1, vx5_1)) (oT [] []) ?_
  refine bE hF fun x h37 hF => ?_
  rcases x with vx13_1 | _
  · refine awp_sub (awp_loop' (strconv_underscoreOK_x5_H vx2_1 vx6_1) strconv_underscoreOK_x5_k (strconv_underscoreOK_x5_S vx2_1 vx6_1) (by intro x; rcases x with x | x <;> exact fun h => nomatch h) h37 (strconv_underscoreOK_x5_ok vx2_1 vx6_1)) ?_
    refine awp_seq ?_
    refine awp_region ?_
    refine aR 3 ?_
    refine aE ?_
    refine awp_ret ?_
    exact oF hF [] []
  · refine awp_sub (awp_loop' (strconv_underscoreOK_x5_H vx2_1 vx6_1) strconv_underscoreOK_x5_k (strconv_underscoreOK_x5_S vx2_1 vx6_1) (by intro x; rcases x with x | x <;> exact fun h => nomatch h) h37 (strconv_underscoreOK_x5_ok vx2_1 vx6_1)) ?_
    exact oF hF [] []

/-! ### internal/strconv.ParseUint -/
def strconv_ParseUint_x2_k : Bool → AEx
  | _ => .normal

def strconv_ParseUint_x2_S (qx : List UInt8) (qx1 : Int) (qx2 : Int) : Bool → St
  | vx => Mem.st ⟨[], []⟩ (tl [(0, .v (.one (.d (.str qx)))), (1, .v (.one (.d (.int .i64 qx1)))), (2, .v (.one (.d (.int .i64 qx2)))), (8, .v (.one (.d (.bool (decide (qx1 = 0)))))), (9, .v (.one (.d (.str qx)))), (25, .v (.one (.d (.bool vx))))]) 0

def strconv_ParseUint_x2_I (qx : List UInt8) (qx1 : Int) (qx2 : Int) : St := Mem.st ⟨[], []⟩ (tl [(0, .v (.one (.d (.str qx)))), (1, .v (.one (.d (.int .i64 qx1)))), (2, .v (.one (.d (.int .i64 qx2)))), (8, .v (.one (.d (.bool (decide (qx1 = 0)))))), (9, .v (.one (.d (.str qx))))]) 0

theorem strconv_ParseUint_x2_ok (qx : List UInt8) (qx1 : Int) (qx2 : Int) {r} (hF : strconv_ParseUint_x2 qx1 = some r) : Awp prog 0 172 (cL (cL (cL (cR (cR (cR (cR (cB f222)))))))) (Out 0 strconv_ParseUint_x2_k (strconv_ParseUint_x2_S qx qx1 qx2) r) (strconv_ParseUint_x2_I qx qx1 qx2) := by
  unfold strconv_ParseUint_x2 at hF
  refine cE hF (fun h3 hF => ?_) fun h3 hF => ?_
  · refine awp_region ?_
    refine aR 1 ?_
    refine aB h3 ?_
    refine aR 5 ?_
    refine aE ?_
    exact oO hF [] [] rfl
  · refine awp_region ?_
    refine aR 1 ?_
    refine aB h3 ?_
    refine aR 5 ?_
    refine aE ?_
    exact oO hF [] [] rfl

def strconv_ParseUint_x3_k : Bool → AEx
  | _ => .normal

def strconv_ParseUint_x3_S (qx : List UInt8) (qx1 : Int) (qx2 : Int) : Bool → St
  | vx2 => Mem.st ⟨[], []⟩ (tl [(0, .v (.one (.d (.str qx)))), (2, .v (.one (.d (.int .i64 qx2)))), (8, .v (.one (.d (.bool (decide (qx1 = 0)))))), (9, .v (.one (.d (.str qx)))), (40, .v (.one (.d (.bool vx2))))]) 0

def strconv_ParseUint_x3_I (qx : List UInt8) (qx1 : Int) (qx2 : Int) : St := Mem.st ⟨[], []⟩ (tl [(0, .v (.one (.d (.str qx)))), (2, .v (.one (.d (.int .i64 qx2)))), (8, .v (.one (.d (.bool (decide (qx1 = 0)))))), (9, .v (.one (.d (.str qx))))]) 0

theorem strconv_ParseUint_x3_ok (qx : List UInt8) (qx1 : Int) (qx2 : Int) {r} (hF : strconv_ParseUint_x3 qx = some r) : Awp prog 0 172 (cL (cL (cL (cR (cR (cL (cR (cR (cR (cL (cL (cR (cR (cR (cR (cB f222)))))))))))))))) (Out 0 strconv_ParseUint_x3_k (strconv_ParseUint_x3_S qx qx1 qx2) r) (strconv_ParseUint_x3_I qx qx1 qx2) := by
  unfold strconv_ParseUint_x3 at hF
  refine cE hF (fun h9 hF => ?_) fun h9 hF => ?_
  · refine bE hF fun vc1 h10 hF => ?_
    refine bE hF fun _ h11 hF => ?_
    refine awp_region ?_
    refine aR 2 ?_
    refine aB h9 ?_
    refine aR 2 ?_
    refine aX (x_idxS h10) ?_
    refine aC (strconv_lower_ok h11) [] [] [] ?_
    refine aR 3 ?_
    refine aE ?_
    exact oO hF [] [] rfl
  · refine awp_region ?_
    refine aR 2 ?_
    refine aB h9 ?_
    refine aR 7 ?_
    refine aE ?_
    exact oO hF [] [] rfl

def strconv_ParseUint_x4_k : Bool → AEx
  | _ => .normal

def strconv_ParseUint_x4_S (qx : List UInt8) (qx1 : Int) (qx2 : Int) : Bool → St
  | vx3 => Mem.st ⟨[], []⟩ (tl [(0, .v (.one (.d (.str qx)))), (2, .v (.one (.d (.int .i64 qx2)))), (8, .v (.one (.d (.bool (decide (qx1 = 0)))))), (9, .v (.one (.d (.str qx)))), (52, .v (.one (.d (.bool vx3))))]) 0

def strconv_ParseUint_x4_I (qx : List UInt8) (qx1 : Int) (qx2 : Int) : St := Mem.st ⟨[], []⟩ (tl [(0, .v (.one (.d (.str qx)))), (2, .v (.one (.d (.int .i64 qx2)))), (8, .v (.one (.d (.bool (decide (qx1 = 0)))))), (9, .v (.one (.d (.str qx))))]) 0

theorem strconv_ParseUint_x4_ok (qx : List UInt8) (qx1 : Int) (qx2 : Int) {r} (hF : strconv_ParseUint_x4 qx = some r) : Awp prog 0 172 (cL (cR (cR (cL (cL (cR (cR (cL (cR (cR (cR (cL (cL (cR (cR (cR (cR (cB f222)))))))))))))))))) (Out 0 strconv_ParseUint_x4_k (strconv_ParseUint_x4_S qx qx1 qx2) r) (strconv_ParseUint_x4_I qx qx1 qx2) := by
  unfold strconv_ParseUint_x4 at hF
  refine cE hF (fun h15 hF => ?_) fun h15 hF => ?_
  · refine bE hF fun vc2 h16 hF => ?_
    refine bE hF fun _ h17 hF => ?_
    refine awp_region ?_
    refine aR 2 ?_
    refine aB h15 ?_
    refine aR 2 ?_
    refine aX (x_idxS h16) ?_
    refine aC (strconv_lower_ok h17) [] [] [] ?_
    refine aR 3 ?_
    refine aE ?_
    exact oO hF [] [] rfl
  · refine awp_region ?_
    refine aR 2 ?_
    refine aB h15 ?_
    refine aR 7 ?_
    refine aE ?_
    exact oO hF [] [] rfl

def strconv_ParseUint_x5_k : Bool → AEx
  | _ => .normal

def strconv_ParseUint_x5_S (qx : List UInt8) (qx1 : Int) (qx2 : Int) : Bool → St
  | vx4 => Mem.st ⟨[], []⟩ (tl [(0, .v (.one (.d (.str qx)))), (2, .v (.one (.d (.int .i64 qx2)))), (8, .v (.one (.d (.bool (decide (qx1 = 0)))))), (9, .v (.one (.d (.str qx)))), (64, .v (.one (.d (.bool vx4))))]) 0

def strconv_ParseUint_x5_I (qx : List UInt8) (qx1 : Int) (qx2 : Int) : St := Mem.st ⟨[], []⟩ (tl [(0, .v (.one (.d (.str qx)))), (2, .v (.one (.d (.int .i64 qx2)))), (8, .v (.one (.d (.bool (decide (qx1 = 0)))))), (9, .v (.one (.d (.str qx))))]) 0

theorem strconv_ParseUint_x5_ok (qx : List UInt8) (qx1 : Int) (qx2 : Int) {r} (hF : strconv_ParseUint_x5 qx = some r) : Awp prog 0 172 (cL (cR (cR (cR (cR (cL (cL (cR (cR (cL (cR (cR (cR (cL (cL (cR (cR (cR (cR (cB f222)))))))))))))))))))) (Out 0 strconv_ParseUint_x5_k (strconv_ParseUint_x5_S qx qx1 qx2) r) (strconv_ParseUint_x5_I qx qx1 qx2) := by
  unfold strconv_ParseUint_x5 at hF
  refine cE hF (fun h21 hF => ?_) fun h21 hF => ?_
  · refine bE hF fun vc3 h22 hF => ?_
    refine bE hF fun _ h23 hF => ?_
    refine awp_region ?_
    refine aR 2 ?_
    refine aB h21 ?_
    refine aR 2 ?_
    refine aX (x_idxS h22) ?_
    refine aC (strconv_lower_ok h23) [] [] [] ?_
    refine aR 3 ?_
    refine aE ?_
    exact oO hF [] [] rfl
  · refine awp_region ?_
    refine aR 2 ?_
    refine aB h21 ?_
    refine aR 7 ?_
    refine aE ?_
    exact oO hF [] [] rfl

def strconv_ParseUint_x1_k : ((List UInt8) × Int) → AEx
  | _ => .normal

def strconv_ParseUint_x1_S (qx : List UInt8) (qx1 : Int) (qx2 : Int) : ((List UInt8) × Int) → St
  | (vx5, vx6) => Mem.st ⟨[], []⟩ (tl [(0, .v (.one (.d (.str vx5)))), (1, .v (.one (.d (.int .i64 vx6)))), (2, .v (.one (.d (.int .i64 qx2)))), (8, .v (.one (.d (.bool (decide (qx1 = 0)))))), (9, .v (.one (.d (.str qx))))]) 0

def strconv_ParseUint_x1_I (qx : List UInt8) (qx1 : Int) (qx2 : Int) : St := Mem.st ⟨[], []⟩ (tl [(0, .v (.one (.d (.str qx)))), (1, .v (.one (.d (.int .i64 qx1)))), (2, .v (.one (.d (.int .i64 qx2)))), (8, .v (.one (.d (.bool (decide (qx1 = 0)))))), (9, .v (.one (.d (.str qx))))]) 0

theorem strconv_ParseUint_x1_ok (qx : List UInt8) (qx1 : Int) (qx2 : Int) {r} (hF : strconv_ParseUint_x1 qx qx1 = some r) : Awp prog 0 172 (cL (cR (cR (cR (cR (cB f222)))))) (Out 0 strconv_ParseUint_x1_k (strconv_ParseUint_x1_S qx qx1 qx2) r) (strconv_ParseUint_x1_I qx qx1 qx2) := by
  unfold strconv_ParseUint_x1 at hF
  refine awp_block ?_
  refine awp_seq ?_
  refine awp_to (st' := strconv_ParseUint_x2_I qx qx1 qx2) (oT [] []) ?_
  refine bE hF fun vx1 h4 hF => ?_
  refine awp_sub (strconv_ParseUint_x2_ok qx qx1 qx2 h4) ?_
  refine cE hF (fun h5 hF => ?_) fun h5 hF => ?_
  · refine awp_true (by kernel_rfl) h5 ?_
    refine awp_skip ?_
    exact oO hF [] [] rfl
  · refine awp_false (by kernel_rfl) h5 ?_
    refine awp_seq ?_
    refine awp_region ?_
    refine aR 3 ?_
    refine aE ?_
    refine cE hF (fun h6 hF => ?_) fun h6 hF => ?_
    · refine awp_true (by kernel_rfl) h6 ?_
      refine awp_seq ?_
      refine awp_region ?_
      refine aR 1 ?_
      refine aE ?_
      refine awp_seq ?_
      refine bE hF fun vc h7 hF => ?_
      refine awp_region ?_
      refine aR 1 ?_
      refine aX (x_idxS h7) ?_
      refine aR 1 ?_
      refine aE ?_
      refine cE hF (fun h8 hF => ?_) fun h8 hF => ?_
      · refine awp_true (by kernel_rfl) h8 ?_
        refine awp_block ?_
        refine awp_seq ?_
        refine awp_to (st' := strconv_ParseUint_x3_I qx qx1 qx2) (oT [] []) ?_
        refine bE hF fun vx2_1 h12 hF => ?_
        refine awp_sub (strconv_ParseUint_x3_ok qx qx1 qx2 h12) ?_
        refine cE hF (fun h13 hF => ?_) fun h13 hF => ?_
        · refine awp_true (by kernel_rfl) h13 ?_
          refine awp_seq ?_
          refine awp_region ?_
          refine aR 1 ?_
          refine aE ?_
          refine bE hF fun vs h14 hF => ?_
          refine awp_region ?_
          refine aR 1 ?_
          refine aX (x_sliceS h14) ?_
          refine aR 1 ?_
          refine aE ?_
          exact oO hF [] [] rfl
        · refine awp_false (by kernel_rfl) h13 ?_
          refine awp_seq ?_
          refine awp_to (st' := strconv_ParseUint_x4_I qx qx1 qx2) (oT [] []) ?_
          refine bE hF fun vx3_1 h18 hF => ?_
          refine awp_sub (strconv_ParseUint_x4_ok qx qx1 qx2 h18) ?_
          refine cE hF (fun h19 hF => ?_) fun h19 hF => ?_
          · refine awp_true (by kernel_rfl) h19 ?_
            refine awp_seq ?_
            refine awp_region ?_
            refine aR 1 ?_
            refine aE ?_
            refine bE hF fun vs1 h20 hF => ?_
            refine awp_region ?_
            refine aR 1 ?_
            refine aX (x_sliceS h20) ?_
            refine aR 1 ?_
            refine aE ?_
            exact oO hF [] [] rfl
          · refine awp_false (by kernel_rfl) h19 ?_
            refine awp_seq ?_
            refine awp_to (st' := strconv_ParseUint_x5_I qx qx1 qx2) (oT [] []) ?_
            refine bE hF fun vx4_1 h24 hF => ?_
            refine awp_sub (strconv_ParseUint_x5_ok qx qx1 qx2 h24) ?_
            refine cE hF (fun h25 hF => ?_) fun h25 hF => ?_
            · refine awp_true (by kernel_rfl) h25 ?_
              refine awp_seq ?_
              refine awp_region ?_
              refine aR 1 ?_
              refine aE ?_
              refine bE hF fun vs2 h26 hF => ?_
              refine awp_region ?_
              refine aR 1 ?_
              refine aX (x_sliceS h26) ?_
              refine aR 1 ?_
              refine aE ?_
              exact oO hF [] [] rfl
            · refine awp_false (by kernel_rfl) h25 ?_
              refine awp_seq ?_
              refine awp_region ?_
              refine aR 1 ?_
              refine aE ?_
              refine bE hF fun vs3 h27 hF => ?_
              refine awp_region ?_
              refine aR 1 ?_
              refine aX (x_sliceS h27) ?_
              refine aR 1 ?_
              refine aE ?_
              exact oO hF [] [] rfl
      · refine awp_false (by kernel_rfl) h8 ?_
        refine awp_skip ?_
        exact oO hF [] [] rfl
    · refine awp_false (by kernel_rfl) h6 ?_
      refine awp_seq ?_
      exact nE hF

def strconv_ParseUint_x7_k : Bool → AEx
  | _ => .normal

def strconv_ParseUint_x7_S (qx : List UInt8) (qx1 : Int) (qx2 : Int) (vx5_1 : List UInt8) (vx6_1 : Int) : Bool → St
  | vx7 => Mem.st ⟨[], []⟩ (tl [(0, .v (.one (.d (.str vx5_1)))), (1, .v (.one (.d (.int .i64 vx6_1)))), (2, .v (.one (.d (.int .i64 qx2)))), (8, .v (.one (.d (.bool (decide (qx1 = 0)))))), (9, .v (.one (.d (.str qx)))), (83, .v (.one (.d (.bool vx7))))]) 0

def strconv_ParseUint_x7_I (qx : List UInt8) (qx1 : Int) (qx2 : Int) (vx5_1 : List UInt8) (vx6_1 : Int) : St := Mem.st ⟨[], []⟩ (tl [(0, .v (.one (.d (.str vx5_1)))), (1, .v (.one (.d (.int .i64 vx6_1)))), (2, .v (.one (.d (.int .i64 qx2)))), (8, .v (.one (.d (.bool (decide (qx1 = 0)))))), (9, .v (.one (.d (.str qx))))]) 0

theorem strconv_ParseUint_x7_ok (qx : List UInt8) (qx1 : Int) (qx2 : Int) (vx5_1 : List UInt8) (vx6_1 : Int) {r} (hF : strconv_ParseUint_x7 qx2 = some r) : Awp prog 0 172 (cL (cR (cR (cL (cR (cR (cR (cR (cR (cB f222)))))))))) (Out 0 strconv_ParseUint_x7_k (strconv_ParseUint_x7_S qx qx1 qx2 vx5_1 vx6_1) r) (strconv_ParseUint_x7_I qx qx1 qx2 vx5_1 vx6_1) := by
  unfold strconv_ParseUint_x7 at hF
  refine cE hF (fun h31 hF => ?_) fun h31 hF => ?_
  · refine awp_region ?_
    refine aR 1 ?_
    refine aB h31 ?_
    refine aR 4 ?_
    refine aE ?_
    exact oO hF [] [] rfl
  · refine awp_region ?_
    refine aR 1 ?_
    refine aB h31 ?_
    refine aR 4 ?_
    refine aE ?_
    exact oO hF [] [] rfl

def strconv_ParseUint_x6_k : Int → AEx
  | _ => .normal

def strconv_ParseUint_x6_S (qx : List UInt8) (qx1 : Int) (qx2 : Int) (vx5_1 : List UInt8) (vx6_1 : Int) : Int → St
  | vx8 => Mem.st ⟨[], []⟩ (tl [(0, .v (.one (.d (.str vx5_1)))), (1, .v (.one (.d (.int .i64 vx6_1)))), (2, .v (.one (.d (.int .i64 vx8)))), (8, .v (.one (.d (.bool (decide (qx1 = 0)))))), (9, .v (.one (.d (.str qx))))]) 0

def strconv_ParseUint_x6_I (qx : List UInt8) (qx1 : Int) (qx2 : Int) (vx5_1 : List UInt8) (vx6_1 : Int) : St := Mem.st ⟨[], []⟩ (tl [(0, .v (.one (.d (.str vx5_1)))), (1, .v (.one (.d (.int .i64 vx6_1)))), (2, .v (.one (.d (.int .i64 qx2)))), (8, .v (.one (.d (.bool (decide (qx1 = 0)))))), (9, .v (.one (.d (.str qx))))]) 0

theorem strconv_ParseUint_x6_ok (qx : List UInt8) (qx1 : Int) (qx2 : Int) (vx5_1 : List UInt8) (vx6_1 : Int) {r} (hF : strconv_ParseUint_x6 qx2 = some r) : Awp prog 0 172 (cL (cR (cR (cR (cR (cR (cB f222))))))) (Out 0 strconv_ParseUint_x6_k (strconv_ParseUint_x6_S qx qx1 qx2 vx5_1 vx6_1) r) (strconv_ParseUint_x6_I qx qx1 qx2 vx5_1 vx6_1) := by
  unfold strconv_ParseUint_x6 at hF
  refine awp_seq ?_
  refine awp_region ?_
  refine aR 2 ?_
  refine aE ?_
  refine cE hF (fun h30 hF => ?_) fun h30 hF => ?_
  · refine awp_true (by kernel_rfl) h30 ?_
    refine awp_region ?_
    refine aR 1 ?_
    refine aE ?_
    exact oO hF [] [] rfl
  · refine awp_false (by kernel_rfl) h30 ?_
    refine awp_seq ?_
    refine awp_to (st' := strconv_ParseUint_x7_I qx qx1 qx2 vx5_1 vx6_1) (oT [] []) ?_
    refine bE hF fun vx7_1 h32 hF => ?_
    refine awp_sub (strconv_ParseUint_x7_ok qx qx1 qx2 vx5_1 vx6_1 h32) ?_
    refine cE hF (fun h33 hF => ?_) fun h33 hF => ?_
    · refine awp_true (by kernel_rfl) h33 ?_
      refine awp_seq ?_
      exact nE hF
    · refine awp_false (by kernel_rfl) h33 ?_
      refine awp_skip ?_
      exact oO hF [] [] rfl

def strconv_ParseUint_x8_k : Int → AEx
  | _ => .normal

def strconv_ParseUint_x8_S (qx : List UInt8) (qx1 : Int) (vx5_1 : List UInt8) (vx6_1 : Int) (vx8_1 : Int) : Int → St
  | vx9 => Mem.st ⟨[], []⟩ (tl [(0, .v (.one (.d (.str vx5_1)))), (1, .v (.one (.d (.int .i64 vx6_1)))), (2, .v (.one (.d (.int .i64 vx8_1)))), (8, .v (.one (.d (.bool (decide (qx1 = 0)))))), (9, .v (.one (.d (.str qx)))), (10, .v (.one (.d (.int .u64 vx9))))]) 0

def strconv_ParseUint_x8_I (qx : List UInt8) (qx1 : Int) (vx5_1 : List UInt8) (vx6_1 : Int) (vx8_1 : Int) : St := Mem.st ⟨[], []⟩ (tl [(0, .v (.one (.d (.str vx5_1)))), (1, .v (.one (.d (.int .i64 vx6_1)))), (2, .v (.one (.d (.int .i64 vx8_1)))), (8, .v (.one (.d (.bool (decide (qx1 = 0)))))), (9, .v (.one (.d (.str qx))))]) 0

theorem strconv_ParseUint_x8_ok (qx : List UInt8) (qx1 : Int) (vx5_1 : List UInt8) (vx6_1 : Int) (vx8_1 : Int) {r} (hF : strconv_ParseUint_x8 vx6_1 = some r) : Awp prog 0 172 (cL (cR (cR (cR (cR (cR (cR (cR (cB f222))))))))) (Out 0 strconv_ParseUint_x8_k (strconv_ParseUint_x8_S qx qx1 vx5_1 vx6_1 vx8_1) r) (strconv_ParseUint_x8_I qx qx1 vx5_1 vx6_1 vx8_1) := by
  unfold strconv_ParseUint_x8 at hF
  refine awp_seq ?_
  refine awp_region ?_
  refine aR 1 ?_
  refine aE ?_
  refine awp_block ?_
  refine awp_seq ?_
  refine awp_region ?_
  refine aR 2 ?_
  refine aE ?_
  refine cE hF (fun h36 hF => ?_) fun h36 hF => ?_
  · refine awp_true (by kernel_rfl) h36 ?_
    refine awp_region ?_
    refine aR 1 ?_
    refine aE ?_
    exact oO hF [] [] rfl
  · refine awp_false (by kernel_rfl) h36 ?_
    refine awp_seq ?_
    refine awp_region ?_
    refine aR 2 ?_
    refine aE ?_
    refine cE hF (fun h37 hF => ?_) fun h37 hF => ?_
    · refine awp_true (by kernel_rfl) h37 ?_
      refine awp_region ?_
      refine aR 1 ?_
      refine aE ?_
      exact oO hF [] [] rfl
    · refine awp_false (by kernel_rfl) h37 ?_
      refine gE hF fun h38 hF => ?_
      refine awp_region ?_
      refine aR 2 ?_
      refine aX (x_quo h38) ?_
      refine aR 2 ?_
      refine aE ?_
      exact oO hF [] [] rfl

def strconv_ParseUint_x12_k : Bool → AEx
  | _ => .normal

def strconv_ParseUint_x12_S (qx : List UInt8) (qx1 : Int) (vx5_1 : List UInt8) (vx6_1 : Int) (vx8_1 : Int) (vx9_1 : Int) (vx10 : Bool) (vx11 : Int) (vx12 : Int) (vy1 : Int) : Bool → St
  | vx20 => Mem.st ⟨[], []⟩ (tl [(1, .v (.one (.d (.int .i64 vx6_1)))), (8, .v (.one (.d (.bool (decide (qx1 = 0)))))), (9, .v (.one (.d (.str qx)))), (10, .v (.one (.d (.int .u64 vx9_1)))), (11, .v (.one (.d (.int .u64 (IntKind.wrap .u64 ((ishl .u64 1 (IntKind.wrap .u64 (vx8_1))) - 1)))))), (12, .v (.one (.d (.bool vx10)))), (13, .v (.one (.d (.int .u64 vx11)))), (15, .v (.one (.d (.int .u8 vy1)))), (99, .v (.one (.d (.lst (List.map (encI .u8) (bytesD vx5_1)))))), (100, .v (.one (.d (.int .i64 ((bytesD vx5_1).length : Int))))), (101, .v (.one (.d (.int .i64 vx12)))), (106, .v (.one (.d (.bool vx20))))]) 0

def strconv_ParseUint_x12_I (qx : List UInt8) (qx1 : Int) (vx5_1 : List UInt8) (vx6_1 : Int) (vx8_1 : Int) (vx9_1 : Int) (vx10 : Bool) (vx11 : Int) (vx12 : Int) (vy1 : Int) : St := Mem.st ⟨[], []⟩ (tl [(1, .v (.one (.d (.int .i64 vx6_1)))), (8, .v (.one (.d (.bool (decide (qx1 = 0)))))), (9, .v (.one (.d (.str qx)))), (10, .v (.one (.d (.int .u64 vx9_1)))), (11, .v (.one (.d (.int .u64 (IntKind.wrap .u64 ((ishl .u64 1 (IntKind.wrap .u64 (vx8_1))) - 1)))))), (12, .v (.one (.d (.bool vx10)))), (13, .v (.one (.d (.int .u64 vx11)))), (15, .v (.one (.d (.int .u8 vy1)))), (99, .v (.one (.d (.lst (List.map (encI .u8) (bytesD vx5_1)))))), (100, .v (.one (.d (.int .i64 ((bytesD vx5_1).length : Int))))), (101, .v (.one (.d (.int .i64 vx12))))]) 0

theorem strconv_ParseUint_x12_ok (qx : List UInt8) (qx1 : Int) (vx5_1 : List UInt8) (vx6_1 : Int) (vx8_1 : Int) (vx9_1 : Int) (vx10 : Bool) (vx11 : Int) (vx12 : Int) (vy1 : Int) {r} (hF : strconv_ParseUint_x12 qx1 vy1 = some r) : Awp prog 0 172 (cL (cL (cL (cR (cR (cL (cL (cR (cR (cL (cL (cR (cL (cR (cR (cR (cR (cR (cR (cR (cR (cR (cR (cR (cB f222))))))))))))))))))))))))) (Out 0 strconv_ParseUint_x12_k (strconv_ParseUint_x12_S qx qx1 vx5_1 vx6_1 vx8_1 vx9_1 vx10 vx11 vx12 vy1) r) (strconv_ParseUint_x12_I qx qx1 vx5_1 vx6_1 vx8_1 vx9_1 vx10 vx11 vx12 vy1) := by
  unfold strconv_ParseUint_x12 at hF
  refine cE hF (fun h43 hF => ?_) fun h43 hF => ?_
  · refine awp_region ?_
    refine aR 1 ?_
    refine aB h43 ?_
    refine aR 4 ?_
    refine aE ?_
    exact oO hF [] [] rfl
  · refine awp_region ?_
    refine aR 1 ?_
    refine aB h43 ?_
    refine aR 4 ?_
    refine aE ?_
    exact oO hF [] [] rfl

def strconv_ParseUint_x13_k : Bool → AEx
  | _ => .normal

def strconv_ParseUint_x13_S (qx : List UInt8) (qx1 : Int) (vx5_1 : List UInt8) (vx6_1 : Int) (vx8_1 : Int) (vx9_1 : Int) (vx10 : Bool) (vx11 : Int) (vx12 : Int) (vy1 : Int) : Bool → St
  | vx21 => Mem.st ⟨[], []⟩ (tl [(1, .v (.one (.d (.int .i64 vx6_1)))), (8, .v (.one (.d (.bool (decide (qx1 = 0)))))), (9, .v (.one (.d (.str qx)))), (10, .v (.one (.d (.int .u64 vx9_1)))), (11, .v (.one (.d (.int .u64 (IntKind.wrap .u64 ((ishl .u64 1 (IntKind.wrap .u64 (vx8_1))) - 1)))))), (12, .v (.one (.d (.bool vx10)))), (13, .v (.one (.d (.int .u64 vx11)))), (15, .v (.one (.d (.int .u8 vy1)))), (99, .v (.one (.d (.lst (List.map (encI .u8) (bytesD vx5_1)))))), (100, .v (.one (.d (.int .i64 ((bytesD vx5_1).length : Int))))), (101, .v (.one (.d (.int .i64 vx12)))), (112, .v (.one (.d (.bool vx21))))]) 0

def strconv_ParseUint_x13_I (qx : List UInt8) (qx1 : Int) (vx5_1 : List UInt8) (vx6_1 : Int) (vx8_1 : Int) (vx9_1 : Int) (vx10 : Bool) (vx11 : Int) (vx12 : Int) (vy1 : Int) : St := Mem.st ⟨[], []⟩ (tl [(1, .v (.one (.d (.int .i64 vx6_1)))), (8, .v (.one (.d (.bool (decide (qx1 = 0)))))), (9, .v (.one (.d (.str qx)))), (10, .v (.one (.d (.int .u64 vx9_1)))), (11, .v (.one (.d (.int .u64 (IntKind.wrap .u64 ((ishl .u64 1 (IntKind.wrap .u64 (vx8_1))) - 1)))))), (12, .v (.one (.d (.bool vx10)))), (13, .v (.one (.d (.int .u64 vx11)))), (15, .v (.one (.d (.int .u8 vy1)))), (99, .v (.one (.d (.lst (List.map (encI .u8) (bytesD vx5_1)))))), (100, .v (.one (.d (.int .i64 ((bytesD vx5_1).length : Int))))), (101, .v (.one (.d (.int .i64 vx12))))]) 0

theorem strconv_ParseUint_x13_ok (qx : List UInt8) (qx1 : Int) (vx5_1 : List UInt8) (vx6_1 : Int) (vx8_1 : Int) (vx9_1 : Int) (vx10 : Bool) (vx11 : Int) (vx12 : Int) (vy1 : Int) {r} (hF : strconv_ParseUint_x13 vy1 = some r) : Awp prog 0 172 (cL (cR (cR (cL (cL (cR (cR (cL (cL (cR (cR (cL (cL (cR (cL (cR (cR (cR (cR (cR (cR (cR (cR (cR (cR (cR (cB f222))))))))))))))))))))))))))) (Out 0 strconv_ParseUint_x13_k (strconv_ParseUint_x13_S qx qx1 vx5_1 vx6_1 vx8_1 vx9_1 vx10 vx11 vx12 vy1) r) (strconv_ParseUint_x13_I qx qx1 vx5_1 vx6_1 vx8_1 vx9_1 vx10 vx11 vx12 vy1) := by
  unfold strconv_ParseUint_x13 at hF
  refine cE hF (fun h46 hF => ?_) fun h46 hF => ?_
  · refine awp_region ?_
    refine aR 1 ?_
    refine aB h46 ?_
    refine aR 5 ?_
    refine aE ?_
    exact oO hF [] [] rfl
  · refine awp_region ?_
    refine aR 1 ?_
    refine aB h46 ?_
    refine aR 5 ?_
    refine aE ?_
    exact oO hF [] [] rfl

def strconv_ParseUint_x14_k : Bool → AEx
  | _ => .normal

def strconv_ParseUint_x14_S (qx : List UInt8) (qx1 : Int) (vx5_1 : List UInt8) (vx6_1 : Int) (vx8_1 : Int) (vx9_1 : Int) (vx10 : Bool) (vx11 : Int) (vx12 : Int) (vy1 : Int) : Bool → St
  | vx22 => Mem.st ⟨[], []⟩ (tl [(1, .v (.one (.d (.int .i64 vx6_1)))), (8, .v (.one (.d (.bool (decide (qx1 = 0)))))), (9, .v (.one (.d (.str qx)))), (10, .v (.one (.d (.int .u64 vx9_1)))), (11, .v (.one (.d (.int .u64 (IntKind.wrap .u64 ((ishl .u64 1 (IntKind.wrap .u64 (vx8_1))) - 1)))))), (12, .v (.one (.d (.bool vx10)))), (13, .v (.one (.d (.int .u64 vx11)))), (15, .v (.one (.d (.int .u8 vy1)))), (99, .v (.one (.d (.lst (List.map (encI .u8) (bytesD vx5_1)))))), (100, .v (.one (.d (.int .i64 ((bytesD vx5_1).length : Int))))), (101, .v (.one (.d (.int .i64 vx12)))), (121, .v (.one (.d (.bool vx22))))]) 0

def strconv_ParseUint_x14_I (qx : List UInt8) (qx1 : Int) (vx5_1 : List UInt8) (vx6_1 : Int) (vx8_1 : Int) (vx9_1 : Int) (vx10 : Bool) (vx11 : Int) (vx12 : Int) (vy1 : Int) : St := Mem.st ⟨[], []⟩ (tl [(1, .v (.one (.d (.int .i64 vx6_1)))), (8, .v (.one (.d (.bool (decide (qx1 = 0)))))), (9, .v (.one (.d (.str qx)))), (10, .v (.one (.d (.int .u64 vx9_1)))), (11, .v (.one (.d (.int .u64 (IntKind.wrap .u64 ((ishl .u64 1 (IntKind.wrap .u64 (vx8_1))) - 1)))))), (12, .v (.one (.d (.bool vx10)))), (13, .v (.one (.d (.int .u64 vx11)))), (15, .v (.one (.d (.int .u8 vy1)))), (99, .v (.one (.d (.lst (List.map (encI .u8) (bytesD vx5_1)))))), (100, .v (.one (.d (.int .i64 ((bytesD vx5_1).length : Int))))), (101, .v (.one (.d (.int .i64 vx12))))]) 0

theorem strconv_ParseUint_x14_ok (qx : List UInt8) (qx1 : Int) (vx5_1 : List UInt8) (vx6_1 : Int) (vx8_1 : Int) (vx9_1 : Int) (vx10 : Bool) (vx11 : Int) (vx12 : Int) (vy1 : Int) {r} (hF : strconv_ParseUint_x14 vy1 = some r) : Awp prog 0 172 (cL (cR (cR (cR (cR (cL (cL (cR (cR (cL (cL (cR (cR (cL (cL (cR (cL (cR (cR (cR (cR (cR (cR (cR (cR (cR (cR (cR (cB f222))))))))))))))))))))))))))))) (Out 0 strconv_ParseUint_x14_k (strconv_ParseUint_x14_S qx qx1 vx5_1 vx6_1 vx8_1 vx9_1 vx10 vx11 vx12 vy1) r) (strconv_ParseUint_x14_I qx qx1 vx5_1 vx6_1 vx8_1 vx9_1 vx10 vx11 vx12 vy1) := by
  unfold strconv_ParseUint_x14 at hF
  refine bE hF fun _ h49 hF => ?_
  refine cE hF (fun h50 hF => ?_) fun h50 hF => ?_
  · refine awp_region ?_
    refine aR 1 ?_
    refine aC (strconv_lower_ok h49) [] [] [] ?_
    refine aB h50 ?_
    refine aR 2 ?_
    refine aC (strconv_lower_ok h49) [] [] [] ?_
    refine aR 3 ?_
    refine aE ?_
    exact oO hF [] [] rfl
  · refine awp_region ?_
    refine aR 1 ?_
    refine aC (strconv_lower_ok h49) [] [] [] ?_
    refine aB h50 ?_
    refine aR 6 ?_
    refine aE ?_
    exact oO hF [] [] rfl

def strconv_ParseUint_x11_k : Int ⊕ Unit → AEx
  | .inl _ => .normal
  | .inr _ => .exit 4

def strconv_ParseUint_x11_S (qx : List UInt8) (qx1 : Int) (vx5_1 : List UInt8) (vx6_1 : Int) (vx8_1 : Int) (vx9_1 : Int) (vx10 : Bool) (vx11 : Int) (vx12 : Int) (vy1 : Int) : Int ⊕ Unit → St
  | .inl vx23 => Mem.st ⟨[], []⟩ (tl [(1, .v (.one (.d (.int .i64 vx6_1)))), (8, .v (.one (.d (.bool (decide (qx1 = 0)))))), (9, .v (.one (.d (.str qx)))), (10, .v (.one (.d (.int .u64 vx9_1)))), (11, .v (.one (.d (.int .u64 (IntKind.wrap .u64 ((ishl .u64 1 (IntKind.wrap .u64 (vx8_1))) - 1)))))), (12, .v (.one (.d (.bool vx10)))), (13, .v (.one (.d (.int .u64 vx11)))), (16, .v (.one (.d (.int .u8 vx23)))), (99, .v (.one (.d (.lst (List.map (encI .u8) (bytesD vx5_1)))))), (100, .v (.one (.d (.int .i64 ((bytesD vx5_1).length : Int))))), (101, .v (.one (.d (.int .i64 vx12))))]) 0
  | .inr _ => Mem.st ⟨[], []⟩ (tl [(1, .v (.one (.d (.int .i64 vx6_1)))), (8, .v (.one (.d (.bool (decide (qx1 = 0)))))), (9, .v (.one (.d (.str qx)))), (10, .v (.one (.d (.int .u64 vx9_1)))), (11, .v (.one (.d (.int .u64 (IntKind.wrap .u64 ((ishl .u64 1 (IntKind.wrap .u64 (vx8_1))) - 1)))))), (12, .v (.one (.d (.bool true)))), (13, .v (.one (.d (.int .u64 vx11)))), (99, .v (.one (.d (.lst (List.map (encI .u8) (bytesD vx5_1)))))), (100, .v (.one (.d (.int .i64 ((bytesD vx5_1).length : Int))))), (101, .v (.one (.d (.int .i64 vx12))))]) 0

def strconv_ParseUint_x11_I (qx : List UInt8) (qx1 : Int) (vx5_1 : List UInt8) (vx6_1 : Int) (vx8_1 : Int) (vx9_1 : Int) (vx10 : Bool) (vx11 : Int) (vx12 : Int) (vy1 : Int) : St := Mem.st ⟨[], []⟩ (tl [(1, .v (.one (.d (.int .i64 vx6_1)))), (8, .v (.one (.d (.bool (decide (qx1 = 0)))))), (9, .v (.one (.d (.str qx)))), (10, .v (.one (.d (.int .u64 vx9_1)))), (11, .v (.one (.d (.int .u64 (IntKind.wrap .u64 ((ishl .u64 1 (IntKind.wrap .u64 (vx8_1))) - 1)))))), (12, .v (.one (.d (.bool vx10)))), (13, .v (.one (.d (.int .u64 vx11)))), (15, .v (.one (.d (.int .u8 vy1)))), (99, .v (.one (.d (.lst (List.map (encI .u8) (bytesD vx5_1)))))), (100, .v (.one (.d (.int .i64 ((bytesD vx5_1).length : Int))))), (101, .v (.one (.d (.int .i64 vx12))))]) 0

theorem strconv_ParseUint_x11_ok (qx : List UInt8) (qx1 : Int) (vx5_1 : List UInt8) (vx6_1 : Int) (vx8_1 : Int) (vx9_1 : Int) (vx10 : Bool) (vx11 : Int) (vx12 : Int) (vy1 : Int) {r} (hF : strconv_ParseUint_x11 qx1 vy1 = some r) : Awp prog 0 172 (cL (cR (cR (cL (cL (cR (cR (cL (cL (cR (cL (cR (cR (cR (cR (cR (cR (cR (cR (cR (cR (cR (cB f222))))))))))))))))))))))) (Out 0 strconv_ParseUint_x11_k (strconv_ParseUint_x11_S qx qx1 vx5_1 vx6_1 vx8_1 vx9_1 vx10 vx11 vx12 vy1) r) (strconv_ParseUint_x11_I qx qx1 vx5_1 vx6_1 vx8_1 vx9_1 vx10 vx11 vx12 vy1) := by
  unfold strconv_ParseUint_x11 at hF
  refine awp_block ?_
  refine awp_seq ?_
  refine awp_to (st' := strconv_ParseUint_x12_I qx qx1 vx5_1 vx6_1 vx8_1 vx9_1 vx10 vx11 vx12 vy1) (oT [] []) ?_
  refine bE hF fun vx20_1 h44 hF => ?_
  refine awp_sub (strconv_ParseUint_x12_ok qx qx1 vx5_1 vx6_1 vx8_1 vx9_1 vx10 vx11 vx12 vy1 h44) ?_
  refine cE hF (fun h45 hF => ?_) fun h45 hF => ?_
  · refine awp_true (by kernel_rfl) h45 ?_
    refine awp_seq ?_
    refine awp_region ?_
    refine aR 1 ?_
    refine aE ?_
    refine awp_exit ?_
    exact oO hF [] [] rfl
  · refine awp_false (by kernel_rfl) h45 ?_
    refine awp_seq ?_
    refine awp_to (st' := strconv_ParseUint_x13_I qx qx1 vx5_1 vx6_1 vx8_1 vx9_1 vx10 vx11 vx12 vy1) (oT [] []) ?_
    refine bE hF fun vx21_1 h47 hF => ?_
    refine awp_sub (strconv_ParseUint_x13_ok qx qx1 vx5_1 vx6_1 vx8_1 vx9_1 vx10 vx11 vx12 vy1 h47) ?_
    refine cE hF (fun h48 hF => ?_) fun h48 hF => ?_
    · refine awp_true (by kernel_rfl) h48 ?_
      refine awp_region ?_
      refine aR 3 ?_
      refine aE ?_
      exact oO hF [] [] rfl
    · refine awp_false (by kernel_rfl) h48 ?_
      refine awp_seq ?_
      refine awp_to (st' := strconv_ParseUint_x14_I qx qx1 vx5_1 vx6_1 vx8_1 vx9_1 vx10 vx11 vx12 vy1) (oT [] []) ?_
      refine bE hF fun vx22_1 h51 hF => ?_
      refine awp_sub (strconv_ParseUint_x14_ok qx qx1 vx5_1 vx6_1 vx8_1 vx9_1 vx10 vx11 vx12 vy1 h51) ?_
      refine cE hF (fun h52 hF => ?_) fun h52 hF => ?_
      · refine awp_true (by kernel_rfl) h52 ?_
        refine bE hF fun _ h53 hF => ?_
        refine awp_region ?_
        refine aR 1 ?_
        refine aC (strconv_lower_ok h53) [] [] [] ?_
        refine aR 3 ?_
        refine aE ?_
        exact oO hF [] [] rfl
      · refine awp_false (by kernel_rfl) h52 ?_
        refine awp_seq ?_
        exact nE hF

def strconv_ParseUint_x15_k : Bool → AEx
  | _ => .normal

def strconv_ParseUint_x15_S (qx : List UInt8) (qx1 : Int) (vx5_1 : List UInt8) (vx6_1 : Int) (vx8_1 : Int) (vx9_1 : Int) (vx10 : Bool) (vx11 : Int) (vx12 : Int) (vx23_1 : Int) : Bool → St
  | vx24 => Mem.st ⟨[], []⟩ (tl [(1, .v (.one (.d (.int .i64 vx6_1)))), (8, .v (.one (.d (.bool (decide (qx1 = 0)))))), (9, .v (.one (.d (.str qx)))), (10, .v (.one (.d (.int .u64 vx9_1)))), (11, .v (.one (.d (.int .u64 (IntKind.wrap .u64 ((ishl .u64 1 (IntKind.wrap .u64 (vx8_1))) - 1)))))), (12, .v (.one (.d (.bool vx10)))), (17, .v (.one (.d (.int .u64 (IntKind.wrap .u64 ((IntKind.wrap .u64 (vx11 * (IntKind.wrap .u64 (vx6_1)))) + (IntKind.wrap .u64 (vx23_1)))))))), (99, .v (.one (.d (.lst (List.map (encI .u8) (bytesD vx5_1)))))), (100, .v (.one (.d (.int .i64 ((bytesD vx5_1).length : Int))))), (101, .v (.one (.d (.int .i64 vx12)))), (159, .v (.one (.d (.bool vx24))))]) 0

def strconv_ParseUint_x15_I (qx : List UInt8) (qx1 : Int) (vx5_1 : List UInt8) (vx6_1 : Int) (vx8_1 : Int) (vx9_1 : Int) (vx10 : Bool) (vx11 : Int) (vx12 : Int) (vx23_1 : Int) : St := Mem.st ⟨[], []⟩ (tl [(1, .v (.one (.d (.int .i64 vx6_1)))), (8, .v (.one (.d (.bool (decide (qx1 = 0)))))), (9, .v (.one (.d (.str qx)))), (10, .v (.one (.d (.int .u64 vx9_1)))), (11, .v (.one (.d (.int .u64 (IntKind.wrap .u64 ((ishl .u64 1 (IntKind.wrap .u64 (vx8_1))) - 1)))))), (12, .v (.one (.d (.bool vx10)))), (13, .v (.one (.d (.int .u64 (IntKind.wrap .u64 (vx11 * (IntKind.wrap .u64 (vx6_1)))))))), (17, .v (.one (.d (.int .u64 (IntKind.wrap .u64 ((IntKind.wrap .u64 (vx11 * (IntKind.wrap .u64 (vx6_1)))) + (IntKind.wrap .u64 (vx23_1)))))))), (99, .v (.one (.d (.lst (List.map (encI .u8) (bytesD vx5_1)))))), (100, .v (.one (.d (.int .i64 ((bytesD vx5_1).length : Int))))), (101, .v (.one (.d (.int .i64 vx12))))]) 0

theorem strconv_ParseUint_x15_ok (qx : List UInt8) (qx1 : Int) (vx5_1 : List UInt8) (vx6_1 : Int) (vx8_1 : Int) (vx9_1 : Int) (vx10 : Bool) (vx11 : Int) (vx12 : Int) (vx23_1 : Int) {r} (hF : strconv_ParseUint_x15 vx6_1 vx8_1 vx11 vx23_1 = some r) : Awp prog 0 172 (cL (cL (cR (cR (cR (cR (cR (cR (cR (cL (cL (cR (cR (cL (cL (cR (cL (cR (cR (cR (cR (cR (cR (cR (cR (cR (cR (cR (cB f222))))))))))))))))))))))))))))) (Out 0 strconv_ParseUint_x15_k (strconv_ParseUint_x15_S qx qx1 vx5_1 vx6_1 vx8_1 vx9_1 vx10 vx11 vx12 vx23_1) r) (strconv_ParseUint_x15_I qx qx1 vx5_1 vx6_1 vx8_1 vx9_1 vx10 vx11 vx12 vx23_1) := by
  unfold strconv_ParseUint_x15 at hF
  refine cE hF (fun h60 hF => ?_) fun h60 hF => ?_
  · refine awp_region ?_
    refine aR 2 ?_
    refine aB h60 ?_
    refine aR 5 ?_
    refine aE ?_
    exact oO hF [] [] rfl
  · refine awp_region ?_
    refine aR 2 ?_
    refine aB h60 ?_
    refine aR 5 ?_
    refine aE ?_
    exact oO hF [] [] rfl

def strconv_ParseUint_x10_k : (Bool × Int) → AEx
  | _ => .normal

def strconv_ParseUint_x10_S (qx : List UInt8) (qx1 : Int) (vx5_1 : List UInt8) (vx6_1 : Int) (vx8_1 : Int) (vx9_1 : Int) (vx10 : Bool) (vx11 : Int) (vx12 : Int) : (Bool × Int) → St
  | (vx25, vx26) => Mem.st ⟨[], []⟩ (tl [(1, .v (.one (.d (.int .i64 vx6_1)))), (8, .v (.one (.d (.bool (decide (qx1 = 0)))))), (9, .v (.one (.d (.str qx)))), (10, .v (.one (.d (.int .u64 vx9_1)))), (11, .v (.one (.d (.int .u64 (IntKind.wrap .u64 ((ishl .u64 1 (IntKind.wrap .u64 (vx8_1))) - 1)))))), (12, .v (.one (.d (.bool vx25)))), (13, .v (.one (.d (.int .u64 vx26)))), (99, .v (.one (.d (.lst (List.map (encI .u8) (bytesD vx5_1)))))), (100, .v (.one (.d (.int .i64 ((bytesD vx5_1).length : Int))))), (101, .v (.one (.d (.int .i64 vx12))))]) 0

def strconv_ParseUint_x10_I (qx : List UInt8) (qx1 : Int) (vx5_1 : List UInt8) (vx6_1 : Int) (vx8_1 : Int) (vx9_1 : Int) (vx10 : Bool) (vx11 : Int) (vx12 : Int) : St := Mem.st ⟨[], []⟩ (tl [(1, .v (.one (.d (.int .i64 vx6_1)))), (8, .v (.one (.d (.bool (decide (qx1 = 0)))))), (9, .v (.one (.d (.str qx)))), (10, .v (.one (.d (.int .u64 vx9_1)))), (11, .v (.one (.d (.int .u64 (IntKind.wrap .u64 ((ishl .u64 1 (IntKind.wrap .u64 (vx8_1))) - 1)))))), (12, .v (.one (.d (.bool vx10)))), (13, .v (.one (.d (.int .u64 vx11)))), (99, .v (.one (.d (.lst (List.map (encI .u8) (bytesD vx5_1)))))), (100, .v (.one (.d (.int .i64 ((bytesD vx5_1).length : Int))))), (101, .v (.one (.d (.int .i64 vx12))))]) 0

theorem strconv_ParseUint_x10_ok (qx : List UInt8) (qx1 : Int) (vx5_1 : List UInt8) (vx6_1 : Int) (vx8_1 : Int) (vx9_1 : Int) (vx10 : Bool) (vx11 : Int) (vx12 : Int) {r} (hF : strconv_ParseUint_x10 qx1 vx5_1 vx6_1 vx8_1 vx9_1 vx10 vx11 vx12 = some r) : Awp prog 0 172 (cL (cR (cR (cL (cL (cR (cL (cR (cR (cR (cR (cR (cR (cR (cR (cR (cR (cR (cB f222))))))))))))))))))) (Out 0 strconv_ParseUint_x10_k (strconv_ParseUint_x10_S qx qx1 vx5_1 vx6_1 vx8_1 vx9_1 vx10 vx11 vx12) r) (strconv_ParseUint_x10_I qx qx1 vx5_1 vx6_1 vx8_1 vx9_1 vx10 vx11 vx12) := by
  unfold strconv_ParseUint_x10 at hF
  refine awp_block ?_
  refine awp_seq ?_
  refine bE hF fun vy1 h42 hF => ?_
  refine awp_region ?_
  refine aX (x_idx (encI .u8) h42) ?_
  refine aR 2 ?_
  refine aE ?_
  refine awp_seq ?_
  refine awp_region ?_
  refine aR 1 ?_
  refine aE ?_
  refine awp_seq ?_
  refine awp_to (st' := strconv_ParseUint_x11_I qx qx1 vx5_1 vx6_1 vx8_1 vx9_1 vx10 vx11 vx12 vy1) (oT [] []) ?_
  refine bE hF fun x h55 hF => ?_
  rcases x with vx23_1 | _
  · refine awp_sub (strconv_ParseUint_x11_ok qx qx1 vx5_1 vx6_1 vx8_1 vx9_1 vx10 vx11 vx12 vy1 h55) ?_
    refine awp_seq ?_
    refine awp_seq ?_
    refine awp_region ?_
    refine aR 4 ?_
    refine aE ?_
    refine cE hF (fun h56 hF => ?_) fun h56 hF => ?_
    · refine awp_true (by kernel_rfl) h56 ?_
      refine awp_seq ?_
      exact nE hF
    · refine awp_false (by kernel_rfl) h56 ?_
      refine awp_skip ?_
      refine awp_seq ?_
      refine awp_seq ?_
      refine awp_region ?_
      refine aR 3 ?_
      refine aE ?_
      refine cE hF (fun h58 hF => ?_) fun h58 hF => ?_
      · refine awp_true (by kernel_rfl) h58 ?_
        refine awp_seq ?_
        exact nE hF
      · refine awp_false (by kernel_rfl) h58 ?_
        refine awp_skip ?_
        refine awp_seq ?_
        refine awp_region ?_
        refine aR 5 ?_
        refine aE ?_
        refine awp_seq ?_
        refine awp_region ?_
        refine aR 5 ?_
        refine aE ?_
        refine awp_seq ?_
        refine awp_seq ?_
        refine awp_to (st' := strconv_ParseUint_x15_I qx qx1 vx5_1 vx6_1 vx8_1 vx9_1 vx10 vx11 vx12 vx23_1) (oT [] []) ?_
        refine bE hF fun vx24_1 h61 hF => ?_
        refine awp_sub (strconv_ParseUint_x15_ok qx qx1 vx5_1 vx6_1 vx8_1 vx9_1 vx10 vx11 vx12 vx23_1 h61) ?_
        refine cE hF (fun h62 hF => ?_) fun h62 hF => ?_
        · refine awp_true (by kernel_rfl) h62 ?_
          refine awp_seq ?_
          exact nE hF
        · refine awp_false (by kernel_rfl) h62 ?_
          refine awp_skip ?_
          refine awp_region ?_
          refine aR 2 ?_
          refine aE ?_
          exact oO hF [] [] rfl
  · refine awp_sub (strconv_ParseUint_x11_ok qx qx1 vx5_1 vx6_1 vx8_1 vx9_1 vx10 vx11 vx12 vy1 h55) ?_
    exact oO hF [] [] rfl

def strconv_ParseUint_x9_k : (Bool × Int) → AEx
  | _ => .exit 3

def strconv_ParseUint_x9_S (qx : List UInt8) (qx1 : Int) (vx5_1 : List UInt8) (vx6_1 : Int) (vx8_1 : Int) (vx9_1 : Int) : (Bool × Int) → St
  | (vx27, vx28) => Mem.st ⟨[], []⟩ (tl [(9, .v (.one (.d (.str qx)))), (12, .v (.one (.d (.bool vx27)))), (13, .v (.one (.d (.int .u64 vx28))))]) 0

def strconv_ParseUint_x9_H (qx : List UInt8) (qx1 : Int) (vx5_1 : List UInt8) (vx6_1 : Int) (vx8_1 : Int) (vx9_1 : Int) : Bool × Int × Int → St
  | (vx10, vx11, vx12) => Mem.st ⟨[], []⟩ (tl [(1, .v (.one (.d (.int .i64 vx6_1)))), (8, .v (.one (.d (.bool (decide (qx1 = 0)))))), (9, .v (.one (.d (.str qx)))), (10, .v (.one (.d (.int .u64 vx9_1)))), (11, .v (.one (.d (.int .u64 (IntKind.wrap .u64 ((ishl .u64 1 (IntKind.wrap .u64 (vx8_1))) - 1)))))), (12, .v (.one (.d (.bool vx10)))), (13, .v (.one (.d (.int .u64 vx11)))), (99, .v (.one (.d (.lst (List.map (encI .u8) (bytesD vx5_1)))))), (100, .v (.one (.d (.int .i64 ((bytesD vx5_1).length : Int))))), (101, .v (.one (.d (.int .i64 vx12))))]) 0

theorem strconv_ParseUint_x9_ok (qx : List UInt8) (qx1 : Int) (vx5_1 : List UInt8) (vx6_1 : Int) (vx8_1 : Int) (vx9_1 : Int) (s : Bool × Int × Int) (r : (Bool × Int × Int) ⊕ ((Bool × Int))) (hF : strconv_ParseUint_x9 qx1 vx5_1 vx6_1 vx8_1 vx9_1 s = some r) : Awp prog 0 172 (cL (cL (cR (cL (cR (cR (cR (cR (cR (cR (cR (cR (cR (cR (cR (cB f222)))))))))))))))) (Out 0 (kk strconv_ParseUint_x9_k) (SS (strconv_ParseUint_x9_H qx qx1 vx5_1 vx6_1 vx8_1 vx9_1) (strconv_ParseUint_x9_S qx qx1 vx5_1 vx6_1 vx8_1 vx9_1)) r) (strconv_ParseUint_x9_H qx qx1 vx5_1 vx6_1 vx8_1 vx9_1 s) := by
  obtain ⟨vx10, vx11, vx12⟩ := s
  unfold strconv_ParseUint_x9 at hF
  refine awp_seq ?_
  refine awp_region ?_
  refine aR 1 ?_
  refine aE ?_
  refine awp_seq ?_
  refine cE hF (fun h41 hF => ?_) fun h41 hF => ?_
  · refine awp_true (by kernel_rfl) h41 ?_
    refine awp_skip ?_
    refine awp_seq ?_
    refine awp_to (st' := strconv_ParseUint_x10_I qx qx1 vx5_1 vx6_1 vx8_1 vx9_1 vx10 vx11 vx12) (oT [] []) ?_
    refine bE hF fun x h64 hF => ?_
    obtain ⟨vx25_1, vx26_1⟩ := x
    refine awp_sub (strconv_ParseUint_x10_ok qx qx1 vx5_1 vx6_1 vx8_1 vx9_1 vx10 vx11 vx12 h64) ?_
    refine awp_region ?_
    refine aR 2 ?_
    refine aE ?_
    exact oO hF [] [] rfl
  · refine awp_false (by kernel_rfl) h41 ?_
    refine awp_exit ?_
    exact oO hF [] [] rfl

def strconv_ParseUint_x16_k : Bool → AEx
  | _ => .normal

def strconv_ParseUint_x16_S (qx : List UInt8) (vx27_1 : Bool) (vx28_1 : Int) : Bool → St
  | vx29 => Mem.st ⟨[], []⟩ (tl [(13, .v (.one (.d (.int .u64 vx28_1)))), (169, .v (.one (.d (.bool vx29))))]) 0

def strconv_ParseUint_x16_I (qx : List UInt8) (vx27_1 : Bool) (vx28_1 : Int) : St := Mem.st ⟨[], []⟩ (tl [(9, .v (.one (.d (.str qx)))), (12, .v (.one (.d (.bool vx27_1)))), (13, .v (.one (.d (.int .u64 vx28_1))))]) 0

theorem strconv_ParseUint_x16_ok (qx : List UInt8) (vx27_1 : Bool) (vx28_1 : Int) {r} (hF : strconv_ParseUint_x16 qx vx27_1 = some r) : Awp prog 0 172 (cL (cL (cR (cR (cR (cR (cR (cR (cR (cR (cR (cR (cR (cR (cB f222))))))))))))))) (Out 0 strconv_ParseUint_x16_k (strconv_ParseUint_x16_S qx vx27_1 vx28_1) r) (strconv_ParseUint_x16_I qx vx27_1 vx28_1) := by
  unfold strconv_ParseUint_x16 at hF
  refine cE hF (fun h66 hF => ?_) fun h66 hF => ?_
  · refine bE hF fun vr h67 hF => ?_
    refine awp_region ?_
    refine aB h66 ?_
    refine aR 2 ?_
    refine aC (strconv_underscoreOK_ok h67) [] [] [] ?_
    refine aR 2 ?_
    refine aE ?_
    exact oO hF [] [] rfl
  · refine awp_region ?_
    refine aB h66 ?_
    refine aR 5 ?_
    refine aE ?_
    exact oO hF [] [] rfl

def strconv_ParseUint_R (qx : List UInt8) (qx1 : Int) (qx2 : Int) (r : Int) : TV × Mem := (.tup [.one (.d (.int .u64 r)), .one (.nili)], ⟨[], []⟩)

theorem strconv_ParseUint_ok {qx : List UInt8} {qx1 : Int} {qx2 : Int} {r} (hF : strconv_ParseUint qx qx1 qx2 = some r) : Holds prog 222 [.v (.one (.d (.str qx))), .v (.one (.d (.int .i64 qx1))), .v (.one (.d (.int .i64 qx2)))] ⟨[], []⟩ (Is (strconv_ParseUint_R qx qx1 qx2 r)) := by
  unfold strconv_ParseUint at hF
  refine holds_of_awp hΓ (fn := f222) (c := cB f222) (A := 0) (nx := 0) (by kernel_rfl) (by kernel_rfl) (by kernel_rfl) (by kernel_rfl) (by kernel_rfl) (by kernel_rfl) (lowc_of (by kernel_rfl)) ?_
  show Awp prog 0 172 (cB f222) _ _
  refine awp_seq ?_
  refine awp_region ?_
  refine aR 2 ?_
  refine aE ?_
  refine awp_seq ?_
  refine awp_seq ?_
  refine awp_region ?_
  refine aR 2 ?_
  refine aE ?_
  refine cE hF (fun h1 hF => ?_) fun h1 hF => ?_
  · refine awp_true (by kernel_rfl) h1 ?_
    refine awp_seq ?_
    exact nE hF
  · refine awp_false (by kernel_rfl) h1 ?_
    refine awp_skip ?_
    refine awp_seq ?_
    refine awp_region ?_
    refine aR 3 ?_
    refine aE ?_
    refine awp_seq ?_
    refine awp_region ?_
    refine aR 2 ?_
    refine aE ?_
    refine awp_seq ?_
    refine awp_to (st' := strconv_ParseUint_x1_I qx qx1 qx2) (oT [] []) ?_
    refine bE hF fun x h29 hF => ?_
    obtain ⟨vx5_1, vx6_1⟩ := x
    refine awp_sub (strconv_ParseUint_x1_ok qx qx1 qx2 h29) ?_
    refine awp_seq ?_
    refine awp_to (st' := strconv_ParseUint_x6_I qx qx1 qx2 vx5_1 vx6_1) (oT [] []) ?_
    refine bE hF fun vx8_1 h35 hF => ?_
    refine awp_sub (strconv_ParseUint_x6_ok qx qx1 qx2 vx5_1 vx6_1 h35) ?_
    refine awp_seq ?_
    refine awp_region ?_
    refine aR 1 ?_
    refine aE ?_
    refine awp_seq ?_
    refine awp_to (st' := strconv_ParseUint_x8_I qx qx1 vx5_1 vx6_1 vx8_1) (oT [] []) ?_
    refine bE hF fun vx9_1 h39 hF => ?_
    refine awp_sub (strconv_ParseUint_x8_ok qx qx1 vx5_1 vx6_1 vx8_1 h39) ?_
    refine awp_seq ?_
    refine gE hF fun h40 hF => ?_
    refine awp_region ?_
    refine aR 2 ?_
    refine aX (x_shl h40) ?_
    refine aR 2 ?_
    refine aE ?_
    refine awp_seq ?_
    refine awp_region ?_
    refine aR 1 ?_
    refine aE ?_
    refine awp_seq ?_
    refine awp_region ?_
    refine aR 1 ?_
    refine aE ?_
    refine awp_seq ?_
    refine awp_seq ?_
    refine awp_region ?_
    refine aR 1 ?_
    refine aBs (s := vx5_1) rfl ?_
    refine aL (encI .u8) (bytesD vx5_1) ?_
    refine aR 1 ?_
    refine aE ?_
    refine awp_block ?_
    refine awp_to (st' := strconv_ParseUint_x9_H qx qx1 vx5_1 vx6_1 vx8_1 vx9_1 (false, 0, 0)) (oT [] []) ?_
    refine bE hF fun x h65 hF => ?_
    obtain ⟨vx27_1, vx28_1⟩ := x
    refine awp_sub (awp_loop' (strconv_ParseUint_x9_H qx qx1 vx5_1 vx6_1 vx8_1 vx9_1) strconv_ParseUint_x9_k (strconv_ParseUint_x9_S qx qx1 vx5_1 vx6_1 vx8_1 vx9_1) (by intro x; exact fun h => nomatch h) h65 (strconv_ParseUint_x9_ok qx qx1 vx5_1 vx6_1 vx8_1 vx9_1)) ?_
    refine awp_seq ?_
    refine awp_seq ?_
    refine awp_to (st' := strconv_ParseUint_x16_I qx vx27_1 vx28_1) (oT [] []) ?_
    refine bE hF fun vx29_1 h68 hF => ?_
    refine awp_sub (strconv_ParseUint_x16_ok qx vx27_1 vx28_1 h68) ?_
    refine cE hF (fun h69 hF => ?_) fun h69 hF => ?_
    · refine awp_true (by kernel_rfl) h69 ?_
      refine awp_seq ?_
      exact nE hF
    · refine awp_false (by kernel_rfl) h69 ?_
      refine awp_skip ?_
      refine awp_seq ?_
      refine awp_region ?_
      refine aR 3 ?_
      refine aE ?_
      refine awp_ret ?_
      exact oF hF [] []

/-! ### internal/strconv.ParseInt -/
def strconv_ParseInt_x1_k : ((List UInt8) × Bool) → AEx
  | _ => .normal

def strconv_ParseInt_x1_S (qx : List UInt8) (qx1 : Int) (qx2 : Int) : ((List UInt8) × Bool) → St
  | (vx, vx1) => Mem.st ⟨[], []⟩ (tl [(0, .v (.one (.d (.str vx)))), (1, .v (.one (.d (.int .i64 qx1)))), (2, .v (.one (.d (.int .i64 qx2)))), (8, .v (.one (.d (.bool vx1))))]) 0

def strconv_ParseInt_x1_I (qx : List UInt8) (qx1 : Int) (qx2 : Int) : St := Mem.st ⟨[], []⟩ (tl [(0, .v (.one (.d (.str qx)))), (1, .v (.one (.d (.int .i64 qx1)))), (2, .v (.one (.d (.int .i64 qx2)))), (8, .v (.one (.d (.bool false))))]) 0

theorem strconv_ParseInt_x1_ok (qx : List UInt8) (qx1 : Int) (qx2 : Int) {r} (hF : strconv_ParseInt_x1 qx = some r) : Awp prog 0 73 (cL (cR (cR (cR (cB f206))))) (Out 0 strconv_ParseInt_x1_k (strconv_ParseInt_x1_S qx qx1 qx2) r) (strconv_ParseInt_x1_I qx qx1 qx2) := by
  unfold strconv_ParseInt_x1 at hF
  refine awp_seq ?_
  refine bE hF fun vc h3 hF => ?_
  refine awp_region ?_
  refine aR 1 ?_
  refine aX (x_idxS h3) ?_
  refine aE ?_
  refine awp_block ?_
  refine awp_seq ?_
  refine awp_region ?_
  refine aR 2 ?_
  refine aE ?_
  refine cE hF (fun h4 hF => ?_) fun h4 hF => ?_
  · refine awp_true (by kernel_rfl) h4 ?_
    refine bE hF fun vs h5 hF => ?_
    refine awp_region ?_
    refine aR 1 ?_
    refine aX (x_sliceS h5) ?_
    refine aR 1 ?_
    refine aE ?_
    exact oO hF [] [] rfl
  · refine awp_false (by kernel_rfl) h4 ?_
    refine awp_seq ?_
    refine awp_region ?_
    refine aR 2 ?_
    refine aE ?_
    refine cE hF (fun h6 hF => ?_) fun h6 hF => ?_
    · refine awp_true (by kernel_rfl) h6 ?_
      refine awp_seq ?_
      refine bE hF fun vs1 h7 hF => ?_
      refine awp_region ?_
      refine aR 1 ?_
      refine aX (x_sliceS h7) ?_
      refine aR 1 ?_
      refine aE ?_
      refine awp_region ?_
      refine aR 1 ?_
      refine aE ?_
      exact oO hF [] [] rfl
    · refine awp_false (by kernel_rfl) h6 ?_
      refine awp_skip ?_
      exact oO hF [] [] rfl

def strconv_ParseInt_x2_k : Int → AEx
  | _ => .normal

def strconv_ParseInt_x2_S (qx2 : Int) (vx1_1 : Bool) (vr1 : Int) : Int → St
  | vx3 => Mem.st ⟨[], []⟩ (tl [(2, .v (.one (.d (.int .i64 vx3)))), (8, .v (.one (.d (.bool vx1_1)))), (9, .v (.one (.d (.int .u64 vr1))))]) 0

def strconv_ParseInt_x2_I (qx2 : Int) (vx1_1 : Bool) (vr1 : Int) : St := Mem.st ⟨[], []⟩ (tl [(2, .v (.one (.d (.int .i64 qx2)))), (8, .v (.one (.d (.bool vx1_1)))), (9, .v (.one (.d (.int .u64 vr1))))]) 0

theorem strconv_ParseInt_x2_ok (qx2 : Int) (vx1_1 : Bool) (vr1 : Int) {r} (hF : strconv_ParseInt_x2 qx2 = some r) : Awp prog 0 73 (cL (cR (cR (cR (cR (cR (cR (cR (cB f206))))))))) (Out 0 strconv_ParseInt_x2_k (strconv_ParseInt_x2_S qx2 vx1_1 vr1) r) (strconv_ParseInt_x2_I qx2 vx1_1 vr1) := by
  unfold strconv_ParseInt_x2 at hF
  refine awp_seq ?_
  refine awp_region ?_
  refine aR 2 ?_
  refine aE ?_
  refine cE hF (fun h10 hF => ?_) fun h10 hF => ?_
  · refine awp_true (by kernel_rfl) h10 ?_
    refine awp_region ?_
    refine aR 1 ?_
    refine aE ?_
    exact oO hF [] [] rfl
  · refine awp_false (by kernel_rfl) h10 ?_
    refine awp_skip ?_
    exact oO hF [] [] rfl

def strconv_ParseInt_x3_k : Bool → AEx
  | _ => .normal

def strconv_ParseInt_x3_S (vx1_1 : Bool) (vr1 : Int) (vx3_1 : Int) : Bool → St
  | vx4 => Mem.st ⟨[], []⟩ (tl [(8, .v (.one (.d (.bool vx1_1)))), (9, .v (.one (.d (.int .u64 vr1)))), (10, .v (.one (.d (.int .u64 (ishl .u64 1 (IntKind.wrap .u64 (IntKind.wrap .i64 (vx3_1 - 1)))))))), (52, .v (.one (.d (.bool vx4))))]) 0

def strconv_ParseInt_x3_I (vx1_1 : Bool) (vr1 : Int) (vx3_1 : Int) : St := Mem.st ⟨[], []⟩ (tl [(8, .v (.one (.d (.bool vx1_1)))), (9, .v (.one (.d (.int .u64 vr1)))), (10, .v (.one (.d (.int .u64 (ishl .u64 1 (IntKind.wrap .u64 (IntKind.wrap .i64 (vx3_1 - 1))))))))]) 0

theorem strconv_ParseInt_x3_ok (vx1_1 : Bool) (vr1 : Int) (vx3_1 : Int) {r} (hF : strconv_ParseInt_x3 vx1_1 vr1 vx3_1 = some r) : Awp prog 0 73 (cL (cL (cR (cR (cR (cR (cR (cR (cR (cR (cR (cB f206)))))))))))) (Out 0 strconv_ParseInt_x3_k (strconv_ParseInt_x3_S vx1_1 vr1 vx3_1) r) (strconv_ParseInt_x3_I vx1_1 vr1 vx3_1) := by
  unfold strconv_ParseInt_x3 at hF
  refine cE hF (fun h13 hF => ?_) fun h13 hF => ?_
  · refine awp_region ?_
    refine aR 1 ?_
    refine aB h13 ?_
    refine aR 5 ?_
    refine aE ?_
    exact oO hF [] [] rfl
  · refine awp_region ?_
    refine aR 1 ?_
    refine aB h13 ?_
    refine aR 5 ?_
    refine aE ?_
    exact oO hF [] [] rfl

def strconv_ParseInt_x4_k : Bool → AEx
  | _ => .normal

def strconv_ParseInt_x4_S (vx1_1 : Bool) (vr1 : Int) (vx3_1 : Int) : Bool → St
  | vx5 => Mem.st ⟨[], []⟩ (tl [(8, .v (.one (.d (.bool vx1_1)))), (9, .v (.one (.d (.int .u64 vr1)))), (10, .v (.one (.d (.int .u64 (ishl .u64 1 (IntKind.wrap .u64 (IntKind.wrap .i64 (vx3_1 - 1)))))))), (62, .v (.one (.d (.bool vx5))))]) 0

def strconv_ParseInt_x4_I (vx1_1 : Bool) (vr1 : Int) (vx3_1 : Int) : St := Mem.st ⟨[], []⟩ (tl [(8, .v (.one (.d (.bool vx1_1)))), (9, .v (.one (.d (.int .u64 vr1)))), (10, .v (.one (.d (.int .u64 (ishl .u64 1 (IntKind.wrap .u64 (IntKind.wrap .i64 (vx3_1 - 1))))))))]) 0

theorem strconv_ParseInt_x4_ok (vx1_1 : Bool) (vr1 : Int) (vx3_1 : Int) {r} (hF : strconv_ParseInt_x4 vx1_1 vr1 vx3_1 = some r) : Awp prog 0 73 (cL (cL (cR (cR (cR (cR (cR (cR (cR (cR (cR (cR (cB f206))))))))))))) (Out 0 strconv_ParseInt_x4_k (strconv_ParseInt_x4_S vx1_1 vr1 vx3_1) r) (strconv_ParseInt_x4_I vx1_1 vr1 vx3_1) := by
  unfold strconv_ParseInt_x4 at hF
  refine cE hF (fun h17 hF => ?_) fun h17 hF => ?_
  · refine awp_region ?_
    refine aB h17 ?_
    refine aR 5 ?_
    refine aE ?_
    exact oO hF [] [] rfl
  · refine awp_region ?_
    refine aB h17 ?_
    refine aR 5 ?_
    refine aE ?_
    exact oO hF [] [] rfl

def strconv_ParseInt_x5_k : Int → AEx
  | _ => .normal

def strconv_ParseInt_x5_S (vx1_1 : Bool) (vr1 : Int) : Int → St
  | vx6 => Mem.st ⟨[], []⟩ (tl [(11, .v (.one (.d (.int .i64 vx6))))]) 0

def strconv_ParseInt_x5_I (vx1_1 : Bool) (vr1 : Int) : St := Mem.st ⟨[], []⟩ (tl [(8, .v (.one (.d (.bool vx1_1)))), (11, .v (.one (.d (.int .i64 (IntKind.wrap .i64 (vr1))))))]) 0

theorem strconv_ParseInt_x5_ok (vx1_1 : Bool) (vr1 : Int) {r} (hF : strconv_ParseInt_x5 vx1_1 vr1 = some r) : Awp prog 0 73 (cL (cR (cR (cR (cR (cR (cR (cR (cR (cR (cR (cR (cR (cB f206)))))))))))))) (Out 0 strconv_ParseInt_x5_k (strconv_ParseInt_x5_S vx1_1 vr1) r) (strconv_ParseInt_x5_I vx1_1 vr1) := by
  unfold strconv_ParseInt_x5 at hF
  refine awp_seq ?_
  refine awp_region ?_
  refine aR 1 ?_
  refine aE ?_
  refine cE hF (fun h21 hF => ?_) fun h21 hF => ?_
  · refine awp_true (by kernel_rfl) h21 ?_
    refine awp_region ?_
    refine aR 3 ?_
    refine aE ?_
    exact oO hF [] [] rfl
  · refine awp_false (by kernel_rfl) h21 ?_
    refine awp_skip ?_
    exact oO hF [] [] rfl

def strconv_ParseInt_R (qx : List UInt8) (qx1 : Int) (qx2 : Int) (r : Int) : TV × Mem := (.tup [.one (.d (.int .i64 r)), .one (.nili)], ⟨[], []⟩)

theorem strconv_ParseInt_ok {qx : List UInt8} {qx1 : Int} {qx2 : Int} {r} (hF : strconv_ParseInt qx qx1 qx2 = some r) : Holds prog 206 [.v (.one (.d (.str qx))), .v (.one (.d (.int .i64 qx1))), .v (.one (.d (.int .i64 qx2)))] ⟨[], []⟩ (Is (strconv_ParseInt_R qx qx1 qx2 r)) := by
  unfold strconv_ParseInt at hF
  refine holds_of_awp hΓ (fn := f206) (c := cB f206) (A := 0) (nx := 0) (by kernel_rfl) (by kernel_rfl) (by kernel_rfl) (by kernel_rfl) (by kernel_rfl) (by kernel_rfl) (lowc_of (by kernel_rfl)) ?_
  show Awp prog 0 73 (cB f206) _ _
  refine awp_seq ?_
  refine awp_region ?_
  refine aR 2 ?_
  refine aE ?_
  refine awp_seq ?_
  refine awp_seq ?_
  refine awp_region ?_
  refine aR 2 ?_
  refine aE ?_
  refine cE hF (fun h1 hF => ?_) fun h1 hF => ?_
  · refine awp_true (by kernel_rfl) h1 ?_
    refine awp_seq ?_
    exact nE hF
  · refine awp_false (by kernel_rfl) h1 ?_
    refine awp_skip ?_
    refine awp_seq ?_
    refine awp_region ?_
    refine aR 1 ?_
    refine aE ?_
    refine awp_seq ?_
    refine awp_to (st' := strconv_ParseInt_x1_I qx qx1 qx2) (oT [] []) ?_
    refine bE hF fun x h8 hF => ?_
    obtain ⟨vx2, vx1_1⟩ := x
    refine awp_sub (strconv_ParseInt_x1_ok qx qx1 qx2 h8) ?_
    refine awp_seq ?_
    refine awp_region ?_
    refine aR 1 ?_
    refine aE ?_
    refine awp_seq ?_
    refine bE hF fun vr1 h9 hF => ?_
    refine awp_region ?_
    refine aR 3 ?_
    refine aC (strconv_ParseUint_ok h9) [] [] [] ?_
    refine aR 5 ?_
    refine aE ?_
    refine awp_seq ?_
    refine awp_seq ?_
    refine awp_region ?_
    refine aR 1 ?_
    refine aS (does_nilI (op := .neq) (c := false) rfl (.inr ⟨rfl, rfl⟩) (by kernel_rfl) (by kernel_rfl)) ?_
    refine aR 5 ?_
    refine aE ?_
    refine awp_false (by kernel_rfl) rfl ?_
    refine awp_skip ?_
    refine awp_seq ?_
    refine awp_to (st' := strconv_ParseInt_x2_I qx2 vx1_1 vr1) (oT [] []) ?_
    refine bE hF fun vx3_1 h11 hF => ?_
    refine awp_sub (strconv_ParseInt_x2_ok qx2 vx1_1 vr1 h11) ?_
    refine awp_seq ?_
    refine gE hF fun h12 hF => ?_
    refine awp_region ?_
    refine aR 3 ?_
    refine aX (x_shl h12) ?_
    refine aR 1 ?_
    refine aE ?_
    refine awp_seq ?_
    refine awp_seq ?_
    refine awp_to (st' := strconv_ParseInt_x3_I vx1_1 vr1 vx3_1) (oT [] []) ?_
    refine bE hF fun vx4_1 h14 hF => ?_
    refine awp_sub (strconv_ParseInt_x3_ok vx1_1 vr1 vx3_1 h14) ?_
    refine cE hF (fun h15 hF => ?_) fun h15 hF => ?_
    · refine awp_true (by kernel_rfl) h15 ?_
      refine awp_seq ?_
      exact nE hF
    · refine awp_false (by kernel_rfl) h15 ?_
      refine awp_skip ?_
      refine awp_seq ?_
      refine awp_seq ?_
      refine awp_to (st' := strconv_ParseInt_x4_I vx1_1 vr1 vx3_1) (oT [] []) ?_
      refine bE hF fun vx5_1 h18 hF => ?_
      refine awp_sub (strconv_ParseInt_x4_ok vx1_1 vr1 vx3_1 h18) ?_
      refine cE hF (fun h19 hF => ?_) fun h19 hF => ?_
      · refine awp_true (by kernel_rfl) h19 ?_
        refine awp_seq ?_
        exact nE hF
      · refine awp_false (by kernel_rfl) h19 ?_
        refine awp_skip ?_
        refine awp_seq ?_
        refine awp_region ?_
        refine aR 3 ?_
        refine aE ?_
        refine awp_seq ?_
        refine awp_to (st' := strconv_ParseInt_x5_I vx1_1 vr1) (oT [] []) ?_
        refine bE hF fun vx6_1 h22 hF => ?_
        refine awp_sub (strconv_ParseInt_x5_ok vx1_1 vr1 h22) ?_
        refine awp_seq ?_
        refine awp_region ?_
        refine aR 3 ?_
        refine aE ?_
        refine awp_ret ?_
        exact oF hF [] []

/-! ### internal/strconv.Atoi -/
def strconv_Atoi_2_x1_k : Bool → AEx
  | _ => .normal

def strconv_Atoi_2_x1_S (qx : List UInt8) : Bool → St
  | vx => Mem.st ⟨[], []⟩ (tl [(0, .v (.one (.d (.str qx)))), (30, .v (.one (.d (.bool vx))))]) 0

def strconv_Atoi_2_x1_I (qx : List UInt8) : St := Mem.st ⟨[], []⟩ (tl [(0, .v (.one (.d (.str qx)))), (4, .v (.one (.d (.int .i64 (qx.length : Int)))))]) 0

theorem strconv_Atoi_2_x1_ok (qx : List UInt8) {r} (hF : strconv_Atoi_2_x1 qx = some r) : Awp prog 0 77 (cL (cL (cR (cR (cB f183))))) (Out 0 strconv_Atoi_2_x1_k (strconv_Atoi_2_x1_S qx) r) (strconv_Atoi_2_x1_I qx) := by
  unfold strconv_Atoi_2_x1 at hF
  refine cE hF (fun h1 hF => ?_) fun h1 hF => ?_
  · refine awp_region ?_
    refine aR 11 ?_
    refine aB h1 ?_
    refine aR 6 ?_
    refine aE ?_
    exact oO hF [] [] rfl
  · refine awp_region ?_
    refine aR 11 ?_
    refine aB h1 ?_
    refine aR 6 ?_
    refine aE ?_
    exact oO hF [] [] rfl

def strconv_Atoi_2_x3_k : Bool → AEx
  | _ => .normal

def strconv_Atoi_2_x3_S (qx : List UInt8) : Bool → St
  | vx2 => Mem.st ⟨[], []⟩ (tl [(0, .v (.one (.d (.str qx)))), (5, .v (.one (.d (.str qx)))), (39, .v (.one (.d (.bool vx2))))]) 0

def strconv_Atoi_2_x3_I (qx : List UInt8) : St := Mem.st ⟨[], []⟩ (tl [(0, .v (.one (.d (.str qx)))), (5, .v (.one (.d (.str qx))))]) 0

theorem strconv_Atoi_2_x3_ok (qx : List UInt8) {r} (hF : strconv_Atoi_2_x3 qx = some r) : Awp prog 0 77 (cL (cL (cR (cL (cR (cL (cR (cR (cB f183))))))))) (Out 0 strconv_Atoi_2_x3_k (strconv_Atoi_2_x3_S qx) r) (strconv_Atoi_2_x3_I qx) := by
  unfold strconv_Atoi_2_x3 at hF
  refine bE hF fun vc h4 hF => ?_
  refine cE hF (fun h5 hF => ?_) fun h5 hF => ?_
  · refine awp_region ?_
    refine aR 1 ?_
    refine aX (x_idxS h4) ?_
    refine aB h5 ?_
    refine aR 5 ?_
    refine aE ?_
    exact oO hF [] [] rfl
  · refine awp_region ?_
    refine aR 1 ?_
    refine aX (x_idxS h4) ?_
    refine aB h5 ?_
    refine aR 2 ?_
    refine aX (x_idxS h4) ?_
    refine aR 2 ?_
    refine aE ?_
    exact oO hF [] [] rfl

def strconv_Atoi_2_x2_k : (List UInt8) → AEx
  | _ => .normal

def strconv_Atoi_2_x2_S (qx : List UInt8) : (List UInt8) → St
  | vx3 => Mem.st ⟨[], []⟩ (tl [(0, .v (.one (.d (.str vx3)))), (5, .v (.one (.d (.str qx))))]) 0

def strconv_Atoi_2_x2_I (qx : List UInt8) : St := Mem.st ⟨[], []⟩ (tl [(0, .v (.one (.d (.str qx)))), (5, .v (.one (.d (.str qx))))]) 0

theorem strconv_Atoi_2_x2_ok (qx : List UInt8) {r} (hF : strconv_Atoi_2_x2 qx = some r) : Awp prog 0 77 (cL (cR (cL (cR (cL (cR (cR (cB f183)))))))) (Out 0 strconv_Atoi_2_x2_k (strconv_Atoi_2_x2_S qx) r) (strconv_Atoi_2_x2_I qx) := by
  unfold strconv_Atoi_2_x2 at hF
  refine awp_seq ?_
  refine awp_to (st' := strconv_Atoi_2_x3_I qx) (oT [] []) ?_
  refine bE hF fun vx2_1 h6 hF => ?_
  refine awp_sub (strconv_Atoi_2_x3_ok qx h6) ?_
  refine cE hF (fun h7 hF => ?_) fun h7 hF => ?_
  · refine awp_true (by kernel_rfl) h7 ?_
    refine awp_seq ?_
    refine bE hF fun vs h8 hF => ?_
    refine awp_region ?_
    refine aR 1 ?_
    refine aX (x_sliceS h8) ?_
    refine aR 1 ?_
    refine aE ?_
    refine awp_seq ?_
    refine awp_region ?_
    refine aR 3 ?_
    refine aE ?_
    refine cE hF (fun h9 hF => ?_) fun h9 hF => ?_
    · refine awp_true (by kernel_rfl) h9 ?_
      refine awp_seq ?_
      exact nE hF
    · refine awp_false (by kernel_rfl) h9 ?_
      refine awp_skip ?_
      exact oO hF [] [] rfl
  · refine awp_false (by kernel_rfl) h7 ?_
    refine awp_skip ?_
    exact oO hF [] [] rfl

def strconv_Atoi_2_x4_k : Int → AEx
  | _ => .exit 0

def strconv_Atoi_2_x4_S (qx : List UInt8) (vx3_1 : List UInt8) : Int → St
  | vx6 => Mem.st ⟨[], []⟩ (tl [(5, .v (.one (.d (.str qx)))), (6, .v (.one (.d (.int .i64 vx6))))]) 0

def strconv_Atoi_2_x4_H (qx : List UInt8) (vx3_1 : List UInt8) : Int × Int → St
  | (vx4, vx5) => Mem.st ⟨[], []⟩ (tl [(5, .v (.one (.d (.str qx)))), (6, .v (.one (.d (.int .i64 vx4)))), (47, .v (.one (.d (.lst (List.map (encI .u8) (bytesD vx3_1)))))), (48, .v (.one (.d (.int .i64 ((bytesD vx3_1).length : Int))))), (49, .v (.one (.d (.int .i64 vx5))))]) 0

theorem strconv_Atoi_2_x4_ok (qx : List UInt8) (vx3_1 : List UInt8) (s : Int × Int) (r : (Int × Int) ⊕ (Int)) (hF : strconv_Atoi_2_x4 vx3_1 s = some r) : Awp prog 0 77 (cL (cL (cR (cL (cR (cR (cR (cL (cR (cL (cR (cR (cB f183))))))))))))) (Out 0 (kk strconv_Atoi_2_x4_k) (SS (strconv_Atoi_2_x4_H qx vx3_1) (strconv_Atoi_2_x4_S qx vx3_1)) r) (strconv_Atoi_2_x4_H qx vx3_1 s) := by
  obtain ⟨vx4, vx5⟩ := s
  unfold strconv_Atoi_2_x4 at hF
  refine awp_seq ?_
  refine awp_region ?_
  refine aR 1 ?_
  refine aE ?_
  refine awp_seq ?_
  refine cE hF (fun h12 hF => ?_) fun h12 hF => ?_
  · refine awp_true (by kernel_rfl) h12 ?_
    refine awp_skip ?_
    refine awp_seq ?_
    refine awp_block ?_
    refine awp_seq ?_
    refine bE hF fun vy1 h13 hF => ?_
    refine awp_region ?_
    refine aX (x_idx (encI .u8) h13) ?_
    refine aR 2 ?_
    refine aE ?_
    refine awp_seq ?_
    refine awp_region ?_
    refine aR 3 ?_
    refine aE ?_
    refine awp_seq ?_
    refine awp_seq ?_
    refine awp_region ?_
    refine aR 2 ?_
    refine aE ?_
    refine cE hF (fun h14 hF => ?_) fun h14 hF => ?_
    · refine awp_true (by kernel_rfl) h14 ?_
      refine awp_seq ?_
      exact nE hF
    · refine awp_false (by kernel_rfl) h14 ?_
      refine awp_skip ?_
      refine awp_region ?_
      refine aR 6 ?_
      refine aE ?_
      refine awp_region ?_
      refine aR 2 ?_
      refine aE ?_
      exact oO hF [] [] rfl
  · refine awp_false (by kernel_rfl) h12 ?_
    refine awp_exit ?_
    exact oO hF [] [] rfl

def strconv_Atoi_2_x5_k : Int → AEx
  | _ => .normal

def strconv_Atoi_2_x5_S (qx : List UInt8) (vx6_1 : Int) : Int → St
  | vx7 => Mem.st ⟨[], []⟩ (tl [(6, .v (.one (.d (.int .i64 vx7))))]) 0

def strconv_Atoi_2_x5_I (qx : List UInt8) (vx6_1 : Int) : St := Mem.st ⟨[], []⟩ (tl [(5, .v (.one (.d (.str qx)))), (6, .v (.one (.d (.int .i64 vx6_1))))]) 0

theorem strconv_Atoi_2_x5_ok (qx : List UInt8) (vx6_1 : Int) {r} (hF : strconv_Atoi_2_x5 qx vx6_1 = some r) : Awp prog 0 77 (cL (cR (cR (cR (cR (cL (cR (cL (cR (cR (cB f183))))))))))) (Out 0 strconv_Atoi_2_x5_k (strconv_Atoi_2_x5_S qx vx6_1) r) (strconv_Atoi_2_x5_I qx vx6_1) := by
  unfold strconv_Atoi_2_x5 at hF
  refine awp_seq ?_
  refine bE hF fun vc1 h17 hF => ?_
  refine awp_region ?_
  refine aR 1 ?_
  refine aX (x_idxS h17) ?_
  refine aR 1 ?_
  refine aE ?_
  refine cE hF (fun h18 hF => ?_) fun h18 hF => ?_
  · refine awp_true (by kernel_rfl) h18 ?_
    refine awp_region ?_
    refine aR 3 ?_
    refine aE ?_
    exact oO hF [] [] rfl
  · refine awp_false (by kernel_rfl) h18 ?_
    refine awp_skip ?_
    exact oO hF [] [] rfl

def strconv_Atoi_2_R (qx : List UInt8) (r : Int) : TV × Mem := (.tup [.one (.d (.int .i64 r)), .one (.nili)], ⟨[], []⟩)

theorem strconv_Atoi_2_ok {qx : List UInt8} {r} (hF : strconv_Atoi_2 qx = some r) : Holds prog 183 [.v (.one (.d (.str qx)))] ⟨[], []⟩ (Is (strconv_Atoi_2_R qx r)) := by
  unfold strconv_Atoi_2 at hF
  refine holds_of_awp hΓ (fn := f183) (c := cB f183) (A := 0) (nx := 0) (by kernel_rfl) (by kernel_rfl) (by kernel_rfl) (by kernel_rfl) (by kernel_rfl) (by kernel_rfl) (lowc_of (by kernel_rfl)) ?_
  show Awp prog 0 77 (cB f183) _ _
  refine awp_seq ?_
  refine awp_region ?_
  refine aR 2 ?_
  refine aE ?_
  refine awp_seq ?_
  refine awp_region ?_
  refine aR 3 ?_
  refine aE ?_
  refine awp_seq ?_
  refine awp_seq ?_
  refine awp_to (st' := strconv_Atoi_2_x1_I qx) (oT [] []) ?_
  refine bE hF fun vx1 h2 hF => ?_
  refine awp_sub (strconv_Atoi_2_x1_ok qx h2) ?_
  refine cE hF (fun h3 hF => ?_) fun h3 hF => ?_
  · refine awp_true (by kernel_rfl) h3 ?_
    refine awp_seq ?_
    refine awp_region ?_
    refine aR 2 ?_
    refine aE ?_
    refine awp_seq ?_
    refine awp_to (st' := strconv_Atoi_2_x2_I qx) (oT [] []) ?_
    refine bE hF fun vx3_1 h11 hF => ?_
    refine awp_sub (strconv_Atoi_2_x2_ok qx h11) ?_
    refine awp_seq ?_
    refine awp_region ?_
    refine aR 1 ?_
    refine aE ?_
    refine awp_seq ?_
    refine awp_seq ?_
    refine awp_region ?_
    refine aR 1 ?_
    refine aBs (s := vx3_1) rfl ?_
    refine aL (encI .u8) (bytesD vx3_1) ?_
    refine aR 1 ?_
    refine aE ?_
    refine awp_block ?_
    refine awp_to (st' := strconv_Atoi_2_x4_H qx vx3_1 (0, 0)) (oT [] []) ?_
    refine bE hF fun vx6_1 h16 hF => ?_
    refine awp_sub (awp_loop' (strconv_Atoi_2_x4_H qx vx3_1) strconv_Atoi_2_x4_k (strconv_Atoi_2_x4_S qx vx3_1) (by intro x; exact fun h => nomatch h) h16 (strconv_Atoi_2_x4_ok qx vx3_1)) ?_
    refine awp_seq ?_
    refine awp_to (st' := strconv_Atoi_2_x5_I qx vx6_1) (oT [] []) ?_
    refine bE hF fun vx7_1 h19 hF => ?_
    refine awp_sub (strconv_Atoi_2_x5_ok qx vx6_1 h19) ?_
    refine awp_seq ?_
    refine awp_region ?_
    refine aR 3 ?_
    refine aE ?_
    refine awp_ret ?_
    exact oF hF [] []
  · refine awp_false (by kernel_rfl) h3 ?_
    refine awp_skip ?_
    refine awp_seq ?_
    refine bE hF fun vr h20 hF => ?_
    refine awp_region ?_
    refine aR 1 ?_
    refine aC (strconv_ParseInt_ok h20) [] [] [] ?_
    refine aR 5 ?_
    refine aE ?_
    refine awp_seq ?_
    refine awp_region ?_
    refine aR 4 ?_
    refine aE ?_
    refine awp_ret ?_
    exact oF hF [] []

/-! ### strconv.Atoi -/
def strconv_Atoi_R (qs : List UInt8) (r : Int) : TV × Mem := (.tup [.one (.d (.int .i64 r)), .one (.nili)], ⟨[], []⟩)

theorem strconv_Atoi_ok {qs : List UInt8} {r} (hF : strconv_Atoi qs = some r) : Holds prog 158 [.v (.one (.d (.str qs)))] ⟨[], []⟩ (Is (strconv_Atoi_R qs r)) := by
  unfold strconv_Atoi at hF
  refine holds_of_awp hΓ (fn := f158) (c := cB f158) (A := 0) (nx := 0) (by kernel_rfl) (by kernel_rfl) (by kernel_rfl) (by kernel_rfl) (by kernel_rfl) (by kernel_rfl) (lowc_of (by kernel_rfl)) ?_
  show Awp prog 0 18 (cB f158) _ _
  refine awp_seq ?_
  refine awp_region ?_
  refine aR 2 ?_
  refine aE ?_
  refine awp_seq ?_
  refine bE hF fun vr1 h1 hF => ?_
  refine awp_region ?_
  refine aR 1 ?_
  refine aC (strconv_Atoi_2_ok h1) [] [] [] ?_
  refine aR 5 ?_
  refine aE ?_
  refine awp_seq ?_
  refine awp_seq ?_
  refine awp_region ?_
  refine aR 1 ?_
  refine aS (does_nilI (op := .neq) (c := false) rfl (.inr ⟨rfl, rfl⟩) (by kernel_rfl) (by kernel_rfl)) ?_
  refine aE ?_
  refine awp_false (by kernel_rfl) rfl ?_
  refine awp_skip ?_
  refine awp_seq ?_
  refine awp_region ?_
  refine aR 3 ?_
  refine aE ?_
  refine awp_ret ?_
  exact oF hF [] []

/-! ### beaconfleet/base.Number -/
def base_Number_x1_k : Bool → AEx
  | _ => .normal

def base_Number_x1_S (qs : List UInt8) (qdigits : Int) (vr : List UInt8) : Bool → St
  | vx => Mem.st ⟨[], []⟩ (tl [(0, .v (.one (.d (.str qs)))), (6, .v (.one (.d (.str vr)))), (36, .v (.one (.d (.bool vx))))]) 0

def base_Number_x1_I (qs : List UInt8) (qdigits : Int) (vr : List UInt8) : St := Mem.st ⟨[], []⟩ (tl [(0, .v (.one (.d (.str qs)))), (1, .v (.one (.d (.int .i64 qdigits)))), (6, .v (.one (.d (.str vr))))]) 0

theorem base_Number_x1_ok (qs : List UInt8) (qdigits : Int) (vr : List UInt8) {r} (hF : base_Number_x1 qs qdigits vr = some r) : Awp prog 0 61 (cL (cL (cR (cR (cB f128))))) (Out 0 base_Number_x1_k (base_Number_x1_S qs qdigits vr) r) (base_Number_x1_I qs qdigits vr) := by
  unfold base_Number_x1 at hF
  refine cE hF (fun h2 hF => ?_) fun h2 hF => ?_
  · refine awp_region ?_
    refine aR 1 ?_
    refine aB h2 ?_
    refine aR 23 ?_
    refine aE ?_
    exact oO hF [] [] rfl
  · refine cE hF (fun h3 hF => ?_) fun h3 hF => ?_
    · refine awp_region ?_
      refine aR 1 ?_
      refine aB h2 ?_
      refine aR 4 ?_
      refine aB h3 ?_
      refine aR 18 ?_
      refine aE ?_
      exact oO hF [] [] rfl
    · refine bE hF fun vc h4 hF => ?_
      refine cE hF (fun h5 hF => ?_) fun h5 hF => ?_
      · refine cE hF (fun h6 hF => ?_) fun h6 hF => ?_
        · refine awp_region ?_
          refine aR 1 ?_
          refine aB h2 ?_
          refine aR 4 ?_
          refine aB h3 ?_
          refine aR 3 ?_
          refine aX (x_idxS h4) ?_
          refine aB h5 ?_
          refine aR 3 ?_
          refine aB h6 ?_
          refine aR 9 ?_
          refine aE ?_
          exact oO hF [] [] rfl
        · refine awp_region ?_
          refine aR 1 ?_
          refine aB h2 ?_
          refine aR 4 ?_
          refine aB h3 ?_
          refine aR 3 ?_
          refine aX (x_idxS h4) ?_
          refine aB h5 ?_
          refine aR 3 ?_
          refine aB h6 ?_
          refine aR 9 ?_
          refine aE ?_
          exact oO hF [] [] rfl
      · refine awp_region ?_
        refine aR 1 ?_
        refine aB h2 ?_
        refine aR 4 ?_
        refine aB h3 ?_
        refine aR 3 ?_
        refine aX (x_idxS h4) ?_
        refine aB h5 ?_
        refine aR 13 ?_
        refine aE ?_
        exact oO hF [] [] rfl

def base_Number_x3_k : Bool → AEx
  | _ => .normal

def base_Number_x3_S (qs : List UInt8) (vr : List UInt8) (vx2 : Int) : Bool → St
  | vx4 => Mem.st ⟨[], []⟩ (tl [(0, .v (.one (.d (.str qs)))), (6, .v (.one (.d (.str vr)))), (38, .v (.one (.d (.int .i64 (vr.length : Int))))), (39, .v (.one (.d (.int .i64 vx2)))), (51, .v (.one (.d (.bool vx4))))]) 0

def base_Number_x3_I (qs : List UInt8) (vr : List UInt8) (vx2 : Int) : St := Mem.st ⟨[], []⟩ (tl [(0, .v (.one (.d (.str qs)))), (6, .v (.one (.d (.str vr)))), (7, .v (.one (.d (.int .i64 vx2)))), (38, .v (.one (.d (.int .i64 (vr.length : Int))))), (39, .v (.one (.d (.int .i64 vx2))))]) 0

theorem base_Number_x3_ok (qs : List UInt8) (vr : List UInt8) (vx2 : Int) {r} (hF : base_Number_x3 vr vx2 = some r) : Awp prog 0 61 (cL (cR (cL (cL (cR (cR (cL (cL (cR (cL (cR (cR (cR (cB f128)))))))))))))) (Out 0 base_Number_x3_k (base_Number_x3_S qs vr vx2) r) (base_Number_x3_I qs vr vx2) := by
  unfold base_Number_x3 at hF
  refine bE hF fun vc2 h10 hF => ?_
  refine cE hF (fun h11 hF => ?_) fun h11 hF => ?_
  · refine awp_region ?_
    refine aR 2 ?_
    refine aX (x_idxS h10) ?_
    refine aB h11 ?_
    refine aR 6 ?_
    refine aE ?_
    exact oO hF [] [] rfl
  · refine awp_region ?_
    refine aR 2 ?_
    refine aX (x_idxS h10) ?_
    refine aB h11 ?_
    refine aR 3 ?_
    refine aX (x_idxS h10) ?_
    refine aR 2 ?_
    refine aE ?_
    exact oO hF [] [] rfl

def base_Number_x2_k : Unit ⊕ Unit → AEx
  | .inl _ => .exit 0
  | .inr _ => .ret

def base_Number_x2_S (qs : List UInt8) (vr : List UInt8) : Unit ⊕ Unit → St
  | .inl _ => Mem.st ⟨[], []⟩ (tl [(0, .v (.one (.d (.str qs))))]) 0
  | .inr _ => Mem.st ⟨[], []⟩ (tl [(4, .v (.one (.d (.int .i64 0)))), (5, .v (.one (.d (.bool false))))]) 0

def base_Number_x2_H (qs : List UInt8) (vr : List UInt8) : Int → St
  | vx2 => Mem.st ⟨[], []⟩ (tl [(0, .v (.one (.d (.str qs)))), (6, .v (.one (.d (.str vr)))), (38, .v (.one (.d (.int .i64 (vr.length : Int))))), (39, .v (.one (.d (.int .i64 vx2))))]) 0

theorem base_Number_x2_ok (qs : List UInt8) (vr : List UInt8) (vx2 : Int) (r : (Int) ⊕ (Unit ⊕ Unit)) (hF : base_Number_x2 vr vx2 = some r) : Awp prog 0 61 (cL (cL (cR (cL (cR (cR (cR (cB f128)))))))) (Out 0 (kk base_Number_x2_k) (SS (base_Number_x2_H qs vr) (base_Number_x2_S qs vr)) r) (base_Number_x2_H qs vr vx2) := by
  unfold base_Number_x2 at hF
  refine awp_seq ?_
  refine awp_region ?_
  refine aR 1 ?_
  refine aE ?_
  refine awp_seq ?_
  refine cE hF (fun h9 hF => ?_) fun h9 hF => ?_
  · refine awp_true (by kernel_rfl) h9 ?_
    refine awp_skip ?_
    refine awp_seq ?_
    refine awp_block ?_
    refine awp_seq ?_
    refine awp_region ?_
    refine aR 2 ?_
    refine aE ?_
    refine awp_seq ?_
    refine awp_to (st' := base_Number_x3_I qs vr vx2) (oT [] []) ?_
    refine bE hF fun vx4_1 h12 hF => ?_
    refine awp_sub (base_Number_x3_ok qs vr vx2 h12) ?_
    refine cE hF (fun h13 hF => ?_) fun h13 hF => ?_
    · refine awp_true (by kernel_rfl) h13 ?_
      refine awp_seq ?_
      refine awp_region ?_
      refine aR 2 ?_
      refine aE ?_
      refine awp_ret ?_
      exact oO hF [] [] rfl
    · refine awp_false (by kernel_rfl) h13 ?_
      refine awp_skip ?_
      refine awp_region ?_
      refine aR 2 ?_
      refine aE ?_
      exact oO hF [] [] rfl
  · refine awp_false (by kernel_rfl) h9 ?_
    refine awp_exit ?_
    exact oO hF [] [] rfl

def base_Number_R (qs : List UInt8) (qdigits : Int) (r : Int × Bool) : TV × Mem := (.tup [.one (.d (.int .i64 r.1)), .one (.d (.bool r.2))], ⟨[], []⟩)

theorem base_Number_ok {qs : List UInt8} {qdigits : Int} {r} (hF : base_Number qs qdigits = some r) : Holds prog 128 [.v (.one (.d (.str qs))), .v (.one (.d (.int .i64 qdigits)))] ⟨[], []⟩ (Is (base_Number_R qs qdigits r)) := by
  unfold base_Number at hF
  refine holds_of_awp hΓ (fn := f128) (c := cB f128) (A := 0) (nx := 0) (by kernel_rfl) (by kernel_rfl) (by kernel_rfl) (by kernel_rfl) (by kernel_rfl) (by kernel_rfl) (lowc_of (by kernel_rfl)) ?_
  show Awp prog 0 61 (cB f128) _ _
  refine awp_seq ?_
  refine awp_region ?_
  refine aR 2 ?_
  refine aE ?_
  refine awp_seq ?_
  refine bE hF fun vr h1 hF => ?_
  refine awp_region ?_
  refine aR 1 ?_
  refine aC (strings_TrimPrefix_ok h1) [] [] [] ?_
  refine aR 1 ?_
  refine aE ?_
  refine awp_seq ?_
  refine awp_seq ?_
  refine awp_to (st' := base_Number_x1_I qs qdigits vr) (oT [] []) ?_
  refine bE hF fun vx1 h7 hF => ?_
  refine awp_sub (base_Number_x1_ok qs qdigits vr h7) ?_
  refine cE hF (fun h8 hF => ?_) fun h8 hF => ?_
  · refine awp_true (by kernel_rfl) h8 ?_
    refine awp_seq ?_
    refine awp_region ?_
    refine aR 2 ?_
    refine aE ?_
    refine awp_ret ?_
    exact oF hF [] []
  · refine awp_false (by kernel_rfl) h8 ?_
    refine awp_skip ?_
    refine awp_seq ?_
    refine awp_seq ?_
    refine awp_region ?_
    refine aR 3 ?_
    refine aE ?_
    refine awp_block ?_
    refine awp_to (st' := base_Number_x2_H qs vr 0) (oT [] []) ?_
    refine bE hF fun x h14 hF => ?_
    rcases x with _ | _
    · refine awp_sub (awp_loop' (base_Number_x2_H qs vr) base_Number_x2_k (base_Number_x2_S qs vr) (by intro x; rcases x with x | x <;> exact fun h => nomatch h) h14 (base_Number_x2_ok qs vr)) ?_
      refine awp_seq ?_
      refine bE hF fun vr1 h15 hF => ?_
      refine awp_region ?_
      refine aR 1 ?_
      refine aC (strconv_Atoi_ok h15) [] [] [] ?_
      refine aR 5 ?_
      refine aE ?_
      refine awp_seq ?_
      refine aD ?_
      refine dR 2 ?_
      refine dS (U := []) (stable_nilI (op := .eql) (c := true) rfl (.inl ⟨rfl, rfl⟩) (by kernel_rfl) (by kernel_rfl)) ?_
      refine dR 2 ?_
      refine dE ?_
      refine awp_ret ?_
      exact oF hF [] []
    · refine awp_sub (awp_loop' (base_Number_x2_H qs vr) base_Number_x2_k (base_Number_x2_S qs vr) (by intro x; rcases x with x | x <;> exact fun h => nomatch h) h14 (base_Number_x2_ok qs vr)) ?_
      exact oF hF [] []

/-! ### beaconfleet/base.Numbers -/
def base_Numbers_o0_x1_k : (List Int) ⊕ Unit → AEx
  | .inl _ => .exit 0
  | .inr _ => .ret

def base_Numbers_o0_x1_S (qwords : List (List UInt8)) (qdigits : Int) : (List Int) ⊕ Unit → St
  | .inl vout1 => Mem.st ⟨[(1, ⟨3, 1, List.map (encI .i64) vout1⟩)], []⟩ (tl [(6, .v (.one (.own 1 none)))]) 2
  | .inr _ => Mem.st ⟨[], []⟩ (tl [(4, .v (.one (.nil))), (5, .v (.one (.d (.bool false))))]) 1

def base_Numbers_o0_x1_H (qwords : List (List UInt8)) (qdigits : Int) : (List Int) × Int → St
  | (vout, vx) => Mem.st ⟨[(1, ⟨3, 1, List.map (encI .i64) vout⟩)], []⟩ (tl [(1, .v (.one (.d (.int .i64 qdigits)))), (6, .v (.one (.own 1 none))), (11, .v (.one (.d (.lst (List.map encS qwords))))), (12, .v (.one (.d (.int .i64 (qwords.length : Int))))), (13, .v (.one (.d (.int .i64 vx))))]) 2

theorem base_Numbers_o0_x1_ok (qwords : List (List UInt8)) (qdigits : Int) (s : (List Int) × Int) (r : ((List Int) × Int) ⊕ ((List Int) ⊕ Unit)) (hF : base_Numbers_o0_x1 qwords qdigits s = some r) : Awp prog 1 31 (cL (cL (cR (cL (cR (cR (cB f84))))))) (Out 1 (kk base_Numbers_o0_x1_k) (SS (base_Numbers_o0_x1_H qwords qdigits) (base_Numbers_o0_x1_S qwords qdigits)) r) (base_Numbers_o0_x1_H qwords qdigits s) := by
  obtain ⟨vout, vx⟩ := s
  unfold base_Numbers_o0_x1 at hF
  refine awp_seq ?_
  refine awp_region ?_
  refine aR 1 ?_
  refine aE ?_
  refine awp_seq ?_
  refine cE hF (fun h1 hF => ?_) fun h1 hF => ?_
  · refine awp_true (by kernel_rfl) h1 ?_
    refine awp_skip ?_
    refine awp_seq ?_
    refine awp_block ?_
    refine awp_seq ?_
    refine bE hF fun vy1 h2 hF => ?_
    refine awp_region ?_
    refine aX (x_idx encS h2) ?_
    refine aR 2 ?_
    refine aE ?_
    refine awp_seq ?_
    refine bE hF fun x h3 hF => ?_
    obtain ⟨vr2_1, vr3_1⟩ := x
    refine awp_region ?_
    refine aR 2 ?_
    refine aC (base_Number_ok h3) [] [] [] ?_
    refine aR 5 ?_
    refine aE ?_
    refine awp_seq ?_
    refine awp_seq ?_
    refine awp_region ?_
    refine aR 2 ?_
    refine aE ?_
    refine cE hF (fun h4 hF => ?_) fun h4 hF => ?_
    · refine awp_true (by kernel_rfl) h4 ?_
      refine awp_seq ?_
      refine awp_region ?_
      refine aR 2 ?_
      refine aE ?_
      refine awp_ret ?_
      exact oO hF [] [] rfl
    · refine awp_false (by kernel_rfl) h4 ?_
      refine awp_skip ?_
      refine gE hF fun h5 hF => ?_
      refine awp_region ?_
      refine aR 3 ?_
      refine aX (x_app (encI .i64) 1 h5) ?_
      refine aR 1 ?_
      refine aE ?_
      refine awp_region ?_
      refine aR 2 ?_
      refine aE ?_
      exact oO hF [(1, 17002)] [] rfl
  · refine awp_false (by kernel_rfl) h1 ?_
    refine awp_exit ?_
    exact oO hF [] [] rfl

def base_Numbers_o0_R (qwords : List (List UInt8)) (qdigits : Int) (r : (List Int) × Bool) : TV × Mem := (.tup [.one (.own 1 none), .one (.d (.bool r.2))], ⟨[(1, ⟨3, 1, List.map (encI .i64) r.1⟩)], []⟩)

theorem base_Numbers_o0_ok {qwords : List (List UInt8)} {qdigits : Int} {r} (hF : base_Numbers_o0 qwords qdigits = some r) : Holds prog 84 [.v (.one (.own 0 none)), .v (.one (.d (.int .i64 qdigits)))] ⟨[(0, ⟨9, 1, List.map encS qwords⟩)], []⟩ (Is (base_Numbers_o0_R qwords qdigits r)) := by
  unfold base_Numbers_o0 at hF
  refine holds_of_awp hΓ (fn := f84) (c := cB f84) (A := 1) (nx := 1) (by kernel_rfl) (by kernel_rfl) (by kernel_rfl) (by kernel_rfl) (by kernel_rfl) (by kernel_rfl) (lowc_of (by kernel_rfl)) ?_
  show Awp prog 1 31 (cB f84) _ _
  refine awp_seq ?_
  refine awp_region ?_
  refine aR 2 ?_
  refine aE ?_
  refine awp_to (oT (m := ⟨[], []⟩) (ts := [(0, .v (.one (.d (.lst (List.map encS qwords))))), (1, .v (.one (.d (.int .i64 qdigits))))]) (nx := 1) [] []) ?_
  refine awp_seq ?_
  refine awp_region ?_
  refine aR 1 ?_
  refine aE ?_
  refine awp_seq ?_
  refine awp_seq ?_
  refine awp_region ?_
  refine aR 1 ?_
  refine aL encS qwords ?_
  refine aR 1 ?_
  refine aE ?_
  refine awp_block ?_
  refine awp_to (st' := base_Numbers_o0_x1_H qwords qdigits ([], 0)) (oT [] [1]) ?_
  refine bE hF fun x h6 hF => ?_
  rcases x with vout1_1 | _
  · refine awp_sub (awp_loop' (base_Numbers_o0_x1_H qwords qdigits) base_Numbers_o0_x1_k (base_Numbers_o0_x1_S qwords qdigits) (by intro x; rcases x with x | x <;> exact fun h => nomatch h) h6 (base_Numbers_o0_x1_ok qwords qdigits)) ?_
    refine awp_seq ?_
    refine awp_region ?_
    refine aR 3 ?_
    refine aE ?_
    refine awp_ret ?_
    exact oF hF [] []
  · refine awp_sub (awp_loop' (base_Numbers_o0_x1_H qwords qdigits) base_Numbers_o0_x1_k (base_Numbers_o0_x1_S qwords qdigits) (by intro x; rcases x with x | x <;> exact fun h => nomatch h) h6 (base_Numbers_o0_x1_ok qwords qdigits)) ?_
    exact oF hF [] [1]

/-! ### beaconfleet/base.Version -/
def base_Version_x1_k : Bool → AEx
  | _ => .normal

def base_Version_x1_S (qv : api_Version) : Bool → St
  | vx => Mem.st ⟨[], []⟩ (tl [(2, .v (.one (.d (.bool vx))))]) 0

def base_Version_x1_I (qv : api_Version) : St := Mem.st ⟨[], [(0, [.d (.int .i64 qv.Major), .d (.int .i64 qv.Minor), .d (.int .i64 qv.Patch)])]⟩ (tl [(1, .v (.one (.box 0 0)))]) 1

theorem base_Version_x1_ok (qv : api_Version) {r} (hF : base_Version_x1 qv = some r) : Awp prog 0 19 (cL (cR (cB f86))) (Out 0 base_Version_x1_k (base_Version_x1_S qv) r) (base_Version_x1_I qv) := by
  unfold base_Version_x1 at hF
  refine bE hF fun vr h1 hF => ?_
  refine cE hF (fun h2 hF => ?_) fun h2 hF => ?_
  · refine bE hF fun vr1 h3 hF => ?_
    refine cE hF (fun h4 hF => ?_) fun h4 hF => ?_
    · refine bE hF fun vr2 h5 hF => ?_
      refine awp_region ?_
      refine aR 2 ?_
      refine aC (base_Out_ok h1) [] [] [] ?_
      refine aB h2 ?_
      refine aR 3 ?_
      refine aC (base_Out_ok h3) [] [] [] ?_
      refine aB h4 ?_
      refine aR 4 ?_
      refine aC (base_Out_ok h5) [] [] [] ?_
      refine aR 3 ?_
      refine aE ?_
      exact oO hF [] [] rfl
    · refine awp_region ?_
      refine aR 2 ?_
      refine aC (base_Out_ok h1) [] [] [] ?_
      refine aB h2 ?_
      refine aR 3 ?_
      refine aC (base_Out_ok h3) [] [] [] ?_
      refine aB h4 ?_
      refine aR 8 ?_
      refine aE ?_
      exact oO hF [] [] rfl
  · refine awp_region ?_
    refine aR 2 ?_
    refine aC (base_Out_ok h1) [] [] [] ?_
    refine aB h2 ?_
    refine aR 13 ?_
    refine aE ?_
    exact oO hF [] [] rfl

def base_Version_R (qv : api_Version) (r : Bool) : TV × Mem := (.v (.one (.d (.bool r))), ⟨[], []⟩)

theorem base_Version_ok {qv : api_Version} {r} (hF : base_Version qv = some r) : Holds prog 86 [.v (.agg [.d (.int .i64 qv.Major), .d (.int .i64 qv.Minor), .d (.int .i64 qv.Patch)])] ⟨[], []⟩ (Is (base_Version_R qv r)) := by
  unfold base_Version at hF
  refine holds_of_awp hΓ (fn := f86) (c := cB f86) (A := 0) (nx := 0) (by kernel_rfl) (by kernel_rfl) (by kernel_rfl) (by kernel_rfl) (by kernel_rfl) (by kernel_rfl) (lowc_of (by kernel_rfl)) ?_
  show Awp prog 0 19 (cB f86) _ _
  refine awp_seq ?_
  refine awp_region ?_
  refine aR 2 ?_
  refine aE ?_
  refine awp_seq ?_
  refine awp_to (st' := base_Version_x1_I qv) (oT [] []) ?_
  refine bE hF fun vx1 h6 hF => ?_
  refine awp_sub (base_Version_x1_ok qv h6) ?_
  refine awp_ret ?_
  exact oF hF [] []

/-! ### beaconfleet/campaign.ParseVersion -/
def campaign_ParseVersion_x1_k : Bool → AEx
  | _ => .normal

def campaign_ParseVersion_x1_S (vr : List Int) (vr1_1 : Bool) : Bool → St
  | vx => Mem.st ⟨[], [(0, [.d (.int .i64 0), .d (.int .i64 0), .d (.int .i64 0)])]⟩ (tl [(2, .v (.one (.box 0 0))), (4, .v (.one (.d (.lst (List.map (encI .i64) vr))))), (19, .v (.one (.d (.bool vx))))]) 1

def campaign_ParseVersion_x1_I (vr : List Int) (vr1_1 : Bool) : St := Mem.st ⟨[], [(0, [.d (.int .i64 0), .d (.int .i64 0), .d (.int .i64 0)])]⟩ (tl [(2, .v (.one (.box 0 0))), (4, .v (.one (.d (.lst (List.map (encI .i64) vr))))), (5, .v (.one (.d (.bool vr1_1))))]) 1

theorem campaign_ParseVersion_x1_ok (vr : List Int) (vr1_1 : Bool) {r} (hF : campaign_ParseVersion_x1 vr vr1_1 = some r) : Awp prog 0 36 (cL (cL (cR (cR (cB f44))))) (Out 0 campaign_ParseVersion_x1_k (campaign_ParseVersion_x1_S vr vr1_1) r) (campaign_ParseVersion_x1_I vr vr1_1) := by
  unfold campaign_ParseVersion_x1 at hF
  refine cE hF (fun h3 hF => ?_) fun h3 hF => ?_
  · refine awp_region ?_
    refine aR 1 ?_
    refine aB h3 ?_
    refine aR 5 ?_
    refine aE ?_
    exact oO hF [] [] rfl
  · refine awp_region ?_
    refine aR 1 ?_
    refine aB h3 ?_
    refine aR 2 ?_
    refine aL (encI .i64) vr ?_
    refine aR 2 ?_
    refine aE ?_
    exact oO hF [] [] rfl

def campaign_ParseVersion_R (qs : List UInt8) (r : api_Version × Int) : TV × Mem := (.tup [.agg [.d (.int .i64 r.1.Major), .d (.int .i64 r.1.Minor), .d (.int .i64 r.1.Patch)], .one (.d (.int .i64 r.2))], ⟨[], []⟩)

theorem campaign_ParseVersion_ok {qs : List UInt8} {r} (hF : campaign_ParseVersion qs = some r) : Holds prog 44 [.v (.one (.d (.str qs)))] ⟨[], []⟩ (Is (campaign_ParseVersion_R qs r)) := by
  unfold campaign_ParseVersion at hF
  refine holds_of_awp hΓ (fn := f44) (c := cB f44) (A := 0) (nx := 0) (by kernel_rfl) (by kernel_rfl) (by kernel_rfl) (by kernel_rfl) (by kernel_rfl) (by kernel_rfl) (lowc_of (by kernel_rfl)) ?_
  show Awp prog 0 36 (cB f44) _ _
  refine awp_seq ?_
  refine awp_region ?_
  refine aR 2 ?_
  refine aE ?_
  refine awp_seq ?_
  refine bE hF fun vr1 h1 hF => ?_
  refine bE hF fun x h2 hF => ?_
  obtain ⟨vr, vr1_1⟩ := x
  refine awp_region ?_
  refine aR 1 ?_
  refine aC (strings_Split_ok h1) [] [] [] ?_
  refine aC (base_Numbers_o0_ok h2) [(0, 3000)] [] [] ?_
  refine aR 5 ?_
  refine aE ?_
  refine awp_to (oT (m := ⟨[], [(0, [.d (.int .i64 0), .d (.int .i64 0), .d (.int .i64 0)])]⟩) (ts := [(2, .v (.one (.box 0 0))), (4, .v (.one (.d (.lst (List.map (encI .i64) vr))))), (5, .v (.one (.d (.bool vr1_1))))]) (nx := 1) [] []) ?_
  refine awp_seq ?_
  refine awp_seq ?_
  refine awp_to (st' := campaign_ParseVersion_x1_I vr vr1_1) (oT [] []) ?_
  refine bE hF fun vx1 h4 hF => ?_
  refine awp_sub (campaign_ParseVersion_x1_ok vr vr1_1 h4) ?_
  refine cE hF (fun h5 hF => ?_) fun h5 hF => ?_
  · refine awp_true (by kernel_rfl) h5 ?_
    refine awp_seq ?_
    refine awp_region ?_
    refine aR 3 ?_
    refine aE ?_
    refine awp_ret ?_
    exact oF hF [] []
  · refine awp_false (by kernel_rfl) h5 ?_
    refine awp_skip ?_
    refine awp_seq ?_
    refine bE hF fun vy h6 hF => ?_
    refine bE hF fun vy1 h7 hF => ?_
    refine bE hF fun vy2 h8 hF => ?_
    refine aD ?_
    refine dR 1 ?_
    refine dX (x_idx (encI .i64) h6) ?_
    refine dR 2 ?_
    refine dX (x_idx (encI .i64) h7) ?_
    refine dR 2 ?_
    refine dX (x_idx (encI .i64) h8) ?_
    refine dR 4 ?_
    refine dE ?_
    refine awp_seq ?_
    refine awp_seq ?_
    refine bE hF fun vr3 h9 hF => ?_
    refine awp_region ?_
    refine aR 1 ?_
    refine aC (base_Version_ok h9) [] [] [] ?_
    refine aR 1 ?_
    refine aE ?_
    refine cE hF (fun h10 hF => ?_) fun h10 hF => ?_
    · refine awp_true (by kernel_rfl) h10 ?_
      refine awp_seq ?_
      refine awp_region ?_
      refine aR 3 ?_
      refine aE ?_
      refine awp_ret ?_
      exact oF hF [] []
    · refine awp_false (by kernel_rfl) h10 ?_
      refine awp_skip ?_
      refine awp_seq ?_
      refine awp_region ?_
      refine aR 3 ?_
      refine aE ?_
      refine awp_ret ?_
      exact oF hF [] []

/-! ### beaconfleet/place.Cell -/
def place_Cell_x1_k : Bool → AEx
  | _ => .normal

def place_Cell_x1_S (qs : api_Spot) (qlevel : Int) : Bool → St
  | vx => Mem.st ⟨[], [(0, [.d (.int .i64 qs.X), .d (.int .i64 qs.Y)])]⟩ (tl [(1, .v (.one (.d (.int .i64 qlevel)))), (2, .v (.one (.box 0 0))), (16, .v (.one (.d (.bool vx))))]) 1

def place_Cell_x1_I (qs : api_Spot) (qlevel : Int) : St := Mem.st ⟨[], [(0, [.d (.int .i64 qs.X), .d (.int .i64 qs.Y)])]⟩ (tl [(1, .v (.one (.d (.int .i64 qlevel)))), (2, .v (.one (.box 0 0)))]) 1

theorem place_Cell_x1_ok (qs : api_Spot) (qlevel : Int) {r} (hF : place_Cell_x1 qs qlevel = some r) : Awp prog 0 47 (cL (cL (cR (cB f45)))) (Out 0 place_Cell_x1_k (place_Cell_x1_S qs qlevel) r) (place_Cell_x1_I qs qlevel) := by
  unfold place_Cell_x1 at hF
  refine bE hF fun vr2 h1 hF => ?_
  refine cE hF (fun h2 hF => ?_) fun h2 hF => ?_
  · refine awp_region ?_
    refine aR 1 ?_
    refine aC (place_isSpot_ok h1) [] [] [] ?_
    refine aB h2 ?_
    refine aR 4 ?_
    refine aE ?_
    exact oO hF [] [] rfl
  · refine bE hF fun vr h3 hF => ?_
    refine awp_region ?_
    refine aR 1 ?_
    refine aC (place_isSpot_ok h1) [] [] [] ?_
    refine aB h2 ?_
    refine aR 2 ?_
    refine aC (base_Out_ok h3) [] [] [] ?_
    refine aR 1 ?_
    refine aE ?_
    exact oO hF [] [] rfl

def place_Cell_x2_k : (List Int) → AEx
  | _ => .exit 0

def place_Cell_x2_S (qs : api_Spot) (qlevel : Int) : (List Int) → St
  | vout1 => Mem.st ⟨[(0, ⟨5, 1, List.map (encI .u8) vout1⟩)], []⟩ (tl [(6, .v (.one (.own 0 none)))]) 1

def place_Cell_x2_H (qs : api_Spot) (qlevel : Int) : (List Int) × Int × Int → St
  | (vout, vlong, vx2) => Mem.st ⟨[(0, ⟨5, 1, List.map (encI .u8) vout⟩)], []⟩ (tl [(6, .v (.one (.own 0 none))), (7, .v (.one (.d (.int .i64 (IntKind.wrap .i64 (qs.X - (-16384))))))), (8, .v (.one (.d (.int .i64 (IntKind.wrap .i64 (qs.Y - (-16384))))))), (9, .v (.one (.d (.int .i64 vlong)))), (23, .v (.one (.d (.int .i64 qlevel)))), (24, .v (.one (.d (.int .i64 vx2))))]) 1

theorem place_Cell_x2_ok (qs : api_Spot) (qlevel : Int) (s : (List Int) × Int × Int) (r : ((List Int) × Int × Int) ⊕ ((List Int))) (hF : place_Cell_x2 qs qlevel s = some r) : Awp prog 0 47 (cL (cL (cR (cL (cR (cR (cR (cR (cB f45))))))))) (Out 0 (kk place_Cell_x2_k) (SS (place_Cell_x2_H qs qlevel) (place_Cell_x2_S qs qlevel)) r) (place_Cell_x2_H qs qlevel s) := by
  obtain ⟨vout, vlong, vx2⟩ := s
  unfold place_Cell_x2 at hF
  refine awp_seq ?_
  refine awp_region ?_
  refine aR 1 ?_
  refine aE ?_
  refine awp_seq ?_
  refine cE hF (fun h6 hF => ?_) fun h6 hF => ?_
  · refine awp_true (by kernel_rfl) h6 ?_
    refine awp_skip ?_
    refine awp_seq ?_
    refine awp_block ?_
    refine awp_seq ?_
    refine awp_region ?_
    refine aR 3 ?_
    refine aE ?_
    refine gE hF fun h7 hF => ?_
    refine gE hF fun h8 hF => ?_
    refine aD ?_
    refine dR 3 ?_
    refine dX (x_quo h7) ?_
    refine dR 5 ?_
    refine dX (x_quo h7) ?_
    refine dR 5 ?_
    refine dX (x_app (encI .u8) 0 h8) ?_
    refine dR 1 ?_
    refine dE ?_
    refine awp_region ?_
    refine aR 2 ?_
    refine aE ?_
    exact oO hF [(0, 19001)] [] rfl
  · refine awp_false (by kernel_rfl) h6 ?_
    refine awp_exit ?_
    exact oO hF [] [] rfl

def place_Cell_R (qs : api_Spot) (qlevel : Int) (r : (List UInt8) × Int) : TV × Mem := (.tup [.one (.d (.str r.1)), .one (.d (.int .i64 r.2))], ⟨[], []⟩)

theorem place_Cell_ok {qs : api_Spot} {qlevel : Int} {r} (hF : place_Cell qs qlevel = some r) : Holds prog 45 [.v (.agg [.d (.int .i64 qs.X), .d (.int .i64 qs.Y)]), .v (.one (.d (.int .i64 qlevel)))] ⟨[], []⟩ (Is (place_Cell_R qs qlevel r)) := by
  unfold place_Cell at hF
  refine holds_of_awp hΓ (fn := f45) (c := cB f45) (A := 0) (nx := 0) (by kernel_rfl) (by kernel_rfl) (by kernel_rfl) (by kernel_rfl) (by kernel_rfl) (by kernel_rfl) (lowc_of (by kernel_rfl)) ?_
  show Awp prog 0 47 (cB f45) _ _
  refine awp_seq ?_
  refine awp_region ?_
  refine aR 3 ?_
  refine aE ?_
  refine awp_seq ?_
  refine awp_seq ?_
  refine awp_to (st' := place_Cell_x1_I qs qlevel) (oT [] []) ?_
  refine bE hF fun vx1 h4 hF => ?_
  refine awp_sub (place_Cell_x1_ok qs qlevel h4) ?_
  refine cE hF (fun h5 hF => ?_) fun h5 hF => ?_
  · refine awp_true (by kernel_rfl) h5 ?_
    refine awp_seq ?_
    refine awp_region ?_
    refine aR 2 ?_
    refine aE ?_
    refine awp_ret ?_
    exact oF hF [] []
  · refine awp_false (by kernel_rfl) h5 ?_
    refine awp_skip ?_
    refine awp_seq ?_
    refine awp_region ?_
    refine aR 1 ?_
    refine aE ?_
    refine awp_seq ?_
    refine aD ?_
    refine dR 9 ?_
    refine dE ?_
    refine awp_seq ?_
    refine awp_seq ?_
    refine awp_region ?_
    refine aR 2 ?_
    refine aE ?_
    refine awp_block ?_
    refine awp_to (st' := place_Cell_x2_H qs qlevel ([], 32768, 0)) (oT [] [0]) ?_
    refine bE hF fun vout1_1 h9 hF => ?_
    refine awp_sub (awp_loop' (place_Cell_x2_H qs qlevel) place_Cell_x2_k (place_Cell_x2_S qs qlevel) (by intro x; exact fun h => nomatch h) h9 (place_Cell_x2_ok qs qlevel)) ?_
    refine awp_seq ?_
    refine awp_region ?_
    refine aR 1 ?_
    refine aSt (xs := vout1_1) rfl rfl ?_
    refine aR 2 ?_
    refine aE ?_
    refine awp_ret ?_
    exact oF hF [] []

/-! ### slices.Equal[[]byte,byte] -/
def slices_Equal_byte_byte_x1_k : Unit ⊕ Unit → AEx
  | .inl _ => .exit 0
  | .inr _ => .ret

def slices_Equal_byte_byte_x1_S (qs1 : List Int) (qs2 : List Int) : Unit ⊕ Unit → St
  | .inl _ => Mem.st ⟨[], []⟩ (tl []) 0
  | .inr _ => Mem.st ⟨[], []⟩ (tl [(4, .v (.one (.d (.bool false))))]) 0

def slices_Equal_byte_byte_x1_H (qs1 : List Int) (qs2 : List Int) : Int → St
  | vx => Mem.st ⟨[], []⟩ (tl [(0, .v (.one (.d (.lst (List.map (encI .u8) qs1))))), (1, .v (.one (.d (.lst (List.map (encI .u8) qs2))))), (12, .v (.one (.d (.int .i64 (qs1.length : Int))))), (13, .v (.one (.d (.int .i64 vx))))]) 0

theorem slices_Equal_byte_byte_x1_ok (qs1 : List Int) (qs2 : List Int) (vx : Int) (r : (Int) ⊕ (Unit ⊕ Unit)) (hF : slices_Equal_byte_byte_x1 qs1 qs2 vx = some r) : Awp prog 0 26 (cL (cL (cR (cL (cR (cR (cB f46))))))) (Out 0 (kk slices_Equal_byte_byte_x1_k) (SS (slices_Equal_byte_byte_x1_H qs1 qs2) (slices_Equal_byte_byte_x1_S qs1 qs2)) r) (slices_Equal_byte_byte_x1_H qs1 qs2 vx) := by
  unfold slices_Equal_byte_byte_x1 at hF
  refine awp_seq ?_
  refine awp_region ?_
  refine aR 1 ?_
  refine aE ?_
  refine awp_seq ?_
  refine cE hF (fun h2 hF => ?_) fun h2 hF => ?_
  · refine awp_true (by kernel_rfl) h2 ?_
    refine awp_skip ?_
    refine awp_seq ?_
    refine awp_block ?_
    refine awp_seq ?_
    refine awp_region ?_
    refine aR 2 ?_
    refine aE ?_
    refine awp_seq ?_
    refine bE hF fun vy2 h3 hF => ?_
    refine bE hF fun vy3 h4 hF => ?_
    refine aD ?_
    refine dR 2 ?_
    refine dX (x_idx (encI .u8) h3) ?_
    refine dR 3 ?_
    refine dX (x_idx (encI .u8) h4) ?_
    refine dR 2 ?_
    refine dE ?_
    refine cE hF (fun h5 hF => ?_) fun h5 hF => ?_
    · refine awp_true (by kernel_rfl) h5 ?_
      refine awp_seq ?_
      refine awp_region ?_
      refine aR 1 ?_
      refine aE ?_
      refine awp_ret ?_
      exact oO hF [] [] rfl
    · refine awp_false (by kernel_rfl) h5 ?_
      refine awp_skip ?_
      refine awp_region ?_
      refine aR 2 ?_
      refine aE ?_
      exact oO hF [] [] rfl
  · refine awp_false (by kernel_rfl) h2 ?_
    refine awp_exit ?_
    exact oO hF [] [] rfl

def slices_Equal_byte_byte_R (qs1 : List Int) (qs2 : List Int) (r : Bool) : TV × Mem := (.v (.one (.d (.bool r))), ⟨[], []⟩)

theorem slices_Equal_byte_byte_ok {qs1 : List Int} {qs2 : List Int} {r} (hF : slices_Equal_byte_byte qs1 qs2 = some r) : Holds prog 46 [.v (.one (.d (.lst (List.map (encI .u8) qs1)))), .v (.one (.d (.lst (List.map (encI .u8) qs2))))] ⟨[], []⟩ (Is (slices_Equal_byte_byte_R qs1 qs2 r)) := by
  unfold slices_Equal_byte_byte at hF
  refine holds_of_awp hΓ (fn := f46) (c := cB f46) (A := 0) (nx := 0) (by kernel_rfl) (by kernel_rfl) (by kernel_rfl) (by kernel_rfl) (by kernel_rfl) (by kernel_rfl) (lowc_of (by kernel_rfl)) ?_
  show Awp prog 0 26 (cB f46) _ _
  refine awp_seq ?_
  refine awp_region ?_
  refine aR 1 ?_
  refine aE ?_
  refine awp_seq ?_
  refine awp_seq ?_
  refine awp_region ?_
  refine aR 1 ?_
  refine aL (encI .u8) qs1 ?_
  refine aR 1 ?_
  refine aL (encI .u8) qs2 ?_
  refine aR 1 ?_
  refine aE ?_
  refine cE hF (fun h1 hF => ?_) fun h1 hF => ?_
  · refine awp_true (by kernel_rfl) h1 ?_
    refine awp_seq ?_
    refine awp_region ?_
    refine aR 1 ?_
    refine aE ?_
    refine awp_ret ?_
    exact oF hF [] []
  · refine awp_false (by kernel_rfl) h1 ?_
    refine awp_skip ?_
    refine awp_seq ?_
    refine awp_seq ?_
    refine awp_region ?_
    refine aR 1 ?_
    refine aL (encI .u8) qs1 ?_
    refine aR 1 ?_
    refine aE ?_
    refine awp_block ?_
    refine awp_to (st' := slices_Equal_byte_byte_x1_H qs1 qs2 0) (oT [] []) ?_
    refine bE hF fun x h6 hF => ?_
    rcases x with _ | _
    · refine awp_sub (awp_loop' (slices_Equal_byte_byte_x1_H qs1 qs2) slices_Equal_byte_byte_x1_k (slices_Equal_byte_byte_x1_S qs1 qs2) (by intro x; rcases x with x | x <;> exact fun h => nomatch h) h6 (slices_Equal_byte_byte_x1_ok qs1 qs2)) ?_
      refine awp_seq ?_
      refine awp_region ?_
      refine aR 1 ?_
      refine aE ?_
      refine awp_ret ?_
      exact oF hF [] []
    · refine awp_sub (awp_loop' (slices_Equal_byte_byte_x1_H qs1 qs2) slices_Equal_byte_byte_x1_k (slices_Equal_byte_byte_x1_S qs1 qs2) (by intro x; rcases x with x | x <;> exact fun h => nomatch h) h6 (slices_Equal_byte_byte_x1_ok qs1 qs2)) ?_
      exact oF hF [] []

/-! ### beaconfleet/fleettop.h10facts -/
def fleettop_h10facts_x1_k : Bool → AEx
  | _ => .normal

def fleettop_h10facts_x1_S (vr : List Int) (vr2 : Int) (vr2_1 : api_Version) (vr4 : Int) (vr1 : List UInt8) (vr3 : Int) : Bool → St
  | vx => Mem.st ⟨[], []⟩ (tl [(0, .v (.one (.d (.bool vx))))]) 0

def fleettop_h10facts_x1_I (vr : List Int) (vr2 : Int) (vr2_1 : api_Version) (vr4 : Int) (vr1 : List UInt8) (vr3 : Int) : St := Mem.st ⟨[], [(0, [.d (.int .i64 vr2_1.Major), .d (.int .i64 vr2_1.Minor), .d (.int .i64 vr2_1.Patch)])]⟩ (tl [(1, .v (.one (.d (.lst (List.map (encI .u8) vr))))), (2, .v (.one (.d (.int .i64 vr2)))), (3, .v (.one (.box 0 0))), (4, .v (.one (.d (.int .i64 vr4)))), (5, .v (.one (.d (.str vr1)))), (6, .v (.one (.d (.int .i64 vr3))))]) 1

theorem fleettop_h10facts_x1_ok (vr : List Int) (vr2 : Int) (vr2_1 : api_Version) (vr4 : Int) (vr1 : List UInt8) (vr3 : Int) {r} (hF : fleettop_h10facts_x1 vr vr2 vr2_1 vr4 vr1 vr3 = some r) : Awp prog 0 46 (cL (cR (cR (cR (cR (cB f11)))))) (Out 0 fleettop_h10facts_x1_k (fleettop_h10facts_x1_S vr vr2 vr2_1 vr4 vr1 vr3) r) (fleettop_h10facts_x1_I vr vr2 vr2_1 vr4 vr1 vr3) := by
  unfold fleettop_h10facts_x1 at hF
  refine cE hF (fun h4 hF => ?_) fun h4 hF => ?_
  · refine cE hF (fun h5 hF => ?_) fun h5 hF => ?_
    · refine cE hF (fun h6 hF => ?_) fun h6 hF => ?_
      · refine bE hF fun vr5 h7 hF => ?_
        refine cE hF (fun h8 hF => ?_) fun h8 hF => ?_
        · refine cE hF (fun h9 hF => ?_) fun h9 hF => ?_
          · refine awp_region ?_
            refine aR 1 ?_
            refine aB h4 ?_
            refine aR 2 ?_
            refine aB h5 ?_
            refine aR 3 ?_
            refine aB h6 ?_
            refine aR 4 ?_
            refine aCb (slices_Equal_byte_byte_ok h7) [] [] [12001] h8 ?_
            refine aR 4 ?_
            refine aB h9 ?_
            refine aR 6 ?_
            refine aE ?_
            exact oO hF [] [] rfl
          · refine awp_region ?_
            refine aR 1 ?_
            refine aB h4 ?_
            refine aR 2 ?_
            refine aB h5 ?_
            refine aR 3 ?_
            refine aB h6 ?_
            refine aR 4 ?_
            refine aCb (slices_Equal_byte_byte_ok h7) [] [] [12001] h8 ?_
            refine aR 4 ?_
            refine aB h9 ?_
            refine aR 6 ?_
            refine aE ?_
            exact oO hF [] [] rfl
        · refine awp_region ?_
          refine aR 1 ?_
          refine aB h4 ?_
          refine aR 2 ?_
          refine aB h5 ?_
          refine aR 3 ?_
          refine aB h6 ?_
          refine aR 4 ?_
          refine aCb (slices_Equal_byte_byte_ok h7) [] [] [12001] h8 ?_
          refine aR 11 ?_
          refine aE ?_
          exact oO hF [] [] rfl
      · refine awp_region ?_
        refine aR 1 ?_
        refine aB h4 ?_
        refine aR 2 ?_
        refine aB h5 ?_
        refine aR 3 ?_
        refine aB h6 ?_
        refine aR 16 ?_
        refine aE ?_
        exact oO hF [] [] rfl
    · refine awp_region ?_
      refine aR 1 ?_
      refine aB h4 ?_
      refine aR 2 ?_
      refine aB h5 ?_
      refine aR 20 ?_
      refine aE ?_
      exact oO hF [] [] rfl
  · refine awp_region ?_
    refine aR 1 ?_
    refine aB h4 ?_
    refine aR 23 ?_
    refine aE ?_
    exact oO hF [] [] rfl

def fleettop_h10facts_R (r : Bool) : TV × Mem := (.v (.one (.d (.bool r))), ⟨[], []⟩)

theorem fleettop_h10facts_ok {r} (hF : fleettop_h10facts = some r) : Holds prog 11 [] ⟨[], []⟩ (Is (fleettop_h10facts_R  r)) := by
  unfold fleettop_h10facts at hF
  refine holds_of_awp hΓ (fn := f11) (c := cB f11) (A := 0) (nx := 0) (by kernel_rfl) (by kernel_rfl) (by kernel_rfl) (by kernel_rfl) (by kernel_rfl) (by kernel_rfl) (lowc_of (by kernel_rfl)) ?_
  show Awp prog 0 46 (cB f11) _ _
  refine awp_seq ?_
  refine awp_region ?_
  refine aR 1 ?_
  refine aE ?_
  refine awp_seq ?_
  refine bE hF fun x h1 hF => ?_
  obtain ⟨vr, vr2⟩ := x
  refine awp_region ?_
  refine aR 2 ?_
  refine aC (series_Pack_o0_ok h1) [(0, 2000)] [] [] ?_
  refine aR 5 ?_
  refine aE ?_
  refine awp_to (oT (m := ⟨[], []⟩) (ts := [(1, .v (.one (.d (.lst (List.map (encI .u8) vr))))), (2, .v (.one (.d (.int .i64 vr2))))]) (nx := 0) [] []) ?_
  refine awp_seq ?_
  refine bE hF fun x h2 hF => ?_
  obtain ⟨vr2_1, vr4⟩ := x
  refine awp_region ?_
  refine aC (campaign_ParseVersion_ok h2) [] [] [] ?_
  refine aR 6 ?_
  refine aE ?_
  refine awp_seq ?_
  refine bE hF fun x h3 hF => ?_
  obtain ⟨vr1, vr3⟩ := x
  refine awp_region ?_
  refine aR 1 ?_
  refine aC (place_Cell_ok h3) [] [] [] ?_
  refine aR 5 ?_
  refine aE ?_
  refine awp_seq ?_
  refine awp_to (st' := fleettop_h10facts_x1_I vr vr2 vr2_1 vr4 vr1 vr3) (oT [(0, 4000)] []) ?_
  refine bE hF fun vx1 h10 hF => ?_
  refine awp_sub (fleettop_h10facts_x1_ok vr vr2 vr2_1 vr4 vr1 vr3 h10) ?_
  refine awp_ret ?_
  exact oF hF [] []

/-! ### beaconfleet/fleettop.TopVisitsFromPlainTracks -/
def fleettop_TopVisitsFromPlainTracks_x1_k : (List api_Fix) → AEx
  | _ => .exit 0

def fleettop_TopVisitsFromPlainTracks_x1_S (vr9 : List api_Spot) (vr16 : List api_Fix) : (List api_Fix) → St
  | vx2 => Mem.st ⟨[(1, ⟨52, 2, List.map api_Spot.enc vr9⟩), (2, ⟨33, 5, List.map api_Fix.enc vx2⟩)], [(0, [.d (.str ([102] : List UInt8)), .own 1 none])]⟩ (tl [(4, .v (.one (.box 0 0))), (5, .v (.one (.own 2 none)))]) 3

def fleettop_TopVisitsFromPlainTracks_x1_H (vr9 : List api_Spot) (vr16 : List api_Fix) : (List api_Fix) × Int → St
  | (vx, vx1) => Mem.st ⟨[(1, ⟨52, 2, List.map api_Spot.enc vr9⟩), (2, ⟨33, 5, List.map api_Fix.enc vx⟩)], [(0, [.d (.str ([102] : List UInt8)), .own 1 none])]⟩ (tl [(4, .v (.one (.box 0 0))), (5, .v (.one (.own 2 none))), (28, .v (.one (.d (.int .i64 (vr16.length : Int))))), (29, .v (.one (.d (.int .i64 vx1))))]) 3

theorem fleettop_TopVisitsFromPlainTracks_x1_ok (vr9 : List api_Spot) (vr16 : List api_Fix) (s : (List api_Fix) × Int) (r : ((List api_Fix) × Int) ⊕ ((List api_Fix))) (hF : fleettop_TopVisitsFromPlainTracks_x1 vr16 s = some r) : Awp prog 0 110 (cL (cL (cR (cL (cR (cR (cR (cB f3)))))))) (Out 0 (kk fleettop_TopVisitsFromPlainTracks_x1_k) (SS (fleettop_TopVisitsFromPlainTracks_x1_H vr9 vr16) (fleettop_TopVisitsFromPlainTracks_x1_S vr9 vr16)) r) (fleettop_TopVisitsFromPlainTracks_x1_H vr9 vr16 s) := by
  obtain ⟨vx, vx1⟩ := s
  unfold fleettop_TopVisitsFromPlainTracks_x1 at hF
  refine awp_seq ?_
  refine awp_region ?_
  refine aR 1 ?_
  refine aE ?_
  refine awp_seq ?_
  refine cE hF (fun h3 hF => ?_) fun h3 hF => ?_
  · refine awp_true (by kernel_rfl) h3 ?_
    refine awp_skip ?_
    refine awp_seq ?_
    refine awp_block ?_
    refine awp_seq ?_
    refine awp_region ?_
    refine aR 2 ?_
    refine aE ?_
    refine bE hF fun vy1 h4 hF => ?_
    refine awp_region ?_
    refine aR 2 ?_
    refine aX (x_idxO api_Fix.enc 2 h4) ?_
    refine aR 1 ?_
    refine aX (x_stE api_Fix.enc (api_Fix.mk vy1.Device vy1.At vy1.X vy1.Y 0) h4) ?_
    refine aE ?_
    refine awp_region ?_
    refine aR 2 ?_
    refine aE ?_
    exact oO hF [] [] rfl
  · refine awp_false (by kernel_rfl) h3 ?_
    refine awp_exit ?_
    exact oO hF [] [] rfl

def fleettop_TopVisitsFromPlainTracks_x2_k : (List api_Fix) → AEx
  | _ => .exit 2

def fleettop_TopVisitsFromPlainTracks_x2_S (vr9 : List api_Spot) (vx2_1 : List api_Fix) (vr2 : List Int) : (List api_Fix) → St
  | vx5 => Mem.st ⟨[(1, ⟨52, 2, List.map api_Spot.enc vr9⟩), (2, ⟨33, 5, List.map api_Fix.enc vx2_1⟩), (3, ⟨33, 5, List.map api_Fix.enc vx5⟩)], [(0, [.d (.str ([102] : List UInt8)), .own 1 none])]⟩ (tl [(4, .v (.one (.box 0 0))), (5, .v (.one (.own 2 none))), (9, .v (.one (.own 3 none)))]) 4

def fleettop_TopVisitsFromPlainTracks_x2_H (vr9 : List api_Spot) (vx2_1 : List api_Fix) (vr2 : List Int) : (List api_Fix) × Int → St
  | (vx3, vx4) => Mem.st ⟨[(1, ⟨52, 2, List.map api_Spot.enc vr9⟩), (2, ⟨33, 5, List.map api_Fix.enc vx2_1⟩), (3, ⟨33, 5, List.map api_Fix.enc vx3⟩)], [(0, [.d (.str ([102] : List UInt8)), .own 1 none])]⟩ (tl [(4, .v (.one (.box 0 0))), (5, .v (.one (.own 2 none))), (9, .v (.one (.own 3 none))), (44, .v (.one (.d (.lst (List.map (encI .i64) vr2))))), (45, .v (.one (.d (.int .i64 (vr2.length : Int))))), (46, .v (.one (.d (.int .i64 vx4))))]) 4

theorem fleettop_TopVisitsFromPlainTracks_x2_ok (vr9 : List api_Spot) (vx2_1 : List api_Fix) (vr2 : List Int) (s : (List api_Fix) × Int) (r : ((List api_Fix) × Int) ⊕ ((List api_Fix))) (hF : fleettop_TopVisitsFromPlainTracks_x2 vx2_1 vr2 s = some r) : Awp prog 0 110 (cL (cL (cR (cL (cR (cR (cR (cR (cR (cR (cR (cB f3)))))))))))) (Out 0 (kk fleettop_TopVisitsFromPlainTracks_x2_k) (SS (fleettop_TopVisitsFromPlainTracks_x2_H vr9 vx2_1 vr2) (fleettop_TopVisitsFromPlainTracks_x2_S vr9 vx2_1 vr2)) r) (fleettop_TopVisitsFromPlainTracks_x2_H vr9 vx2_1 vr2 s) := by
  obtain ⟨vx3, vx4⟩ := s
  unfold fleettop_TopVisitsFromPlainTracks_x2 at hF
  refine awp_seq ?_
  refine awp_region ?_
  refine aR 1 ?_
  refine aE ?_
  refine awp_seq ?_
  refine cE hF (fun h8 hF => ?_) fun h8 hF => ?_
  · refine awp_true (by kernel_rfl) h8 ?_
    refine awp_skip ?_
    refine awp_seq ?_
    refine awp_block ?_
    refine awp_seq ?_
    refine bE hF fun vy4 h9 hF => ?_
    refine awp_region ?_
    refine aX (x_idx (encI .i64) h9) ?_
    refine aR 2 ?_
    refine aE ?_
    refine bE hF fun vy5 h10 hF => ?_
    refine gE hF fun h11 hF => ?_
    refine awp_region ?_
    refine aR 3 ?_
    refine aX (x_idxO api_Fix.enc 2 h10) ?_
    refine aX (x_ldE api_Fix.enc h10) ?_
    refine aR 1 ?_
    refine aX (x_app api_Fix.enc 3 h11) ?_
    refine aR 1 ?_
    refine aE ?_
    refine awp_region ?_
    refine aR 2 ?_
    refine aE ?_
    exact oO hF [(3, 10004)] [] rfl
  · refine awp_false (by kernel_rfl) h8 ?_
    refine awp_exit ?_
    exact oO hF [] [] rfl

def fleettop_TopVisitsFromPlainTracks_x3_k : Bool → AEx
  | _ => .normal

def fleettop_TopVisitsFromPlainTracks_x3_S (vr3_1 : Int) (vr4 : Int) (vr3_2 : Int) (vr4_1 : Int) (vr4_2 : List api_Visit) (vr5 : Int) (vr4_3 : List api_Visit) (vr5_1 : Int) : Bool → St
  | vx6 => Mem.st ⟨[], []⟩ (tl [(12, .v (.one (.d (.int .i64 vr3_1)))), (14, .v (.one (.d (.int .i64 vr3_2)))), (16, .v (.one (.d (.lst (List.map api_Visit.enc vr4_2))))), (18, .v (.one (.d (.lst (List.map api_Visit.enc vr4_3))))), (93, .v (.one (.d (.bool vx6))))]) 0

def fleettop_TopVisitsFromPlainTracks_x3_I (vr3_1 : Int) (vr4 : Int) (vr3_2 : Int) (vr4_1 : Int) (vr4_2 : List api_Visit) (vr5 : Int) (vr4_3 : List api_Visit) (vr5_1 : Int) : St := Mem.st ⟨[], []⟩ (tl [(12, .v (.one (.d (.int .i64 vr3_1)))), (13, .v (.one (.d (.int .i64 vr4)))), (14, .v (.one (.d (.int .i64 vr3_2)))), (15, .v (.one (.d (.int .i64 vr4_1)))), (16, .v (.one (.d (.lst (List.map api_Visit.enc vr4_2))))), (17, .v (.one (.d (.int .i64 vr5)))), (18, .v (.one (.d (.lst (List.map api_Visit.enc vr4_3))))), (19, .v (.one (.d (.int .i64 vr5_1))))]) 0

theorem fleettop_TopVisitsFromPlainTracks_x3_ok (vr3_1 : Int) (vr4 : Int) (vr3_2 : Int) (vr4_1 : Int) (vr4_2 : List api_Visit) (vr5 : Int) (vr4_3 : List api_Visit) (vr5_1 : Int) {r} (hF : fleettop_TopVisitsFromPlainTracks_x3 vr4 vr4_1 vr5 vr5_1 = some r) : Awp prog 0 110 (cL (cL (cR (cR (cR (cR (cR (cR (cR (cR (cR (cR (cR (cR (cB f3))))))))))))))) (Out 0 fleettop_TopVisitsFromPlainTracks_x3_k (fleettop_TopVisitsFromPlainTracks_x3_S vr3_1 vr4 vr3_2 vr4_1 vr4_2 vr5 vr4_3 vr5_1) r) (fleettop_TopVisitsFromPlainTracks_x3_I vr3_1 vr4 vr3_2 vr4_1 vr4_2 vr5 vr4_3 vr5_1) := by
  unfold fleettop_TopVisitsFromPlainTracks_x3 at hF
  refine cE hF (fun h17 hF => ?_) fun h17 hF => ?_
  · refine awp_region ?_
    refine aR 1 ?_
    refine aB h17 ?_
    refine aR 12 ?_
    refine aE ?_
    exact oO hF [] [] rfl
  · refine cE hF (fun h18 hF => ?_) fun h18 hF => ?_
    · refine awp_region ?_
      refine aR 1 ?_
      refine aB h17 ?_
      refine aR 2 ?_
      refine aB h18 ?_
      refine aR 9 ?_
      refine aE ?_
      exact oO hF [] [] rfl
    · refine cE hF (fun h19 hF => ?_) fun h19 hF => ?_
      · refine awp_region ?_
        refine aR 1 ?_
        refine aB h17 ?_
        refine aR 2 ?_
        refine aB h18 ?_
        refine aR 3 ?_
        refine aB h19 ?_
        refine aR 5 ?_
        refine aE ?_
        exact oO hF [] [] rfl
      · refine awp_region ?_
        refine aR 1 ?_
        refine aB h17 ?_
        refine aR 2 ?_
        refine aB h18 ?_
        refine aR 3 ?_
        refine aB h19 ?_
        refine aR 5 ?_
        refine aE ?_
        exact oO hF [] [] rfl

def fleettop_TopVisitsFromPlainTracks_x4_k : Bool → AEx
  | _ => .normal

def fleettop_TopVisitsFromPlainTracks_x4_S (vr3_1 : Int) (vr3_2 : Int) (vr4_2 : List api_Visit) (vr4_3 : List api_Visit) : Bool → St
  | vx7 => Mem.st ⟨[], []⟩ (tl [(2, .v (.one (.d (.bool vx7))))]) 0

def fleettop_TopVisitsFromPlainTracks_x4_I (vr3_1 : Int) (vr3_2 : Int) (vr4_2 : List api_Visit) (vr4_3 : List api_Visit) : St := Mem.st ⟨[], []⟩ (tl [(12, .v (.one (.d (.int .i64 vr3_1)))), (14, .v (.one (.d (.int .i64 vr3_2)))), (16, .v (.one (.d (.lst (List.map api_Visit.enc vr4_2))))), (18, .v (.one (.d (.lst (List.map api_Visit.enc vr4_3)))))]) 0

theorem fleettop_TopVisitsFromPlainTracks_x4_ok (vr3_1 : Int) (vr3_2 : Int) (vr4_2 : List api_Visit) (vr4_3 : List api_Visit) {r} (hF : fleettop_TopVisitsFromPlainTracks_x4 vr3_1 vr3_2 vr4_2 vr4_3 = some r) : Awp prog 0 110 (cL (cR (cR (cR (cR (cR (cR (cR (cR (cR (cR (cR (cR (cR (cB f3))))))))))))))) (Out 0 fleettop_TopVisitsFromPlainTracks_x4_k (fleettop_TopVisitsFromPlainTracks_x4_S vr3_1 vr3_2 vr4_2 vr4_3) r) (fleettop_TopVisitsFromPlainTracks_x4_I vr3_1 vr3_2 vr4_2 vr4_3) := by
  unfold fleettop_TopVisitsFromPlainTracks_x4 at hF
  refine cE hF (fun h22 hF => ?_) fun h22 hF => ?_
  · refine cE hF (fun h23 hF => ?_) fun h23 hF => ?_
    · refine cE hF (fun h24 hF => ?_) fun h24 hF => ?_
      · refine bE hF fun vr6 h25 hF => ?_
        refine awp_region ?_
        refine aR 1 ?_
        refine aB h22 ?_
        refine aR 2 ?_
        refine aB h23 ?_
        refine aR 3 ?_
        refine aL api_Visit.enc vr4_2 ?_
        refine aR 1 ?_
        refine aL api_Visit.enc vr4_3 ?_
        refine aB h24 ?_
        refine aR 2 ?_
        refine aC (fleettop_h10facts_ok h25) [] [] [] ?_
        refine aR 2 ?_
        refine aE ?_
        exact oO hF [] [] rfl
      · refine awp_region ?_
        refine aR 1 ?_
        refine aB h22 ?_
        refine aR 2 ?_
        refine aB h23 ?_
        refine aR 3 ?_
        refine aL api_Visit.enc vr4_2 ?_
        refine aR 1 ?_
        refine aL api_Visit.enc vr4_3 ?_
        refine aB h24 ?_
        refine aR 5 ?_
        refine aE ?_
        exact oO hF [] [] rfl
    · refine awp_region ?_
      refine aR 1 ?_
      refine aB h22 ?_
      refine aR 2 ?_
      refine aB h23 ?_
      refine aR 12 ?_
      refine aE ?_
      exact oO hF [] [] rfl
  · refine awp_region ?_
    refine aR 1 ?_
    refine aB h22 ?_
    refine aR 15 ?_
    refine aE ?_
    exact oO hF [] [] rfl

def fleettop_TopVisitsFromPlainTracks_R (qx : List Int) (r : Bool) : TV × Mem := (.v (.one (.d (.bool r))), ⟨[], []⟩)

theorem fleettop_TopVisitsFromPlainTracks_ok {qx : List Int} {r} (hF : fleettop_TopVisitsFromPlainTracks qx = some r) : Holds prog 3 [.v (.one (.d (.lst (List.map (encI .i64) qx))))] ⟨[], []⟩ (Is (fleettop_TopVisitsFromPlainTracks_R qx r)) := by
  unfold fleettop_TopVisitsFromPlainTracks at hF
  refine holds_of_awp hΓ (fn := f3) (c := cB f3) (A := 0) (nx := 0) (by kernel_rfl) (by kernel_rfl) (by kernel_rfl) (by kernel_rfl) (by kernel_rfl) (by kernel_rfl) (lowc_of (by kernel_rfl)) ?_
  show Awp prog 0 110 (cB f3) _ _
  refine awp_seq ?_
  refine awp_region ?_
  refine aR 1 ?_
  refine aE ?_
  refine awp_seq ?_
  refine awp_region ?_
  refine aR 4 ?_
  refine aE ?_
  refine awp_seq ?_
  refine bE hF fun x h1 hF => ?_
  obtain ⟨vs15, vr9⟩ := x
  refine bE hF fun x h2 hF => ?_
  obtain ⟨vs11, vr16⟩ := x
  refine awp_region ?_
  refine aR 1 ?_
  refine aC (fleetmake_Stream_RightFence_ok h1) [(0, 3000)] [] [] ?_
  refine aR 1 ?_
  refine aC (fleetmake_Stream_RightTrack_ok h2) [(0, 3000)] [] [] ?_
  refine aR 3 ?_
  refine aE ?_
  refine awp_seq ?_
  refine awp_seq ?_
  refine awp_region ?_
  refine aR 1 ?_
  refine aL api_Fix.enc vr16 ?_
  refine aR 1 ?_
  refine aE ?_
  refine awp_block ?_
  refine awp_to (st' := fleettop_TopVisitsFromPlainTracks_x1_H vr9 vr16 (vr16, 0)) (oT [(0, 9000), (1, 6001), (2, 8001)] []) ?_
  refine bE hF fun vx2_1 h5 hF => ?_
  refine awp_sub (awp_loop' (fleettop_TopVisitsFromPlainTracks_x1_H vr9 vr16) fleettop_TopVisitsFromPlainTracks_x1_k (fleettop_TopVisitsFromPlainTracks_x1_S vr9 vr16) (by intro x; exact fun h => nomatch h) h5 (fleettop_TopVisitsFromPlainTracks_x1_ok vr9 vr16)) ?_
  refine awp_seq ?_
  refine bE hF fun x h6 hF => ?_
  obtain ⟨vr2, vr3⟩ := x
  refine awp_region ?_
  refine aR 1 ?_
  refine aCf (place_Plain_ok h6) (plainO_one (f := (encI .i64)) fun _ => by kernel_rfl) [] [] [2] ?_
  refine aR 5 ?_
  refine aE ?_
  refine awp_to (oT (m := ⟨[(1, ⟨52, 2, List.map api_Spot.enc vr9⟩), (2, ⟨33, 5, List.map api_Fix.enc vx2_1⟩)], [(0, [.d (.str ([102] : List UInt8)), .own 1 none])]⟩) (ts := [(4, .v (.one (.box 0 0))), (5, .v (.one (.own 2 none))), (7, .v (.one (.d (.lst (List.map (encI .i64) vr2))))), (8, .v (.one (.d (.int .i64 vr3))))]) (nx := 3) [] []) ?_
  refine awp_seq ?_
  refine awp_seq ?_
  refine awp_region ?_
  refine aR 2 ?_
  refine aE ?_
  refine cE hF (fun h7 hF => ?_) fun h7 hF => ?_
  · refine awp_true (by kernel_rfl) h7 ?_
    refine awp_seq ?_
    refine awp_region ?_
    refine aR 1 ?_
    refine aE ?_
    refine awp_ret ?_
    exact oF hF [] []
  · refine awp_false (by kernel_rfl) h7 ?_
    refine awp_skip ?_
    refine awp_seq ?_
    refine awp_region ?_
    refine aR 1 ?_
    refine aE ?_
    refine awp_seq ?_
    refine awp_seq ?_
    refine awp_region ?_
    refine aR 1 ?_
    refine aL (encI .i64) vr2 ?_
    refine aR 1 ?_
    refine aE ?_
    refine awp_block ?_
    refine awp_to (st' := fleettop_TopVisitsFromPlainTracks_x2_H vr9 vx2_1 vr2 ([], 0)) (oT [] [3]) ?_
    refine bE hF fun vx5_1 h12 hF => ?_
    refine awp_sub (awp_loop' (fleettop_TopVisitsFromPlainTracks_x2_H vr9 vx2_1 vr2) fleettop_TopVisitsFromPlainTracks_x2_k (fleettop_TopVisitsFromPlainTracks_x2_S vr9 vx2_1 vr2) (by intro x; exact fun h => nomatch h) h12 (fleettop_TopVisitsFromPlainTracks_x2_ok vr9 vx2_1 vr2)) ?_
    refine awp_seq ?_
    refine bE hF fun x h13 hF => ?_
    obtain ⟨vr3_1, vr4⟩ := x
    refine awp_region ?_
    refine aR 1 ?_
    refine aC (place_Length_ok h13) [] [] [2] ?_
    refine aR 5 ?_
    refine aE ?_
    refine awp_seq ?_
    refine bE hF fun x h14 hF => ?_
    obtain ⟨vr3_2, vr4_1⟩ := x
    refine awp_region ?_
    refine aR 1 ?_
    refine aC (place_Length_ok h14) [] [] [3] ?_
    refine aR 5 ?_
    refine aE ?_
    refine awp_seq ?_
    refine bE hF fun x h15 hF => ?_
    obtain ⟨vr4_2, vr5⟩ := x
    refine awp_region ?_
    refine aR 2 ?_
    refine aCf (place_Visits_o1_ok h15) (plainO_one (f := api_Visit.enc) fun _ => by kernel_rfl) [(0, 3)] [] [1] ?_
    refine aR 5 ?_
    refine aE ?_
    refine awp_to (oT (m := ⟨[(1, ⟨52, 2, List.map api_Spot.enc vr9⟩), (2, ⟨33, 5, List.map api_Fix.enc vx2_1⟩)], [(0, [.d (.str ([102] : List UInt8)), .own 1 none])]⟩) (ts := [(4, .v (.one (.box 0 0))), (5, .v (.one (.own 2 none))), (12, .v (.one (.d (.int .i64 vr3_1)))), (13, .v (.one (.d (.int .i64 vr4)))), (14, .v (.one (.d (.int .i64 vr3_2)))), (15, .v (.one (.d (.int .i64 vr4_1)))), (16, .v (.one (.d (.lst (List.map api_Visit.enc vr4_2))))), (17, .v (.one (.d (.int .i64 vr5))))]) (nx := 3) [] []) ?_
    refine awp_seq ?_
    refine bE hF fun x h16 hF => ?_
    obtain ⟨vr4_3, vr5_1⟩ := x
    refine awp_region ?_
    refine aR 2 ?_
    refine aCf (place_Visits_o1_ok h16) (plainO_one (f := api_Visit.enc) fun _ => by kernel_rfl) [(0, 2)] [] [1] ?_
    refine aR 5 ?_
    refine aE ?_
    refine awp_to (oT (m := ⟨[], []⟩) (ts := [(12, .v (.one (.d (.int .i64 vr3_1)))), (13, .v (.one (.d (.int .i64 vr4)))), (14, .v (.one (.d (.int .i64 vr3_2)))), (15, .v (.one (.d (.int .i64 vr4_1)))), (16, .v (.one (.d (.lst (List.map api_Visit.enc vr4_2))))), (17, .v (.one (.d (.int .i64 vr5)))), (18, .v (.one (.d (.lst (List.map api_Visit.enc vr4_3))))), (19, .v (.one (.d (.int .i64 vr5_1))))]) (nx := 0) [] []) ?_
    refine awp_seq ?_
    refine awp_seq ?_
    refine awp_to (st' := fleettop_TopVisitsFromPlainTracks_x3_I vr3_1 vr4 vr3_2 vr4_1 vr4_2 vr5 vr4_3 vr5_1) (oT [] []) ?_
    refine bE hF fun vx6_1 h20 hF => ?_
    refine awp_sub (fleettop_TopVisitsFromPlainTracks_x3_ok vr3_1 vr4 vr3_2 vr4_1 vr4_2 vr5 vr4_3 vr5_1 h20) ?_
    refine cE hF (fun h21 hF => ?_) fun h21 hF => ?_
    · refine awp_true (by kernel_rfl) h21 ?_
      refine awp_seq ?_
      refine awp_region ?_
      refine aR 1 ?_
      refine aE ?_
      refine awp_ret ?_
      exact oF hF [] []
    · refine awp_false (by kernel_rfl) h21 ?_
      refine awp_skip ?_
      refine awp_seq ?_
      refine awp_to (st' := fleettop_TopVisitsFromPlainTracks_x4_I vr3_1 vr3_2 vr4_2 vr4_3) (oT [] []) ?_
      refine bE hF fun vx7_1 h26 hF => ?_
      refine awp_sub (fleettop_TopVisitsFromPlainTracks_x4_ok vr3_1 vr3_2 vr4_2 vr4_3 h26) ?_
      refine awp_ret ?_
      exact oF hF [] []

end Go.Eng
