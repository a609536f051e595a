/-
The code of the Go functions that the law FencesMeetBothWays reaches does what the plain functions say, part 3.
-/
import Derived.Test.YtddkiphgahpfdaaGreatDoorGenP2

namespace Go.Eng

open Go Go.Proofs.Tryz

set_option linter.unusedVariables false

set_option maxRecDepth 20000

set_option maxHeartbeats 0

/-! ### beaconfleet/place.touch$1$1 -/
def place_touch_1_1_R (qc : api_Spot) (qd : api_Spot) (qx : api_Spot) (qx1 : api_Spot) (r : Bool) : TV × Mem := (.v (.one (.d (.bool r))), ⟨[], [(0, [.d (.int .i64 qx.X), .d (.int .i64 qx.Y)]), (1, [.d (.int .i64 qx1.X), .d (.int .i64 qx1.Y)])]⟩)

theorem place_touch_1_1_ok {qc : api_Spot} {qd : api_Spot} {qx : api_Spot} {qx1 : api_Spot} {r} (hF : place_touch_1_1 qc qd qx qx1 = some r) : Holds prog 68 [.v (.agg [.d (.int .i64 qc.X), .d (.int .i64 qc.Y)]), .v (.agg [.d (.int .i64 qd.X), .d (.int .i64 qd.Y)]), .v (.one (.box 0 0)), .v (.one (.box 1 0))] ⟨[], [(0, [.d (.int .i64 qx.X), .d (.int .i64 qx.Y)]), (1, [.d (.int .i64 qx1.X), .d (.int .i64 qx1.Y)])]⟩ (Is (place_touch_1_1_R qc qd qx qx1 r)) := by
  unfold place_touch_1_1 at hF
  refine holds_of_awp hΓ (fn := f68) (c := cB f68) (A := 2) (nx := 2) (by kernel_rfl) (by kernel_rfl) (by kernel_rfl) (by kernel_rfl) (by kernel_rfl) (by kernel_rfl) (lowc_of (by kernel_rfl)) ?_
  show Awp prog 2 12 (cB f68) _ _
  refine awp_seq ?_
  refine awp_region ?_
  refine aR 3 ?_
  refine aE ?_
  refine awp_seq ?_
  refine bE hF fun vr8 h1 hF => ?_
  refine awp_region ?_
  refine aR 4 ?_
  refine aC (place_meets_ok h1) [] [] [] ?_
  refine aR 1 ?_
  refine aE ?_
  refine awp_ret ?_
  exact oF hF [] []

/-! ### beaconfleet/place.edges -/
def place_edges_f1_place_touch_1_1_x1_k : Unit ⊕ Unit → AEx
  | .inl _ => .exit 0
  | .inr _ => .ret

def place_edges_f1_place_touch_1_1_x1_S (ql : List api_Spot) (qf : api_Spot) (qf1 : api_Spot) : Unit ⊕ Unit → St
  | .inl _ => Mem.st ⟨[], [(0, [.d (.int .i64 qf.X), .d (.int .i64 qf.Y)]), (1, [.d (.int .i64 qf1.X), .d (.int .i64 qf1.Y)])]⟩ (tl []) 2
  | .inr _ => Mem.st ⟨[], [(0, [.d (.int .i64 qf.X), .d (.int .i64 qf.Y)]), (1, [.d (.int .i64 qf1.X), .d (.int .i64 qf1.Y)])]⟩ (tl [(4, .v (.one (.d (.bool true))))]) 2

def place_edges_f1_place_touch_1_1_x1_H (ql : List api_Spot) (qf : api_Spot) (qf1 : api_Spot) : Int → St
  | vx => Mem.st ⟨[], [(0, [.d (.int .i64 qf.X), .d (.int .i64 qf.Y)]), (1, [.d (.int .i64 qf1.X), .d (.int .i64 qf1.Y)])]⟩ (tl [(0, .v (.one (.d (.lst (List.map api_Spot.enc ql))))), (1, .v (.one (.fn 68 [0, 1]))), (7, .v (.one (.d (.lst (List.map api_Spot.enc ql))))), (8, .v (.one (.d (.int .i64 (ql.length : Int))))), (9, .v (.one (.d (.int .i64 vx))))]) 2

theorem place_edges_f1_place_touch_1_1_x1_ok (ql : List api_Spot) (qf : api_Spot) (qf1 : api_Spot) (vx : Int) (r : (Int) ⊕ (Unit ⊕ Unit)) (hF : place_edges_f1_place_touch_1_1_x1 ql qf qf1 vx = some r) : Awp prog 2 26 (cL (cL (cR (cL (cR (cB f66)))))) (Out 2 (kk place_edges_f1_place_touch_1_1_x1_k) (SS (place_edges_f1_place_touch_1_1_x1_H ql qf qf1) (place_edges_f1_place_touch_1_1_x1_S ql qf qf1)) r) (place_edges_f1_place_touch_1_1_x1_H ql qf qf1 vx) := by
  unfold place_edges_f1_place_touch_1_1_x1 at hF
  refine awp_seq ?_
  refine awp_region ?_
  refine aR 1 ?_
  refine aE ?_
  refine awp_seq ?_
  refine cE hF (fun h1 hF => ?_) fun h1 hF => ?_
  · refine awp_true (by kernel_rfl) h1 ?_
    refine awp_skip ?_
    refine awp_seq ?_
    refine awp_block ?_
    refine awp_seq ?_
    refine bE hF fun vy2 h2 hF => ?_
    refine awp_region ?_
    refine aR 1 ?_
    refine aX (x_idx api_Spot.enc h2) ?_
    refine aR 4 ?_
    refine aE ?_
    refine awp_seq ?_
    refine gE hF fun h3 hF => ?_
    refine bE hF fun vy3 h4 hF => ?_
    refine bE hF fun vr1 h5 hF => ?_
    refine aD ?_
    refine dR 6 ?_
    refine dL api_Spot.enc ql ?_
    refine dX (x_rem h3) ?_
    refine dX (x_idx api_Spot.enc h4) ?_
    refine dR 1 ?_
    refine dC (place_touch_1_1_ok h5) [] [] [] ?_
    refine dE ?_
    refine cE hF (fun h6 hF => ?_) fun h6 hF => ?_
    · refine awp_true (by kernel_rfl) h6 ?_
      refine awp_seq ?_
      refine awp_region ?_
      refine aR 1 ?_
      refine aE ?_
      refine awp_ret ?_
      exact oO hF [] [] rfl
    · refine awp_false (by kernel_rfl) h6 ?_
      refine awp_skip ?_
      refine awp_region ?_
      refine aR 2 ?_
      refine aE ?_
      exact oO hF [] [] rfl
  · refine awp_false (by kernel_rfl) h1 ?_
    refine awp_exit ?_
    exact oO hF [] [] rfl

def place_edges_f1_place_touch_1_1_R (ql : List api_Spot) (qf : api_Spot) (qf1 : api_Spot) (r : Bool) : TV × Mem := (.v (.one (.d (.bool r))), ⟨[], [(0, [.d (.int .i64 qf.X), .d (.int .i64 qf.Y)]), (1, [.d (.int .i64 qf1.X), .d (.int .i64 qf1.Y)])]⟩)

theorem place_edges_f1_place_touch_1_1_ok {ql : List api_Spot} {qf : api_Spot} {qf1 : api_Spot} {r} (hF : place_edges_f1_place_touch_1_1 ql qf qf1 = some r) : Holds prog 66 [.v (.one (.d (.lst (List.map api_Spot.enc ql)))), .v (.one (.fn 68 [0, 1]))] ⟨[], [(0, [.d (.int .i64 qf.X), .d (.int .i64 qf.Y)]), (1, [.d (.int .i64 qf1.X), .d (.int .i64 qf1.Y)])]⟩ (Is (place_edges_f1_place_touch_1_1_R ql qf qf1 r)) := by
  unfold place_edges_f1_place_touch_1_1 at hF
  refine holds_of_awp hΓ (fn := f66) (c := cB f66) (A := 2) (nx := 2) (by kernel_rfl) (by kernel_rfl) (by kernel_rfl) (by kernel_rfl) (by kernel_rfl) (by kernel_rfl) (lowc_of (by kernel_rfl)) ?_
  show Awp prog 2 26 (cB f66) _ _
  refine awp_seq ?_
  refine awp_region ?_
  refine aR 1 ?_
  refine aE ?_
  refine awp_seq ?_
  refine awp_seq ?_
  refine awp_region ?_
  refine aR 1 ?_
  refine aL api_Spot.enc ql ?_
  refine aR 1 ?_
  refine aE ?_
  refine awp_block ?_
  refine awp_to (st' := place_edges_f1_place_touch_1_1_x1_H ql qf qf1 0) (oT [] []) ?_
  refine bE hF fun x h7 hF => ?_
  rcases x with _ | _
  · refine awp_sub (awp_loop' (place_edges_f1_place_touch_1_1_x1_H ql qf qf1) place_edges_f1_place_touch_1_1_x1_k (place_edges_f1_place_touch_1_1_x1_S ql qf qf1) (by intro x; rcases x with x | x <;> exact fun h => nomatch h) h7 (place_edges_f1_place_touch_1_1_x1_ok ql qf qf1)) ?_
    refine awp_seq ?_
    refine awp_region ?_
    refine aR 1 ?_
    refine aE ?_
    refine awp_ret ?_
    exact oF hF [] []
  · refine awp_sub (awp_loop' (place_edges_f1_place_touch_1_1_x1_H ql qf qf1) place_edges_f1_place_touch_1_1_x1_k (place_edges_f1_place_touch_1_1_x1_S ql qf qf1) (by intro x; rcases x with x | x <;> exact fun h => nomatch h) h7 (place_edges_f1_place_touch_1_1_x1_ok ql qf qf1)) ?_
    exact oF hF [] []

/-! ### beaconfleet/place.touch$1 -/
def place_touch_1_R (qa : api_Spot) (qb : api_Spot) (qx : List api_Spot) (r : Bool) : TV × Mem := (.v (.one (.d (.bool r))), ⟨[], [(0, [.d (.lst (List.map api_Spot.enc qx))])]⟩)

theorem place_touch_1_ok {qa : api_Spot} {qb : api_Spot} {qx : List api_Spot} {r} (hF : place_touch_1 qa qb qx = some r) : Holds prog 67 [.v (.agg [.d (.int .i64 qa.X), .d (.int .i64 qa.Y)]), .v (.agg [.d (.int .i64 qb.X), .d (.int .i64 qb.Y)]), .v (.one (.box 0 0))] ⟨[], [(0, [.d (.lst (List.map api_Spot.enc qx))])]⟩ (Is (place_touch_1_R qa qb qx r)) := by
  unfold place_touch_1 at hF
  refine holds_of_awp hΓ (fn := f67) (c := cB f67) (A := 1) (nx := 1) (by kernel_rfl) (by kernel_rfl) (by kernel_rfl) (by kernel_rfl) (by kernel_rfl) (by kernel_rfl) (lowc_of (by kernel_rfl)) ?_
  show Awp prog 1 9 (cB f67) _ _
  refine awp_seq ?_
  refine awp_region ?_
  refine aR 3 ?_
  refine aE ?_
  refine awp_seq ?_
  refine bE hF fun vr2 h1 hF => ?_
  refine awp_region ?_
  refine aR 2 ?_
  refine aC (place_edges_f1_place_touch_1_1_ok h1) [(0, 1), (1, 1001)] [] [] ?_
  refine aR 1 ?_
  refine aE ?_
  refine awp_ret ?_
  exact oF hF [] []

/-! ### beaconfleet/place.edges -/
def place_edges_f1_place_touch_1_x1_k : Unit ⊕ Unit → AEx
  | .inl _ => .exit 0
  | .inr _ => .ret

def place_edges_f1_place_touch_1_x1_S (ql : List api_Spot) (qf : List api_Spot) : Unit ⊕ Unit → St
  | .inl _ => Mem.st ⟨[], [(0, [.d (.lst (List.map api_Spot.enc qf))])]⟩ (tl []) 1
  | .inr _ => Mem.st ⟨[], [(0, [.d (.lst (List.map api_Spot.enc qf))])]⟩ (tl [(4, .v (.one (.d (.bool true))))]) 1

def place_edges_f1_place_touch_1_x1_H (ql : List api_Spot) (qf : List api_Spot) : Int → St
  | vx => Mem.st ⟨[], [(0, [.d (.lst (List.map api_Spot.enc qf))])]⟩ (tl [(0, .v (.one (.d (.lst (List.map api_Spot.enc ql))))), (1, .v (.one (.fn 67 [0]))), (7, .v (.one (.d (.lst (List.map api_Spot.enc ql))))), (8, .v (.one (.d (.int .i64 (ql.length : Int))))), (9, .v (.one (.d (.int .i64 vx))))]) 1

theorem place_edges_f1_place_touch_1_x1_ok (ql : List api_Spot) (qf : List api_Spot) (vx : Int) (r : (Int) ⊕ (Unit ⊕ Unit)) (hF : place_edges_f1_place_touch_1_x1 ql qf vx = some r) : Awp prog 1 26 (cL (cL (cR (cL (cR (cB f66)))))) (Out 1 (kk place_edges_f1_place_touch_1_x1_k) (SS (place_edges_f1_place_touch_1_x1_H ql qf) (place_edges_f1_place_touch_1_x1_S ql qf)) r) (place_edges_f1_place_touch_1_x1_H ql qf vx) := by
  unfold place_edges_f1_place_touch_1_x1 at hF
  refine awp_seq ?_
  refine awp_region ?_
  refine aR 1 ?_
  refine aE ?_
  refine awp_seq ?_
  refine cE hF (fun h1 hF => ?_) fun h1 hF => ?_
  · refine awp_true (by kernel_rfl) h1 ?_
    refine awp_skip ?_
    refine awp_seq ?_
    refine awp_block ?_
    refine awp_seq ?_
    refine bE hF fun vy2 h2 hF => ?_
    refine awp_region ?_
    refine aR 1 ?_
    refine aX (x_idx api_Spot.enc h2) ?_
    refine aR 4 ?_
    refine aE ?_
    refine awp_seq ?_
    refine gE hF fun h3 hF => ?_
    refine bE hF fun vy3 h4 hF => ?_
    refine bE hF fun vr1 h5 hF => ?_
    refine aD ?_
    refine dR 6 ?_
    refine dL api_Spot.enc ql ?_
    refine dX (x_rem h3) ?_
    refine dX (x_idx api_Spot.enc h4) ?_
    refine dR 1 ?_
    refine dC (place_touch_1_ok h5) [] [] [] ?_
    refine dE ?_
    refine cE hF (fun h6 hF => ?_) fun h6 hF => ?_
    · refine awp_true (by kernel_rfl) h6 ?_
      refine awp_seq ?_
      refine awp_region ?_
      refine aR 1 ?_
      refine aE ?_
      refine awp_ret ?_
      exact oO hF [] [] rfl
    · refine awp_false (by kernel_rfl) h6 ?_
      refine awp_skip ?_
      refine awp_region ?_
      refine aR 2 ?_
      refine aE ?_
      exact oO hF [] [] rfl
  · refine awp_false (by kernel_rfl) h1 ?_
    refine awp_exit ?_
    exact oO hF [] [] rfl

def place_edges_f1_place_touch_1_R (ql : List api_Spot) (qf : List api_Spot) (r : Bool) : TV × Mem := (.v (.one (.d (.bool r))), ⟨[], [(0, [.d (.lst (List.map api_Spot.enc qf))])]⟩)

theorem place_edges_f1_place_touch_1_ok {ql : List api_Spot} {qf : List api_Spot} {r} (hF : place_edges_f1_place_touch_1 ql qf = some r) : Holds prog 66 [.v (.one (.d (.lst (List.map api_Spot.enc ql)))), .v (.one (.fn 67 [0]))] ⟨[], [(0, [.d (.lst (List.map api_Spot.enc qf))])]⟩ (Is (place_edges_f1_place_touch_1_R ql qf r)) := by
  unfold place_edges_f1_place_touch_1 at hF
  refine holds_of_awp hΓ (fn := f66) (c := cB f66) (A := 1) (nx := 1) (by kernel_rfl) (by kernel_rfl) (by kernel_rfl) (by kernel_rfl) (by kernel_rfl) (by kernel_rfl) (lowc_of (by kernel_rfl)) ?_
  show Awp prog 1 26 (cB f66) _ _
  refine awp_seq ?_
  refine awp_region ?_
  refine aR 1 ?_
  refine aE ?_
  refine awp_seq ?_
  refine awp_seq ?_
  refine awp_region ?_
  refine aR 1 ?_
  refine aL api_Spot.enc ql ?_
  refine aR 1 ?_
  refine aE ?_
  refine awp_block ?_
  refine awp_to (st' := place_edges_f1_place_touch_1_x1_H ql qf 0) (oT [] []) ?_
  refine bE hF fun x h7 hF => ?_
  rcases x with _ | _
  · refine awp_sub (awp_loop' (place_edges_f1_place_touch_1_x1_H ql qf) place_edges_f1_place_touch_1_x1_k (place_edges_f1_place_touch_1_x1_S ql qf) (by intro x; rcases x with x | x <;> exact fun h => nomatch h) h7 (place_edges_f1_place_touch_1_x1_ok ql qf)) ?_
    refine awp_seq ?_
    refine awp_region ?_
    refine aR 1 ?_
    refine aE ?_
    refine awp_ret ?_
    exact oF hF [] []
  · refine awp_sub (awp_loop' (place_edges_f1_place_touch_1_x1_H ql qf) place_edges_f1_place_touch_1_x1_k (place_edges_f1_place_touch_1_x1_S ql qf) (by intro x; rcases x with x | x <;> exact fun h => nomatch h) h7 (place_edges_f1_place_touch_1_x1_ok ql qf)) ?_
    exact oF hF [] []

/-! ### beaconfleet/place.touch -/
def place_touch_x1_k : Bool → AEx
  | _ => .normal

def place_touch_x1_S (ql : List api_Spot) (qm : List api_Spot) : Bool → St
  | vx => Mem.st ⟨[], []⟩ (tl [(4, .v (.one (.d (.bool vx))))]) 0

def place_touch_x1_I (ql : List api_Spot) (qm : List api_Spot) : St := Mem.st ⟨[], [(0, [.d (.lst (List.map api_Spot.enc qm))])]⟩ (tl [(0, .v (.one (.d (.lst (List.map api_Spot.enc ql))))), (3, .v (.one (.box 0 0)))]) 1

theorem place_touch_x1_ok (ql : List api_Spot) (qm : List api_Spot) {r} (hF : place_touch_x1 ql qm = some r) : Awp prog 0 24 (cL (cR (cB f36))) (Out 0 place_touch_x1_k (place_touch_x1_S ql qm) r) (place_touch_x1_I ql qm) := by
  unfold place_touch_x1 at hF
  refine bE hF fun vy h1 hF => ?_
  refine bE hF fun vr1 h2 hF => ?_
  refine cE hF (fun h3 hF => ?_) fun h3 hF => ?_
  · refine aD ?_
    refine dR 2 ?_
    refine dX (x_idx api_Spot.enc h1) ?_
    refine dR 1 ?_
    refine dC (place_where_ok h2) [] [] [] ?_
    refine dB h3 ?_
    refine dR 14 ?_
    refine dE ?_
    exact oO hF [] [] rfl
  · refine bE hF fun vy1 h4 hF => ?_
    refine bE hF fun vr1_1 h5 hF => ?_
    refine cE hF (fun h6 hF => ?_) fun h6 hF => ?_
    · refine aD ?_
      refine dR 2 ?_
      refine dX (x_idx api_Spot.enc h1) ?_
      refine dR 1 ?_
      refine dC (place_where_ok h2) [] [] [] ?_
      refine dB h3 ?_
      refine dR 3 ?_
      refine dX (x_idx api_Spot.enc h4) ?_
      refine dR 1 ?_
      refine dC (place_where_ok h5) [] [] [] ?_
      refine dB h6 ?_
      refine dR 7 ?_
      refine dE ?_
      exact oO hF [] [] rfl
    · refine bE hF fun vr2 h7 hF => ?_
      refine aD ?_
      refine dR 2 ?_
      refine dX (x_idx api_Spot.enc h1) ?_
      refine dR 1 ?_
      refine dC (place_where_ok h2) [] [] [] ?_
      refine dB h3 ?_
      refine dR 3 ?_
      refine dX (x_idx api_Spot.enc h4) ?_
      refine dR 1 ?_
      refine dC (place_where_ok h5) [] [] [] ?_
      refine dB h6 ?_
      refine dR 4 ?_
      refine dC (place_edges_f1_place_touch_1_ok h7) [] [] [] ?_
      refine dR 2 ?_
      refine dE ?_
      exact oO hF [] [] rfl

def place_touch_R (ql : List api_Spot) (qm : List api_Spot) (r : Bool) : TV × Mem := (.v (.one (.d (.bool r))), ⟨[], []⟩)

theorem place_touch_ok {ql : List api_Spot} {qm : List api_Spot} {r} (hF : place_touch ql qm = some r) : Holds prog 36 [.v (.one (.d (.lst (List.map api_Spot.enc ql)))), .v (.one (.d (.lst (List.map api_Spot.enc qm))))] ⟨[], []⟩ (Is (place_touch_R ql qm r)) := by
  unfold place_touch at hF
  refine holds_of_awp hΓ (fn := f36) (c := cB f36) (A := 0) (nx := 0) (by kernel_rfl) (by kernel_rfl) (by kernel_rfl) (by kernel_rfl) (by kernel_rfl) (by kernel_rfl) (lowc_of (by kernel_rfl)) ?_
  show Awp prog 0 24 (cB f36) _ _
  refine awp_seq ?_
  refine awp_region ?_
  refine aR 2 ?_
  refine aE ?_
  refine awp_seq ?_
  refine awp_to (st' := place_touch_x1_I ql qm) (oT [] []) ?_
  refine bE hF fun vx1 h8 hF => ?_
  refine awp_sub (place_touch_x1_ok ql qm h8) ?_
  refine awp_ret ?_
  exact oF hF [] []

/-! ### beaconfleet/place.Meet -/
def place_Meet_R (qf : api_Fence) (qg : api_Fence) (r : Bool × Int) : TV × Mem := (.tup [.one (.d (.bool r.1)), .one (.d (.int .i64 r.2))], ⟨[], []⟩)

theorem place_Meet_ok {qf : api_Fence} {qg : api_Fence} {r} (hF : place_Meet qf qg = some r) : Holds prog 13 [.v (.agg [.d (.str qf.Key), .d (.lst (List.map api_Spot.enc qf.Corners))]), .v (.agg [.d (.str qg.Key), .d (.lst (List.map api_Spot.enc qg.Corners))])] ⟨[], []⟩ (Is (place_Meet_R qf qg r)) := by
  unfold place_Meet at hF
  refine holds_of_awp hΓ (fn := f13) (c := cB f13) (A := 0) (nx := 0) (by kernel_rfl) (by kernel_rfl) (by kernel_rfl) (by kernel_rfl) (by kernel_rfl) (by kernel_rfl) (lowc_of (by kernel_rfl)) ?_
  show Awp prog 0 21 (cB f13) _ _
  refine awp_seq ?_
  refine awp_region ?_
  refine aR 4 ?_
  refine aE ?_
  refine awp_seq ?_
  refine awp_seq ?_
  refine bE hF fun vr3 h1 hF => ?_
  refine bE hF fun vr3_1 h2 hF => ?_
  refine bE hF fun vr h3 hF => ?_
  refine aD ?_
  refine dR 1 ?_
  refine dC (place_CheckFence_ok h1) [] [] [] ?_
  refine dR 1 ?_
  refine dC (place_CheckFence_ok h2) [] [] [] ?_
  refine dR 1 ?_
  refine dC (base_First_ok h3) [] [] [8000] ?_
  refine dR 1 ?_
  refine dE ?_
  refine awp_seq ?_
  refine awp_region ?_
  refine aR 2 ?_
  refine aE ?_
  refine cE hF (fun h4 hF => ?_) fun h4 hF => ?_
  · refine awp_true (by kernel_rfl) h4 ?_
    refine awp_seq ?_
    refine awp_region ?_
    refine aR 3 ?_
    refine aE ?_
    refine awp_ret ?_
    exact oF hF [] []
  · refine awp_false (by kernel_rfl) h4 ?_
    refine awp_skip ?_
    refine awp_seq ?_
    refine bE hF fun vr1 h5 hF => ?_
    refine awp_region ?_
    refine aR 4 ?_
    refine aC (place_touch_ok h5) [] [] [] ?_
    refine aR 2 ?_
    refine aE ?_
    refine awp_ret ?_
    exact oF hF [] []

/-! ### beaconfleet/place.edges -/
def place_edges_f1_place_touch_1_2_x1_k : Unit ⊕ Unit → AEx
  | .inl _ => .exit 0
  | .inr _ => .ret

def place_edges_f1_place_touch_1_2_x1_S (ql : List api_Spot) : Unit ⊕ Unit → St
  | .inl _ => Mem.st ⟨[], [(0, [.d (.lst (List.map api_Spot.enc ql))])]⟩ (tl []) 1
  | .inr _ => Mem.st ⟨[], [(0, [.d (.lst (List.map api_Spot.enc ql))])]⟩ (tl [(4, .v (.one (.d (.bool true))))]) 1

def place_edges_f1_place_touch_1_2_x1_H (ql : List api_Spot) : Int → St
  | vx => Mem.st ⟨[], [(0, [.d (.lst (List.map api_Spot.enc ql))])]⟩ (tl [(0, .v (.one (.d (.lst (List.map api_Spot.enc ql))))), (1, .v (.one (.fn 67 [0]))), (7, .v (.one (.d (.lst (List.map api_Spot.enc ql))))), (8, .v (.one (.d (.int .i64 (ql.length : Int))))), (9, .v (.one (.d (.int .i64 vx))))]) 1

theorem place_edges_f1_place_touch_1_2_x1_ok (ql : List api_Spot) (vx : Int) (r : (Int) ⊕ (Unit ⊕ Unit)) (hF : place_edges_f1_place_touch_1_2_x1 ql vx = some r) : Awp prog 1 26 (cL (cL (cR (cL (cR (cB f66)))))) (Out 1 (kk place_edges_f1_place_touch_1_2_x1_k) (SS (place_edges_f1_place_touch_1_2_x1_H ql) (place_edges_f1_place_touch_1_2_x1_S ql)) r) (place_edges_f1_place_touch_1_2_x1_H ql vx) := by
  unfold place_edges_f1_place_touch_1_2_x1 at hF
  refine awp_seq ?_
  refine awp_region ?_
  refine aR 1 ?_
  refine aE ?_
  refine awp_seq ?_
  refine cE hF (fun h1 hF => ?_) fun h1 hF => ?_
  · refine awp_true (by kernel_rfl) h1 ?_
    refine awp_skip ?_
    refine awp_seq ?_
    refine awp_block ?_
    refine awp_seq ?_
    refine bE hF fun vy2 h2 hF => ?_
    refine awp_region ?_
    refine aR 1 ?_
    refine aX (x_idx api_Spot.enc h2) ?_
    refine aR 4 ?_
    refine aE ?_
    refine awp_seq ?_
    refine gE hF fun h3 hF => ?_
    refine bE hF fun vy3 h4 hF => ?_
    refine bE hF fun vr1 h5 hF => ?_
    refine aD ?_
    refine dR 6 ?_
    refine dL api_Spot.enc ql ?_
    refine dX (x_rem h3) ?_
    refine dX (x_idx api_Spot.enc h4) ?_
    refine dR 1 ?_
    refine dC (place_touch_1_ok h5) [] [] [] ?_
    refine dE ?_
    refine cE hF (fun h6 hF => ?_) fun h6 hF => ?_
    · refine awp_true (by kernel_rfl) h6 ?_
      refine awp_seq ?_
      refine awp_region ?_
      refine aR 1 ?_
      refine aE ?_
      refine awp_ret ?_
      exact oO hF [] [] rfl
    · refine awp_false (by kernel_rfl) h6 ?_
      refine awp_skip ?_
      refine awp_region ?_
      refine aR 2 ?_
      refine aE ?_
      exact oO hF [] [] rfl
  · refine awp_false (by kernel_rfl) h1 ?_
    refine awp_exit ?_
    exact oO hF [] [] rfl

def place_edges_f1_place_touch_1_2_R (ql : List api_Spot) (r : Bool) : TV × Mem := (.v (.one (.d (.bool r))), ⟨[], [(0, [.d (.lst (List.map api_Spot.enc ql))])]⟩)

theorem place_edges_f1_place_touch_1_2_ok {ql : List api_Spot} {r} (hF : place_edges_f1_place_touch_1_2 ql = some r) : Holds prog 66 [.v (.one (.d (.lst (List.map api_Spot.enc ql)))), .v (.one (.fn 67 [0]))] ⟨[], [(0, [.d (.lst (List.map api_Spot.enc ql))])]⟩ (Is (place_edges_f1_place_touch_1_2_R ql r)) := by
  unfold place_edges_f1_place_touch_1_2 at hF
  refine holds_of_awp hΓ (fn := f66) (c := cB f66) (A := 1) (nx := 1) (by kernel_rfl) (by kernel_rfl) (by kernel_rfl) (by kernel_rfl) (by kernel_rfl) (by kernel_rfl) (lowc_of (by kernel_rfl)) ?_
  show Awp prog 1 26 (cB f66) _ _
  refine awp_seq ?_
  refine awp_region ?_
  refine aR 1 ?_
  refine aE ?_
  refine awp_seq ?_
  refine awp_seq ?_
  refine awp_region ?_
  refine aR 1 ?_
  refine aL api_Spot.enc ql ?_
  refine aR 1 ?_
  refine aE ?_
  refine awp_block ?_
  refine awp_to (st' := place_edges_f1_place_touch_1_2_x1_H ql 0) (oT [] []) ?_
  refine bE hF fun x h7 hF => ?_
  rcases x with _ | _
  · refine awp_sub (awp_loop' (place_edges_f1_place_touch_1_2_x1_H ql) place_edges_f1_place_touch_1_2_x1_k (place_edges_f1_place_touch_1_2_x1_S ql) (by intro x; rcases x with x | x <;> exact fun h => nomatch h) h7 (place_edges_f1_place_touch_1_2_x1_ok ql)) ?_
    refine awp_seq ?_
    refine awp_region ?_
    refine aR 1 ?_
    refine aE ?_
    refine awp_ret ?_
    exact oF hF [] []
  · refine awp_sub (awp_loop' (place_edges_f1_place_touch_1_2_x1_H ql) place_edges_f1_place_touch_1_2_x1_k (place_edges_f1_place_touch_1_2_x1_S ql) (by intro x; rcases x with x | x <;> exact fun h => nomatch h) h7 (place_edges_f1_place_touch_1_2_x1_ok ql)) ?_
    exact oF hF [] []

/-! ### beaconfleet/place.touch -/
def place_touch_2_x1_k : Bool → AEx
  | _ => .normal

def place_touch_2_x1_S (ql : List api_Spot) : Bool → St
  | vx => Mem.st ⟨[], []⟩ (tl [(4, .v (.one (.d (.bool vx))))]) 0

def place_touch_2_x1_I (ql : List api_Spot) : St := Mem.st ⟨[], [(0, [.d (.lst (List.map api_Spot.enc ql))])]⟩ (tl [(0, .v (.one (.d (.lst (List.map api_Spot.enc ql))))), (3, .v (.one (.box 0 0)))]) 1

theorem place_touch_2_x1_ok (ql : List api_Spot) {r} (hF : place_touch_2_x1 ql = some r) : Awp prog 0 24 (cL (cR (cB f36))) (Out 0 place_touch_2_x1_k (place_touch_2_x1_S ql) r) (place_touch_2_x1_I ql) := by
  unfold place_touch_2_x1 at hF
  refine bE hF fun vy h1 hF => ?_
  refine bE hF fun vr1 h2 hF => ?_
  refine cE hF (fun h3 hF => ?_) fun h3 hF => ?_
  · refine aD ?_
    refine dR 2 ?_
    refine dX (x_idx api_Spot.enc h1) ?_
    refine dR 1 ?_
    refine dC (place_where_ok h2) [] [] [] ?_
    refine dB h3 ?_
    refine dR 14 ?_
    refine dE ?_
    exact oO hF [] [] rfl
  · refine bE hF fun vr2 h4 hF => ?_
    refine aD ?_
    refine dR 2 ?_
    refine dX (x_idx api_Spot.enc h1) ?_
    refine dR 1 ?_
    refine dC (place_where_ok h2) [] [] [] ?_
    refine dB h3 ?_
    refine dR 3 ?_
    refine dX (x_idx api_Spot.enc h1) ?_
    refine dR 1 ?_
    refine dC (place_where_ok h2) [] [] [] ?_
    refine dB h3 ?_
    refine dR 4 ?_
    refine dC (place_edges_f1_place_touch_1_2_ok h4) [] [] [] ?_
    refine dR 2 ?_
    refine dE ?_
    exact oO hF [] [] rfl

def place_touch_2_R (ql : List api_Spot) (r : Bool) : TV × Mem := (.v (.one (.d (.bool r))), ⟨[], []⟩)

theorem place_touch_2_ok {ql : List api_Spot} {r} (hF : place_touch_2 ql = some r) : Holds prog 36 [.v (.one (.d (.lst (List.map api_Spot.enc ql)))), .v (.one (.d (.lst (List.map api_Spot.enc ql))))] ⟨[], []⟩ (Is (place_touch_2_R ql r)) := by
  unfold place_touch_2 at hF
  refine holds_of_awp hΓ (fn := f36) (c := cB f36) (A := 0) (nx := 0) (by kernel_rfl) (by kernel_rfl) (by kernel_rfl) (by kernel_rfl) (by kernel_rfl) (by kernel_rfl) (lowc_of (by kernel_rfl)) ?_
  show Awp prog 0 24 (cB f36) _ _
  refine awp_seq ?_
  refine awp_region ?_
  refine aR 2 ?_
  refine aE ?_
  refine awp_seq ?_
  refine awp_to (st' := place_touch_2_x1_I ql) (oT [] []) ?_
  refine bE hF fun vx1 h5 hF => ?_
  refine awp_sub (place_touch_2_x1_ok ql h5) ?_
  refine awp_ret ?_
  exact oF hF [] []

/-! ### beaconfleet/place.Meet -/
def place_Meet_2_R (qf : api_Fence) (r : Bool × Int) : TV × Mem := (.tup [.one (.d (.bool r.1)), .one (.d (.int .i64 r.2))], ⟨[], []⟩)

theorem place_Meet_2_ok {qf : api_Fence} {r} (hF : place_Meet_2 qf = some r) : Holds prog 13 [.v (.agg [.d (.str qf.Key), .d (.lst (List.map api_Spot.enc qf.Corners))]), .v (.agg [.d (.str qf.Key), .d (.lst (List.map api_Spot.enc qf.Corners))])] ⟨[], []⟩ (Is (place_Meet_2_R qf r)) := by
  unfold place_Meet_2 at hF
  refine holds_of_awp hΓ (fn := f13) (c := cB f13) (A := 0) (nx := 0) (by kernel_rfl) (by kernel_rfl) (by kernel_rfl) (by kernel_rfl) (by kernel_rfl) (by kernel_rfl) (lowc_of (by kernel_rfl)) ?_
  show Awp prog 0 21 (cB f13) _ _
  refine awp_seq ?_
  refine awp_region ?_
  refine aR 4 ?_
  refine aE ?_
  refine awp_seq ?_
  refine awp_seq ?_
  refine bE hF fun vr3 h1 hF => ?_
  refine bE hF fun vr h2 hF => ?_
  refine aD ?_
  refine dR 1 ?_
  refine dC (place_CheckFence_ok h1) [] [] [] ?_
  refine dR 1 ?_
  refine dC (place_CheckFence_ok h1) [] [] [] ?_
  refine dR 1 ?_
  refine dC (base_First_ok h2) [] [] [8000] ?_
  refine dR 1 ?_
  refine dE ?_
  refine awp_seq ?_
  refine awp_region ?_
  refine aR 2 ?_
  refine aE ?_
  refine cE hF (fun h3 hF => ?_) fun h3 hF => ?_
  · refine awp_true (by kernel_rfl) h3 ?_
    refine awp_seq ?_
    refine awp_region ?_
    refine aR 3 ?_
    refine aE ?_
    refine awp_ret ?_
    exact oF hF [] []
  · refine awp_false (by kernel_rfl) h3 ?_
    refine awp_skip ?_
    refine awp_seq ?_
    refine bE hF fun vr1 h4 hF => ?_
    refine awp_region ?_
    refine aR 4 ?_
    refine aC (place_touch_2_ok h4) [] [] [] ?_
    refine aR 2 ?_
    refine aE ?_
    refine awp_ret ?_
    exact oF hF [] []

/-! ### beaconfleet/place.spotFault -/
def place_spotFault_x2_k : Bool → AEx
  | _ => .normal

def place_spotFault_x2_S (qs : api_Spot) (vr3 : Int) : Bool → St
  | vx => Mem.st ⟨[], []⟩ (tl [(5, .v (.one (.d (.int .i64 vr3)))), (14, .v (.one (.d (.bool vx))))]) 0

def place_spotFault_x2_I (qs : api_Spot) (vr3 : Int) : St := Mem.st ⟨[], [(0, [.d (.int .i64 qs.X), .d (.int .i64 qs.Y)])]⟩ (tl [(3, .v (.one (.box 0 0))), (5, .v (.one (.d (.int .i64 vr3))))]) 1

theorem place_spotFault_x2_ok (qs : api_Spot) (vr3 : Int) {r} (hF : place_spotFault_x2 qs vr3 = some r) : Awp prog 0 16 (cL (cL (cR (cR (cB f37))))) (Out 0 place_spotFault_x2_k (place_spotFault_x2_S qs vr3) r) (place_spotFault_x2_I qs vr3) := by
  unfold place_spotFault_x2 at hF
  refine cE hF (fun h2 hF => ?_) fun h2 hF => ?_
  · refine bE hF fun vr2 h3 hF => ?_
    refine awp_region ?_
    refine aR 1 ?_
    refine aB h2 ?_
    refine aR 2 ?_
    refine aC (place_isSpot_ok h3) [] [] [] ?_
    refine aR 2 ?_
    refine aE ?_
    exact oO hF [] [] rfl
  · refine awp_region ?_
    refine aR 1 ?_
    refine aB h2 ?_
    refine aR 5 ?_
    refine aE ?_
    exact oO hF [] [] rfl

def place_spotFault_x1_k : Int → AEx
  | _ => .normal

def place_spotFault_x1_S (qs : api_Spot) (vr3 : Int) : Int → St
  | ve => Mem.st ⟨[], []⟩ (tl [(5, .v (.one (.d (.int .i64 ve))))]) 0

def place_spotFault_x1_I (qs : api_Spot) (vr3 : Int) : St := Mem.st ⟨[], [(0, [.d (.int .i64 qs.X), .d (.int .i64 qs.Y)])]⟩ (tl [(3, .v (.one (.box 0 0))), (5, .v (.one (.d (.int .i64 vr3))))]) 1

theorem place_spotFault_x1_ok (qs : api_Spot) (vr3 : Int) {r} (hF : place_spotFault_x1 qs vr3 = some r) : Awp prog 0 16 (cL (cR (cR (cB f37)))) (Out 0 place_spotFault_x1_k (place_spotFault_x1_S qs vr3) r) (place_spotFault_x1_I qs vr3) := by
  unfold place_spotFault_x1 at hF
  refine awp_seq ?_
  refine awp_to (st' := place_spotFault_x2_I qs vr3) (oT [] []) ?_
  refine bE hF fun vx1 h4 hF => ?_
  refine awp_sub (place_spotFault_x2_ok qs vr3 h4) ?_
  refine cE hF (fun h5 hF => ?_) fun h5 hF => ?_
  · refine awp_true (by kernel_rfl) h5 ?_
    refine awp_region ?_
    refine aR 1 ?_
    refine aE ?_
    exact oO hF [] [] rfl
  · refine awp_false (by kernel_rfl) h5 ?_
    refine awp_skip ?_
    exact oO hF [] [] rfl

def place_spotFault_R (qf : api_Fence) (qs : api_Spot) (r : Int) : TV × Mem := (.v (.one (.d (.int .i64 r))), ⟨[], []⟩)

theorem place_spotFault_ok {qf : api_Fence} {qs : api_Spot} {r} (hF : place_spotFault qf qs = some r) : Holds prog 37 [.v (.agg [.d (.str qf.Key), .d (.lst (List.map api_Spot.enc qf.Corners))]), .v (.agg [.d (.int .i64 qs.X), .d (.int .i64 qs.Y)])] ⟨[], []⟩ (Is (place_spotFault_R qf qs r)) := by
  unfold place_spotFault at hF
  refine holds_of_awp hΓ (fn := f37) (c := cB f37) (A := 0) (nx := 0) (by kernel_rfl) (by kernel_rfl) (by kernel_rfl) (by kernel_rfl) (by kernel_rfl) (by kernel_rfl) (lowc_of (by kernel_rfl)) ?_
  show Awp prog 0 16 (cB f37) _ _
  refine awp_seq ?_
  refine awp_region ?_
  refine aR 3 ?_
  refine aE ?_
  refine awp_seq ?_
  refine bE hF fun vr3 h1 hF => ?_
  refine awp_region ?_
  refine aR 1 ?_
  refine aC (place_CheckFence_ok h1) [] [] [] ?_
  refine aR 1 ?_
  refine aE ?_
  refine awp_seq ?_
  refine awp_to (st' := place_spotFault_x1_I qs vr3) (oT [(0, 1000)] []) ?_
  refine bE hF fun ve1 h6 hF => ?_
  refine awp_sub (place_spotFault_x1_ok qs vr3 h6) ?_
  refine awp_seq ?_
  refine awp_region ?_
  refine aR 2 ?_
  refine aE ?_
  refine awp_ret ?_
  exact oF hF [] []

/-! ### beaconfleet/place.Where -/
def place_Where_R (qf : api_Fence) (qs : api_Spot) (r : Int × Int) : TV × Mem := (.tup [.one (.d (.int .i64 r.1)), .one (.d (.int .i64 r.2))], ⟨[], []⟩)

theorem place_Where_ok {qf : api_Fence} {qs : api_Spot} {r} (hF : place_Where qf qs = some r) : Holds prog 14 [.v (.agg [.d (.str qf.Key), .d (.lst (List.map api_Spot.enc qf.Corners))]), .v (.agg [.d (.int .i64 qs.X), .d (.int .i64 qs.Y)])] ⟨[], []⟩ (Is (place_Where_R qf qs r)) := by
  unfold place_Where at hF
  refine holds_of_awp hΓ (fn := f14) (c := cB f14) (A := 0) (nx := 0) (by kernel_rfl) (by kernel_rfl) (by kernel_rfl) (by kernel_rfl) (by kernel_rfl) (by kernel_rfl) (lowc_of (by kernel_rfl)) ?_
  show Awp prog 0 17 (cB f14) _ _
  refine awp_seq ?_
  refine awp_region ?_
  refine aR 4 ?_
  refine aE ?_
  refine awp_seq ?_
  refine awp_seq ?_
  refine bE hF fun vr h1 hF => ?_
  refine awp_region ?_
  refine aR 2 ?_
  refine aC (place_spotFault_ok h1) [] [] [] ?_
  refine aR 1 ?_
  refine aE ?_
  refine awp_seq ?_
  refine awp_region ?_
  refine aR 2 ?_
  refine aE ?_
  refine cE hF (fun h2 hF => ?_) fun h2 hF => ?_
  · refine awp_true (by kernel_rfl) h2 ?_
    refine awp_seq ?_
    refine awp_region ?_
    refine aR 3 ?_
    refine aE ?_
    refine awp_ret ?_
    exact oF hF [] []
  · refine awp_false (by kernel_rfl) h2 ?_
    refine awp_skip ?_
    refine awp_seq ?_
    refine bE hF fun vr1 h3 hF => ?_
    refine awp_region ?_
    refine aR 3 ?_
    refine aC (place_where_ok h3) [] [] [] ?_
    refine aR 2 ?_
    refine aE ?_
    refine awp_ret ?_
    exact oF hF [] []

/-! ### beaconfleet/fleetkeep2.FencesMeetBothWays -/
def fleetkeep2_FencesMeetBothWays_x1_k : Bool → AEx
  | _ => .normal

def fleetkeep2_FencesMeetBothWays_x1_S (vr2_1 : Bool) (vr4 : Int) (vr2_2 : Bool) (vr4_1 : Int) (vr2_3 : Bool) (vr4_2 : Int) (vr2_4 : Int) (vr3 : Int) (vr2_5 : Int) (vr3_1 : Int) : Bool → St
  | vx => Mem.st ⟨[], []⟩ (tl [(2, .v (.one (.d (.bool vx))))]) 0

def fleetkeep2_FencesMeetBothWays_x1_I (vr2_1 : Bool) (vr4 : Int) (vr2_2 : Bool) (vr4_1 : Int) (vr2_3 : Bool) (vr4_2 : Int) (vr2_4 : Int) (vr3 : Int) (vr2_5 : Int) (vr3_1 : Int) : St := Mem.st ⟨[], []⟩ (tl [(7, .v (.one (.d (.bool vr2_1)))), (8, .v (.one (.d (.int .i64 vr4)))), (9, .v (.one (.d (.bool vr2_2)))), (10, .v (.one (.d (.int .i64 vr4_1)))), (11, .v (.one (.d (.bool vr2_3)))), (12, .v (.one (.d (.int .i64 vr4_2)))), (13, .v (.one (.d (.int .i64 vr2_4)))), (14, .v (.one (.d (.int .i64 vr3)))), (15, .v (.one (.d (.int .i64 vr2_5)))), (16, .v (.one (.d (.int .i64 vr3_1))))]) 0

theorem fleetkeep2_FencesMeetBothWays_x1_ok (vr2_1 : Bool) (vr4 : Int) (vr2_2 : Bool) (vr4_1 : Int) (vr2_3 : Bool) (vr4_2 : Int) (vr2_4 : Int) (vr3 : Int) (vr2_5 : Int) (vr3_1 : Int) {r} (hF : fleetkeep2_FencesMeetBothWays_x1 vr2_1 vr4 vr2_2 vr4_1 vr2_3 vr4_2 vr2_4 vr3 vr2_5 vr3_1 = some r) : Awp prog 0 86 (cL (cR (cR (cR (cR (cR (cR (cR (cR (cB f4)))))))))) (Out 0 fleetkeep2_FencesMeetBothWays_x1_k (fleetkeep2_FencesMeetBothWays_x1_S vr2_1 vr4 vr2_2 vr4_1 vr2_3 vr4_2 vr2_4 vr3 vr2_5 vr3_1) r) (fleetkeep2_FencesMeetBothWays_x1_I vr2_1 vr4 vr2_2 vr4_1 vr2_3 vr4_2 vr2_4 vr3 vr2_5 vr3_1) := by
  unfold fleetkeep2_FencesMeetBothWays_x1 at hF
  refine bE hF fun vr h9 hF => ?_
  refine cE hF (fun h10 hF => ?_) fun h10 hF => ?_
  · refine cE hF (fun h11 hF => ?_) fun h11 hF => ?_
    · refine cE hF (fun h12 hF => ?_) fun h12 hF => ?_
      · refine cE hF (fun h13 hF => ?_) fun h13 hF => ?_
        · refine cE hF (fun h14 hF => ?_) fun h14 hF => ?_
          · refine bE hF fun vr9_2 h15 hF => ?_
            refine awp_region ?_
            refine aR 6 ?_
            refine aC (fleetkeep2_errs_ok h9) [] [] [5000] ?_
            refine aB h10 ?_
            refine aR 1 ?_
            refine aB h13 ?_
            refine aR 1 ?_
            refine aB h14 ?_
            refine aR 2 ?_
            refine aB h12 ?_
            refine aR 2 ?_
            refine aB h13 ?_
            refine aR 10 ?_
            refine aC (fleetkeep2_ready_ok h15) [] [] [] ?_
            refine aR 2 ?_
            refine aE ?_
            exact oO hF [] [] rfl
          · refine awp_region ?_
            refine aR 6 ?_
            refine aC (fleetkeep2_errs_ok h9) [] [] [5000] ?_
            refine aB h10 ?_
            refine aR 1 ?_
            refine aB h13 ?_
            refine aR 1 ?_
            refine aB h14 ?_
            refine aR 19 ?_
            refine aE ?_
            exact oO hF [] [] rfl
        · refine cE hF (fun h16 hF => ?_) fun h16 hF => ?_
          · refine cE hF (fun h17 hF => ?_) fun h17 hF => ?_
            · refine bE hF fun vr9_3 h18 hF => ?_
              refine awp_region ?_
              refine aR 6 ?_
              refine aC (fleetkeep2_errs_ok h9) [] [] [5000] ?_
              refine aB h10 ?_
              refine aR 1 ?_
              refine aB h13 ?_
              refine aR 1 ?_
              refine aB h16 ?_
              refine aR 2 ?_
              refine aB h12 ?_
              refine aR 2 ?_
              refine aB h13 ?_
              refine aR 2 ?_
              refine aB h17 ?_
              refine aR 7 ?_
              refine aC (fleetkeep2_ready_ok h18) [] [] [] ?_
              refine aR 2 ?_
              refine aE ?_
              exact oO hF [] [] rfl
            · refine cE hF (fun h19 hF => ?_) fun h19 hF => ?_
              · refine bE hF fun vr9_4 h20 hF => ?_
                refine awp_region ?_
                refine aR 6 ?_
                refine aC (fleetkeep2_errs_ok h9) [] [] [5000] ?_
                refine aB h10 ?_
                refine aR 1 ?_
                refine aB h13 ?_
                refine aR 1 ?_
                refine aB h16 ?_
                refine aR 2 ?_
                refine aB h12 ?_
                refine aR 2 ?_
                refine aB h13 ?_
                refine aR 2 ?_
                refine aB h17 ?_
                refine aR 3 ?_
                refine aB h19 ?_
                refine aR 3 ?_
                refine aC (fleetkeep2_ready_ok h20) [] [] [] ?_
                refine aR 2 ?_
                refine aE ?_
                exact oO hF [] [] rfl
              · refine awp_region ?_
                refine aR 6 ?_
                refine aC (fleetkeep2_errs_ok h9) [] [] [5000] ?_
                refine aB h10 ?_
                refine aR 1 ?_
                refine aB h13 ?_
                refine aR 1 ?_
                refine aB h16 ?_
                refine aR 2 ?_
                refine aB h12 ?_
                refine aR 2 ?_
                refine aB h13 ?_
                refine aR 2 ?_
                refine aB h17 ?_
                refine aR 3 ?_
                refine aB h19 ?_
                refine aR 6 ?_
                refine aE ?_
                exact oO hF [] [] rfl
          · refine awp_region ?_
            refine aR 6 ?_
            refine aC (fleetkeep2_errs_ok h9) [] [] [5000] ?_
            refine aB h10 ?_
            refine aR 1 ?_
            refine aB h13 ?_
            refine aR 1 ?_
            refine aB h16 ?_
            refine aR 19 ?_
            refine aE ?_
            exact oO hF [] [] rfl
      · refine awp_region ?_
        refine aR 6 ?_
        refine aC (fleetkeep2_errs_ok h9) [] [] [5000] ?_
        refine aB h10 ?_
        refine aR 3 ?_
        refine aB h11 ?_
        refine aR 2 ?_
        refine aB h12 ?_
        refine aR 16 ?_
        refine aE ?_
        exact oO hF [] [] rfl
    · refine awp_region ?_
      refine aR 6 ?_
      refine aC (fleetkeep2_errs_ok h9) [] [] [5000] ?_
      refine aB h10 ?_
      refine aR 3 ?_
      refine aB h11 ?_
      refine aR 19 ?_
      refine aE ?_
      exact oO hF [] [] rfl
  · refine awp_region ?_
    refine aR 6 ?_
    refine aC (fleetkeep2_errs_ok h9) [] [] [5000] ?_
    refine aB h10 ?_
    refine aR 23 ?_
    refine aE ?_
    exact oO hF [] [] rfl

def fleetkeep2_FencesMeetBothWays_R (qx : List Int) (r : Bool) : TV × Mem := (.v (.one (.d (.bool r))), ⟨[], []⟩)

theorem fleetkeep2_FencesMeetBothWays_ok {qx : List Int} {r} (hF : fleetkeep2_FencesMeetBothWays qx = some r) : Holds prog 4 [.v (.one (.d (.lst (List.map (encI .i64) qx))))] ⟨[], []⟩ (Is (fleetkeep2_FencesMeetBothWays_R qx r)) := by
  unfold fleetkeep2_FencesMeetBothWays at hF
  refine holds_of_awp hΓ (fn := f4) (c := cB f4) (A := 0) (nx := 0) (by kernel_rfl) (by kernel_rfl) (by kernel_rfl) (by kernel_rfl) (by kernel_rfl) (by kernel_rfl) (lowc_of (by kernel_rfl)) ?_
  show Awp prog 0 86 (cB f4) _ _
  refine awp_seq ?_
  refine awp_region ?_
  refine aR 1 ?_
  refine aE ?_
  refine awp_seq ?_
  refine awp_region ?_
  refine aR 4 ?_
  refine aE ?_
  refine awp_seq ?_
  refine bE hF fun x h1 hF => ?_
  obtain ⟨vs15, vr9⟩ := x
  refine bE hF fun x h2 hF => ?_
  obtain ⟨vs15_1, vr9_1⟩ := x
  refine bE hF fun vr2 h3 hF => ?_
  refine awp_region ?_
  refine aR 1 ?_
  refine aC (fleetmake_Stream_RightFence_ok h1) [(0, 3000)] [] [] ?_
  refine aR 1 ?_
  refine aC (fleetmake_Stream_RightFence_ok h2) [(0, 3000)] [] [] ?_
  refine aR 1 ?_
  refine aC (fleetmake_Stream_Place_ok h3) [(0, 3000)] [] [] ?_
  refine aR 6 ?_
  refine aE ?_
  refine awp_seq ?_
  refine bE hF fun x h4 hF => ?_
  obtain ⟨vr2_1, vr4⟩ := x
  refine awp_region ?_
  refine aR 2 ?_
  refine aC (place_Meet_ok h4) [] [] [6001, 8001] ?_
  refine aR 5 ?_
  refine aE ?_
  refine awp_seq ?_
  refine bE hF fun x h5 hF => ?_
  obtain ⟨vr2_2, vr4_1⟩ := x
  refine awp_region ?_
  refine aR 2 ?_
  refine aC (place_Meet_ok h5) [] [] [6001, 8001] ?_
  refine aR 5 ?_
  refine aE ?_
  refine awp_seq ?_
  refine bE hF fun x h6 hF => ?_
  obtain ⟨vr2_3, vr4_2⟩ := x
  refine awp_region ?_
  refine aR 2 ?_
  refine aC (place_Meet_2_ok h6) [] [] [6001] ?_
  refine aR 5 ?_
  refine aE ?_
  refine awp_seq ?_
  refine bE hF fun x h7 hF => ?_
  obtain ⟨vr2_4, vr3⟩ := x
  refine awp_region ?_
  refine aR 2 ?_
  refine aC (place_Where_ok h7) [] [] [6001] ?_
  refine aR 5 ?_
  refine aE ?_
  refine awp_seq ?_
  refine bE hF fun x h8 hF => ?_
  obtain ⟨vr2_5, vr3_1⟩ := x
  refine awp_region ?_
  refine aR 2 ?_
  refine aC (place_Where_ok h8) [] [] [8001] ?_
  refine aR 5 ?_
  refine aE ?_
  refine awp_seq ?_
  refine awp_to (st' := fleetkeep2_FencesMeetBothWays_x1_I vr2_1 vr4 vr2_2 vr4_1 vr2_3 vr4_2 vr2_4 vr3 vr2_5 vr3_1) (oT [] []) ?_
  refine bE hF fun vx1 h21 hF => ?_
  refine awp_sub (fleetkeep2_FencesMeetBothWays_x1_ok vr2_1 vr4 vr2_2 vr4_1 vr2_3 vr4_2 vr2_4 vr3 vr2_5 vr3_1 h21) ?_
  refine awp_ret ?_
  exact oF hF [] []

end Go.Eng
