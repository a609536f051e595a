/-
The code of the Go functions that the law CellsNamed reaches does what the plain functions say, part 2.
-/
import Derived.Test.YtgjgjnfglkdgaaaDoorGenP1

namespace Go.Eng

open Go Go.Proofs.Tryd

set_option linter.unusedVariables false

set_option maxRecDepth 20000

set_option maxHeartbeats 0

/-! ### beaconfleet/place.where$2 -/
def place_where_2_x1_k : (api_Spot × api_Spot) → AEx
  | _ => .normal

def place_where_2_x1_S (qa : api_Spot) (qb : api_Spot) (qx : api_Spot) (qx1 : Bool) : (api_Spot × api_Spot) → St
  | (va, vb) => Mem.st ⟨[], [(0, [.d (.int .i64 qx.X), .d (.int .i64 qx.Y)]), (1, [.d (.bool qx1)]), (2, [.d (.int .i64 va.X), .d (.int .i64 va.Y)]), (3, [.d (.int .i64 vb.X), .d (.int .i64 vb.Y)])]⟩ (tl [(2, .v (.one (.box 0 0))), (3, .v (.one (.box 1 0))), (4, .v (.one (.box 2 0))), (5, .v (.one (.box 3 0)))]) 4

def place_where_2_x1_I (qa : api_Spot) (qb : api_Spot) (qx : api_Spot) (qx1 : Bool) : St := Mem.st ⟨[], [(0, [.d (.int .i64 qx.X), .d (.int .i64 qx.Y)]), (1, [.d (.bool qx1)]), (2, [.d (.int .i64 qa.X), .d (.int .i64 qa.Y)]), (3, [.d (.int .i64 qb.X), .d (.int .i64 qb.Y)])]⟩ (tl [(2, .v (.one (.box 0 0))), (3, .v (.one (.box 1 0))), (4, .v (.one (.box 2 0))), (5, .v (.one (.box 3 0)))]) 4

theorem place_where_2_x1_ok (qa : api_Spot) (qb : api_Spot) (qx : api_Spot) (qx1 : Bool) {r} (hF : place_where_2_x1 qa qb = some r) : Awp prog 2 35 (cL (cR (cB f81))) (Out 2 place_where_2_x1_k (place_where_2_x1_S qa qb qx qx1) r) (place_where_2_x1_I qa qb qx qx1) := by
  unfold place_where_2_x1 at hF
  refine awp_seq ?_
  refine awp_region ?_
  refine aR 5 ?_
  refine aE ?_
  refine cE hF (fun h1 hF => ?_) fun h1 hF => ?_
  · refine awp_true (by kernel_rfl) h1 ?_
    refine awp_region ?_
    refine aR 4 ?_
    refine aE ?_
    exact oO hF [] [] rfl
  · refine awp_false (by kernel_rfl) h1 ?_
    refine awp_skip ?_
    exact oO hF [] [] rfl

def place_where_2_x3_k : Bool → AEx
  | _ => .normal

def place_where_2_x3_S (qx : api_Spot) (qx1 : Bool) (va1 : api_Spot) (vb1 : api_Spot) : Bool → St
  | vx => Mem.st ⟨[], [(0, [.d (.int .i64 qx.X), .d (.int .i64 qx.Y)]), (1, [.d (.bool qx1)])]⟩ (tl [(3, .v (.one (.box 1 0))), (32, .v (.one (.d (.bool vx))))]) 2

def place_where_2_x3_I (qx : api_Spot) (qx1 : Bool) (va1 : api_Spot) (vb1 : api_Spot) : St := Mem.st ⟨[], [(0, [.d (.int .i64 qx.X), .d (.int .i64 qx.Y)]), (1, [.d (.bool qx1)]), (2, [.d (.int .i64 va1.X), .d (.int .i64 va1.Y)]), (3, [.d (.int .i64 vb1.X), .d (.int .i64 vb1.Y)])]⟩ (tl [(2, .v (.one (.box 0 0))), (3, .v (.one (.box 1 0))), (4, .v (.one (.box 2 0))), (5, .v (.one (.box 3 0)))]) 4

theorem place_where_2_x3_ok (qx : api_Spot) (qx1 : Bool) (va1 : api_Spot) (vb1 : api_Spot) {r} (hF : place_where_2_x3 qx va1 vb1 = some r) : Awp prog 2 35 (cL (cL (cR (cR (cB f81))))) (Out 2 place_where_2_x3_k (place_where_2_x3_S qx qx1 va1 vb1) r) (place_where_2_x3_I qx qx1 va1 vb1) := by
  unfold place_where_2_x3 at hF
  refine cE hF (fun h3 hF => ?_) fun h3 hF => ?_
  · refine cE hF (fun h4 hF => ?_) fun h4 hF => ?_
    · refine bE hF fun _ h5 hF => ?_
      refine awp_region ?_
      refine aR 4 ?_
      refine aB h3 ?_
      refine aR 5 ?_
      refine aB h4 ?_
      refine aR 5 ?_
      refine aC (place_side_ok h5) [] [] [] ?_
      refine aR 2 ?_
      refine aE ?_
      exact oO hF [] [] rfl
    · refine awp_region ?_
      refine aR 4 ?_
      refine aB h3 ?_
      refine aR 5 ?_
      refine aB h4 ?_
      refine aR 8 ?_
      refine aE ?_
      exact oO hF [] [] rfl
  · refine awp_region ?_
    refine aR 4 ?_
    refine aB h3 ?_
    refine aR 14 ?_
    refine aE ?_
    exact oO hF [] [] rfl

def place_where_2_x2_k : Bool → AEx
  | _ => .normal

def place_where_2_x2_S (qx : api_Spot) (qx1 : Bool) (va1 : api_Spot) (vb1 : api_Spot) : Bool → St
  | vs => Mem.st ⟨[], [(0, [.d (.int .i64 qx.X), .d (.int .i64 qx.Y)]), (1, [.d (.bool vs)])]⟩ (tl []) 2

def place_where_2_x2_I (qx : api_Spot) (qx1 : Bool) (va1 : api_Spot) (vb1 : api_Spot) : St := Mem.st ⟨[], [(0, [.d (.int .i64 qx.X), .d (.int .i64 qx.Y)]), (1, [.d (.bool qx1)]), (2, [.d (.int .i64 va1.X), .d (.int .i64 va1.Y)]), (3, [.d (.int .i64 vb1.X), .d (.int .i64 vb1.Y)])]⟩ (tl [(2, .v (.one (.box 0 0))), (3, .v (.one (.box 1 0))), (4, .v (.one (.box 2 0))), (5, .v (.one (.box 3 0)))]) 4

theorem place_where_2_x2_ok (qx : api_Spot) (qx1 : Bool) (va1 : api_Spot) (vb1 : api_Spot) {r} (hF : place_where_2_x2 qx qx1 va1 vb1 = some r) : Awp prog 2 35 (cL (cR (cR (cB f81)))) (Out 2 place_where_2_x2_k (place_where_2_x2_S qx qx1 va1 vb1) r) (place_where_2_x2_I qx qx1 va1 vb1) := by
  unfold place_where_2_x2 at hF
  refine awp_seq ?_
  refine awp_to (st' := place_where_2_x3_I qx qx1 va1 vb1) (oT [] []) ?_
  refine bE hF fun vx1 h6 hF => ?_
  refine awp_sub (place_where_2_x3_ok qx qx1 va1 vb1 h6) ?_
  refine cE hF (fun h7 hF => ?_) fun h7 hF => ?_
  · refine awp_true (by kernel_rfl) h7 ?_
    refine awp_region ?_
    refine aR 3 ?_
    refine aE ?_
    exact oO hF [] [] rfl
  · refine awp_false (by kernel_rfl) h7 ?_
    refine awp_skip ?_
    exact oO hF [] [] rfl

def place_where_2_R (qa : api_Spot) (qb : api_Spot) (qx : api_Spot) (qx1 : Bool) (r : Bool) : TV × Mem := (.v (.one (.d (.bool false))), ⟨[], [(0, [.d (.int .i64 qx.X), .d (.int .i64 qx.Y)]), (1, [.d (.bool r)])]⟩)

theorem place_where_2_ok {qa : api_Spot} {qb : api_Spot} {qx : api_Spot} {qx1 : Bool} {r} (hF : place_where_2 qa qb qx qx1 = some r) : Holds prog 81 [.v (.agg [.d (.int .i64 qa.X), .d (.int .i64 qa.Y)]), .v (.agg [.d (.int .i64 qb.X), .d (.int .i64 qb.Y)]), .v (.one (.box 0 0)), .v (.one (.box 1 0))] ⟨[], [(0, [.d (.int .i64 qx.X), .d (.int .i64 qx.Y)]), (1, [.d (.bool qx1)])]⟩ (Is (place_where_2_R qa qb qx qx1 r)) := by
  unfold place_where_2 at hF
  refine holds_of_awp hΓ (fn := f81) (c := cB f81) (A := 2) (nx := 2) (by kernel_rfl) (by kernel_rfl) (by kernel_rfl) (by kernel_rfl) (by kernel_rfl) (by kernel_rfl) (lowc_of (by kernel_rfl)) ?_
  show Awp prog 2 35 (cB f81) _ _
  refine awp_seq ?_
  refine awp_region ?_
  refine aR 3 ?_
  refine aE ?_
  refine awp_seq ?_
  refine awp_to (st' := place_where_2_x1_I qa qb qx qx1) (oT [(3, 1002)] []) ?_
  refine bE hF fun x h2 hF => ?_
  obtain ⟨va1, vb1⟩ := x
  refine awp_sub (place_where_2_x1_ok qa qb qx qx1 h2) ?_
  refine awp_seq ?_
  refine awp_to (st' := place_where_2_x2_I qx qx1 va1 vb1) (oT [] []) ?_
  refine bE hF fun vs1 h8 hF => ?_
  refine awp_sub (place_where_2_x2_ok qx qx1 va1 vb1 h8) ?_
  refine awp_seq ?_
  refine awp_region ?_
  refine aR 1 ?_
  refine aE ?_
  refine awp_ret ?_
  exact oF hF [] []

/-! ### beaconfleet/place.edges -/
def place_edges_f1_place_where_2_x1_k : Bool → AEx
  | _ => .exit 0

def place_edges_f1_place_where_2_x1_S (ql : List api_Spot) (qf : api_Spot) : Bool → St
  | vs1 => Mem.st ⟨[], [(0, [.d (.int .i64 qf.X), .d (.int .i64 qf.Y)]), (1, [.d (.bool vs1)])]⟩ (tl []) 2

def place_edges_f1_place_where_2_x1_H (ql : List api_Spot) (qf : api_Spot) : Bool × Int → St
  | (vs, vx) => Mem.st ⟨[], [(0, [.d (.int .i64 qf.X), .d (.int .i64 qf.Y)]), (1, [.d (.bool vs)])]⟩ (tl [(0, .v (.one (.d (.lst (List.map api_Spot.enc ql))))), (1, .v (.one (.fn 81 [0, 1]))), (7, .v (.one (.d (.lst (List.map api_Spot.enc ql))))), (8, .v (.one (.d (.int .i64 (ql.length : Int))))), (9, .v (.one (.d (.int .i64 vx))))]) 2

theorem place_edges_f1_place_where_2_x1_ok (ql : List api_Spot) (qf : api_Spot) (s : Bool × Int) (r : (Bool × Int) ⊕ (Bool)) (hF : place_edges_f1_place_where_2_x1 ql qf s = some r) : Awp prog 2 26 (cL (cL (cR (cL (cR (cB f67)))))) (Out 2 (kk place_edges_f1_place_where_2_x1_k) (SS (place_edges_f1_place_where_2_x1_H ql qf) (place_edges_f1_place_where_2_x1_S ql qf)) r) (place_edges_f1_place_where_2_x1_H ql qf s) := by
  obtain ⟨vs, vx⟩ := s
  unfold place_edges_f1_place_where_2_x1 at hF
  refine awp_seq ?_
  refine awp_region ?_
  refine aR 1 ?_
  refine aE ?_
  refine awp_seq ?_
  refine cE hF (fun h1 hF => ?_) fun h1 hF => ?_
  · refine awp_true (by kernel_rfl) h1 ?_
    refine awp_skip ?_
    refine awp_seq ?_
    refine awp_block ?_
    refine awp_seq ?_
    refine bE hF fun vy2 h2 hF => ?_
    refine awp_region ?_
    refine aR 1 ?_
    refine aX (x_idx api_Spot.enc h2) ?_
    refine aR 4 ?_
    refine aE ?_
    refine awp_seq ?_
    refine gE hF fun h3 hF => ?_
    refine bE hF fun vy3 h4 hF => ?_
    refine bE hF fun vs2_1 h5 hF => ?_
    refine aD ?_
    refine dR 6 ?_
    refine dL api_Spot.enc ql ?_
    refine dX (x_rem h3) ?_
    refine dX (x_idx api_Spot.enc h4) ?_
    refine dR 1 ?_
    refine dC (place_where_2_ok h5) [] [] [] ?_
    refine dE ?_
    refine awp_false (by kernel_rfl) rfl ?_
    refine awp_skip ?_
    refine awp_region ?_
    refine aR 2 ?_
    refine aE ?_
    exact oO hF [] [] rfl
  · refine awp_false (by kernel_rfl) h1 ?_
    refine awp_exit ?_
    exact oO hF [] [] rfl

def place_edges_f1_place_where_2_R (ql : List api_Spot) (qf : api_Spot) (qf1 : Bool) (r : Bool) : TV × Mem := (.v (.one (.d (.bool false))), ⟨[], [(0, [.d (.int .i64 qf.X), .d (.int .i64 qf.Y)]), (1, [.d (.bool r)])]⟩)

theorem place_edges_f1_place_where_2_ok {ql : List api_Spot} {qf : api_Spot} {qf1 : Bool} {r} (hF : place_edges_f1_place_where_2 ql qf qf1 = some r) : Holds prog 67 [.v (.one (.d (.lst (List.map api_Spot.enc ql)))), .v (.one (.fn 81 [0, 1]))] ⟨[], [(0, [.d (.int .i64 qf.X), .d (.int .i64 qf.Y)]), (1, [.d (.bool qf1)])]⟩ (Is (place_edges_f1_place_where_2_R ql qf qf1 r)) := by
  unfold place_edges_f1_place_where_2 at hF
  refine holds_of_awp hΓ (fn := f67) (c := cB f67) (A := 2) (nx := 2) (by kernel_rfl) (by kernel_rfl) (by kernel_rfl) (by kernel_rfl) (by kernel_rfl) (by kernel_rfl) (lowc_of (by kernel_rfl)) ?_
  show Awp prog 2 26 (cB f67) _ _
  refine awp_seq ?_
  refine awp_region ?_
  refine aR 1 ?_
  refine aE ?_
  refine awp_seq ?_
  refine awp_seq ?_
  refine awp_region ?_
  refine aR 1 ?_
  refine aL api_Spot.enc ql ?_
  refine aR 1 ?_
  refine aE ?_
  refine awp_block ?_
  refine awp_to (st' := place_edges_f1_place_where_2_x1_H ql qf (qf1, 0)) (oT [] []) ?_
  refine bE hF fun vs1_1 h6 hF => ?_
  refine awp_sub (awp_loop' (place_edges_f1_place_where_2_x1_H ql qf) place_edges_f1_place_where_2_x1_k (place_edges_f1_place_where_2_x1_S ql qf) (by intro x; exact fun h => nomatch h) h6 (place_edges_f1_place_where_2_x1_ok ql qf)) ?_
  refine awp_seq ?_
  refine awp_region ?_
  refine aR 1 ?_
  refine aE ?_
  refine awp_ret ?_
  exact oF hF [] []

/-! ### beaconfleet/place.where -/
def place_where_R (ql : List api_Spot) (qs : api_Spot) (r : Int) : TV × Mem := (.v (.one (.d (.int .i64 r))), ⟨[], []⟩)

theorem place_where_ok {ql : List api_Spot} {qs : api_Spot} {r} (hF : place_where ql qs = some r) : Holds prog 66 [.v (.one (.d (.lst (List.map api_Spot.enc ql)))), .v (.agg [.d (.int .i64 qs.X), .d (.int .i64 qs.Y)])] ⟨[], []⟩ (Is (place_where_R ql qs r)) := by
  unfold place_where at hF
  refine holds_of_awp hΓ (fn := f66) (c := cB f66) (A := 0) (nx := 0) (by kernel_rfl) (by kernel_rfl) (by kernel_rfl) (by kernel_rfl) (by kernel_rfl) (by kernel_rfl) (lowc_of (by kernel_rfl)) ?_
  show Awp prog 0 13 (cB f66) _ _
  refine awp_seq ?_
  refine awp_region ?_
  refine aR 2 ?_
  refine aE ?_
  refine awp_seq ?_
  refine awp_seq ?_
  refine bE hF fun vr h1 hF => ?_
  refine awp_region ?_
  refine aR 2 ?_
  refine aC (place_edges_f1_place_where_1_ok h1) [] [] [] ?_
  refine aE ?_
  refine cE hF (fun h2 hF => ?_) fun h2 hF => ?_
  · refine awp_true (by kernel_rfl) h2 ?_
    refine awp_seq ?_
    refine awp_region ?_
    refine aR 1 ?_
    refine aE ?_
    refine awp_ret ?_
    exact oF hF [] []
  · refine awp_false (by kernel_rfl) h2 ?_
    refine awp_skip ?_
    refine awp_seq ?_
    refine awp_region ?_
    refine aR 2 ?_
    refine aE ?_
    refine awp_seq ?_
    refine bE hF fun vs3 h3 hF => ?_
    refine awp_region ?_
    refine aR 2 ?_
    refine aC (place_edges_f1_place_where_2_ok h3) [(1, 5000)] [] [] ?_
    refine aE ?_
    refine awp_seq ?_
    refine awp_seq ?_
    refine awp_region ?_
    refine aR 1 ?_
    refine aE ?_
    refine cE hF (fun h4 hF => ?_) fun h4 hF => ?_
    · refine awp_true (by kernel_rfl) h4 ?_
      refine awp_seq ?_
      refine awp_region ?_
      refine aR 1 ?_
      refine aE ?_
      refine awp_ret ?_
      exact oF hF [] []
    · refine awp_false (by kernel_rfl) h4 ?_
      refine awp_skip ?_
      refine awp_seq ?_
      refine awp_region ?_
      refine aR 1 ?_
      refine aE ?_
      refine awp_ret ?_
      exact oF hF [] []

/-! ### beaconfleet/place.touch$1$1 -/
def place_touch_1_1_R (qc : api_Spot) (qd : api_Spot) (qx : api_Spot) (qx1 : api_Spot) (r : Bool) : TV × Mem := (.v (.one (.d (.bool r))), ⟨[], [(0, [.d (.int .i64 qx.X), .d (.int .i64 qx.Y)]), (1, [.d (.int .i64 qx1.X), .d (.int .i64 qx1.Y)])]⟩)

theorem place_touch_1_1_ok {qc : api_Spot} {qd : api_Spot} {qx : api_Spot} {qx1 : api_Spot} {r} (hF : place_touch_1_1 qc qd qx qx1 = some r) : Holds prog 69 [.v (.agg [.d (.int .i64 qc.X), .d (.int .i64 qc.Y)]), .v (.agg [.d (.int .i64 qd.X), .d (.int .i64 qd.Y)]), .v (.one (.box 0 0)), .v (.one (.box 1 0))] ⟨[], [(0, [.d (.int .i64 qx.X), .d (.int .i64 qx.Y)]), (1, [.d (.int .i64 qx1.X), .d (.int .i64 qx1.Y)])]⟩ (Is (place_touch_1_1_R qc qd qx qx1 r)) := by
  unfold place_touch_1_1 at hF
  refine holds_of_awp hΓ (fn := f69) (c := cB f69) (A := 2) (nx := 2) (by kernel_rfl) (by kernel_rfl) (by kernel_rfl) (by kernel_rfl) (by kernel_rfl) (by kernel_rfl) (lowc_of (by kernel_rfl)) ?_
  show Awp prog 2 12 (cB f69) _ _
  refine awp_seq ?_
  refine awp_region ?_
  refine aR 3 ?_
  refine aE ?_
  refine awp_seq ?_
  refine bE hF fun vr8 h1 hF => ?_
  refine awp_region ?_
  refine aR 4 ?_
  refine aC (place_meets_ok h1) [] [] [] ?_
  refine aR 1 ?_
  refine aE ?_
  refine awp_ret ?_
  exact oF hF [] []

/-! ### beaconfleet/place.edges -/
def place_edges_f1_place_touch_1_1_x1_k : Unit ⊕ Unit → AEx
  | .inl _ => .exit 0
  | .inr _ => .ret

def place_edges_f1_place_touch_1_1_x1_S (ql : List api_Spot) (qf : api_Spot) (qf1 : api_Spot) : Unit ⊕ Unit → St
  | .inl _ => Mem.st ⟨[], [(0, [.d (.int .i64 qf.X), .d (.int .i64 qf.Y)]), (1, [.d (.int .i64 qf1.X), .d (.int .i64 qf1.Y)])]⟩ (tl []) 2
  | .inr _ => Mem.st ⟨[], [(0, [.d (.int .i64 qf.X), .d (.int .i64 qf.Y)]), (1, [.d (.int .i64 qf1.X), .d (.int .i64 qf1.Y)])]⟩ (tl [(4, .v (.one (.d (.bool true))))]) 2

def place_edges_f1_place_touch_1_1_x1_H (ql : List api_Spot) (qf : api_Spot) (qf1 : api_Spot) : Int → St
  | vx => Mem.st ⟨[], [(0, [.d (.int .i64 qf.X), .d (.int .i64 qf.Y)]), (1, [.d (.int .i64 qf1.X), .d (.int .i64 qf1.Y)])]⟩ (tl [(0, .v (.one (.d (.lst (List.map api_Spot.enc ql))))), (1, .v (.one (.fn 69 [0, 1]))), (7, .v (.one (.d (.lst (List.map api_Spot.enc ql))))), (8, .v (.one (.d (.int .i64 (ql.length : Int))))), (9, .v (.one (.d (.int .i64 vx))))]) 2

theorem place_edges_f1_place_touch_1_1_x1_ok (ql : List api_Spot) (qf : api_Spot) (qf1 : api_Spot) (vx : Int) (r : (Int) ⊕ (Unit ⊕ Unit)) (hF : place_edges_f1_place_touch_1_1_x1 ql qf qf1 vx = some r) : Awp prog 2 26 (cL (cL (cR (cL (cR (cB f67)))))) (Out 2 (kk place_edges_f1_place_touch_1_1_x1_k) (SS (place_edges_f1_place_touch_1_1_x1_H ql qf qf1) (place_edges_f1_place_touch_1_1_x1_S ql qf qf1)) r) (place_edges_f1_place_touch_1_1_x1_H ql qf qf1 vx) := by
  unfold place_edges_f1_place_touch_1_1_x1 at hF
  refine awp_seq ?_
  refine awp_region ?_
  refine aR 1 ?_
  refine aE ?_
  refine awp_seq ?_
  refine cE hF (fun h1 hF => ?_) fun h1 hF => ?_
  · refine awp_true (by kernel_rfl) h1 ?_
    refine awp_skip ?_
    refine awp_seq ?_
    refine awp_block ?_
    refine awp_seq ?_
    refine bE hF fun vy2 h2 hF => ?_
    refine awp_region ?_
    refine aR 1 ?_
    refine aX (x_idx api_Spot.enc h2) ?_
    refine aR 4 ?_
    refine aE ?_
    refine awp_seq ?_
    refine gE hF fun h3 hF => ?_
    refine bE hF fun vy3 h4 hF => ?_
    refine bE hF fun vr1 h5 hF => ?_
    refine aD ?_
    refine dR 6 ?_
    refine dL api_Spot.enc ql ?_
    refine dX (x_rem h3) ?_
    refine dX (x_idx api_Spot.enc h4) ?_
    refine dR 1 ?_
    refine dC (place_touch_1_1_ok h5) [] [] [] ?_
    refine dE ?_
    refine cE hF (fun h6 hF => ?_) fun h6 hF => ?_
    · refine awp_true (by kernel_rfl) h6 ?_
      refine awp_seq ?_
      refine awp_region ?_
      refine aR 1 ?_
      refine aE ?_
      refine awp_ret ?_
      exact oO hF [] [] rfl
    · refine awp_false (by kernel_rfl) h6 ?_
      refine awp_skip ?_
      refine awp_region ?_
      refine aR 2 ?_
      refine aE ?_
      exact oO hF [] [] rfl
  · refine awp_false (by kernel_rfl) h1 ?_
    refine awp_exit ?_
    exact oO hF [] [] rfl

def place_edges_f1_place_touch_1_1_R (ql : List api_Spot) (qf : api_Spot) (qf1 : api_Spot) (r : Bool) : TV × Mem := (.v (.one (.d (.bool r))), ⟨[], [(0, [.d (.int .i64 qf.X), .d (.int .i64 qf.Y)]), (1, [.d (.int .i64 qf1.X), .d (.int .i64 qf1.Y)])]⟩)

theorem place_edges_f1_place_touch_1_1_ok {ql : List api_Spot} {qf : api_Spot} {qf1 : api_Spot} {r} (hF : place_edges_f1_place_touch_1_1 ql qf qf1 = some r) : Holds prog 67 [.v (.one (.d (.lst (List.map api_Spot.enc ql)))), .v (.one (.fn 69 [0, 1]))] ⟨[], [(0, [.d (.int .i64 qf.X), .d (.int .i64 qf.Y)]), (1, [.d (.int .i64 qf1.X), .d (.int .i64 qf1.Y)])]⟩ (Is (place_edges_f1_place_touch_1_1_R ql qf qf1 r)) := by
  unfold place_edges_f1_place_touch_1_1 at hF
  refine holds_of_awp hΓ (fn := f67) (c := cB f67) (A := 2) (nx := 2) (by kernel_rfl) (by kernel_rfl) (by kernel_rfl) (by kernel_rfl) (by kernel_rfl) (by kernel_rfl) (lowc_of (by kernel_rfl)) ?_
  show Awp prog 2 26 (cB f67) _ _
  refine awp_seq ?_
  refine awp_region ?_
  refine aR 1 ?_
  refine aE ?_
  refine awp_seq ?_
  refine awp_seq ?_
  refine awp_region ?_
  refine aR 1 ?_
  refine aL api_Spot.enc ql ?_
  refine aR 1 ?_
  refine aE ?_
  refine awp_block ?_
  refine awp_to (st' := place_edges_f1_place_touch_1_1_x1_H ql qf qf1 0) (oT [] []) ?_
  refine bE hF fun x h7 hF => ?_
  rcases x with _ | _
  · refine awp_sub (awp_loop' (place_edges_f1_place_touch_1_1_x1_H ql qf qf1) place_edges_f1_place_touch_1_1_x1_k (place_edges_f1_place_touch_1_1_x1_S ql qf qf1) (by intro x; rcases x with x | x <;> exact fun h => nomatch h) h7 (place_edges_f1_place_touch_1_1_x1_ok ql qf qf1)) ?_
    refine awp_seq ?_
    refine awp_region ?_
    refine aR 1 ?_
    refine aE ?_
    refine awp_ret ?_
    exact oF hF [] []
  · refine awp_sub (awp_loop' (place_edges_f1_place_touch_1_1_x1_H ql qf qf1) place_edges_f1_place_touch_1_1_x1_k (place_edges_f1_place_touch_1_1_x1_S ql qf qf1) (by intro x; rcases x with x | x <;> exact fun h => nomatch h) h7 (place_edges_f1_place_touch_1_1_x1_ok ql qf qf1)) ?_
    exact oF hF [] []

/-! ### beaconfleet/place.touch$1 -/
def place_touch_1_R (qa : api_Spot) (qb : api_Spot) (qx : List api_Spot) (r : Bool) : TV × Mem := (.v (.one (.d (.bool r))), ⟨[], [(0, [.d (.lst (List.map api_Spot.enc qx))])]⟩)

theorem place_touch_1_ok {qa : api_Spot} {qb : api_Spot} {qx : List api_Spot} {r} (hF : place_touch_1 qa qb qx = some r) : Holds prog 68 [.v (.agg [.d (.int .i64 qa.X), .d (.int .i64 qa.Y)]), .v (.agg [.d (.int .i64 qb.X), .d (.int .i64 qb.Y)]), .v (.one (.box 0 0))] ⟨[], [(0, [.d (.lst (List.map api_Spot.enc qx))])]⟩ (Is (place_touch_1_R qa qb qx r)) := by
  unfold place_touch_1 at hF
  refine holds_of_awp hΓ (fn := f68) (c := cB f68) (A := 1) (nx := 1) (by kernel_rfl) (by kernel_rfl) (by kernel_rfl) (by kernel_rfl) (by kernel_rfl) (by kernel_rfl) (lowc_of (by kernel_rfl)) ?_
  show Awp prog 1 9 (cB f68) _ _
  refine awp_seq ?_
  refine awp_region ?_
  refine aR 3 ?_
  refine aE ?_
  refine awp_seq ?_
  refine bE hF fun vr2 h1 hF => ?_
  refine awp_region ?_
  refine aR 2 ?_
  refine aC (place_edges_f1_place_touch_1_1_ok h1) [(0, 1), (1, 1001)] [] [] ?_
  refine aR 1 ?_
  refine aE ?_
  refine awp_ret ?_
  exact oF hF [] []

/-! ### beaconfleet/place.edges -/
def place_edges_f1_place_touch_1_x1_k : Unit ⊕ Unit → AEx
  | .inl _ => .exit 0
  | .inr _ => .ret

def place_edges_f1_place_touch_1_x1_S (ql : List api_Spot) (qf : List api_Spot) : Unit ⊕ Unit → St
  | .inl _ => Mem.st ⟨[], [(0, [.d (.lst (List.map api_Spot.enc qf))])]⟩ (tl []) 1
  | .inr _ => Mem.st ⟨[], [(0, [.d (.lst (List.map api_Spot.enc qf))])]⟩ (tl [(4, .v (.one (.d (.bool true))))]) 1

def place_edges_f1_place_touch_1_x1_H (ql : List api_Spot) (qf : List api_Spot) : Int → St
  | vx => Mem.st ⟨[], [(0, [.d (.lst (List.map api_Spot.enc qf))])]⟩ (tl [(0, .v (.one (.d (.lst (List.map api_Spot.enc ql))))), (1, .v (.one (.fn 68 [0]))), (7, .v (.one (.d (.lst (List.map api_Spot.enc ql))))), (8, .v (.one (.d (.int .i64 (ql.length : Int))))), (9, .v (.one (.d (.int .i64 vx))))]) 1

theorem place_edges_f1_place_touch_1_x1_ok (ql : List api_Spot) (qf : List api_Spot) (vx : Int) (r : (Int) ⊕ (Unit ⊕ Unit)) (hF : place_edges_f1_place_touch_1_x1 ql qf vx = some r) : Awp prog 1 26 (cL (cL (cR (cL (cR (cB f67)))))) (Out 1 (kk place_edges_f1_place_touch_1_x1_k) (SS (place_edges_f1_place_touch_1_x1_H ql qf) (place_edges_f1_place_touch_1_x1_S ql qf)) r) (place_edges_f1_place_touch_1_x1_H ql qf vx) := by
  unfold place_edges_f1_place_touch_1_x1 at hF
  refine awp_seq ?_
  refine awp_region ?_
  refine aR 1 ?_
  refine aE ?_
  refine awp_seq ?_
  refine cE hF (fun h1 hF => ?_) fun h1 hF => ?_
  · refine awp_true (by kernel_rfl) h1 ?_
    refine awp_skip ?_
    refine awp_seq ?_
    refine awp_block ?_
    refine awp_seq ?_
    refine bE hF fun vy2 h2 hF => ?_
    refine awp_region ?_
    refine aR 1 ?_
    refine aX (x_idx api_Spot.enc h2) ?_
    refine aR 4 ?_
    refine aE ?_
    refine awp_seq ?_
    refine gE hF fun h3 hF => ?_
    refine bE hF fun vy3 h4 hF => ?_
    refine bE hF fun vr1 h5 hF => ?_
    refine aD ?_
    refine dR 6 ?_
    refine dL api_Spot.enc ql ?_
    refine dX (x_rem h3) ?_
    refine dX (x_idx api_Spot.enc h4) ?_
    refine dR 1 ?_
    refine dC (place_touch_1_ok h5) [] [] [] ?_
    refine dE ?_
    refine cE hF (fun h6 hF => ?_) fun h6 hF => ?_
    · refine awp_true (by kernel_rfl) h6 ?_
      refine awp_seq ?_
      refine awp_region ?_
      refine aR 1 ?_
      refine aE ?_
      refine awp_ret ?_
      exact oO hF [] [] rfl
    · refine awp_false (by kernel_rfl) h6 ?_
      refine awp_skip ?_
      refine awp_region ?_
      refine aR 2 ?_
      refine aE ?_
      exact oO hF [] [] rfl
  · refine awp_false (by kernel_rfl) h1 ?_
    refine awp_exit ?_
    exact oO hF [] [] rfl

def place_edges_f1_place_touch_1_R (ql : List api_Spot) (qf : List api_Spot) (r : Bool) : TV × Mem := (.v (.one (.d (.bool r))), ⟨[], [(0, [.d (.lst (List.map api_Spot.enc qf))])]⟩)

theorem place_edges_f1_place_touch_1_ok {ql : List api_Spot} {qf : List api_Spot} {r} (hF : place_edges_f1_place_touch_1 ql qf = some r) : Holds prog 67 [.v (.one (.d (.lst (List.map api_Spot.enc ql)))), .v (.one (.fn 68 [0]))] ⟨[], [(0, [.d (.lst (List.map api_Spot.enc qf))])]⟩ (Is (place_edges_f1_place_touch_1_R ql qf r)) := by
  unfold place_edges_f1_place_touch_1 at hF
  refine holds_of_awp hΓ (fn := f67) (c := cB f67) (A := 1) (nx := 1) (by kernel_rfl) (by kernel_rfl) (by kernel_rfl) (by kernel_rfl) (by kernel_rfl) (by kernel_rfl) (lowc_of (by kernel_rfl)) ?_
  show Awp prog 1 26 (cB f67) _ _
  refine awp_seq ?_
  refine awp_region ?_
  refine aR 1 ?_
  refine aE ?_
  refine awp_seq ?_
  refine awp_seq ?_
  refine awp_region ?_
  refine aR 1 ?_
  refine aL api_Spot.enc ql ?_
  refine aR 1 ?_
  refine aE ?_
  refine awp_block ?_
  refine awp_to (st' := place_edges_f1_place_touch_1_x1_H ql qf 0) (oT [] []) ?_
  refine bE hF fun x h7 hF => ?_
  rcases x with _ | _
  · refine awp_sub (awp_loop' (place_edges_f1_place_touch_1_x1_H ql qf) place_edges_f1_place_touch_1_x1_k (place_edges_f1_place_touch_1_x1_S ql qf) (by intro x; rcases x with x | x <;> exact fun h => nomatch h) h7 (place_edges_f1_place_touch_1_x1_ok ql qf)) ?_
    refine awp_seq ?_
    refine awp_region ?_
    refine aR 1 ?_
    refine aE ?_
    refine awp_ret ?_
    exact oF hF [] []
  · refine awp_sub (awp_loop' (place_edges_f1_place_touch_1_x1_H ql qf) place_edges_f1_place_touch_1_x1_k (place_edges_f1_place_touch_1_x1_S ql qf) (by intro x; rcases x with x | x <;> exact fun h => nomatch h) h7 (place_edges_f1_place_touch_1_x1_ok ql qf)) ?_
    exact oF hF [] []

/-! ### beaconfleet/place.touch -/
def place_touch_x1_k : Bool → AEx
  | _ => .normal

def place_touch_x1_S (ql : List api_Spot) (qm : List api_Spot) : Bool → St
  | vx => Mem.st ⟨[], []⟩ (tl [(4, .v (.one (.d (.bool vx))))]) 0

def place_touch_x1_I (ql : List api_Spot) (qm : List api_Spot) : St := Mem.st ⟨[], [(0, [.d (.lst (List.map api_Spot.enc qm))])]⟩ (tl [(0, .v (.one (.d (.lst (List.map api_Spot.enc ql))))), (3, .v (.one (.box 0 0)))]) 1

theorem place_touch_x1_ok (ql : List api_Spot) (qm : List api_Spot) {r} (hF : place_touch_x1 ql qm = some r) : Awp prog 0 24 (cL (cR (cB f52))) (Out 0 place_touch_x1_k (place_touch_x1_S ql qm) r) (place_touch_x1_I ql qm) := by
  unfold place_touch_x1 at hF
  refine bE hF fun vy h1 hF => ?_
  refine bE hF fun vr1 h2 hF => ?_
  refine cE hF (fun h3 hF => ?_) fun h3 hF => ?_
  · refine aD ?_
    refine dR 2 ?_
    refine dX (x_idx api_Spot.enc h1) ?_
    refine dR 1 ?_
    refine dC (place_where_ok h2) [] [] [] ?_
    refine dB h3 ?_
    refine dR 14 ?_
    refine dE ?_
    exact oO hF [] [] rfl
  · refine bE hF fun vy1 h4 hF => ?_
    refine bE hF fun vr1_1 h5 hF => ?_
    refine cE hF (fun h6 hF => ?_) fun h6 hF => ?_
    · refine aD ?_
      refine dR 2 ?_
      refine dX (x_idx api_Spot.enc h1) ?_
      refine dR 1 ?_
      refine dC (place_where_ok h2) [] [] [] ?_
      refine dB h3 ?_
      refine dR 3 ?_
      refine dX (x_idx api_Spot.enc h4) ?_
      refine dR 1 ?_
      refine dC (place_where_ok h5) [] [] [] ?_
      refine dB h6 ?_
      refine dR 7 ?_
      refine dE ?_
      exact oO hF [] [] rfl
    · refine bE hF fun vr2 h7 hF => ?_
      refine aD ?_
      refine dR 2 ?_
      refine dX (x_idx api_Spot.enc h1) ?_
      refine dR 1 ?_
      refine dC (place_where_ok h2) [] [] [] ?_
      refine dB h3 ?_
      refine dR 3 ?_
      refine dX (x_idx api_Spot.enc h4) ?_
      refine dR 1 ?_
      refine dC (place_where_ok h5) [] [] [] ?_
      refine dB h6 ?_
      refine dR 4 ?_
      refine dC (place_edges_f1_place_touch_1_ok h7) [] [] [] ?_
      refine dR 2 ?_
      refine dE ?_
      exact oO hF [] [] rfl

def place_touch_R (ql : List api_Spot) (qm : List api_Spot) (r : Bool) : TV × Mem := (.v (.one (.d (.bool r))), ⟨[], []⟩)

theorem place_touch_ok {ql : List api_Spot} {qm : List api_Spot} {r} (hF : place_touch ql qm = some r) : Holds prog 52 [.v (.one (.d (.lst (List.map api_Spot.enc ql)))), .v (.one (.d (.lst (List.map api_Spot.enc qm))))] ⟨[], []⟩ (Is (place_touch_R ql qm r)) := by
  unfold place_touch at hF
  refine holds_of_awp hΓ (fn := f52) (c := cB f52) (A := 0) (nx := 0) (by kernel_rfl) (by kernel_rfl) (by kernel_rfl) (by kernel_rfl) (by kernel_rfl) (by kernel_rfl) (lowc_of (by kernel_rfl)) ?_
  show Awp prog 0 24 (cB f52) _ _
  refine awp_seq ?_
  refine awp_region ?_
  refine aR 2 ?_
  refine aE ?_
  refine awp_seq ?_
  refine awp_to (st' := place_touch_x1_I ql qm) (oT [] []) ?_
  refine bE hF fun vx1 h8 hF => ?_
  refine awp_sub (place_touch_x1_ok ql qm h8) ?_
  refine awp_ret ?_
  exact oF hF [] []

/-! ### beaconfleet/place.cells -/
def place_cells_o3_R (qx : List api_Spot) (qx1 : List UInt8) (qx2 : Int) (qx3 : List (List UInt8)) (r : (List (List UInt8))) : TV × Mem := (.v (.one (.own 1 none)), ⟨[(1, ⟨9, 1, List.map encS r⟩)], []⟩)

def place_cells_o3_x1_k : Bool → AEx
  | _ => .normal

def place_cells_o3_x1_S (qx : List api_Spot) (qx1 : List UInt8) (qx2 : Int) (qx3 : List (List UInt8)) (vr : api_Spot) (vr1 : Int) : Bool → St
  | vx => Mem.st ⟨[(1, ⟨9, 1, List.map encS qx3⟩)], []⟩ (tl [(0, .v (.one (.d (.lst (List.map api_Spot.enc qx))))), (1, .v (.one (.d (.str qx1)))), (2, .v (.one (.d (.int .i64 qx2)))), (3, .v (.one (.own 1 none))), (52, .v (.one (.d (.bool vx))))]) 2

def place_cells_o3_x1_I (qx : List api_Spot) (qx1 : List UInt8) (qx2 : Int) (qx3 : List (List UInt8)) (vr : api_Spot) (vr1 : Int) : St := Mem.st ⟨[(1, ⟨9, 1, List.map encS qx3⟩)], []⟩ (tl [(0, .v (.one (.d (.lst (List.map api_Spot.enc qx))))), (1, .v (.one (.d (.str qx1)))), (2, .v (.one (.d (.int .i64 qx2)))), (3, .v (.one (.own 1 none))), (11, .v (.one (.d (.lst (List.map api_Spot.enc ([vr, api_Spot.mk (IntKind.wrap .i64 (vr.X + vr1)) vr.Y, api_Spot.mk (IntKind.wrap .i64 (vr.X + vr1)) (IntKind.wrap .i64 (vr.Y + vr1)), api_Spot.mk vr.X (IntKind.wrap .i64 (vr.Y + vr1))] : List api_Spot))))))]) 2

theorem place_cells_o3_x1_ok {recF : (List api_Spot) → (List UInt8) → Int → (List (List UInt8)) → Option ((List (List UInt8)))} (ih : ∀ {qx : List api_Spot} {qx1 : List UInt8} {qx2 : Int} {qx3 : List (List UInt8)} {r}, recF qx qx1 qx2 qx3 = some r → Holds prog 34 [.v (.one (.d (.lst (List.map api_Spot.enc qx)))), .v (.one (.d (.str qx1))), .v (.one (.d (.int .i64 qx2))), .v (.one (.own 0 none))] ⟨[(0, ⟨9, 1, List.map encS qx3⟩)], []⟩ (Is (place_cells_o3_R qx qx1 qx2 qx3 r))) (qx : List api_Spot) (qx1 : List UInt8) (qx2 : Int) (qx3 : List (List UInt8)) (vr : api_Spot) (vr1 : Int) {r} (hF : place_cells_o3_x1 recF qx qx3 vr vr1 = some r) : Awp prog 1 77 (cL (cL (cR (cR (cR (cB f34)))))) (Out 1 place_cells_o3_x1_k (place_cells_o3_x1_S qx qx1 qx2 qx3 vr vr1) r) (place_cells_o3_x1_I qx qx1 qx2 qx3 vr vr1) := by
  unfold place_cells_o3_x1 at hF
  refine cE hF (fun h2 hF => ?_) fun h2 hF => ?_
  · refine awp_region ?_
    refine aR 1 ?_
    refine aL encS qx3 ?_
    refine aB h2 ?_
    refine aR 6 ?_
    refine aE ?_
    exact oO hF [] [] rfl
  · refine bE hF fun vr2 h3 hF => ?_
    refine awp_region ?_
    refine aR 1 ?_
    refine aL encS qx3 ?_
    refine aB h2 ?_
    refine aR 3 ?_
    refine aC (place_touch_ok h3) [] [] [] ?_
    refine aR 2 ?_
    refine aE ?_
    exact oO hF [] [] rfl

def place_cells_o3_x2_k : (List (List UInt8)) → AEx
  | _ => .exit 0

def place_cells_o3_x2_S (qx : List api_Spot) (qx1 : List UInt8) (qx2 : Int) : (List (List UInt8)) → St
  | vx4 => Mem.st ⟨[(1, ⟨9, 1, List.map encS vx4⟩)], []⟩ (tl [(3, .v (.one (.own 1 none)))]) 2

def place_cells_o3_x2_H (qx : List api_Spot) (qx1 : List UInt8) (qx2 : Int) : (List (List UInt8)) × Int → St
  | (vx2, vx3) => Mem.st ⟨[(1, ⟨9, 1, List.map encS vx2⟩)], []⟩ (tl [(0, .v (.one (.d (.lst (List.map api_Spot.enc qx))))), (1, .v (.one (.d (.str qx1)))), (2, .v (.one (.d (.int .i64 qx2)))), (3, .v (.one (.own 1 none))), (62, .v (.one (.d (.lst (List.map encS ([([48] : List UInt8), ([49] : List UInt8), ([50] : List UInt8), ([51] : List UInt8)] : List (List UInt8))))))), (63, .v (.one (.d (.int .i64 (([([48] : List UInt8), ([49] : List UInt8), ([50] : List UInt8), ([51] : List UInt8)] : List (List UInt8)).length : Int))))), (64, .v (.one (.d (.int .i64 vx3))))]) 2

theorem place_cells_o3_x2_ok {recF : (List api_Spot) → (List UInt8) → Int → (List (List UInt8)) → Option ((List (List UInt8)))} (ih : ∀ {qx : List api_Spot} {qx1 : List UInt8} {qx2 : Int} {qx3 : List (List UInt8)} {r}, recF qx qx1 qx2 qx3 = some r → Holds prog 34 [.v (.one (.d (.lst (List.map api_Spot.enc qx)))), .v (.one (.d (.str qx1))), .v (.one (.d (.int .i64 qx2))), .v (.one (.own 0 none))] ⟨[(0, ⟨9, 1, List.map encS qx3⟩)], []⟩ (Is (place_cells_o3_R qx qx1 qx2 qx3 r))) (qx : List api_Spot) (qx1 : List UInt8) (qx2 : Int) (s : (List (List UInt8)) × Int) (r : ((List (List UInt8)) × Int) ⊕ ((List (List UInt8)))) (hF : place_cells_o3_x2 recF qx qx1 qx2 s = some r) : Awp prog 1 77 (cL (cL (cR (cL (cR (cR (cR (cR (cR (cB f34)))))))))) (Out 1 (kk place_cells_o3_x2_k) (SS (place_cells_o3_x2_H qx qx1 qx2) (place_cells_o3_x2_S qx qx1 qx2)) r) (place_cells_o3_x2_H qx qx1 qx2 s) := by
  obtain ⟨vx2, vx3⟩ := s
  unfold place_cells_o3_x2 at hF
  refine awp_seq ?_
  refine awp_region ?_
  refine aR 1 ?_
  refine aE ?_
  refine awp_seq ?_
  refine cE hF (fun h8 hF => ?_) fun h8 hF => ?_
  · refine awp_true (by kernel_rfl) h8 ?_
    refine awp_skip ?_
    refine awp_seq ?_
    refine awp_block ?_
    refine awp_seq ?_
    refine bE hF fun vy1 h9 hF => ?_
    refine awp_region ?_
    refine aX (x_idx encS h9) ?_
    refine aR 2 ?_
    refine aE ?_
    refine gE hF fun h10 hF => ?_
    refine bE hF fun vr3_1 h11 hF => ?_
    refine awp_region ?_
    refine aR 3 ?_
    refine aX (x_cat h10) ?_
    refine aR 2 ?_
    refine aC (ih h11) [(0, 1)] [] [] ?_
    refine aR 1 ?_
    refine aE ?_
    refine awp_region ?_
    refine aR 2 ?_
    refine aE ?_
    exact oO hF [(1, 10003)] [] rfl
  · refine awp_false (by kernel_rfl) h8 ?_
    refine awp_exit ?_
    exact oO hF [] [] rfl

theorem place_cells_o3_n_ok (n : Nat) : ∀ {qx : List api_Spot} {qx1 : List UInt8} {qx2 : Int} {qx3 : List (List UInt8)} {r}, place_cells_o3_n n qx qx1 qx2 qx3 = some r → Holds prog 34 [.v (.one (.d (.lst (List.map api_Spot.enc qx)))), .v (.one (.d (.str qx1))), .v (.one (.d (.int .i64 qx2))), .v (.one (.own 0 none))] ⟨[(0, ⟨9, 1, List.map encS qx3⟩)], []⟩ (Is (place_cells_o3_R qx qx1 qx2 qx3 r)) := by
  induction n with
  | zero => intro qx qx1 qx2 qx3 r hF; exact nE hF
  | succ n ih =>
    intro qx qx1 qx2 qx3 r hF
    unfold place_cells_o3_n at hF
    refine holds_of_awp hΓ (fn := f34) (c := cB f34) (A := 1) (nx := 1) (by kernel_rfl) (by kernel_rfl) (by kernel_rfl) (by kernel_rfl) (by kernel_rfl) (by kernel_rfl) (lowc_of (by kernel_rfl)) ?_
    show Awp prog 1 77 (cB f34) _ _
    refine awp_seq ?_
    refine awp_region ?_
    refine aR 1 ?_
    refine aE ?_
    refine awp_seq ?_
    refine bE hF fun x h1 hF => ?_
    obtain ⟨vr, vr1⟩ := x
    refine awp_region ?_
    refine aR 1 ?_
    refine aC (place_cellBox_ok h1) [] [] [] ?_
    refine aR 6 ?_
    refine aE ?_
    refine awp_seq ?_
    refine awp_region ?_
    refine aR 26 ?_
    refine aE ?_
    refine awp_to (oT (m := ⟨[(1, ⟨9, 1, List.map encS qx3⟩)], []⟩) (ts := [(0, .v (.one (.d (.lst (List.map api_Spot.enc qx))))), (1, .v (.one (.d (.str qx1)))), (2, .v (.one (.d (.int .i64 qx2)))), (3, .v (.one (.own 1 none))), (11, .v (.one (.d (.lst (List.map api_Spot.enc ([vr, api_Spot.mk (IntKind.wrap .i64 (vr.X + vr1)) vr.Y, api_Spot.mk (IntKind.wrap .i64 (vr.X + vr1)) (IntKind.wrap .i64 (vr.Y + vr1)), api_Spot.mk vr.X (IntKind.wrap .i64 (vr.Y + vr1))] : List api_Spot))))))]) (nx := 2) [(1, 0)] []) ?_
    refine awp_seq ?_
    refine awp_seq ?_
    refine awp_to (st' := place_cells_o3_x1_I qx qx1 qx2 qx3 vr vr1) (oT [] []) ?_
    refine bE hF fun vx1 h4 hF => ?_
    refine awp_sub (place_cells_o3_x1_ok @ih qx qx1 qx2 qx3 vr vr1 h4) ?_
    refine cE hF (fun h5 hF => ?_) fun h5 hF => ?_
    · refine awp_true (by kernel_rfl) h5 ?_
      refine awp_seq ?_
      refine awp_region ?_
      refine aR 2 ?_
      refine aE ?_
      refine awp_ret ?_
      exact oF hF [] []
    · refine awp_false (by kernel_rfl) h5 ?_
      refine awp_skip ?_
      refine awp_seq ?_
      refine awp_seq ?_
      refine awp_region ?_
      refine aR 4 ?_
      refine aE ?_
      refine cE hF (fun h6 hF => ?_) fun h6 hF => ?_
      · refine awp_true (by kernel_rfl) h6 ?_
        refine awp_seq ?_
        refine gE hF fun h7 hF => ?_
        refine awp_region ?_
        refine aR 3 ?_
        refine aX (x_app encS 1 h7) ?_
        refine aR 1 ?_
        refine aE ?_
        refine awp_ret ?_
        exact oF hF [(1, 7002)] []
      · refine awp_false (by kernel_rfl) h6 ?_
        refine awp_skip ?_
        refine awp_seq ?_
        refine awp_seq ?_
        refine awp_region ?_
        refine aR 1 ?_
        refine aL encS ([([48] : List UInt8), ([49] : List UInt8), ([50] : List UInt8), ([51] : List UInt8)] : List (List UInt8)) ?_
        refine aR 1 ?_
        refine aE ?_
        refine awp_to (oT (m := ⟨[(1, ⟨9, 1, List.map encS qx3⟩)], []⟩) (ts := [(0, .v (.one (.d (.lst (List.map api_Spot.enc qx))))), (1, .v (.one (.d (.str qx1)))), (2, .v (.one (.d (.int .i64 qx2)))), (3, .v (.one (.own 1 none))), (62, .v (.one (.d (.lst (List.map encS ([([48] : List UInt8), ([49] : List UInt8), ([50] : List UInt8), ([51] : List UInt8)] : List (List UInt8))))))), (63, .v (.one (.d (.int .i64 (([([48] : List UInt8), ([49] : List UInt8), ([50] : List UInt8), ([51] : List UInt8)] : List (List UInt8)).length : Int))))), (64, .v (.one (.d (.int .i64 0))))]) (nx := 2) [] []) ?_
        refine awp_block ?_
        refine awp_to (st' := place_cells_o3_x2_H qx qx1 qx2 (qx3, 0)) (oT [] []) ?_
        refine bE hF fun vx4_1 h12 hF => ?_
        refine awp_sub (awp_loop' (place_cells_o3_x2_H qx qx1 qx2) place_cells_o3_x2_k (place_cells_o3_x2_S qx qx1 qx2) (by intro x; exact fun h => nomatch h) h12 (place_cells_o3_x2_ok @ih qx qx1 qx2)) ?_
        refine awp_seq ?_
        refine awp_region ?_
        refine aR 2 ?_
        refine aE ?_
        refine awp_ret ?_
        exact oF hF [] []

theorem place_cells_o3_ok {qx : List api_Spot} {qx1 : List UInt8} {qx2 : Int} {qx3 : List (List UInt8)} {r} (hF : place_cells_o3 qx qx1 qx2 qx3 = some r) : Holds prog 34 [.v (.one (.d (.lst (List.map api_Spot.enc qx)))), .v (.one (.d (.str qx1))), .v (.one (.d (.int .i64 qx2))), .v (.one (.own 0 none))] ⟨[(0, ⟨9, 1, List.map encS qx3⟩)], []⟩ (Is (place_cells_o3_R qx qx1 qx2 qx3 r)) :=
  let ⟨n, h⟩ := fixO_some hF
  place_cells_o3_n_ok n h

/-! ### beaconfleet/place.cells -/
def place_cells_n3_R (qx : List api_Spot) (qx1 : List UInt8) (qx2 : Int) (r : (List (List UInt8))) : TV × Mem := (.v (.one (.own 0 none)), ⟨[(0, ⟨9, 1, List.map encS r⟩)], []⟩)

def place_cells_n3_x1_k : Bool → AEx
  | _ => .normal

def place_cells_n3_x1_S (qx : List api_Spot) (qx1 : List UInt8) (qx2 : Int) (vr : api_Spot) (vr1 : Int) : Bool → St
  | vx => Mem.st ⟨[], []⟩ (tl [(0, .v (.one (.d (.lst (List.map api_Spot.enc qx))))), (1, .v (.one (.d (.str qx1)))), (2, .v (.one (.d (.int .i64 qx2)))), (3, .v (.one (.nil))), (52, .v (.one (.d (.bool vx))))]) 0

def place_cells_n3_x1_I (qx : List api_Spot) (qx1 : List UInt8) (qx2 : Int) (vr : api_Spot) (vr1 : Int) : St := Mem.st ⟨[], []⟩ (tl [(0, .v (.one (.d (.lst (List.map api_Spot.enc qx))))), (1, .v (.one (.d (.str qx1)))), (2, .v (.one (.d (.int .i64 qx2)))), (3, .v (.one (.nil))), (11, .v (.one (.d (.lst (List.map api_Spot.enc ([vr, api_Spot.mk (IntKind.wrap .i64 (vr.X + vr1)) vr.Y, api_Spot.mk (IntKind.wrap .i64 (vr.X + vr1)) (IntKind.wrap .i64 (vr.Y + vr1)), api_Spot.mk vr.X (IntKind.wrap .i64 (vr.Y + vr1))] : List api_Spot))))))]) 0

theorem place_cells_n3_x1_ok {recF : (List api_Spot) → (List UInt8) → Int → Option ((List (List UInt8)))} (ih : ∀ {qx : List api_Spot} {qx1 : List UInt8} {qx2 : Int} {r}, recF qx qx1 qx2 = some r → Holds prog 34 [.v (.one (.d (.lst (List.map api_Spot.enc qx)))), .v (.one (.d (.str qx1))), .v (.one (.d (.int .i64 qx2))), .v (.one (.nil))] ⟨[], []⟩ (Is (place_cells_n3_R qx qx1 qx2 r))) (qx : List api_Spot) (qx1 : List UInt8) (qx2 : Int) (vr : api_Spot) (vr1 : Int) {r} (hF : place_cells_n3_x1 recF qx vr vr1 = some r) : Awp prog 0 77 (cL (cL (cR (cR (cR (cB f34)))))) (Out 0 place_cells_n3_x1_k (place_cells_n3_x1_S qx qx1 qx2 vr vr1) r) (place_cells_n3_x1_I qx qx1 qx2 vr vr1) := by
  unfold place_cells_n3_x1 at hF
  refine cE hF (fun h2 hF => ?_) fun h2 hF => ?_
  · refine awp_region ?_
    refine aR 2 ?_
    refine aB h2 ?_
    refine aR 6 ?_
    refine aE ?_
    exact oO hF [] [] rfl
  · refine bE hF fun vr2 h3 hF => ?_
    refine awp_region ?_
    refine aR 2 ?_
    refine aB h2 ?_
    refine aR 3 ?_
    refine aC (place_touch_ok h3) [] [] [] ?_
    refine aR 2 ?_
    refine aE ?_
    exact oO hF [] [] rfl

def place_cells_n3_x2_k : (List (List UInt8)) → AEx
  | _ => .exit 0

def place_cells_n3_x2_S (qx : List api_Spot) (qx1 : List UInt8) (qx2 : Int) : (List (List UInt8)) → St
  | vx4 => Mem.st ⟨[(0, ⟨9, 1, List.map encS vx4⟩)], []⟩ (tl [(3, .v (.one (.own 0 none)))]) 1

def place_cells_n3_x2_H (qx : List api_Spot) (qx1 : List UInt8) (qx2 : Int) : (List (List UInt8)) × Int → St
  | (vx2, vx3) => Mem.st ⟨[(0, ⟨9, 1, List.map encS vx2⟩)], []⟩ (tl [(0, .v (.one (.d (.lst (List.map api_Spot.enc qx))))), (1, .v (.one (.d (.str qx1)))), (2, .v (.one (.d (.int .i64 qx2)))), (3, .v (.one (.own 0 none))), (62, .v (.one (.d (.lst (List.map encS ([([48] : List UInt8), ([49] : List UInt8), ([50] : List UInt8), ([51] : List UInt8)] : List (List UInt8))))))), (63, .v (.one (.d (.int .i64 (([([48] : List UInt8), ([49] : List UInt8), ([50] : List UInt8), ([51] : List UInt8)] : List (List UInt8)).length : Int))))), (64, .v (.one (.d (.int .i64 vx3))))]) 1

theorem place_cells_n3_x2_ok {recF : (List api_Spot) → (List UInt8) → Int → Option ((List (List UInt8)))} (ih : ∀ {qx : List api_Spot} {qx1 : List UInt8} {qx2 : Int} {r}, recF qx qx1 qx2 = some r → Holds prog 34 [.v (.one (.d (.lst (List.map api_Spot.enc qx)))), .v (.one (.d (.str qx1))), .v (.one (.d (.int .i64 qx2))), .v (.one (.nil))] ⟨[], []⟩ (Is (place_cells_n3_R qx qx1 qx2 r))) (qx : List api_Spot) (qx1 : List UInt8) (qx2 : Int) (s : (List (List UInt8)) × Int) (r : ((List (List UInt8)) × Int) ⊕ ((List (List UInt8)))) (hF : place_cells_n3_x2 recF qx qx1 qx2 s = some r) : Awp prog 0 77 (cL (cL (cR (cL (cR (cR (cR (cR (cR (cB f34)))))))))) (Out 0 (kk place_cells_n3_x2_k) (SS (place_cells_n3_x2_H qx qx1 qx2) (place_cells_n3_x2_S qx qx1 qx2)) r) (place_cells_n3_x2_H qx qx1 qx2 s) := by
  obtain ⟨vx2, vx3⟩ := s
  unfold place_cells_n3_x2 at hF
  refine awp_seq ?_
  refine awp_region ?_
  refine aR 1 ?_
  refine aE ?_
  refine awp_seq ?_
  refine cE hF (fun h7 hF => ?_) fun h7 hF => ?_
  · refine awp_true (by kernel_rfl) h7 ?_
    refine awp_skip ?_
    refine awp_seq ?_
    refine awp_block ?_
    refine awp_seq ?_
    refine bE hF fun vy1 h8 hF => ?_
    refine awp_region ?_
    refine aX (x_idx encS h8) ?_
    refine aR 2 ?_
    refine aE ?_
    refine gE hF fun h9 hF => ?_
    refine bE hF fun vr4_1 h10 hF => ?_
    refine awp_region ?_
    refine aR 3 ?_
    refine aX (x_cat h9) ?_
    refine aR 2 ?_
    refine aC (place_cells_o3_ok h10) [] [] [] ?_
    refine aR 1 ?_
    refine aE ?_
    refine awp_region ?_
    refine aR 2 ?_
    refine aE ?_
    exact oO hF [(0, 10002)] [] rfl
  · refine awp_false (by kernel_rfl) h7 ?_
    refine awp_exit ?_
    exact oO hF [] [] rfl

theorem place_cells_n3_n_ok (n : Nat) : ∀ {qx : List api_Spot} {qx1 : List UInt8} {qx2 : Int} {r}, place_cells_n3_n n qx qx1 qx2 = some r → Holds prog 34 [.v (.one (.d (.lst (List.map api_Spot.enc qx)))), .v (.one (.d (.str qx1))), .v (.one (.d (.int .i64 qx2))), .v (.one (.nil))] ⟨[], []⟩ (Is (place_cells_n3_R qx qx1 qx2 r)) := by
  induction n with
  | zero => intro qx qx1 qx2 r hF; exact nE hF
  | succ n ih =>
    intro qx qx1 qx2 r hF
    unfold place_cells_n3_n at hF
    refine holds_of_awp hΓ (fn := f34) (c := cB f34) (A := 0) (nx := 0) (by kernel_rfl) (by kernel_rfl) (by kernel_rfl) (by kernel_rfl) (by kernel_rfl) (by kernel_rfl) (lowc_of (by kernel_rfl)) ?_
    show Awp prog 0 77 (cB f34) _ _
    refine awp_seq ?_
    refine awp_region ?_
    refine aR 1 ?_
    refine aE ?_
    refine awp_seq ?_
    refine bE hF fun x h1 hF => ?_
    obtain ⟨vr, vr1⟩ := x
    refine awp_region ?_
    refine aR 1 ?_
    refine aC (place_cellBox_ok h1) [] [] [] ?_
    refine aR 6 ?_
    refine aE ?_
    refine awp_seq ?_
    refine awp_region ?_
    refine aR 26 ?_
    refine aE ?_
    refine awp_to (oT (m := ⟨[], []⟩) (ts := [(0, .v (.one (.d (.lst (List.map api_Spot.enc qx))))), (1, .v (.one (.d (.str qx1)))), (2, .v (.one (.d (.int .i64 qx2)))), (3, .v (.one (.nil))), (11, .v (.one (.d (.lst (List.map api_Spot.enc ([vr, api_Spot.mk (IntKind.wrap .i64 (vr.X + vr1)) vr.Y, api_Spot.mk (IntKind.wrap .i64 (vr.X + vr1)) (IntKind.wrap .i64 (vr.Y + vr1)), api_Spot.mk vr.X (IntKind.wrap .i64 (vr.Y + vr1))] : List api_Spot))))))]) (nx := 0) [] []) ?_
    refine awp_seq ?_
    refine awp_seq ?_
    refine awp_to (st' := place_cells_n3_x1_I qx qx1 qx2 vr vr1) (oT [] []) ?_
    refine bE hF fun vx1 h4 hF => ?_
    refine awp_sub (place_cells_n3_x1_ok @ih qx qx1 qx2 vr vr1 h4) ?_
    refine cE hF (fun h5 hF => ?_) fun h5 hF => ?_
    · refine awp_true (by kernel_rfl) h5 ?_
      refine awp_seq ?_
      refine awp_region ?_
      refine aR 2 ?_
      refine aE ?_
      refine awp_ret ?_
      exact oF hF [] [0]
    · refine awp_false (by kernel_rfl) h5 ?_
      refine awp_skip ?_
      refine awp_seq ?_
      refine awp_seq ?_
      refine awp_region ?_
      refine aR 4 ?_
      refine aE ?_
      refine cE hF (fun h6 hF => ?_) fun h6 hF => ?_
      · refine awp_true (by kernel_rfl) h6 ?_
        refine awp_seq ?_
        refine awp_region ?_
        refine aR 3 ?_
        refine aX (x_appN encS ([qx1] : List (List UInt8)) (by kernel_rfl)) ?_
        refine aR 1 ?_
        refine aE ?_
        refine awp_ret ?_
        exact oF hF [(0, 7000)] []
      · refine awp_false (by kernel_rfl) h6 ?_
        refine awp_skip ?_
        refine awp_seq ?_
        refine awp_seq ?_
        refine awp_region ?_
        refine aR 1 ?_
        refine aL encS ([([48] : List UInt8), ([49] : List UInt8), ([50] : List UInt8), ([51] : List UInt8)] : List (List UInt8)) ?_
        refine aR 1 ?_
        refine aE ?_
        refine awp_to (oT (m := ⟨[], []⟩) (ts := [(0, .v (.one (.d (.lst (List.map api_Spot.enc qx))))), (1, .v (.one (.d (.str qx1)))), (2, .v (.one (.d (.int .i64 qx2)))), (3, .v (.one (.nil))), (62, .v (.one (.d (.lst (List.map encS ([([48] : List UInt8), ([49] : List UInt8), ([50] : List UInt8), ([51] : List UInt8)] : List (List UInt8))))))), (63, .v (.one (.d (.int .i64 (([([48] : List UInt8), ([49] : List UInt8), ([50] : List UInt8), ([51] : List UInt8)] : List (List UInt8)).length : Int))))), (64, .v (.one (.d (.int .i64 0))))]) (nx := 0) [] []) ?_
        refine awp_block ?_
        refine awp_to (st' := place_cells_n3_x2_H qx qx1 qx2 ([], 0)) (oT [] [0]) ?_
        refine bE hF fun vx4_1 h11 hF => ?_
        refine awp_sub (awp_loop' (place_cells_n3_x2_H qx qx1 qx2) place_cells_n3_x2_k (place_cells_n3_x2_S qx qx1 qx2) (by intro x; exact fun h => nomatch h) h11 (place_cells_n3_x2_ok @ih qx qx1 qx2)) ?_
        refine awp_seq ?_
        refine awp_region ?_
        refine aR 2 ?_
        refine aE ?_
        refine awp_ret ?_
        exact oF hF [] []

theorem place_cells_n3_ok {qx : List api_Spot} {qx1 : List UInt8} {qx2 : Int} {r} (hF : place_cells_n3 qx qx1 qx2 = some r) : Holds prog 34 [.v (.one (.d (.lst (List.map api_Spot.enc qx)))), .v (.one (.d (.str qx1))), .v (.one (.d (.int .i64 qx2))), .v (.one (.nil))] ⟨[], []⟩ (Is (place_cells_n3_R qx qx1 qx2 r)) :=
  let ⟨n, h⟩ := fixO_some hF
  place_cells_n3_n_ok n h

/-! ### beaconfleet/place.Cells -/
def place_Cells_R (qf : api_Fence) (qlevel : Int) (r : (List (List UInt8)) × Int) : TV × Mem := (.tup [.one (.own 0 none), .one (.d (.int .i64 r.2))], ⟨[(0, ⟨9, 1, List.map encS r.1⟩)], []⟩)

theorem place_Cells_ok {qf : api_Fence} {qlevel : Int} {r} (hF : place_Cells qf qlevel = some r) : Holds prog 12 [.v (.agg [.d (.str qf.Key), .d (.lst (List.map api_Spot.enc qf.Corners))]), .v (.one (.d (.int .i64 qlevel)))] ⟨[], []⟩ (Is (place_Cells_R qf qlevel r)) := by
  unfold place_Cells at hF
  refine holds_of_awp hΓ (fn := f12) (c := cB f12) (A := 0) (nx := 0) (by kernel_rfl) (by kernel_rfl) (by kernel_rfl) (by kernel_rfl) (by kernel_rfl) (by kernel_rfl) (lowc_of (by kernel_rfl)) ?_
  show Awp prog 0 23 (cB f12) _ _
  refine awp_seq ?_
  refine awp_region ?_
  refine aR 3 ?_
  refine aE ?_
  refine awp_seq ?_
  refine awp_seq ?_
  refine bE hF fun vr3 h1 hF => ?_
  refine awp_region ?_
  refine aR 1 ?_
  refine aC (place_CheckFence_ok h1) [] [] [] ?_
  refine aR 1 ?_
  refine aE ?_
  refine awp_seq ?_
  refine awp_region ?_
  refine aR 2 ?_
  refine aE ?_
  refine cE hF (fun h2 hF => ?_) fun h2 hF => ?_
  · refine awp_true (by kernel_rfl) h2 ?_
    refine awp_seq ?_
    refine awp_region ?_
    refine aR 3 ?_
    refine aE ?_
    refine awp_ret ?_
    exact oF hF [] [0]
  · refine awp_false (by kernel_rfl) h2 ?_
    refine awp_skip ?_
    refine awp_seq ?_
    refine awp_seq ?_
    refine bE hF fun vr h3 hF => ?_
    refine awp_region ?_
    refine aR 1 ?_
    refine aC (base_Out_ok h3) [] [] [] ?_
    refine aE ?_
    refine cE hF (fun h4 hF => ?_) fun h4 hF => ?_
    · refine awp_true (by kernel_rfl) h4 ?_
      refine awp_seq ?_
      refine awp_region ?_
      refine aR 2 ?_
      refine aE ?_
      refine awp_ret ?_
      exact oF hF [] [0]
    · refine awp_false (by kernel_rfl) h4 ?_
      refine awp_skip ?_
      refine awp_seq ?_
      refine bE hF fun vr3_1 h5 hF => ?_
      refine awp_region ?_
      refine aR 3 ?_
      refine aC (place_cells_n3_ok h5) [] [] [] ?_
      refine aR 1 ?_
      refine aE ?_
      refine awp_seq ?_
      refine awp_seq ?_
      refine awp_region ?_
      refine aR 1 ?_
      refine aL encS vr3_1 ?_
      refine aR 1 ?_
      refine aE ?_
      refine cE hF (fun h6 hF => ?_) fun h6 hF => ?_
      · refine awp_true (by kernel_rfl) h6 ?_
        refine awp_seq ?_
        refine awp_region ?_
        refine aR 2 ?_
        refine aE ?_
        refine awp_ret ?_
        exact oF hF [] [0]
      · refine awp_false (by kernel_rfl) h6 ?_
        refine awp_skip ?_
        refine awp_seq ?_
        refine awp_region ?_
        refine aR 3 ?_
        refine aE ?_
        refine awp_ret ?_
        exact oF hF [(0, 13000)] []

/-! ### beaconfleet/fleetlaw2.when -/
def fleetlaw2_when_R (qis : Bool) (qe : Int) (r : Int) : TV × Mem := (.v (.one (.d (.int .i64 r))), ⟨[], []⟩)

theorem fleetlaw2_when_ok {qis : Bool} {qe : Int} {r} (hF : fleetlaw2_when qis qe = some r) : Holds prog 15 [.v (.one (.d (.bool qis))), .v (.one (.d (.int .i64 qe)))] ⟨[], []⟩ (Is (fleetlaw2_when_R qis qe r)) := by
  unfold fleetlaw2_when at hF
  refine holds_of_awp hΓ (fn := f15) (c := cB f15) (A := 0) (nx := 0) (by kernel_rfl) (by kernel_rfl) (by kernel_rfl) (by kernel_rfl) (by kernel_rfl) (by kernel_rfl) (lowc_of (by kernel_rfl)) ?_
  show Awp prog 0 7 (cB f15) _ _
  refine awp_seq ?_
  refine awp_region ?_
  refine aR 1 ?_
  refine aE ?_
  refine awp_seq ?_
  refine awp_seq ?_
  refine awp_region ?_
  refine aR 1 ?_
  refine aE ?_
  refine cE hF (fun h1 hF => ?_) fun h1 hF => ?_
  · refine awp_true (by kernel_rfl) h1 ?_
    refine awp_seq ?_
    refine awp_region ?_
    refine aR 2 ?_
    refine aE ?_
    refine awp_ret ?_
    exact oF hF [] []
  · refine awp_false (by kernel_rfl) h1 ?_
    refine awp_skip ?_
    refine awp_seq ?_
    refine awp_region ?_
    refine aR 1 ?_
    refine aE ?_
    refine awp_ret ?_
    exact oF hF [] []

/-! ### beaconfleet/fleetlaw2.errs -/
def fleetlaw2_errs_x1_k : Unit ⊕ Int → AEx
  | .inl _ => .exit 0
  | .inr _ => .ret

def fleetlaw2_errs_x1_S (ql : List Int) : Unit ⊕ Int → St
  | .inl _ => Mem.st ⟨[], []⟩ (tl []) 0
  | .inr vx1 => Mem.st ⟨[], []⟩ (tl [(2, .v (.one (.d (.int .i64 vx1))))]) 0

def fleetlaw2_errs_x1_H (ql : List Int) : Int → St
  | vx => Mem.st ⟨[], []⟩ (tl [(5, .v (.one (.d (.lst (List.map (encI .i64) ql))))), (6, .v (.one (.d (.int .i64 (ql.length : Int))))), (7, .v (.one (.d (.int .i64 vx))))]) 0

theorem fleetlaw2_errs_x1_ok (ql : List Int) (vx : Int) (r : (Int) ⊕ (Unit ⊕ Int)) (hF : fleetlaw2_errs_x1 ql vx = some r) : Awp prog 0 15 (cL (cL (cR (cL (cR (cB f13)))))) (Out 0 (kk fleetlaw2_errs_x1_k) (SS (fleetlaw2_errs_x1_H ql) (fleetlaw2_errs_x1_S ql)) r) (fleetlaw2_errs_x1_H ql vx) := by
  unfold fleetlaw2_errs_x1 at hF
  refine awp_seq ?_
  refine awp_region ?_
  refine aR 1 ?_
  refine aE ?_
  refine awp_seq ?_
  refine cE hF (fun h1 hF => ?_) fun h1 hF => ?_
  · refine awp_true (by kernel_rfl) h1 ?_
    refine awp_skip ?_
    refine awp_seq ?_
    refine awp_block ?_
    refine awp_seq ?_
    refine bE hF fun vy1 h2 hF => ?_
    refine awp_region ?_
    refine aX (x_idx (encI .i64) h2) ?_
    refine aR 2 ?_
    refine aE ?_
    refine awp_seq ?_
    refine awp_region ?_
    refine aR 2 ?_
    refine aE ?_
    refine cE hF (fun h3 hF => ?_) fun h3 hF => ?_
    · refine awp_true (by kernel_rfl) h3 ?_
      refine awp_seq ?_
      refine awp_region ?_
      refine aR 2 ?_
      refine aE ?_
      refine awp_ret ?_
      exact oO hF [] [] rfl
    · refine awp_false (by kernel_rfl) h3 ?_
      refine awp_skip ?_
      refine awp_region ?_
      refine aR 2 ?_
      refine aE ?_
      exact oO hF [] [] rfl
  · refine awp_false (by kernel_rfl) h1 ?_
    refine awp_exit ?_
    exact oO hF [] [] rfl

def fleetlaw2_errs_R (ql : List Int) (r : Int) : TV × Mem := (.v (.one (.d (.int .i64 r))), ⟨[], []⟩)

theorem fleetlaw2_errs_ok {ql : List Int} {r} (hF : fleetlaw2_errs ql = some r) : Holds prog 13 [.v (.one (.d (.lst (List.map (encI .i64) ql))))] ⟨[], []⟩ (Is (fleetlaw2_errs_R ql r)) := by
  unfold fleetlaw2_errs at hF
  refine holds_of_awp hΓ (fn := f13) (c := cB f13) (A := 0) (nx := 0) (by kernel_rfl) (by kernel_rfl) (by kernel_rfl) (by kernel_rfl) (by kernel_rfl) (by kernel_rfl) (lowc_of (by kernel_rfl)) ?_
  show Awp prog 0 15 (cB f13) _ _
  refine awp_seq ?_
  refine awp_region ?_
  refine aR 1 ?_
  refine aE ?_
  refine awp_seq ?_
  refine awp_seq ?_
  refine awp_region ?_
  refine aR 1 ?_
  refine aL (encI .i64) ql ?_
  refine aR 1 ?_
  refine aE ?_
  refine awp_block ?_
  refine awp_to (st' := fleetlaw2_errs_x1_H ql 0) (oT [] []) ?_
  refine bE hF fun x h4 hF => ?_
  rcases x with _ | vx1_1
  · refine awp_sub (awp_loop' (fleetlaw2_errs_x1_H ql) fleetlaw2_errs_x1_k (fleetlaw2_errs_x1_S ql) (by intro x; rcases x with x | x <;> exact fun h => nomatch h) h4 (fleetlaw2_errs_x1_ok ql)) ?_
    refine awp_seq ?_
    refine awp_region ?_
    refine aR 1 ?_
    refine aE ?_
    refine awp_ret ?_
    exact oF hF [] []
  · refine awp_sub (awp_loop' (fleetlaw2_errs_x1_H ql) fleetlaw2_errs_x1_k (fleetlaw2_errs_x1_S ql) (by intro x; rcases x with x | x <;> exact fun h => nomatch h) h4 (fleetlaw2_errs_x1_ok ql)) ?_
    exact oF hF [] []

/-! ### internal/stringslite.IndexByte -/
def stringslite_IndexByte_R (qs : List UInt8) (qc : Int) (r : Unit) : TV × Mem := (.v (.one (.d (.int .i64 (Lib.indexByte qs qc.toNat.toUInt8)))), ⟨[], []⟩)

theorem stringslite_IndexByte_ok {qs : List UInt8} {qc : Int} {r} (hF : stringslite_IndexByte qs qc = some r) : Holds prog 70 [.v (.one (.d (.str qs))), .v (.one (.d (.int .u8 qc)))] ⟨[], []⟩ (Is (stringslite_IndexByte_R qs qc r)) := by
  unfold stringslite_IndexByte at hF
  refine holds_of_awp hΓ (fn := f70) (c := cB f70) (A := 0) (nx := 0) (by kernel_rfl) (by kernel_rfl) (by kernel_rfl) (by kernel_rfl) (by kernel_rfl) (by kernel_rfl) (lowc_of (by kernel_rfl)) ?_
  show Awp prog 0 8 (cB f70) _ _
  refine awp_seq ?_
  refine awp_region ?_
  refine aR 1 ?_
  refine aE ?_
  refine awp_seq ?_
  refine awp_region ?_
  refine aR 2 ?_
  refine aS (does_indexByte (g := 82) (fn := f82) (a := qs) (c := qc) rfl (by kernel_rfl) (by kernel_rfl) (by kernel_rfl) (by kernel_rfl) (by kernel_rfl) (by kernel_rfl)) ?_
  refine aR 1 ?_
  refine aE ?_
  refine awp_ret ?_
  exact oF hF [] []

/-! ### strings.IndexByte -/
def strings_IndexByte_R (qs : List UInt8) (qc : Int) (r : Unit) : TV × Mem := (.v (.one (.d (.int .i64 (Lib.indexByte qs qc.toNat.toUInt8)))), ⟨[], []⟩)

theorem strings_IndexByte_ok {qs : List UInt8} {qc : Int} {r} (hF : strings_IndexByte qs qc = some r) : Holds prog 53 [.v (.one (.d (.str qs))), .v (.one (.d (.int .u8 qc)))] ⟨[], []⟩ (Is (strings_IndexByte_R qs qc r)) := by
  unfold strings_IndexByte at hF
  refine holds_of_awp hΓ (fn := f53) (c := cB f53) (A := 0) (nx := 0) (by kernel_rfl) (by kernel_rfl) (by kernel_rfl) (by kernel_rfl) (by kernel_rfl) (by kernel_rfl) (lowc_of (by kernel_rfl)) ?_
  show Awp prog 0 8 (cB f53) _ _
  refine awp_seq ?_
  refine awp_region ?_
  refine aR 1 ?_
  refine aE ?_
  refine awp_seq ?_
  refine bE hF fun _ h1 hF => ?_
  refine awp_region ?_
  refine aR 2 ?_
  refine aC (stringslite_IndexByte_ok h1) [] [] [] ?_
  refine aR 1 ?_
  refine aE ?_
  refine awp_ret ?_
  exact oF hF [] []

/-! ### beaconfleet/fleetref2.only -/
def fleetref2_only_x1_k : Unit ⊕ Unit → AEx
  | .inl _ => .exit 0
  | .inr _ => .ret

def fleetref2_only_x1_S (qs : List UInt8) (qsome : List UInt8) : Unit ⊕ Unit → St
  | .inl _ => Mem.st ⟨[], []⟩ (tl []) 0
  | .inr _ => Mem.st ⟨[], []⟩ (tl [(4, .v (.one (.d (.bool false))))]) 0

def fleetref2_only_x1_H (qs : List UInt8) (qsome : List UInt8) : Int → St
  | vx => Mem.st ⟨[], []⟩ (tl [(0, .v (.one (.d (.str qs)))), (1, .v (.one (.d (.str qsome)))), (7, .v (.one (.d (.int .i64 (qs.length : Int))))), (8, .v (.one (.d (.int .i64 vx))))]) 0

theorem fleetref2_only_x1_ok (qs : List UInt8) (qsome : List UInt8) (vx : Int) (r : (Int) ⊕ (Unit ⊕ Unit)) (hF : fleetref2_only_x1 qs qsome vx = some r) : Awp prog 0 18 (cL (cL (cR (cL (cR (cB f36)))))) (Out 0 (kk fleetref2_only_x1_k) (SS (fleetref2_only_x1_H qs qsome) (fleetref2_only_x1_S qs qsome)) r) (fleetref2_only_x1_H qs qsome vx) := by
  unfold fleetref2_only_x1 at hF
  refine awp_seq ?_
  refine awp_region ?_
  refine aR 1 ?_
  refine aE ?_
  refine awp_seq ?_
  refine cE hF (fun h1 hF => ?_) fun h1 hF => ?_
  · refine awp_true (by kernel_rfl) h1 ?_
    refine awp_skip ?_
    refine awp_seq ?_
    refine awp_block ?_
    refine awp_seq ?_
    refine awp_region ?_
    refine aR 2 ?_
    refine aE ?_
    refine awp_seq ?_
    refine bE hF fun vc1 h2 hF => ?_
    refine bE hF fun _ h3 hF => ?_
    refine awp_region ?_
    refine aR 3 ?_
    refine aX (x_idxS h2) ?_
    refine aC (strings_IndexByte_ok h3) [] [] [] ?_
    refine aR 1 ?_
    refine aE ?_
    refine cE hF (fun h4 hF => ?_) fun h4 hF => ?_
    · refine awp_true (by kernel_rfl) h4 ?_
      refine awp_seq ?_
      refine awp_region ?_
      refine aR 1 ?_
      refine aE ?_
      refine awp_ret ?_
      exact oO hF [] [] rfl
    · refine awp_false (by kernel_rfl) h4 ?_
      refine awp_skip ?_
      refine awp_region ?_
      refine aR 2 ?_
      refine aE ?_
      exact oO hF [] [] rfl
  · refine awp_false (by kernel_rfl) h1 ?_
    refine awp_exit ?_
    exact oO hF [] [] rfl

def fleetref2_only_R (qs : List UInt8) (qsome : List UInt8) (r : Bool) : TV × Mem := (.v (.one (.d (.bool r))), ⟨[], []⟩)

theorem fleetref2_only_ok {qs : List UInt8} {qsome : List UInt8} {r} (hF : fleetref2_only qs qsome = some r) : Holds prog 36 [.v (.one (.d (.str qs))), .v (.one (.d (.str qsome)))] ⟨[], []⟩ (Is (fleetref2_only_R qs qsome r)) := by
  unfold fleetref2_only at hF
  refine holds_of_awp hΓ (fn := f36) (c := cB f36) (A := 0) (nx := 0) (by kernel_rfl) (by kernel_rfl) (by kernel_rfl) (by kernel_rfl) (by kernel_rfl) (by kernel_rfl) (lowc_of (by kernel_rfl)) ?_
  show Awp prog 0 18 (cB f36) _ _
  refine awp_seq ?_
  refine awp_region ?_
  refine aR 1 ?_
  refine aE ?_
  refine awp_seq ?_
  refine awp_seq ?_
  refine awp_region ?_
  refine aR 3 ?_
  refine aE ?_
  refine awp_block ?_
  refine awp_to (st' := fleetref2_only_x1_H qs qsome 0) (oT [] []) ?_
  refine bE hF fun x h5 hF => ?_
  rcases x with _ | _
  · refine awp_sub (awp_loop' (fleetref2_only_x1_H qs qsome) fleetref2_only_x1_k (fleetref2_only_x1_S qs qsome) (by intro x; rcases x with x | x <;> exact fun h => nomatch h) h5 (fleetref2_only_x1_ok qs qsome)) ?_
    refine awp_seq ?_
    refine awp_region ?_
    refine aR 1 ?_
    refine aE ?_
    refine awp_ret ?_
    exact oF hF [] []
  · refine awp_sub (awp_loop' (fleetref2_only_x1_H qs qsome) fleetref2_only_x1_k (fleetref2_only_x1_S qs qsome) (by intro x; rcases x with x | x <;> exact fun h => nomatch h) h5 (fleetref2_only_x1_ok qs qsome)) ?_
    exact oF hF [] []

/-! ### beaconfleet/fleetref2.CellFault -/
def fleetref2_CellFault_x1_k : Bool → AEx
  | _ => .normal

def fleetref2_CellFault_x1_S (qkey : List UInt8) : Bool → St
  | vx => Mem.st ⟨[], []⟩ (tl [(10, .v (.one (.d (.bool vx))))]) 0

def fleetref2_CellFault_x1_I (qkey : List UInt8) : St := Mem.st ⟨[], []⟩ (tl [(0, .v (.one (.d (.str qkey))))]) 0

theorem fleetref2_CellFault_x1_ok (qkey : List UInt8) {r} (hF : fleetref2_CellFault_x1 qkey = some r) : Awp prog 0 11 (cL (cL (cR (cB f16)))) (Out 0 fleetref2_CellFault_x1_k (fleetref2_CellFault_x1_S qkey) r) (fleetref2_CellFault_x1_I qkey) := by
  unfold fleetref2_CellFault_x1 at hF
  refine cE hF (fun h1 hF => ?_) fun h1 hF => ?_
  · refine awp_region ?_
    refine aR 2 ?_
    refine aB h1 ?_
    refine aR 5 ?_
    refine aE ?_
    exact oO hF [] [] rfl
  · refine bE hF fun vr h2 hF => ?_
    refine awp_region ?_
    refine aR 2 ?_
    refine aB h1 ?_
    refine aR 2 ?_
    refine aC (fleetref2_only_ok h2) [] [] [] ?_
    refine aR 2 ?_
    refine aE ?_
    exact oO hF [] [] rfl

def fleetref2_CellFault_R (qkey : List UInt8) (r : Int) : TV × Mem := (.v (.one (.d (.int .i64 r))), ⟨[], []⟩)

theorem fleetref2_CellFault_ok {qkey : List UInt8} {r} (hF : fleetref2_CellFault qkey = some r) : Holds prog 16 [.v (.one (.d (.str qkey)))] ⟨[], []⟩ (Is (fleetref2_CellFault_R qkey r)) := by
  unfold fleetref2_CellFault at hF
  refine holds_of_awp hΓ (fn := f16) (c := cB f16) (A := 0) (nx := 0) (by kernel_rfl) (by kernel_rfl) (by kernel_rfl) (by kernel_rfl) (by kernel_rfl) (by kernel_rfl) (lowc_of (by kernel_rfl)) ?_
  show Awp prog 0 11 (cB f16) _ _
  refine awp_seq ?_
  refine awp_region ?_
  refine aR 1 ?_
  refine aE ?_
  refine awp_seq ?_
  refine awp_seq ?_
  refine awp_to (st' := fleetref2_CellFault_x1_I qkey) (oT [] []) ?_
  refine bE hF fun vx1 h3 hF => ?_
  refine awp_sub (fleetref2_CellFault_x1_ok qkey h3) ?_
  refine cE hF (fun h4 hF => ?_) fun h4 hF => ?_
  · refine awp_true (by kernel_rfl) h4 ?_
    refine awp_seq ?_
    refine awp_region ?_
    refine aR 1 ?_
    refine aE ?_
    refine awp_ret ?_
    exact oF hF [] []
  · refine awp_false (by kernel_rfl) h4 ?_
    refine awp_skip ?_
    refine awp_seq ?_
    refine awp_region ?_
    refine aR 1 ?_
    refine aE ?_
    refine awp_ret ?_
    exact oF hF [] []

/-! ### beaconfleet/fleetref2.Key -/
def fleetref2_Key_x1_k : Bool → AEx
  | _ => .normal

def fleetref2_Key_x1_S (qs : List UInt8) : Bool → St
  | vx => Mem.st ⟨[], []⟩ (tl [(2, .v (.one (.d (.bool vx))))]) 0

def fleetref2_Key_x1_I (qs : List UInt8) : St := Mem.st ⟨[], []⟩ (tl [(0, .v (.one (.d (.str qs))))]) 0

theorem fleetref2_Key_x1_ok (qs : List UInt8) {r} (hF : fleetref2_Key_x1 qs = some r) : Awp prog 0 15 (cL (cR (cB f37))) (Out 0 fleetref2_Key_x1_k (fleetref2_Key_x1_S qs) r) (fleetref2_Key_x1_I qs) := by
  unfold fleetref2_Key_x1 at hF
  refine bE hF fun vr h1 hF => ?_
  refine cE hF (fun h2 hF => ?_) fun h2 hF => ?_
  · refine bE hF fun vs h3 hF => ?_
    refine bE hF fun vr1 h4 hF => ?_
    refine cE hF (fun h5 hF => ?_) fun h5 hF => ?_
    · refine bE hF fun vr2 h6 hF => ?_
      refine awp_region ?_
      refine aR 2 ?_
      refine aCb (fleetref2_in_ok h1) [] [] [] h2 ?_
      refine aR 2 ?_
      refine aX (x_sliceS h3) ?_
      refine aCb (fleetref2_only_ok h4) [] [] [] h5 ?_
      refine aR 3 ?_
      refine aC (fleetref2_only_ok h6) [] [] [] ?_
      refine aR 2 ?_
      refine aE ?_
      exact oO hF [] [] rfl
    · refine awp_region ?_
      refine aR 2 ?_
      refine aCb (fleetref2_in_ok h1) [] [] [] h2 ?_
      refine aR 2 ?_
      refine aX (x_sliceS h3) ?_
      refine aCb (fleetref2_only_ok h4) [] [] [] h5 ?_
      refine aR 6 ?_
      refine aE ?_
      exact oO hF [] [] rfl
  · refine awp_region ?_
    refine aR 2 ?_
    refine aCb (fleetref2_in_ok h1) [] [] [] h2 ?_
    refine aR 10 ?_
    refine aE ?_
    exact oO hF [] [] rfl

def fleetref2_Key_R (qs : List UInt8) (r : Bool) : TV × Mem := (.v (.one (.d (.bool r))), ⟨[], []⟩)

theorem fleetref2_Key_ok {qs : List UInt8} {r} (hF : fleetref2_Key qs = some r) : Holds prog 37 [.v (.one (.d (.str qs)))] ⟨[], []⟩ (Is (fleetref2_Key_R qs r)) := by
  unfold fleetref2_Key at hF
  refine holds_of_awp hΓ (fn := f37) (c := cB f37) (A := 0) (nx := 0) (by kernel_rfl) (by kernel_rfl) (by kernel_rfl) (by kernel_rfl) (by kernel_rfl) (by kernel_rfl) (lowc_of (by kernel_rfl)) ?_
  show Awp prog 0 15 (cB f37) _ _
  refine awp_seq ?_
  refine awp_region ?_
  refine aR 1 ?_
  refine aE ?_
  refine awp_seq ?_
  refine awp_to (st' := fleetref2_Key_x1_I qs) (oT [] []) ?_
  refine bE hF fun vx1 h7 hF => ?_
  refine awp_sub (fleetref2_Key_x1_ok qs h7) ?_
  refine awp_ret ?_
  exact oF hF [] []

/-! ### beaconfleet/fleetref2.FenceFault -/
def fleetref2_FenceFault_R (qf : api_Fence) (r : Int) : TV × Mem := (.v (.one (.d (.int .i64 r))), ⟨[], []⟩)

theorem fleetref2_FenceFault_ok {qf : api_Fence} {r} (hF : fleetref2_FenceFault qf = some r) : Holds prog 17 [.v (.agg [.d (.str qf.Key), .d (.lst (List.map api_Spot.enc qf.Corners))])] ⟨[], []⟩ (Is (fleetref2_FenceFault_R qf r)) := by
  unfold fleetref2_FenceFault at hF
  refine holds_of_awp hΓ (fn := f17) (c := cB f17) (A := 0) (nx := 0) (by kernel_rfl) (by kernel_rfl) (by kernel_rfl) (by kernel_rfl) (by kernel_rfl) (by kernel_rfl) (lowc_of (by kernel_rfl)) ?_
  show Awp prog 0 10 (cB f17) _ _
  refine awp_seq ?_
  refine awp_region ?_
  refine aR 2 ?_
  refine aE ?_
  refine awp_seq ?_
  refine awp_seq ?_
  refine bE hF fun vr3 h1 hF => ?_
  refine awp_region ?_
  refine aR 2 ?_
  refine aC (fleetref2_Key_ok h1) [] [] [] ?_
  refine aR 1 ?_
  refine aE ?_
  refine cE hF (fun h2 hF => ?_) fun h2 hF => ?_
  · refine awp_true (by kernel_rfl) h2 ?_
    refine awp_seq ?_
    refine awp_region ?_
    refine aR 1 ?_
    refine aE ?_
    refine awp_ret ?_
    exact oF hF [] []
  · refine awp_false (by kernel_rfl) h2 ?_
    refine awp_skip ?_
    refine awp_seq ?_
    refine bE hF fun vr16 h3 hF => ?_
    refine awp_region ?_
    refine aR 2 ?_
    refine aC (fleetref2_CornersFault_ok h3) [] [] [] ?_
    refine aR 1 ?_
    refine aE ?_
    refine awp_ret ?_
    exact oF hF [] []

/-! ### strconv.Itoa -/
def strconv_Itoa_R (qi : Int) (r : List UInt8) : TV × Mem := (.v (.one (.d (.str r))), ⟨[], []⟩)

theorem strconv_Itoa_ok {qi : Int} {r} (hF : strconv_Itoa qi = some r) : Holds prog 39 [.v (.one (.d (.int .i64 qi)))] ⟨[], []⟩ (Is (strconv_Itoa_R qi r)) := by
  unfold strconv_Itoa at hF
  refine gE hF fun h1 hF => ?_
  obtain rfl := Option.some.inj hF
  refine holds_lib (args := [.int .i64 qi]) (tv := .c (.d (.str (Lib.itoa qi)))) ⟨_, cB Go.Proofs.Tryd.f39, Go.Proofs.Tryd.func39, by kernel_rfl, by kernel_rfl⟩ rfl rfl fun w ht => ?_
  have h2 : (-9223372036854775808 ≤ qi) ∧ qi ≤ 9223372036854775807 := by simpa using h1
  refine (Go.Proofs.Tryd.strconv_Itoa qi h2.1 h2.2 w (tab_is (by kernel_rfl) (ht 3 _ rfl) (by kernel_rfl))).mono ?_
  rintro e w' ⟨rfl, k, os, rfl⟩
  exact ⟨rfl, Lib.below_grow _ _ (Nat.le_refl _) _ _⟩

/-! ### beaconfleet/fleetref2.CellOf -/
def fleetref2_CellOf_x1_k : (List UInt8) → AEx
  | _ => .exit 0

def fleetref2_CellOf_x1_S (qs : api_Spot) (qlevel : Int) : (List UInt8) → St
  | vout1 => Mem.st ⟨[], []⟩ (tl [(5, .v (.one (.d (.str vout1))))]) 0

def fleetref2_CellOf_x1_H (qs : api_Spot) (qlevel : Int) : (List UInt8) × Int → St
  | (vout, vx) => Mem.st ⟨[], [(0, [.d (.int .i64 qs.X), .d (.int .i64 qs.Y)])]⟩ (tl [(2, .v (.one (.box 0 0))), (5, .v (.one (.d (.str vout)))), (9, .v (.one (.d (.int .i64 qlevel)))), (10, .v (.one (.d (.int .i64 vx))))]) 1

theorem fleetref2_CellOf_x1_ok (qs : api_Spot) (qlevel : Int) (s : (List UInt8) × Int) (r : ((List UInt8) × Int) ⊕ ((List UInt8))) (hF : fleetref2_CellOf_x1 qs qlevel s = some r) : Awp prog 0 36 (cL (cL (cR (cL (cR (cR (cB f18))))))) (Out 0 (kk fleetref2_CellOf_x1_k) (SS (fleetref2_CellOf_x1_H qs qlevel) (fleetref2_CellOf_x1_S qs qlevel)) r) (fleetref2_CellOf_x1_H qs qlevel s) := by
  obtain ⟨vout, vx⟩ := s
  unfold fleetref2_CellOf_x1 at hF
  refine awp_seq ?_
  refine awp_region ?_
  refine aR 1 ?_
  refine aE ?_
  refine awp_seq ?_
  refine cE hF (fun h1 hF => ?_) fun h1 hF => ?_
  · refine awp_true (by kernel_rfl) h1 ?_
    refine awp_skip ?_
    refine awp_seq ?_
    refine awp_block ?_
    refine awp_seq ?_
    refine awp_region ?_
    refine aR 2 ?_
    refine aE ?_
    refine awp_seq ?_
    refine gE hF fun h2 hF => ?_
    refine aD ?_
    refine dR 5 ?_
    refine dX (x_shr h2) ?_
    refine dR 6 ?_
    refine dX (x_shr h2) ?_
    refine dR 3 ?_
    refine dE ?_
    refine bE hF fun vr1 h3 hF => ?_
    refine gE hF fun h4 hF => ?_
    refine awp_region ?_
    refine aR 5 ?_
    refine aC (strconv_Itoa_ok h3) [] [] [] ?_
    refine aX (x_cat h4) ?_
    refine aR 1 ?_
    refine aE ?_
    refine awp_region ?_
    refine aR 2 ?_
    refine aE ?_
    exact oO hF [] [] rfl
  · refine awp_false (by kernel_rfl) h1 ?_
    refine awp_exit ?_
    exact oO hF [] [] rfl

def fleetref2_CellOf_R (qs : api_Spot) (qlevel : Int) (r : (List UInt8)) : TV × Mem := (.v (.one (.d (.str r))), ⟨[], []⟩)

theorem fleetref2_CellOf_ok {qs : api_Spot} {qlevel : Int} {r} (hF : fleetref2_CellOf qs qlevel = some r) : Holds prog 18 [.v (.agg [.d (.int .i64 qs.X), .d (.int .i64 qs.Y)]), .v (.one (.d (.int .i64 qlevel)))] ⟨[], []⟩ (Is (fleetref2_CellOf_R qs qlevel r)) := by
  unfold fleetref2_CellOf at hF
  refine holds_of_awp hΓ (fn := f18) (c := cB f18) (A := 0) (nx := 0) (by kernel_rfl) (by kernel_rfl) (by kernel_rfl) (by kernel_rfl) (by kernel_rfl) (by kernel_rfl) (lowc_of (by kernel_rfl)) ?_
  show Awp prog 0 36 (cB f18) _ _
  refine awp_seq ?_
  refine awp_region ?_
  refine aR 2 ?_
  refine aE ?_
  refine awp_seq ?_
  refine awp_region ?_
  refine aR 1 ?_
  refine aE ?_
  refine awp_seq ?_
  refine awp_seq ?_
  refine awp_region ?_
  refine aR 2 ?_
  refine aE ?_
  refine awp_block ?_
  refine awp_to (st' := fleetref2_CellOf_x1_H qs qlevel (([] : List UInt8), 0)) (oT [] []) ?_
  refine bE hF fun vout1_1 h5 hF => ?_
  refine awp_sub (awp_loop' (fleetref2_CellOf_x1_H qs qlevel) fleetref2_CellOf_x1_k (fleetref2_CellOf_x1_S qs qlevel) (by intro x; exact fun h => nomatch h) h5 (fleetref2_CellOf_x1_ok qs qlevel)) ?_
  refine awp_seq ?_
  refine awp_region ?_
  refine aR 2 ?_
  refine aE ?_
  refine awp_ret ?_
  exact oF hF [] []

/-! ### beaconfleet/fleetref2.CellBoxOf -/
def fleetref2_CellBoxOf_x2_k : api_Spot → AEx
  | _ => .normal

def fleetref2_CellBoxOf_x2_S (qkey : List UInt8) (vs : api_Spot) (vlong : Int) (vx : Int) : api_Spot → St
  | vs2 => Mem.st ⟨[], [(0, [.d (.int .i64 0), .d (.int .i64 0)]), (1, [.d (.int .i64 vs2.X), .d (.int .i64 vs2.Y)])]⟩ (tl [(2, .v (.one (.box 0 0))), (4, .v (.one (.box 1 0))), (5, .v (.one (.d (.int .i64 (IntKind.wrap .i64 (vlong.tdiv 2)))))), (10, .v (.one (.d (.lst (List.map (encI .u8) (bytesD qkey)))))), (11, .v (.one (.d (.int .i64 ((bytesD qkey).length : Int))))), (12, .v (.one (.d (.int .i64 vx))))]) 2

def fleetref2_CellBoxOf_x2_I (qkey : List UInt8) (vs : api_Spot) (vlong : Int) (vx : Int) : St := Mem.st ⟨[], [(0, [.d (.int .i64 0), .d (.int .i64 0)]), (1, [.d (.int .i64 vs.X), .d (.int .i64 vs.Y)])]⟩ (tl [(2, .v (.one (.box 0 0))), (4, .v (.one (.box 1 0))), (5, .v (.one (.d (.int .i64 vlong)))), (10, .v (.one (.d (.lst (List.map (encI .u8) (bytesD qkey)))))), (11, .v (.one (.d (.int .i64 ((bytesD qkey).length : Int))))), (12, .v (.one (.d (.int .i64 vx))))]) 2

theorem fleetref2_CellBoxOf_x2_ok (qkey : List UInt8) (vs : api_Spot) (vlong : Int) (vx : Int) {r} (hF : fleetref2_CellBoxOf_x2 qkey vs vlong vx = some r) : Awp prog 0 40 (cL (cR (cR (cL (cL (cR (cL (cR (cR (cB f19)))))))))) (Out 0 fleetref2_CellBoxOf_x2_k (fleetref2_CellBoxOf_x2_S qkey vs vlong vx) r) (fleetref2_CellBoxOf_x2_I qkey vs vlong vx) := by
  unfold fleetref2_CellBoxOf_x2 at hF
  refine awp_block ?_
  refine awp_seq ?_
  refine bE hF fun vy1 h2 hF => ?_
  refine awp_region ?_
  refine aX (x_idx (encI .u8) h2) ?_
  refine aR 2 ?_
  refine aE ?_
  refine awp_seq ?_
  refine awp_region ?_
  refine aR 3 ?_
  refine aE ?_
  refine awp_seq ?_
  refine gE hF fun h3 hF => ?_
  refine aD ?_
  refine dR 9 ?_
  refine dX (x_rem h3) ?_
  refine dR 3 ?_
  refine dE ?_
  refine awp_seq ?_
  refine awp_region ?_
  refine aR 2 ?_
  refine aE ?_
  refine cE hF (fun h4 hF => ?_) fun h4 hF => ?_
  · refine awp_true (by kernel_rfl) h4 ?_
    refine awp_region ?_
    refine aR 6 ?_
    refine aE ?_
    exact oO hF [] [] rfl
  · refine awp_false (by kernel_rfl) h4 ?_
    refine awp_skip ?_
    exact oO hF [] [] rfl

def fleetref2_CellBoxOf_x1_k : (api_Spot × Int) → AEx
  | _ => .exit 0

def fleetref2_CellBoxOf_x1_S (qkey : List UInt8) : (api_Spot × Int) → St
  | (vs3, vlong1) => Mem.st ⟨[], [(0, [.d (.int .i64 0), .d (.int .i64 0)]), (1, [.d (.int .i64 vs3.X), .d (.int .i64 vs3.Y)])]⟩ (tl [(2, .v (.one (.box 0 0))), (4, .v (.one (.box 1 0))), (5, .v (.one (.d (.int .i64 vlong1))))]) 2

def fleetref2_CellBoxOf_x1_H (qkey : List UInt8) : api_Spot × Int × Int → St
  | (vs, vlong, vx) => Mem.st ⟨[], [(0, [.d (.int .i64 0), .d (.int .i64 0)]), (1, [.d (.int .i64 vs.X), .d (.int .i64 vs.Y)])]⟩ (tl [(2, .v (.one (.box 0 0))), (4, .v (.one (.box 1 0))), (5, .v (.one (.d (.int .i64 vlong)))), (10, .v (.one (.d (.lst (List.map (encI .u8) (bytesD qkey)))))), (11, .v (.one (.d (.int .i64 ((bytesD qkey).length : Int))))), (12, .v (.one (.d (.int .i64 vx))))]) 2

theorem fleetref2_CellBoxOf_x1_ok (qkey : List UInt8) (s : api_Spot × Int × Int) (r : (api_Spot × Int × Int) ⊕ ((api_Spot × Int))) (hF : fleetref2_CellBoxOf_x1 qkey s = some r) : Awp prog 0 40 (cL (cL (cR (cL (cR (cR (cB f19))))))) (Out 0 (kk fleetref2_CellBoxOf_x1_k) (SS (fleetref2_CellBoxOf_x1_H qkey) (fleetref2_CellBoxOf_x1_S qkey)) r) (fleetref2_CellBoxOf_x1_H qkey s) := by
  obtain ⟨vs, vlong, vx⟩ := s
  unfold fleetref2_CellBoxOf_x1 at hF
  refine awp_seq ?_
  refine awp_region ?_
  refine aR 1 ?_
  refine aE ?_
  refine awp_seq ?_
  refine cE hF (fun h1 hF => ?_) fun h1 hF => ?_
  · refine awp_true (by kernel_rfl) h1 ?_
    refine awp_skip ?_
    refine awp_seq ?_
    refine awp_to (st' := fleetref2_CellBoxOf_x2_I qkey vs vlong vx) (oT [] []) ?_
    refine bE hF fun vs2_1 h5 hF => ?_
    refine awp_sub (fleetref2_CellBoxOf_x2_ok qkey vs vlong vx h5) ?_
    refine awp_region ?_
    refine aR 2 ?_
    refine aE ?_
    exact oO hF [] [] rfl
  · refine awp_false (by kernel_rfl) h1 ?_
    refine awp_exit ?_
    exact oO hF [] [] rfl

def fleetref2_CellBoxOf_R (qkey : List UInt8) (r : api_Spot × Int) : TV × Mem := (.tup [.agg [.d (.int .i64 r.1.X), .d (.int .i64 r.1.Y)], .one (.d (.int .i64 r.2))], ⟨[], []⟩)

theorem fleetref2_CellBoxOf_ok {qkey : List UInt8} {r} (hF : fleetref2_CellBoxOf qkey = some r) : Holds prog 19 [.v (.one (.d (.str qkey)))] ⟨[], []⟩ (Is (fleetref2_CellBoxOf_R qkey r)) := by
  unfold fleetref2_CellBoxOf at hF
  refine holds_of_awp hΓ (fn := f19) (c := cB f19) (A := 0) (nx := 0) (by kernel_rfl) (by kernel_rfl) (by kernel_rfl) (by kernel_rfl) (by kernel_rfl) (by kernel_rfl) (lowc_of (by kernel_rfl)) ?_
  show Awp prog 0 40 (cB f19) _ _
  refine awp_seq ?_
  refine awp_region ?_
  refine aR 2 ?_
  refine aE ?_
  refine awp_seq ?_
  refine awp_region ?_
  refine aR 4 ?_
  refine aE ?_
  refine awp_seq ?_
  refine awp_seq ?_
  refine awp_region ?_
  refine aR 1 ?_
  refine aBs (s := qkey) rfl ?_
  refine aL (encI .u8) (bytesD qkey) ?_
  refine aR 1 ?_
  refine aE ?_
  refine awp_block ?_
  refine awp_to (st' := fleetref2_CellBoxOf_x1_H qkey (api_Spot.mk (-16384) (-16384), 32768, 0)) (oT [(1, 3000)] []) ?_
  refine bE hF fun x h6 hF => ?_
  obtain ⟨vs3_1, vlong1_1⟩ := x
  refine awp_sub (awp_loop' (fleetref2_CellBoxOf_x1_H qkey) fleetref2_CellBoxOf_x1_k (fleetref2_CellBoxOf_x1_S qkey) (by intro x; exact fun h => nomatch h) h6 (fleetref2_CellBoxOf_x1_ok qkey)) ?_
  refine awp_seq ?_
  refine awp_region ?_
  refine aR 4 ?_
  refine aE ?_
  refine awp_ret ?_
  exact oF hF [] []

/-! ### beaconfleet/fleetref2.WhereOf -/
def fleetref2_WhereOf_x3_k : Bool → AEx
  | _ => .normal

def fleetref2_WhereOf_x3_S (qx : List api_Spot) (qx1 : api_Spot) (vx : Int) (vx1 : Int) (vr3 : api_Spot) (vr1_3 : api_Spot) : Bool → St
  | vx5 => Mem.st ⟨[], [(0, [.d (.int .i64 qx1.X), .d (.int .i64 qx1.Y)]), (1, [.d (.int .i64 vr3.X), .d (.int .i64 vr3.Y)]), (2, [.d (.int .i64 vr1_3.X), .d (.int .i64 vr1_3.Y)])]⟩ (tl [(0, .v (.one (.d (.lst (List.map api_Spot.enc qx))))), (3, .v (.one (.box 0 0))), (5, .v (.one (.d (.int .i64 vx)))), (7, .v (.one (.box 1 0))), (8, .v (.one (.box 2 0))), (10, .v (.one (.d (.int .i64 (qx.length : Int))))), (11, .v (.one (.d (.int .i64 vx1)))), (24, .v (.one (.d (.bool vx5))))]) 3

def fleetref2_WhereOf_x3_I (qx : List api_Spot) (qx1 : api_Spot) (vx : Int) (vx1 : Int) (vr3 : api_Spot) (vr1_3 : api_Spot) : St := Mem.st ⟨[], [(0, [.d (.int .i64 qx1.X), .d (.int .i64 qx1.Y)]), (1, [.d (.int .i64 vr3.X), .d (.int .i64 vr3.Y)]), (2, [.d (.int .i64 vr1_3.X), .d (.int .i64 vr1_3.Y)])]⟩ (tl [(0, .v (.one (.d (.lst (List.map api_Spot.enc qx))))), (3, .v (.one (.box 0 0))), (5, .v (.one (.d (.int .i64 vx)))), (7, .v (.one (.box 1 0))), (8, .v (.one (.box 2 0))), (10, .v (.one (.d (.int .i64 (qx.length : Int))))), (11, .v (.one (.d (.int .i64 vx1))))]) 3

theorem fleetref2_WhereOf_x3_ok (qx : List api_Spot) (qx1 : api_Spot) (vx : Int) (vx1 : Int) (vr3 : api_Spot) (vr1_3 : api_Spot) {r} (hF : fleetref2_WhereOf_x3 qx1 vr3 vr1_3 = some r) : Awp prog 0 71 (cL (cL (cR (cR (cR (cL (cL (cR (cR (cL (cL (cR (cL (cR (cR (cB f58)))))))))))))))) (Out 0 fleetref2_WhereOf_x3_k (fleetref2_WhereOf_x3_S qx qx1 vx vx1 vr3 vr1_3) r) (fleetref2_WhereOf_x3_I qx qx1 vx vx1 vr3 vr1_3) := by
  unfold fleetref2_WhereOf_x3 at hF
  refine cE hF (fun h5 hF => ?_) fun h5 hF => ?_
  · refine cE hF (fun h6 hF => ?_) fun h6 hF => ?_
    · refine bE hF fun vr1_4 h7 hF => ?_
      refine awp_region ?_
      refine aR 4 ?_
      refine aB h5 ?_
      refine aR 5 ?_
      refine aB h6 ?_
      refine aR 5 ?_
      refine aC (fleetref2_side_ok h7) [] [] [] ?_
      refine aR 3 ?_
      refine aE ?_
      exact oO hF [] [] rfl
    · refine awp_region ?_
      refine aR 4 ?_
      refine aB h5 ?_
      refine aR 5 ?_
      refine aB h6 ?_
      refine aR 9 ?_
      refine aE ?_
      exact oO hF [] [] rfl
  · refine awp_region ?_
    refine aR 4 ?_
    refine aB h5 ?_
    refine aR 15 ?_
    refine aE ?_
    exact oO hF [] [] rfl

def fleetref2_WhereOf_x4_k : Bool → AEx
  | _ => .normal

def fleetref2_WhereOf_x4_S (qx : List api_Spot) (qx1 : api_Spot) (vx : Int) (vx1 : Int) (vr3 : api_Spot) (vr1_3 : api_Spot) : Bool → St
  | vx6 => Mem.st ⟨[], [(0, [.d (.int .i64 qx1.X), .d (.int .i64 qx1.Y)])]⟩ (tl [(0, .v (.one (.d (.lst (List.map api_Spot.enc qx))))), (3, .v (.one (.box 0 0))), (5, .v (.one (.d (.int .i64 vx)))), (10, .v (.one (.d (.int .i64 (qx.length : Int))))), (11, .v (.one (.d (.int .i64 vx1)))), (46, .v (.one (.d (.bool vx6))))]) 1

def fleetref2_WhereOf_x4_I (qx : List api_Spot) (qx1 : api_Spot) (vx : Int) (vx1 : Int) (vr3 : api_Spot) (vr1_3 : api_Spot) : St := Mem.st ⟨[], [(0, [.d (.int .i64 qx1.X), .d (.int .i64 qx1.Y)]), (1, [.d (.int .i64 vr3.X), .d (.int .i64 vr3.Y)]), (2, [.d (.int .i64 vr1_3.X), .d (.int .i64 vr1_3.Y)])]⟩ (tl [(0, .v (.one (.d (.lst (List.map api_Spot.enc qx))))), (3, .v (.one (.box 0 0))), (5, .v (.one (.d (.int .i64 vx)))), (7, .v (.one (.box 1 0))), (8, .v (.one (.box 2 0))), (10, .v (.one (.d (.int .i64 (qx.length : Int))))), (11, .v (.one (.d (.int .i64 vx1))))]) 3

theorem fleetref2_WhereOf_x4_ok (qx : List api_Spot) (qx1 : api_Spot) (vx : Int) (vx1 : Int) (vr3 : api_Spot) (vr1_3 : api_Spot) {r} (hF : fleetref2_WhereOf_x4 qx1 vr3 vr1_3 = some r) : Awp prog 0 71 (cL (cR (cR (cL (cR (cR (cR (cL (cL (cR (cR (cL (cL (cR (cL (cR (cR (cB f58)))))))))))))))))) (Out 0 fleetref2_WhereOf_x4_k (fleetref2_WhereOf_x4_S qx qx1 vx vx1 vr3 vr1_3) r) (fleetref2_WhereOf_x4_I qx qx1 vx vx1 vr3 vr1_3) := by
  unfold fleetref2_WhereOf_x4 at hF
  refine cE hF (fun h10 hF => ?_) fun h10 hF => ?_
  · refine cE hF (fun h11 hF => ?_) fun h11 hF => ?_
    · refine bE hF fun vr1_5 h12 hF => ?_
      refine awp_region ?_
      refine aR 4 ?_
      refine aB h10 ?_
      refine aR 5 ?_
      refine aB h11 ?_
      refine aR 5 ?_
      refine aC (fleetref2_side_ok h12) [] [] [] ?_
      refine aR 3 ?_
      refine aE ?_
      exact oO hF [] [] rfl
    · refine awp_region ?_
      refine aR 4 ?_
      refine aB h10 ?_
      refine aR 5 ?_
      refine aB h11 ?_
      refine aR 9 ?_
      refine aE ?_
      exact oO hF [] [] rfl
  · refine awp_region ?_
    refine aR 4 ?_
    refine aB h10 ?_
    refine aR 15 ?_
    refine aE ?_
    exact oO hF [] [] rfl

def fleetref2_WhereOf_x2_k : Int ⊕ Unit → AEx
  | .inl _ => .normal
  | .inr _ => .ret

def fleetref2_WhereOf_x2_S (qx : List api_Spot) (qx1 : api_Spot) (vx : Int) (vx1 : Int) : Int ⊕ Unit → St
  | .inl vx7 => Mem.st ⟨[], [(0, [.d (.int .i64 qx1.X), .d (.int .i64 qx1.Y)])]⟩ (tl [(0, .v (.one (.d (.lst (List.map api_Spot.enc qx))))), (3, .v (.one (.box 0 0))), (5, .v (.one (.d (.int .i64 vx7)))), (10, .v (.one (.d (.int .i64 (qx.length : Int))))), (11, .v (.one (.d (.int .i64 vx1))))]) 1
  | .inr _ => Mem.st ⟨[], []⟩ (tl [(4, .v (.one (.d (.int .i64 1))))]) 0

def fleetref2_WhereOf_x2_I (qx : List api_Spot) (qx1 : api_Spot) (vx : Int) (vx1 : Int) : St := Mem.st ⟨[], [(0, [.d (.int .i64 qx1.X), .d (.int .i64 qx1.Y)])]⟩ (tl [(0, .v (.one (.d (.lst (List.map api_Spot.enc qx))))), (3, .v (.one (.box 0 0))), (5, .v (.one (.d (.int .i64 vx)))), (10, .v (.one (.d (.int .i64 (qx.length : Int))))), (11, .v (.one (.d (.int .i64 vx1))))]) 1

theorem fleetref2_WhereOf_x2_ok (qx : List api_Spot) (qx1 : api_Spot) (vx : Int) (vx1 : Int) {r} (hF : fleetref2_WhereOf_x2 qx qx1 vx vx1 = some r) : Awp prog 0 71 (cL (cR (cR (cL (cL (cR (cL (cR (cR (cB f58)))))))))) (Out 0 fleetref2_WhereOf_x2_k (fleetref2_WhereOf_x2_S qx qx1 vx vx1) r) (fleetref2_WhereOf_x2_I qx qx1 vx vx1) := by
  unfold fleetref2_WhereOf_x2 at hF
  refine awp_block ?_
  refine awp_seq ?_
  refine awp_region ?_
  refine aR 2 ?_
  refine aE ?_
  refine awp_seq ?_
  refine bE hF fun x h2 hF => ?_
  obtain ⟨vr3, vr1_3⟩ := x
  refine awp_region ?_
  refine aR 2 ?_
  refine aC (fleetref2_edge_ok h2) [] [] [] ?_
  refine aR 7 ?_
  refine aE ?_
  refine awp_seq ?_
  refine awp_seq ?_
  refine bE hF fun vr4 h3 hF => ?_
  refine awp_region ?_
  refine aR 3 ?_
  refine aC (fleetref2_onWay_ok h3) [] [] [] ?_
  refine aE ?_
  refine cE hF (fun h4 hF => ?_) fun h4 hF => ?_
  · refine awp_true (by kernel_rfl) h4 ?_
    refine awp_seq ?_
    refine awp_region ?_
    refine aR 1 ?_
    refine aE ?_
    refine awp_ret ?_
    exact oO hF [] [] rfl
  · refine awp_false (by kernel_rfl) h4 ?_
    refine awp_skip ?_
    refine awp_block ?_
    refine awp_seq ?_
    refine awp_to (st' := fleetref2_WhereOf_x3_I qx qx1 vx vx1 vr3 vr1_3) (oT [(1, 8001), (2, 9001)] []) ?_
    refine bE hF fun vx5_1 h8 hF => ?_
    refine awp_sub (fleetref2_WhereOf_x3_ok qx qx1 vx vx1 vr3 vr1_3 h8) ?_
    refine cE hF (fun h9 hF => ?_) fun h9 hF => ?_
    · refine awp_true (by kernel_rfl) h9 ?_
      refine awp_region ?_
      refine aR 3 ?_
      refine aE ?_
      exact oO hF [] [] rfl
    · refine awp_false (by kernel_rfl) h9 ?_
      refine awp_seq ?_
      refine awp_to (st' := fleetref2_WhereOf_x4_I qx qx1 vx vx1 vr3 vr1_3) (oT [] []) ?_
      refine bE hF fun vx6_1 h13 hF => ?_
      refine awp_sub (fleetref2_WhereOf_x4_ok qx qx1 vx vx1 vr3 vr1_3 h13) ?_
      refine cE hF (fun h14 hF => ?_) fun h14 hF => ?_
      · refine awp_true (by kernel_rfl) h14 ?_
        refine awp_region ?_
        refine aR 3 ?_
        refine aE ?_
        exact oO hF [] [] rfl
      · refine awp_false (by kernel_rfl) h14 ?_
        refine awp_skip ?_
        exact oO hF [] [] rfl

def fleetref2_WhereOf_x1_k : Int ⊕ Unit → AEx
  | .inl _ => .exit 0
  | .inr _ => .ret

def fleetref2_WhereOf_x1_S (qx : List api_Spot) (qx1 : api_Spot) : Int ⊕ Unit → St
  | .inl vx8 => Mem.st ⟨[], []⟩ (tl [(5, .v (.one (.d (.int .i64 vx8))))]) 0
  | .inr _ => Mem.st ⟨[], []⟩ (tl [(4, .v (.one (.d (.int .i64 1))))]) 0

def fleetref2_WhereOf_x1_H (qx : List api_Spot) (qx1 : api_Spot) : Int × Int → St
  | (vx, vx1) => Mem.st ⟨[], [(0, [.d (.int .i64 qx1.X), .d (.int .i64 qx1.Y)])]⟩ (tl [(0, .v (.one (.d (.lst (List.map api_Spot.enc qx))))), (3, .v (.one (.box 0 0))), (5, .v (.one (.d (.int .i64 vx)))), (10, .v (.one (.d (.int .i64 (qx.length : Int))))), (11, .v (.one (.d (.int .i64 vx1))))]) 1

theorem fleetref2_WhereOf_x1_ok (qx : List api_Spot) (qx1 : api_Spot) (s : Int × Int) (r : (Int × Int) ⊕ (Int ⊕ Unit)) (hF : fleetref2_WhereOf_x1 qx qx1 s = some r) : Awp prog 0 71 (cL (cL (cR (cL (cR (cR (cB f58))))))) (Out 0 (kk fleetref2_WhereOf_x1_k) (SS (fleetref2_WhereOf_x1_H qx qx1) (fleetref2_WhereOf_x1_S qx qx1)) r) (fleetref2_WhereOf_x1_H qx qx1 s) := by
  obtain ⟨vx, vx1⟩ := s
  unfold fleetref2_WhereOf_x1 at hF
  refine awp_seq ?_
  refine awp_region ?_
  refine aR 1 ?_
  refine aE ?_
  refine awp_seq ?_
  refine cE hF (fun h1 hF => ?_) fun h1 hF => ?_
  · refine awp_true (by kernel_rfl) h1 ?_
    refine awp_skip ?_
    refine awp_seq ?_
    refine awp_to (st' := fleetref2_WhereOf_x2_I qx qx1 vx vx1) (oT [] []) ?_
    refine bE hF fun x h15 hF => ?_
    rcases x with vx7_1 | _
    · refine awp_sub (fleetref2_WhereOf_x2_ok qx qx1 vx vx1 h15) ?_
      refine awp_region ?_
      refine aR 2 ?_
      refine aE ?_
      exact oO hF [] [] rfl
    · refine awp_sub (fleetref2_WhereOf_x2_ok qx qx1 vx vx1 h15) ?_
      exact oO hF [] [] rfl
  · refine awp_false (by kernel_rfl) h1 ?_
    refine awp_exit ?_
    exact oO hF [] [] rfl

def fleetref2_WhereOf_R (qx : List api_Spot) (qx1 : api_Spot) (r : Int) : TV × Mem := (.v (.one (.d (.int .i64 r))), ⟨[], []⟩)

theorem fleetref2_WhereOf_ok {qx : List api_Spot} {qx1 : api_Spot} {r} (hF : fleetref2_WhereOf qx qx1 = some r) : Holds prog 58 [.v (.one (.d (.lst (List.map api_Spot.enc qx)))), .v (.agg [.d (.int .i64 qx1.X), .d (.int .i64 qx1.Y)])] ⟨[], []⟩ (Is (fleetref2_WhereOf_R qx qx1 r)) := by
  unfold fleetref2_WhereOf at hF
  refine holds_of_awp hΓ (fn := f58) (c := cB f58) (A := 0) (nx := 0) (by kernel_rfl) (by kernel_rfl) (by kernel_rfl) (by kernel_rfl) (by kernel_rfl) (by kernel_rfl) (lowc_of (by kernel_rfl)) ?_
  show Awp prog 0 71 (cB f58) _ _
  refine awp_seq ?_
  refine awp_region ?_
  refine aR 2 ?_
  refine aE ?_
  refine awp_seq ?_
  refine awp_region ?_
  refine aR 1 ?_
  refine aE ?_
  refine awp_seq ?_
  refine awp_seq ?_
  refine awp_region ?_
  refine aR 1 ?_
  refine aL api_Spot.enc qx ?_
  refine aR 1 ?_
  refine aE ?_
  refine awp_block ?_
  refine awp_to (st' := fleetref2_WhereOf_x1_H qx qx1 (0, 0)) (oT [] []) ?_
  refine bE hF fun x h16 hF => ?_
  rcases x with vx8_1 | _
  · refine awp_sub (awp_loop' (fleetref2_WhereOf_x1_H qx qx1) fleetref2_WhereOf_x1_k (fleetref2_WhereOf_x1_S qx qx1) (by intro x; rcases x with x | x <;> exact fun h => nomatch h) h16 (fleetref2_WhereOf_x1_ok qx qx1)) ?_
    refine awp_seq ?_
    refine awp_seq ?_
    refine awp_region ?_
    refine aR 2 ?_
    refine aE ?_
    refine cE hF (fun h17 hF => ?_) fun h17 hF => ?_
    · refine awp_true (by kernel_rfl) h17 ?_
      refine awp_seq ?_
      refine awp_region ?_
      refine aR 1 ?_
      refine aE ?_
      refine awp_ret ?_
      exact oF hF [] []
    · refine awp_false (by kernel_rfl) h17 ?_
      refine awp_skip ?_
      refine awp_seq ?_
      refine awp_region ?_
      refine aR 1 ?_
      refine aE ?_
      refine awp_ret ?_
      exact oF hF [] []
  · refine awp_sub (awp_loop' (fleetref2_WhereOf_x1_H qx qx1) fleetref2_WhereOf_x1_k (fleetref2_WhereOf_x1_S qx qx1) (by intro x; rcases x with x | x <;> exact fun h => nomatch h) h16 (fleetref2_WhereOf_x1_ok qx qx1)) ?_
    exact oF hF [] []

/-! ### beaconfleet/fleetref2.MeetOf -/
def fleetref2_MeetOf_x2_k : Unit ⊕ Unit → AEx
  | .inl _ => .exit 2
  | .inr _ => .ret

def fleetref2_MeetOf_x2_S (qf : List api_Spot) (qg : List api_Spot) (vx : Int) (vr5 : api_Spot) (vr1_3 : api_Spot) : Unit ⊕ Unit → St
  | .inl _ => Mem.st ⟨[], []⟩ (tl [(0, .v (.one (.d (.lst (List.map api_Spot.enc qf))))), (1, .v (.one (.d (.lst (List.map api_Spot.enc qg))))), (12, .v (.one (.d (.int .i64 (qf.length : Int))))), (13, .v (.one (.d (.int .i64 vx))))]) 0
  | .inr _ => Mem.st ⟨[], []⟩ (tl [(4, .v (.one (.d (.bool true))))]) 0

def fleetref2_MeetOf_x2_H (qf : List api_Spot) (qg : List api_Spot) (vx : Int) (vr5 : api_Spot) (vr1_3 : api_Spot) : Int → St
  | vx2 => Mem.st ⟨[], [(0, [.d (.int .i64 vr5.X), .d (.int .i64 vr5.Y)]), (1, [.d (.int .i64 vr1_3.X), .d (.int .i64 vr1_3.Y)])]⟩ (tl [(0, .v (.one (.d (.lst (List.map api_Spot.enc qf))))), (1, .v (.one (.d (.lst (List.map api_Spot.enc qg))))), (6, .v (.one (.box 0 0))), (7, .v (.one (.box 1 0))), (12, .v (.one (.d (.int .i64 (qf.length : Int))))), (13, .v (.one (.d (.int .i64 vx)))), (23, .v (.one (.d (.int .i64 (qg.length : Int))))), (24, .v (.one (.d (.int .i64 vx2))))]) 2

theorem fleetref2_MeetOf_x2_ok (qf : List api_Spot) (qg : List api_Spot) (vx : Int) (vr5 : api_Spot) (vr1_3 : api_Spot) (vx2 : Int) (r : (Int) ⊕ (Unit ⊕ Unit)) (hF : fleetref2_MeetOf_x2 qg vr5 vr1_3 vx2 = some r) : Awp prog 0 54 (cL (cL (cR (cR (cR (cL (cL (cR (cR (cL (cL (cR (cL (cR (cB f40))))))))))))))) (Out 0 (kk fleetref2_MeetOf_x2_k) (SS (fleetref2_MeetOf_x2_H qf qg vx vr5 vr1_3) (fleetref2_MeetOf_x2_S qf qg vx vr5 vr1_3)) r) (fleetref2_MeetOf_x2_H qf qg vx vr5 vr1_3 vx2) := by
  unfold fleetref2_MeetOf_x2 at hF
  refine awp_seq ?_
  refine awp_region ?_
  refine aR 1 ?_
  refine aE ?_
  refine awp_seq ?_
  refine cE hF (fun h3 hF => ?_) fun h3 hF => ?_
  · refine awp_true (by kernel_rfl) h3 ?_
    refine awp_skip ?_
    refine awp_seq ?_
    refine awp_block ?_
    refine awp_seq ?_
    refine awp_region ?_
    refine aR 2 ?_
    refine aE ?_
    refine awp_seq ?_
    refine bE hF fun x h4 hF => ?_
    obtain ⟨vr7, vr1_5⟩ := x
    refine awp_region ?_
    refine aR 2 ?_
    refine aC (fleetref2_edge_ok h4) [] [] [] ?_
    refine aR 7 ?_
    refine aE ?_
    refine awp_seq ?_
    refine bE hF fun vr4_3 h5 hF => ?_
    refine awp_region ?_
    refine aR 4 ?_
    refine aC (fleetref2_touches_ok h5) [] [] [] ?_
    refine aE ?_
    refine cE hF (fun h6 hF => ?_) fun h6 hF => ?_
    · refine awp_true (by kernel_rfl) h6 ?_
      refine awp_seq ?_
      refine awp_region ?_
      refine aR 1 ?_
      refine aE ?_
      refine awp_ret ?_
      exact oO hF [] [] rfl
    · refine awp_false (by kernel_rfl) h6 ?_
      refine awp_skip ?_
      refine awp_region ?_
      refine aR 2 ?_
      refine aE ?_
      exact oO hF [] [] rfl
  · refine awp_false (by kernel_rfl) h3 ?_
    refine awp_exit ?_
    exact oO hF [] [] rfl

def fleetref2_MeetOf_x1_k : Unit ⊕ Unit → AEx
  | .inl _ => .exit 0
  | .inr _ => .ret

def fleetref2_MeetOf_x1_S (qf : List api_Spot) (qg : List api_Spot) : Unit ⊕ Unit → St
  | .inl _ => Mem.st ⟨[], []⟩ (tl [(0, .v (.one (.d (.lst (List.map api_Spot.enc qf))))), (1, .v (.one (.d (.lst (List.map api_Spot.enc qg)))))]) 0
  | .inr _ => Mem.st ⟨[], []⟩ (tl [(4, .v (.one (.d (.bool true))))]) 0

def fleetref2_MeetOf_x1_H (qf : List api_Spot) (qg : List api_Spot) : Int → St
  | vx => Mem.st ⟨[], []⟩ (tl [(0, .v (.one (.d (.lst (List.map api_Spot.enc qf))))), (1, .v (.one (.d (.lst (List.map api_Spot.enc qg))))), (12, .v (.one (.d (.int .i64 (qf.length : Int))))), (13, .v (.one (.d (.int .i64 vx))))]) 0

theorem fleetref2_MeetOf_x1_ok (qf : List api_Spot) (qg : List api_Spot) (vx : Int) (r : (Int) ⊕ (Unit ⊕ Unit)) (hF : fleetref2_MeetOf_x1 qf qg vx = some r) : Awp prog 0 54 (cL (cL (cR (cL (cR (cB f40)))))) (Out 0 (kk fleetref2_MeetOf_x1_k) (SS (fleetref2_MeetOf_x1_H qf qg) (fleetref2_MeetOf_x1_S qf qg)) r) (fleetref2_MeetOf_x1_H qf qg vx) := by
  unfold fleetref2_MeetOf_x1 at hF
  refine awp_seq ?_
  refine awp_region ?_
  refine aR 1 ?_
  refine aE ?_
  refine awp_seq ?_
  refine cE hF (fun h1 hF => ?_) fun h1 hF => ?_
  · refine awp_true (by kernel_rfl) h1 ?_
    refine awp_skip ?_
    refine awp_seq ?_
    refine awp_block ?_
    refine awp_seq ?_
    refine awp_region ?_
    refine aR 2 ?_
    refine aE ?_
    refine awp_seq ?_
    refine bE hF fun x h2 hF => ?_
    obtain ⟨vr5, vr1_3⟩ := x
    refine awp_region ?_
    refine aR 2 ?_
    refine aC (fleetref2_edge_ok h2) [] [] [] ?_
    refine aR 7 ?_
    refine aE ?_
    refine awp_seq ?_
    refine awp_region ?_
    refine aR 1 ?_
    refine aL api_Spot.enc qg ?_
    refine aR 1 ?_
    refine aE ?_
    refine awp_block ?_
    refine awp_to (st' := fleetref2_MeetOf_x2_H qf qg vx vr5 vr1_3 0) (oT [(0, 9000), (1, 10000)] []) ?_
    refine bE hF fun x h7 hF => ?_
    rcases x with _ | _
    · refine awp_sub (awp_loop' (fleetref2_MeetOf_x2_H qf qg vx vr5 vr1_3) fleetref2_MeetOf_x2_k (fleetref2_MeetOf_x2_S qf qg vx vr5 vr1_3) (by intro x; rcases x with x | x <;> exact fun h => nomatch h) h7 (fleetref2_MeetOf_x2_ok qf qg vx vr5 vr1_3)) ?_
      refine awp_region ?_
      refine aR 2 ?_
      refine aE ?_
      exact oO hF [] [] rfl
    · refine awp_sub (awp_loop' (fleetref2_MeetOf_x2_H qf qg vx vr5 vr1_3) fleetref2_MeetOf_x2_k (fleetref2_MeetOf_x2_S qf qg vx vr5 vr1_3) (by intro x; rcases x with x | x <;> exact fun h => nomatch h) h7 (fleetref2_MeetOf_x2_ok qf qg vx vr5 vr1_3)) ?_
      exact oO hF [] [] rfl
  · refine awp_false (by kernel_rfl) h1 ?_
    refine awp_exit ?_
    exact oO hF [] [] rfl

def fleetref2_MeetOf_x3_k : Bool → AEx
  | _ => .normal

def fleetref2_MeetOf_x3_S (qf : List api_Spot) (qg : List api_Spot) : Bool → St
  | vx3 => Mem.st ⟨[], []⟩ (tl [(4, .v (.one (.d (.bool vx3))))]) 0

def fleetref2_MeetOf_x3_I (qf : List api_Spot) (qg : List api_Spot) : St := Mem.st ⟨[], []⟩ (tl [(0, .v (.one (.d (.lst (List.map api_Spot.enc qf))))), (1, .v (.one (.d (.lst (List.map api_Spot.enc qg)))))]) 0

theorem fleetref2_MeetOf_x3_ok (qf : List api_Spot) (qg : List api_Spot) {r} (hF : fleetref2_MeetOf_x3 qf qg = some r) : Awp prog 0 54 (cL (cR (cR (cB f40)))) (Out 0 fleetref2_MeetOf_x3_k (fleetref2_MeetOf_x3_S qf qg) r) (fleetref2_MeetOf_x3_I qf qg) := by
  unfold fleetref2_MeetOf_x3 at hF
  refine bE hF fun vy h9 hF => ?_
  refine bE hF fun vr5_1 h10 hF => ?_
  refine cE hF (fun h11 hF => ?_) fun h11 hF => ?_
  · refine awp_region ?_
    refine aR 2 ?_
    refine aX (x_idx api_Spot.enc h9) ?_
    refine aR 1 ?_
    refine aC (fleetref2_WhereOf_ok h10) [] [] [] ?_
    refine aB h11 ?_
    refine aR 9 ?_
    refine aE ?_
    exact oO hF [] [] rfl
  · refine bE hF fun vy1 h12 hF => ?_
    refine bE hF fun vr5_2 h13 hF => ?_
    refine awp_region ?_
    refine aR 2 ?_
    refine aX (x_idx api_Spot.enc h9) ?_
    refine aR 1 ?_
    refine aC (fleetref2_WhereOf_ok h10) [] [] [] ?_
    refine aB h11 ?_
    refine aR 3 ?_
    refine aX (x_idx api_Spot.enc h12) ?_
    refine aR 1 ?_
    refine aC (fleetref2_WhereOf_ok h13) [] [] [] ?_
    refine aR 3 ?_
    refine aE ?_
    exact oO hF [] [] rfl

def fleetref2_MeetOf_R (qf : List api_Spot) (qg : List api_Spot) (r : Bool) : TV × Mem := (.v (.one (.d (.bool r))), ⟨[], []⟩)

theorem fleetref2_MeetOf_ok {qf : List api_Spot} {qg : List api_Spot} {r} (hF : fleetref2_MeetOf qf qg = some r) : Holds prog 40 [.v (.one (.d (.lst (List.map api_Spot.enc qf)))), .v (.one (.d (.lst (List.map api_Spot.enc qg))))] ⟨[], []⟩ (Is (fleetref2_MeetOf_R qf qg r)) := by
  unfold fleetref2_MeetOf at hF
  refine holds_of_awp hΓ (fn := f40) (c := cB f40) (A := 0) (nx := 0) (by kernel_rfl) (by kernel_rfl) (by kernel_rfl) (by kernel_rfl) (by kernel_rfl) (by kernel_rfl) (lowc_of (by kernel_rfl)) ?_
  show Awp prog 0 54 (cB f40) _ _
  refine awp_seq ?_
  refine awp_region ?_
  refine aR 1 ?_
  refine aE ?_
  refine awp_seq ?_
  refine awp_seq ?_
  refine awp_region ?_
  refine aR 1 ?_
  refine aL api_Spot.enc qf ?_
  refine aR 1 ?_
  refine aE ?_
  refine awp_block ?_
  refine awp_to (st' := fleetref2_MeetOf_x1_H qf qg 0) (oT [] []) ?_
  refine bE hF fun x h8 hF => ?_
  rcases x with _ | _
  · refine awp_sub (awp_loop' (fleetref2_MeetOf_x1_H qf qg) fleetref2_MeetOf_x1_k (fleetref2_MeetOf_x1_S qf qg) (by intro x; rcases x with x | x <;> exact fun h => nomatch h) h8 (fleetref2_MeetOf_x1_ok qf qg)) ?_
    refine awp_seq ?_
    refine awp_to (st' := fleetref2_MeetOf_x3_I qf qg) (oT [] []) ?_
    refine bE hF fun vx3_1 h14 hF => ?_
    refine awp_sub (fleetref2_MeetOf_x3_ok qf qg h14) ?_
    refine awp_ret ?_
    exact oF hF [] []
  · refine awp_sub (awp_loop' (fleetref2_MeetOf_x1_H qf qg) fleetref2_MeetOf_x1_k (fleetref2_MeetOf_x1_S qf qg) (by intro x; rcases x with x | x <;> exact fun h => nomatch h) h8 (fleetref2_MeetOf_x1_ok qf qg)) ?_
    exact oF hF [] []

/-! ### beaconfleet/fleetref2.CellsOf -/
def fleetref2_CellsOf_x4_k : (List (List UInt8)) → AEx
  | _ => .normal

def fleetref2_CellsOf_x4_S (qx : List api_Spot) (qx1 : Int) (vx : List (List UInt8)) (vx1 : Int) (vx16 : Int) (vy9 : List UInt8) (vx22 : List (List UInt8)) (vx23 : Int) : (List (List UInt8)) → St
  | vx25 => Mem.st ⟨[(0, ⟨9, 1, List.map encS vx25⟩)], []⟩ (tl [(0, .v (.one (.d (.lst (List.map api_Spot.enc qx))))), (7, .v (.one (.own 0 none))), (9, .v (.one (.d (.str vy9)))), (16, .v (.one (.d (.int .i64 qx1)))), (17, .v (.one (.d (.int .i64 vx1)))), (19, .v (.one (.d (.lst (List.map encS vx))))), (20, .v (.one (.d (.int .i64 (vx.length : Int))))), (21, .v (.one (.d (.int .i64 vx16)))), (25, .v (.one (.d (.lst (List.map encS ([([48] : List UInt8), ([49] : List UInt8), ([50] : List UInt8), ([51] : List UInt8)] : List (List UInt8))))))), (26, .v (.one (.d (.int .i64 (([([48] : List UInt8), ([49] : List UInt8), ([50] : List UInt8), ([51] : List UInt8)] : List (List UInt8)).length : Int))))), (27, .v (.one (.d (.int .i64 vx23))))]) 1

def fleetref2_CellsOf_x4_I (qx : List api_Spot) (qx1 : Int) (vx : List (List UInt8)) (vx1 : Int) (vx16 : Int) (vy9 : List UInt8) (vx22 : List (List UInt8)) (vx23 : Int) : St := Mem.st ⟨[(0, ⟨9, 1, List.map encS vx22⟩)], []⟩ (tl [(0, .v (.one (.d (.lst (List.map api_Spot.enc qx))))), (7, .v (.one (.own 0 none))), (9, .v (.one (.d (.str vy9)))), (16, .v (.one (.d (.int .i64 qx1)))), (17, .v (.one (.d (.int .i64 vx1)))), (19, .v (.one (.d (.lst (List.map encS vx))))), (20, .v (.one (.d (.int .i64 (vx.length : Int))))), (21, .v (.one (.d (.int .i64 vx16)))), (25, .v (.one (.d (.lst (List.map encS ([([48] : List UInt8), ([49] : List UInt8), ([50] : List UInt8), ([51] : List UInt8)] : List (List UInt8))))))), (26, .v (.one (.d (.int .i64 (([([48] : List UInt8), ([49] : List UInt8), ([50] : List UInt8), ([51] : List UInt8)] : List (List UInt8)).length : Int))))), (27, .v (.one (.d (.int .i64 vx23))))]) 1

theorem fleetref2_CellsOf_x4_ok (qx : List api_Spot) (qx1 : Int) (vx : List (List UInt8)) (vx1 : Int) (vx16 : Int) (vy9 : List UInt8) (vx22 : List (List UInt8)) (vx23 : Int) {r} (hF : fleetref2_CellsOf_x4 qx vy9 vx22 vx23 = some r) : Awp prog 0 80 (cL (cR (cR (cL (cL (cR (cR (cL (cL (cR (cR (cL (cL (cR (cL (cR (cL (cL (cR (cR (cL (cL (cR (cL (cR (cR (cB f20))))))))))))))))))))))))))) (Out 0 fleetref2_CellsOf_x4_k (fleetref2_CellsOf_x4_S qx qx1 vx vx1 vx16 vy9 vx22 vx23) r) (fleetref2_CellsOf_x4_I qx qx1 vx vx1 vx16 vy9 vx22 vx23) := by
  unfold fleetref2_CellsOf_x4 at hF
  refine awp_block ?_
  refine awp_seq ?_
  refine bE hF fun vy11 h5 hF => ?_
  refine awp_region ?_
  refine aX (x_idx encS h5) ?_
  refine aR 2 ?_
  refine aE ?_
  refine awp_seq ?_
  refine gE hF fun h6 hF => ?_
  refine bE hF fun x h7 hF => ?_
  obtain ⟨vr9, vr1_7⟩ := x
  refine awp_region ?_
  refine aR 2 ?_
  refine aX (x_cat h6) ?_
  refine aC (fleetref2_CellBoxOf_ok h7) [] [] [] ?_
  refine aR 6 ?_
  refine aE ?_
  refine awp_seq ?_
  refine awp_region ?_
  refine aR 26 ?_
  refine aE ?_
  refine awp_to (oT (m := ⟨[(0, ⟨9, 1, List.map encS vx22⟩)], []⟩) (ts := [(0, .v (.one (.d (.lst (List.map api_Spot.enc qx))))), (7, .v (.one (.own 0 none))), (9, .v (.one (.d (.str vy9)))), (11, .v (.one (.d (.str vy11)))), (14, .v (.one (.d (.lst (List.map api_Spot.enc ([vr9, api_Spot.mk (IntKind.wrap .i64 (vr9.X + vr1_7)) vr9.Y, api_Spot.mk (IntKind.wrap .i64 (vr9.X + vr1_7)) (IntKind.wrap .i64 (vr9.Y + vr1_7)), api_Spot.mk vr9.X (IntKind.wrap .i64 (vr9.Y + vr1_7))] : List api_Spot)))))), (16, .v (.one (.d (.int .i64 qx1)))), (17, .v (.one (.d (.int .i64 vx1)))), (19, .v (.one (.d (.lst (List.map encS vx))))), (20, .v (.one (.d (.int .i64 (vx.length : Int))))), (21, .v (.one (.d (.int .i64 vx16)))), (25, .v (.one (.d (.lst (List.map encS ([([48] : List UInt8), ([49] : List UInt8), ([50] : List UInt8), ([51] : List UInt8)] : List (List UInt8))))))), (26, .v (.one (.d (.int .i64 (([([48] : List UInt8), ([49] : List UInt8), ([50] : List UInt8), ([51] : List UInt8)] : List (List UInt8)).length : Int))))), (27, .v (.one (.d (.int .i64 vx23))))]) (nx := 1) [] []) ?_
  refine awp_seq ?_
  refine bE hF fun vr8_7 h8 hF => ?_
  refine awp_region ?_
  refine aR 2 ?_
  refine aC (fleetref2_MeetOf_ok h8) [] [] [] ?_
  refine aE ?_
  refine cE hF (fun h9 hF => ?_) fun h9 hF => ?_
  · refine awp_true (by kernel_rfl) h9 ?_
    refine gE hF fun h10 hF => ?_
    refine awp_region ?_
    refine aR 3 ?_
    refine aX (x_cat h6) ?_
    refine aR 1 ?_
    refine aX (x_app encS 0 h10) ?_
    refine aR 1 ?_
    refine aE ?_
    exact oO hF [(0, 8001)] [] rfl
  · refine awp_false (by kernel_rfl) h9 ?_
    refine awp_skip ?_
    exact oO hF [] [] rfl

def fleetref2_CellsOf_x3_k : (List (List UInt8)) → AEx
  | _ => .exit 4

def fleetref2_CellsOf_x3_S (qx : List api_Spot) (qx1 : Int) (vx : List (List UInt8)) (vx1 : Int) (vx16 : Int) (vy9 : List UInt8) : (List (List UInt8)) → St
  | vx26 => Mem.st ⟨[(0, ⟨9, 1, List.map encS vx26⟩)], []⟩ (tl [(0, .v (.one (.d (.lst (List.map api_Spot.enc qx))))), (7, .v (.one (.own 0 none))), (16, .v (.one (.d (.int .i64 qx1)))), (17, .v (.one (.d (.int .i64 vx1)))), (19, .v (.one (.d (.lst (List.map encS vx))))), (20, .v (.one (.d (.int .i64 (vx.length : Int))))), (21, .v (.one (.d (.int .i64 vx16))))]) 1

def fleetref2_CellsOf_x3_H (qx : List api_Spot) (qx1 : Int) (vx : List (List UInt8)) (vx1 : Int) (vx16 : Int) (vy9 : List UInt8) : (List (List UInt8)) × Int → St
  | (vx22, vx23) => Mem.st ⟨[(0, ⟨9, 1, List.map encS vx22⟩)], []⟩ (tl [(0, .v (.one (.d (.lst (List.map api_Spot.enc qx))))), (7, .v (.one (.own 0 none))), (9, .v (.one (.d (.str vy9)))), (16, .v (.one (.d (.int .i64 qx1)))), (17, .v (.one (.d (.int .i64 vx1)))), (19, .v (.one (.d (.lst (List.map encS vx))))), (20, .v (.one (.d (.int .i64 (vx.length : Int))))), (21, .v (.one (.d (.int .i64 vx16)))), (25, .v (.one (.d (.lst (List.map encS ([([48] : List UInt8), ([49] : List UInt8), ([50] : List UInt8), ([51] : List UInt8)] : List (List UInt8))))))), (26, .v (.one (.d (.int .i64 (([([48] : List UInt8), ([49] : List UInt8), ([50] : List UInt8), ([51] : List UInt8)] : List (List UInt8)).length : Int))))), (27, .v (.one (.d (.int .i64 vx23))))]) 1

theorem fleetref2_CellsOf_x3_ok (qx : List api_Spot) (qx1 : Int) (vx : List (List UInt8)) (vx1 : Int) (vx16 : Int) (vy9 : List UInt8) (s : (List (List UInt8)) × Int) (r : ((List (List UInt8)) × Int) ⊕ ((List (List UInt8)))) (hF : fleetref2_CellsOf_x3 qx vy9 s = some r) : Awp prog 0 80 (cL (cL (cR (cR (cL (cL (cR (cR (cL (cL (cR (cL (cR (cL (cL (cR (cR (cL (cL (cR (cL (cR (cR (cB f20)))))))))))))))))))))))) (Out 0 (kk fleetref2_CellsOf_x3_k) (SS (fleetref2_CellsOf_x3_H qx qx1 vx vx1 vx16 vy9) (fleetref2_CellsOf_x3_S qx qx1 vx vx1 vx16 vy9)) r) (fleetref2_CellsOf_x3_H qx qx1 vx vx1 vx16 vy9 s) := by
  obtain ⟨vx22, vx23⟩ := s
  unfold fleetref2_CellsOf_x3 at hF
  refine awp_seq ?_
  refine awp_region ?_
  refine aR 1 ?_
  refine aE ?_
  refine awp_seq ?_
  refine cE hF (fun h4 hF => ?_) fun h4 hF => ?_
  · refine awp_true (by kernel_rfl) h4 ?_
    refine awp_skip ?_
    refine awp_seq ?_
    refine awp_to (st' := fleetref2_CellsOf_x4_I qx qx1 vx vx1 vx16 vy9 vx22 vx23) (oT [] []) ?_
    refine bE hF fun vx25_1 h11 hF => ?_
    refine awp_sub (fleetref2_CellsOf_x4_ok qx qx1 vx vx1 vx16 vy9 vx22 vx23 h11) ?_
    refine awp_region ?_
    refine aR 2 ?_
    refine aE ?_
    exact oO hF [] [] rfl
  · refine awp_false (by kernel_rfl) h4 ?_
    refine awp_exit ?_
    exact oO hF [] [] rfl

def fleetref2_CellsOf_x2_k : (List (List UInt8)) → AEx
  | _ => .exit 2

def fleetref2_CellsOf_x2_S (qx : List api_Spot) (qx1 : Int) (vx : List (List UInt8)) (vx1 : Int) : (List (List UInt8)) → St
  | vx27 => Mem.st ⟨[(0, ⟨9, 1, List.map encS vx27⟩)], []⟩ (tl [(0, .v (.one (.d (.lst (List.map api_Spot.enc qx))))), (7, .v (.one (.own 0 none))), (16, .v (.one (.d (.int .i64 qx1)))), (17, .v (.one (.d (.int .i64 vx1))))]) 1

def fleetref2_CellsOf_x2_H (qx : List api_Spot) (qx1 : Int) (vx : List (List UInt8)) (vx1 : Int) : (List (List UInt8)) × Int → St
  | (vx15, vx16) => Mem.st ⟨[(0, ⟨9, 1, List.map encS vx15⟩)], []⟩ (tl [(0, .v (.one (.d (.lst (List.map api_Spot.enc qx))))), (7, .v (.one (.own 0 none))), (16, .v (.one (.d (.int .i64 qx1)))), (17, .v (.one (.d (.int .i64 vx1)))), (19, .v (.one (.d (.lst (List.map encS vx))))), (20, .v (.one (.d (.int .i64 (vx.length : Int))))), (21, .v (.one (.d (.int .i64 vx16))))]) 1

theorem fleetref2_CellsOf_x2_ok (qx : List api_Spot) (qx1 : Int) (vx : List (List UInt8)) (vx1 : Int) (s : (List (List UInt8)) × Int) (r : ((List (List UInt8)) × Int) ⊕ ((List (List UInt8)))) (hF : fleetref2_CellsOf_x2 qx vx s = some r) : Awp prog 0 80 (cL (cL (cR (cL (cR (cL (cL (cR (cR (cL (cL (cR (cL (cR (cR (cB f20)))))))))))))))) (Out 0 (kk fleetref2_CellsOf_x2_k) (SS (fleetref2_CellsOf_x2_H qx qx1 vx vx1) (fleetref2_CellsOf_x2_S qx qx1 vx vx1)) r) (fleetref2_CellsOf_x2_H qx qx1 vx vx1 s) := by
  obtain ⟨vx15, vx16⟩ := s
  unfold fleetref2_CellsOf_x2 at hF
  refine awp_seq ?_
  refine awp_region ?_
  refine aR 1 ?_
  refine aE ?_
  refine awp_seq ?_
  refine cE hF (fun h2 hF => ?_) fun h2 hF => ?_
  · refine awp_true (by kernel_rfl) h2 ?_
    refine awp_skip ?_
    refine awp_seq ?_
    refine awp_block ?_
    refine awp_seq ?_
    refine bE hF fun vy9 h3 hF => ?_
    refine awp_region ?_
    refine aX (x_idx encS h3) ?_
    refine aR 2 ?_
    refine aE ?_
    refine awp_seq ?_
    refine awp_region ?_
    refine aR 1 ?_
    refine aL encS ([([48] : List UInt8), ([49] : List UInt8), ([50] : List UInt8), ([51] : List UInt8)] : List (List UInt8)) ?_
    refine aR 1 ?_
    refine aE ?_
    refine awp_to (oT (m := ⟨[(0, ⟨9, 1, List.map encS vx15⟩)], []⟩) (ts := [(0, .v (.one (.d (.lst (List.map api_Spot.enc qx))))), (7, .v (.one (.own 0 none))), (9, .v (.one (.d (.str vy9)))), (16, .v (.one (.d (.int .i64 qx1)))), (17, .v (.one (.d (.int .i64 vx1)))), (19, .v (.one (.d (.lst (List.map encS vx))))), (20, .v (.one (.d (.int .i64 (vx.length : Int))))), (21, .v (.one (.d (.int .i64 vx16)))), (25, .v (.one (.d (.lst (List.map encS ([([48] : List UInt8), ([49] : List UInt8), ([50] : List UInt8), ([51] : List UInt8)] : List (List UInt8))))))), (26, .v (.one (.d (.int .i64 (([([48] : List UInt8), ([49] : List UInt8), ([50] : List UInt8), ([51] : List UInt8)] : List (List UInt8)).length : Int))))), (27, .v (.one (.d (.int .i64 0))))]) (nx := 1) [] []) ?_
    refine awp_block ?_
    refine awp_to (st' := fleetref2_CellsOf_x3_H qx qx1 vx vx1 vx16 vy9 (vx15, 0)) (oT [] []) ?_
    refine bE hF fun vx26_1 h12 hF => ?_
    refine awp_sub (awp_loop' (fleetref2_CellsOf_x3_H qx qx1 vx vx1 vx16 vy9) fleetref2_CellsOf_x3_k (fleetref2_CellsOf_x3_S qx qx1 vx vx1 vx16 vy9) (by intro x; exact fun h => nomatch h) h12 (fleetref2_CellsOf_x3_ok qx qx1 vx vx1 vx16 vy9)) ?_
    refine awp_region ?_
    refine aR 2 ?_
    refine aE ?_
    exact oO hF [] [] rfl
  · refine awp_false (by kernel_rfl) h2 ?_
    refine awp_exit ?_
    exact oO hF [] [] rfl

def fleetref2_CellsOf_x1_k : (List (List UInt8)) ⊕ Unit → AEx
  | .inl _ => .exit 0
  | .inr _ => .ret

def fleetref2_CellsOf_x1_S (qx : List api_Spot) (qx1 : Int) : (List (List UInt8)) ⊕ Unit → St
  | .inl vx28 => Mem.st ⟨[(0, ⟨9, 1, List.map encS vx28⟩)], []⟩ (tl [(6, .v (.one (.own 0 none)))]) 1
  | .inr _ => Mem.st ⟨[], []⟩ (tl [(4, .v (.one (.nil))), (5, .v (.one (.d (.int .i64 2))))]) 0

def fleetref2_CellsOf_x1_H (qx : List api_Spot) (qx1 : Int) : (List (List UInt8)) × Int → St
  | (vx, vx1) => Mem.st ⟨[(0, ⟨9, 1, List.map encS vx⟩)], []⟩ (tl [(0, .v (.one (.d (.lst (List.map api_Spot.enc qx))))), (6, .v (.one (.own 0 none))), (16, .v (.one (.d (.int .i64 qx1)))), (17, .v (.one (.d (.int .i64 vx1))))]) 1

theorem fleetref2_CellsOf_x1_ok (qx : List api_Spot) (qx1 : Int) (s : (List (List UInt8)) × Int) (r : ((List (List UInt8)) × Int) ⊕ ((List (List UInt8)) ⊕ Unit)) (hF : fleetref2_CellsOf_x1 qx qx1 s = some r) : Awp prog 0 80 (cL (cL (cR (cL (cR (cR (cB f20))))))) (Out 0 (kk fleetref2_CellsOf_x1_k) (SS (fleetref2_CellsOf_x1_H qx qx1) (fleetref2_CellsOf_x1_S qx qx1)) r) (fleetref2_CellsOf_x1_H qx qx1 s) := by
  obtain ⟨vx, vx1⟩ := s
  unfold fleetref2_CellsOf_x1 at hF
  refine awp_seq ?_
  refine awp_region ?_
  refine aR 1 ?_
  refine aE ?_
  refine awp_seq ?_
  refine cE hF (fun h1 hF => ?_) fun h1 hF => ?_
  · refine awp_true (by kernel_rfl) h1 ?_
    refine awp_skip ?_
    refine awp_seq ?_
    refine awp_block ?_
    refine awp_seq ?_
    refine awp_region ?_
    refine aR 1 ?_
    refine aE ?_
    refine awp_seq ?_
    refine awp_seq ?_
    refine awp_region ?_
    refine aR 1 ?_
    refine aL encS vx ?_
    refine aR 1 ?_
    refine aE ?_
    refine awp_to (oT (m := ⟨[], []⟩) (ts := [(0, .v (.one (.d (.lst (List.map api_Spot.enc qx))))), (7, .v (.one (.nil))), (16, .v (.one (.d (.int .i64 qx1)))), (17, .v (.one (.d (.int .i64 vx1)))), (19, .v (.one (.d (.lst (List.map encS vx))))), (20, .v (.one (.d (.int .i64 (vx.length : Int))))), (21, .v (.one (.d (.int .i64 0))))]) (nx := 0) [] []) ?_
    refine awp_block ?_
    refine awp_to (st' := fleetref2_CellsOf_x2_H qx qx1 vx vx1 ([], 0)) (oT [] [0]) ?_
    refine bE hF fun vx27_1 h13 hF => ?_
    refine awp_sub (awp_loop' (fleetref2_CellsOf_x2_H qx qx1 vx vx1) fleetref2_CellsOf_x2_k (fleetref2_CellsOf_x2_S qx qx1 vx vx1) (by intro x; exact fun h => nomatch h) h13 (fleetref2_CellsOf_x2_ok qx qx1 vx vx1)) ?_
    refine awp_seq ?_
    refine awp_region ?_
    refine aR 2 ?_
    refine aE ?_
    refine awp_seq ?_
    refine awp_region ?_
    refine aR 1 ?_
    refine aL encS vx27_1 ?_
    refine aR 1 ?_
    refine aE ?_
    refine cE hF (fun h14 hF => ?_) fun h14 hF => ?_
    · refine awp_true (by kernel_rfl) h14 ?_
      refine awp_seq ?_
      refine awp_region ?_
      refine aR 2 ?_
      refine aE ?_
      refine awp_ret ?_
      exact oO hF [] [] rfl
    · refine awp_false (by kernel_rfl) h14 ?_
      refine awp_skip ?_
      refine awp_region ?_
      refine aR 2 ?_
      refine aE ?_
      exact oO hF [] [] rfl
  · refine awp_false (by kernel_rfl) h1 ?_
    refine awp_exit ?_
    exact oO hF [] [] rfl

def fleetref2_CellsOf_R (qx : List api_Spot) (qx1 : Int) (r : (List (List UInt8)) × Int) : TV × Mem := (.tup [.one (.own 0 none), .one (.d (.int .i64 r.2))], ⟨[(0, ⟨9, 1, List.map encS r.1⟩)], []⟩)

theorem fleetref2_CellsOf_ok {qx : List api_Spot} {qx1 : Int} {r} (hF : fleetref2_CellsOf qx qx1 = some r) : Holds prog 20 [.v (.one (.d (.lst (List.map api_Spot.enc qx)))), .v (.one (.d (.int .i64 qx1)))] ⟨[], []⟩ (Is (fleetref2_CellsOf_R qx qx1 r)) := by
  unfold fleetref2_CellsOf at hF
  refine holds_of_awp hΓ (fn := f20) (c := cB f20) (A := 0) (nx := 0) (by kernel_rfl) (by kernel_rfl) (by kernel_rfl) (by kernel_rfl) (by kernel_rfl) (by kernel_rfl) (lowc_of (by kernel_rfl)) ?_
  show Awp prog 0 80 (cB f20) _ _
  refine awp_seq ?_
  refine awp_region ?_
  refine aR 2 ?_
  refine aE ?_
  refine awp_seq ?_
  refine awp_region ?_
  refine aR 2 ?_
  refine aE ?_
  refine awp_seq ?_
  refine awp_seq ?_
  refine awp_region ?_
  refine aR 2 ?_
  refine aE ?_
  refine awp_block ?_
  refine awp_to (st' := fleetref2_CellsOf_x1_H qx qx1 (([([] : List UInt8)] : List (List UInt8)), 0)) (oT [(0, 2000)] []) ?_
  refine bE hF fun x h15 hF => ?_
  rcases x with vx28_1 | _
  · refine awp_sub (awp_loop' (fleetref2_CellsOf_x1_H qx qx1) fleetref2_CellsOf_x1_k (fleetref2_CellsOf_x1_S qx qx1) (by intro x; rcases x with x | x <;> exact fun h => nomatch h) h15 (fleetref2_CellsOf_x1_ok qx qx1)) ?_
    refine awp_seq ?_
    refine awp_region ?_
    refine aR 3 ?_
    refine aE ?_
    refine awp_ret ?_
    exact oF hF [] []
  · refine awp_sub (awp_loop' (fleetref2_CellsOf_x1_H qx qx1) fleetref2_CellsOf_x1_k (fleetref2_CellsOf_x1_S qx qx1) (by intro x; rcases x with x | x <;> exact fun h => nomatch h) h15 (fleetref2_CellsOf_x1_ok qx qx1)) ?_
    exact oF hF [] [0]

/-! ### slices.Equal[[]string,string] -/
def slices_Equal_string_string_x1_k : Unit ⊕ Unit → AEx
  | .inl _ => .exit 0
  | .inr _ => .ret

def slices_Equal_string_string_x1_S (qs1 : List (List UInt8)) (qs2 : List (List UInt8)) : Unit ⊕ Unit → St
  | .inl _ => Mem.st ⟨[], []⟩ (tl []) 0
  | .inr _ => Mem.st ⟨[], []⟩ (tl [(4, .v (.one (.d (.bool false))))]) 0

def slices_Equal_string_string_x1_H (qs1 : List (List UInt8)) (qs2 : List (List UInt8)) : Int → St
  | vx => Mem.st ⟨[], []⟩ (tl [(0, .v (.one (.d (.lst (List.map encS qs1))))), (1, .v (.one (.d (.lst (List.map encS qs2))))), (12, .v (.one (.d (.int .i64 (qs1.length : Int))))), (13, .v (.one (.d (.int .i64 vx))))]) 0

theorem slices_Equal_string_string_x1_ok (qs1 : List (List UInt8)) (qs2 : List (List UInt8)) (vx : Int) (r : (Int) ⊕ (Unit ⊕ Unit)) (hF : slices_Equal_string_string_x1 qs1 qs2 vx = some r) : Awp prog 0 26 (cL (cL (cR (cL (cR (cR (cB f21))))))) (Out 0 (kk slices_Equal_string_string_x1_k) (SS (slices_Equal_string_string_x1_H qs1 qs2) (slices_Equal_string_string_x1_S qs1 qs2)) r) (slices_Equal_string_string_x1_H qs1 qs2 vx) := by
  unfold slices_Equal_string_string_x1 at hF
  refine awp_seq ?_
  refine awp_region ?_
  refine aR 1 ?_
  refine aE ?_
  refine awp_seq ?_
  refine cE hF (fun h2 hF => ?_) fun h2 hF => ?_
  · refine awp_true (by kernel_rfl) h2 ?_
    refine awp_skip ?_
    refine awp_seq ?_
    refine awp_block ?_
    refine awp_seq ?_
    refine awp_region ?_
    refine aR 2 ?_
    refine aE ?_
    refine awp_seq ?_
    refine bE hF fun vy2 h3 hF => ?_
    refine bE hF fun vy3 h4 hF => ?_
    refine aD ?_
    refine dR 2 ?_
    refine dX (x_idx encS h3) ?_
    refine dR 3 ?_
    refine dX (x_idx encS h4) ?_
    refine dR 2 ?_
    refine dE ?_
    refine cE hF (fun h5 hF => ?_) fun h5 hF => ?_
    · refine awp_true (by kernel_rfl) h5 ?_
      refine awp_seq ?_
      refine awp_region ?_
      refine aR 1 ?_
      refine aE ?_
      refine awp_ret ?_
      exact oO hF [] [] rfl
    · refine awp_false (by kernel_rfl) h5 ?_
      refine awp_skip ?_
      refine awp_region ?_
      refine aR 2 ?_
      refine aE ?_
      exact oO hF [] [] rfl
  · refine awp_false (by kernel_rfl) h2 ?_
    refine awp_exit ?_
    exact oO hF [] [] rfl

def slices_Equal_string_string_R (qs1 : List (List UInt8)) (qs2 : List (List UInt8)) (r : Bool) : TV × Mem := (.v (.one (.d (.bool r))), ⟨[], []⟩)

theorem slices_Equal_string_string_ok {qs1 : List (List UInt8)} {qs2 : List (List UInt8)} {r} (hF : slices_Equal_string_string qs1 qs2 = some r) : Holds prog 21 [.v (.one (.d (.lst (List.map encS qs1)))), .v (.one (.d (.lst (List.map encS qs2))))] ⟨[], []⟩ (Is (slices_Equal_string_string_R qs1 qs2 r)) := by
  unfold slices_Equal_string_string at hF
  refine holds_of_awp hΓ (fn := f21) (c := cB f21) (A := 0) (nx := 0) (by kernel_rfl) (by kernel_rfl) (by kernel_rfl) (by kernel_rfl) (by kernel_rfl) (by kernel_rfl) (lowc_of (by kernel_rfl)) ?_
  show Awp prog 0 26 (cB f21) _ _
  refine awp_seq ?_
  refine awp_region ?_
  refine aR 1 ?_
  refine aE ?_
  refine awp_seq ?_
  refine awp_seq ?_
  refine awp_region ?_
  refine aR 1 ?_
  refine aL encS qs1 ?_
  refine aR 1 ?_
  refine aL encS qs2 ?_
  refine aR 1 ?_
  refine aE ?_
  refine cE hF (fun h1 hF => ?_) fun h1 hF => ?_
  · refine awp_true (by kernel_rfl) h1 ?_
    refine awp_seq ?_
    refine awp_region ?_
    refine aR 1 ?_
    refine aE ?_
    refine awp_ret ?_
    exact oF hF [] []
  · refine awp_false (by kernel_rfl) h1 ?_
    refine awp_skip ?_
    refine awp_seq ?_
    refine awp_seq ?_
    refine awp_region ?_
    refine aR 1 ?_
    refine aL encS qs1 ?_
    refine aR 1 ?_
    refine aE ?_
    refine awp_block ?_
    refine awp_to (st' := slices_Equal_string_string_x1_H qs1 qs2 0) (oT [] []) ?_
    refine bE hF fun x h6 hF => ?_
    rcases x with _ | _
    · refine awp_sub (awp_loop' (slices_Equal_string_string_x1_H qs1 qs2) slices_Equal_string_string_x1_k (slices_Equal_string_string_x1_S qs1 qs2) (by intro x; rcases x with x | x <;> exact fun h => nomatch h) h6 (slices_Equal_string_string_x1_ok qs1 qs2)) ?_
      refine awp_seq ?_
      refine awp_region ?_
      refine aR 1 ?_
      refine aE ?_
      refine awp_ret ?_
      exact oF hF [] []
    · refine awp_sub (awp_loop' (slices_Equal_string_string_x1_H qs1 qs2) slices_Equal_string_string_x1_k (slices_Equal_string_string_x1_S qs1 qs2) (by intro x; rcases x with x | x <;> exact fun h => nomatch h) h6 (slices_Equal_string_string_x1_ok qs1 qs2)) ?_
      exact oF hF [] []

/-! ### beaconfleet/fleetlaw2.placed -/
def fleetlaw2_placed_x1_k : Bool → AEx
  | _ => .normal

def fleetlaw2_placed_x1_S (vr1 : List UInt8) (vr3 : Int) : Bool → St
  | vx => Mem.st ⟨[], []⟩ (tl [(0, .v (.one (.d (.bool vx))))]) 0

def fleetlaw2_placed_x1_I (vr1 : List UInt8) (vr3 : Int) : St := Mem.st ⟨[], []⟩ (tl [(1, .v (.one (.d (.str vr1)))), (2, .v (.one (.d (.int .i64 vr3))))]) 0

theorem fleetlaw2_placed_x1_ok (vr1 : List UInt8) (vr3 : Int) {r} (hF : fleetlaw2_placed_x1 vr1 vr3 = some r) : Awp prog 0 14 (cL (cR (cR (cB f22)))) (Out 0 fleetlaw2_placed_x1_k (fleetlaw2_placed_x1_S vr1 vr3) r) (fleetlaw2_placed_x1_I vr1 vr3) := by
  unfold fleetlaw2_placed_x1 at hF
  refine cE hF (fun h2 hF => ?_) fun h2 hF => ?_
  · refine awp_region ?_
    refine aR 1 ?_
    refine aB h2 ?_
    refine aR 5 ?_
    refine aE ?_
    exact oO hF [] [] rfl
  · refine awp_region ?_
    refine aR 1 ?_
    refine aB h2 ?_
    refine aR 5 ?_
    refine aE ?_
    exact oO hF [] [] rfl

def fleetlaw2_placed_R (r : Bool) : TV × Mem := (.v (.one (.d (.bool r))), ⟨[], []⟩)

theorem fleetlaw2_placed_ok {r} (hF : fleetlaw2_placed = some r) : Holds prog 22 [] ⟨[], []⟩ (Is (fleetlaw2_placed_R  r)) := by
  unfold fleetlaw2_placed at hF
  refine holds_of_awp hΓ (fn := f22) (c := cB f22) (A := 0) (nx := 0) (by kernel_rfl) (by kernel_rfl) (by kernel_rfl) (by kernel_rfl) (by kernel_rfl) (by kernel_rfl) (lowc_of (by kernel_rfl)) ?_
  show Awp prog 0 14 (cB f22) _ _
  refine awp_seq ?_
  refine awp_region ?_
  refine aR 1 ?_
  refine aE ?_
  refine awp_seq ?_
  refine bE hF fun x h1 hF => ?_
  obtain ⟨vr1, vr3⟩ := x
  refine awp_region ?_
  refine aR 1 ?_
  refine aC (place_Cell_ok h1) [] [] [] ?_
  refine aR 5 ?_
  refine aE ?_
  refine awp_seq ?_
  refine awp_to (st' := fleetlaw2_placed_x1_I vr1 vr3) (oT [] []) ?_
  refine bE hF fun vx1 h3 hF => ?_
  refine awp_sub (fleetlaw2_placed_x1_ok vr1 vr3 h3) ?_
  refine awp_ret ?_
  exact oF hF [] []

/-! ### beaconfleet/fleetlaw2.CellsNamed -/
def fleetlaw2_CellsNamed_x1_k : (fleetmake_Stream × api_Spot) → AEx
  | _ => .normal

def fleetlaw2_CellsNamed_x1_S (vr1 : api_Spot) (vr : Int) (vr5 : List UInt8) (vs2 : fleetmake_Stream) (vr4 : api_Fence) : (fleetmake_Stream × api_Spot) → St
  | (vx, vx1) => Mem.st ⟨[], [(0, [.d (.lst (List.map (encI .i64) vx.L)), .d (.int .i64 vx.at_)]), (1, [.d (.int .i64 vx1.X), .d (.int .i64 vx1.Y)]), (2, [.d (.str vr4.Key), .d (.lst (List.map api_Spot.enc vr4.Corners))])]⟩ (tl [(3, .v (.one (.box 0 0))), (4, .v (.one (.box 1 0))), (5, .v (.one (.d (.int .i64 vr)))), (6, .v (.one (.d (.str vr5)))), (7, .v (.one (.box 2 0)))]) 3

def fleetlaw2_CellsNamed_x1_I (vr1 : api_Spot) (vr : Int) (vr5 : List UInt8) (vs2 : fleetmake_Stream) (vr4 : api_Fence) : St := Mem.st ⟨[], [(0, [.d (.lst (List.map (encI .i64) vs2.L)), .d (.int .i64 vs2.at_)]), (1, [.d (.int .i64 vr1.X), .d (.int .i64 vr1.Y)]), (2, [.d (.str vr4.Key), .d (.lst (List.map api_Spot.enc vr4.Corners))])]⟩ (tl [(3, .v (.one (.box 0 0))), (4, .v (.one (.box 1 0))), (5, .v (.one (.d (.int .i64 vr)))), (6, .v (.one (.d (.str vr5)))), (7, .v (.one (.box 2 0)))]) 3

theorem fleetlaw2_CellsNamed_x1_ok (vr1 : api_Spot) (vr : Int) (vr5 : List UInt8) (vs2 : fleetmake_Stream) (vr4 : api_Fence) {r} (hF : fleetlaw2_CellsNamed_x1 vr1 vs2 = some r) : Awp prog 0 145 (cL (cR (cR (cR (cB f3))))) (Out 0 fleetlaw2_CellsNamed_x1_k (fleetlaw2_CellsNamed_x1_S vr1 vr vr5 vs2 vr4) r) (fleetlaw2_CellsNamed_x1_I vr1 vr vr5 vs2 vr4) := by
  unfold fleetlaw2_CellsNamed_x1 at hF
  refine awp_seq ?_
  refine bE hF fun vr2 h5 hF => ?_
  refine awp_region ?_
  refine aR 1 ?_
  refine aC (fleetmake_Stream_Flip_ok h5) [] [] [] ?_
  refine aE ?_
  refine cE hF (fun h6 hF => ?_) fun h6 hF => ?_
  · refine awp_true (by kernel_rfl) h6 ?_
    refine bE hF fun x h7 hF => ?_
    obtain ⟨vs, vr3⟩ := x
    refine bE hF fun x h8 hF => ?_
    obtain ⟨vs1, vr6⟩ := x
    refine awp_region ?_
    refine aR 1 ?_
    refine aC (fleetmake_Stream_Range_ok h7) [] [] [] ?_
    refine aR 1 ?_
    refine aC (fleetmake_Stream_Range_ok h8) [] [] [] ?_
    refine aR 2 ?_
    refine aE ?_
    exact oO hF [] [] rfl
  · refine awp_false (by kernel_rfl) h6 ?_
    refine awp_skip ?_
    exact oO hF [] [] rfl

def fleetlaw2_CellsNamed_x2_k : Int → AEx
  | _ => .normal

def fleetlaw2_CellsNamed_x2_S (vr : Int) (vr5 : List UInt8) (vr4 : api_Fence) (vx1_1 : api_Spot) (vr7 : Int) (vr1_1 : List UInt8) (vr3_1 : Int) (vr2_1 : api_Spot) (vr3_2 : Int) (vr4_1 : Int) (vr1_2 : List (List UInt8)) (vr2_2 : Int) : Int → St
  | vx3 => Mem.st ⟨[], [(0, [.d (.int .i64 vx1_1.X), .d (.int .i64 vx1_1.Y)]), (1, [.d (.str vr4.Key), .d (.lst (List.map api_Spot.enc vr4.Corners))]), (2, [.d (.int .i64 vr2_1.X), .d (.int .i64 vr2_1.Y)])]⟩ (tl [(4, .v (.one (.box 0 0))), (5, .v (.one (.d (.int .i64 vr)))), (6, .v (.one (.d (.str vr5)))), (7, .v (.one (.box 1 0))), (8, .v (.one (.d (.int .i64 vr7)))), (9, .v (.one (.d (.str vr1_1)))), (10, .v (.one (.d (.int .i64 vr3_1)))), (11, .v (.one (.box 2 0))), (12, .v (.one (.d (.int .i64 vr3_2)))), (13, .v (.one (.d (.int .i64 vr4_1)))), (14, .v (.one (.d (.lst (List.map encS vr1_2))))), (15, .v (.one (.d (.int .i64 vr2_2)))), (16, .v (.one (.d (.int .i64 vx3))))]) 3

def fleetlaw2_CellsNamed_x2_I (vr : Int) (vr5 : List UInt8) (vr4 : api_Fence) (vx1_1 : api_Spot) (vr7 : Int) (vr1_1 : List UInt8) (vr3_1 : Int) (vr2_1 : api_Spot) (vr3_2 : Int) (vr4_1 : Int) (vr1_2 : List (List UInt8)) (vr2_2 : Int) : St := Mem.st ⟨[], [(0, [.d (.int .i64 vx1_1.X), .d (.int .i64 vx1_1.Y)]), (1, [.d (.str vr4.Key), .d (.lst (List.map api_Spot.enc vr4.Corners))]), (2, [.d (.int .i64 vr2_1.X), .d (.int .i64 vr2_1.Y)])]⟩ (tl [(4, .v (.one (.box 0 0))), (5, .v (.one (.d (.int .i64 vr)))), (6, .v (.one (.d (.str vr5)))), (7, .v (.one (.box 1 0))), (8, .v (.one (.d (.int .i64 vr7)))), (9, .v (.one (.d (.str vr1_1)))), (10, .v (.one (.d (.int .i64 vr3_1)))), (11, .v (.one (.box 2 0))), (12, .v (.one (.d (.int .i64 vr3_2)))), (13, .v (.one (.d (.int .i64 vr4_1)))), (14, .v (.one (.d (.lst (List.map encS vr1_2))))), (15, .v (.one (.d (.int .i64 vr2_2))))]) 3

theorem fleetlaw2_CellsNamed_x2_ok (vr : Int) (vr5 : List UInt8) (vr4 : api_Fence) (vx1_1 : api_Spot) (vr7 : Int) (vr1_1 : List UInt8) (vr3_1 : Int) (vr2_1 : api_Spot) (vr3_2 : Int) (vr4_1 : Int) (vr1_2 : List (List UInt8)) (vr2_2 : Int) {r} (hF : fleetlaw2_CellsNamed_x2 vr vx1_1 = some r) : Awp prog 0 145 (cL (cR (cR (cR (cR (cR (cR (cR (cR (cB f3)))))))))) (Out 0 fleetlaw2_CellsNamed_x2_k (fleetlaw2_CellsNamed_x2_S vr vr5 vr4 vx1_1 vr7 vr1_1 vr3_1 vr2_1 vr3_2 vr4_1 vr1_2 vr2_2) r) (fleetlaw2_CellsNamed_x2_I vr vr5 vr4 vx1_1 vr7 vr1_1 vr3_1 vr2_1 vr3_2 vr4_1 vr1_2 vr2_2) := by
  unfold fleetlaw2_CellsNamed_x2 at hF
  refine bE hF fun vr2_3 h14 hF => ?_
  refine cE hF (fun h15 hF => ?_) fun h15 hF => ?_
  · refine bE hF fun vr8 h16 hF => ?_
    refine bE hF fun vr9 h17 hF => ?_
    refine awp_region ?_
    refine aR 1 ?_
    refine aC (fleetref2_SpotFault_ok h14) [] [] [] ?_
    refine aR 1 ?_
    refine aB h15 ?_
    refine aR 4 ?_
    refine aC (fleetlaw2_when_ok h16) [] [] [] ?_
    refine aR 1 ?_
    refine aC (fleetlaw2_errs_ok h17) [] [] [9003] ?_
    refine aR 1 ?_
    refine aE ?_
    exact oO hF [] [] rfl
  · refine bE hF fun vr10 h18 hF => ?_
    refine bE hF fun vr11 h19 hF => ?_
    refine awp_region ?_
    refine aR 1 ?_
    refine aC (fleetref2_SpotFault_ok h14) [] [] [] ?_
    refine aR 1 ?_
    refine aB h15 ?_
    refine aR 4 ?_
    refine aC (fleetlaw2_when_ok h18) [] [] [] ?_
    refine aR 1 ?_
    refine aC (fleetlaw2_errs_ok h19) [] [] [9003] ?_
    refine aR 1 ?_
    refine aE ?_
    exact oO hF [] [] rfl

def fleetlaw2_CellsNamed_x3_k : Int → AEx
  | _ => .normal

def fleetlaw2_CellsNamed_x3_S (vr : Int) (vr5 : List UInt8) (vr4 : api_Fence) (vx1_1 : api_Spot) (vr7 : Int) (vr1_1 : List UInt8) (vr3_1 : Int) (vr2_1 : api_Spot) (vr3_2 : Int) (vr4_1 : Int) (vr1_2 : List (List UInt8)) (vr2_2 : Int) (vx3_1 : Int) (vr1_3 : Int) : Int → St
  | vx4 => Mem.st ⟨[], [(0, [.d (.int .i64 vx1_1.X), .d (.int .i64 vx1_1.Y)]), (1, [.d (.str vr4.Key), .d (.lst (List.map api_Spot.enc vr4.Corners))]), (2, [.d (.int .i64 vr2_1.X), .d (.int .i64 vr2_1.Y)])]⟩ (tl [(4, .v (.one (.box 0 0))), (5, .v (.one (.d (.int .i64 vr)))), (6, .v (.one (.d (.str vr5)))), (7, .v (.one (.box 1 0))), (8, .v (.one (.d (.int .i64 vr7)))), (9, .v (.one (.d (.str vr1_1)))), (10, .v (.one (.d (.int .i64 vr3_1)))), (11, .v (.one (.box 2 0))), (12, .v (.one (.d (.int .i64 vr3_2)))), (13, .v (.one (.d (.int .i64 vr4_1)))), (14, .v (.one (.d (.lst (List.map encS vr1_2))))), (15, .v (.one (.d (.int .i64 vr2_2)))), (16, .v (.one (.d (.int .i64 vx3_1)))), (17, .v (.one (.d (.int .i64 vr1_3)))), (18, .v (.one (.d (.int .i64 vx4))))]) 3

def fleetlaw2_CellsNamed_x3_I (vr : Int) (vr5 : List UInt8) (vr4 : api_Fence) (vx1_1 : api_Spot) (vr7 : Int) (vr1_1 : List UInt8) (vr3_1 : Int) (vr2_1 : api_Spot) (vr3_2 : Int) (vr4_1 : Int) (vr1_2 : List (List UInt8)) (vr2_2 : Int) (vx3_1 : Int) (vr1_3 : Int) : St := Mem.st ⟨[], [(0, [.d (.int .i64 vx1_1.X), .d (.int .i64 vx1_1.Y)]), (1, [.d (.str vr4.Key), .d (.lst (List.map api_Spot.enc vr4.Corners))]), (2, [.d (.int .i64 vr2_1.X), .d (.int .i64 vr2_1.Y)])]⟩ (tl [(4, .v (.one (.box 0 0))), (5, .v (.one (.d (.int .i64 vr)))), (6, .v (.one (.d (.str vr5)))), (7, .v (.one (.box 1 0))), (8, .v (.one (.d (.int .i64 vr7)))), (9, .v (.one (.d (.str vr1_1)))), (10, .v (.one (.d (.int .i64 vr3_1)))), (11, .v (.one (.box 2 0))), (12, .v (.one (.d (.int .i64 vr3_2)))), (13, .v (.one (.d (.int .i64 vr4_1)))), (14, .v (.one (.d (.lst (List.map encS vr1_2))))), (15, .v (.one (.d (.int .i64 vr2_2)))), (16, .v (.one (.d (.int .i64 vx3_1)))), (17, .v (.one (.d (.int .i64 vr1_3))))]) 3

theorem fleetlaw2_CellsNamed_x3_ok (vr : Int) (vr5 : List UInt8) (vr4 : api_Fence) (vx1_1 : api_Spot) (vr7 : Int) (vr1_1 : List UInt8) (vr3_1 : Int) (vr2_1 : api_Spot) (vr3_2 : Int) (vr4_1 : Int) (vr1_2 : List (List UInt8)) (vr2_2 : Int) (vx3_1 : Int) (vr1_3 : Int) {r} (hF : fleetlaw2_CellsNamed_x3 vr4 vr7 = some r) : Awp prog 0 145 (cL (cR (cR (cR (cR (cR (cR (cR (cR (cR (cR (cB f3)))))))))))) (Out 0 fleetlaw2_CellsNamed_x3_k (fleetlaw2_CellsNamed_x3_S vr vr5 vr4 vx1_1 vr7 vr1_1 vr3_1 vr2_1 vr3_2 vr4_1 vr1_2 vr2_2 vx3_1 vr1_3) r) (fleetlaw2_CellsNamed_x3_I vr vr5 vr4 vx1_1 vr7 vr1_1 vr3_1 vr2_1 vr3_2 vr4_1 vr1_2 vr2_2 vx3_1 vr1_3) := by
  unfold fleetlaw2_CellsNamed_x3 at hF
  refine bE hF fun vr12 h22 hF => ?_
  refine cE hF (fun h23 hF => ?_) fun h23 hF => ?_
  · refine bE hF fun vr13 h24 hF => ?_
    refine bE hF fun vr14 h25 hF => ?_
    refine awp_region ?_
    refine aR 1 ?_
    refine aC (fleetref2_FenceFault_ok h22) [] [] [] ?_
    refine aR 1 ?_
    refine aB h23 ?_
    refine aR 4 ?_
    refine aC (fleetlaw2_when_ok h24) [] [] [] ?_
    refine aR 1 ?_
    refine aC (fleetlaw2_errs_ok h25) [] [] [9003] ?_
    refine aR 1 ?_
    refine aE ?_
    exact oO hF [] [] rfl
  · refine bE hF fun vr15 h26 hF => ?_
    refine bE hF fun vr16 h27 hF => ?_
    refine awp_region ?_
    refine aR 1 ?_
    refine aC (fleetref2_FenceFault_ok h22) [] [] [] ?_
    refine aR 1 ?_
    refine aB h23 ?_
    refine aR 4 ?_
    refine aC (fleetlaw2_when_ok h26) [] [] [] ?_
    refine aR 1 ?_
    refine aC (fleetlaw2_errs_ok h27) [] [] [9003] ?_
    refine aR 1 ?_
    refine aE ?_
    exact oO hF [] [] rfl

def fleetlaw2_CellsNamed_x4_k : (List UInt8) → AEx
  | _ => .normal

def fleetlaw2_CellsNamed_x4_S (vr : Int) (vr5 : List UInt8) (vr4 : api_Fence) (vx1_1 : api_Spot) (vr7 : Int) (vr1_1 : List UInt8) (vr3_1 : Int) (vr2_1 : api_Spot) (vr3_2 : Int) (vr4_1 : Int) (vr1_2 : List (List UInt8)) (vr2_2 : Int) (vx3_1 : Int) (vr1_3 : Int) (vx4_1 : Int) : (List UInt8) → St
  | vx5 => Mem.st ⟨[], [(0, [.d (.str vr4.Key), .d (.lst (List.map api_Spot.enc vr4.Corners))]), (1, [.d (.int .i64 vr2_1.X), .d (.int .i64 vr2_1.Y)]), (2, [.d (.int .i64 0), .d (.int .i64 0)])]⟩ (tl [(6, .v (.one (.d (.str vr5)))), (7, .v (.one (.box 0 0))), (8, .v (.one (.d (.int .i64 vr7)))), (9, .v (.one (.d (.str vr1_1)))), (10, .v (.one (.d (.int .i64 vr3_1)))), (11, .v (.one (.box 1 0))), (12, .v (.one (.d (.int .i64 vr3_2)))), (13, .v (.one (.d (.int .i64 vr4_1)))), (14, .v (.one (.d (.lst (List.map encS vr1_2))))), (15, .v (.one (.d (.int .i64 vr2_2)))), (16, .v (.one (.d (.int .i64 vx3_1)))), (17, .v (.one (.d (.int .i64 vr1_3)))), (18, .v (.one (.d (.int .i64 vx4_1)))), (19, .v (.one (.d (.str vx5)))), (20, .v (.one (.box 2 0))), (21, .v (.one (.d (.int .i64 0))))]) 3

def fleetlaw2_CellsNamed_x4_I (vr : Int) (vr5 : List UInt8) (vr4 : api_Fence) (vx1_1 : api_Spot) (vr7 : Int) (vr1_1 : List UInt8) (vr3_1 : Int) (vr2_1 : api_Spot) (vr3_2 : Int) (vr4_1 : Int) (vr1_2 : List (List UInt8)) (vr2_2 : Int) (vx3_1 : Int) (vr1_3 : Int) (vx4_1 : Int) : St := Mem.st ⟨[], [(0, [.d (.int .i64 vx1_1.X), .d (.int .i64 vx1_1.Y)]), (1, [.d (.str vr4.Key), .d (.lst (List.map api_Spot.enc vr4.Corners))]), (2, [.d (.int .i64 vr2_1.X), .d (.int .i64 vr2_1.Y)]), (3, [.d (.int .i64 0), .d (.int .i64 0)])]⟩ (tl [(4, .v (.one (.box 0 0))), (5, .v (.one (.d (.int .i64 vr)))), (6, .v (.one (.d (.str vr5)))), (7, .v (.one (.box 1 0))), (8, .v (.one (.d (.int .i64 vr7)))), (9, .v (.one (.d (.str vr1_1)))), (10, .v (.one (.d (.int .i64 vr3_1)))), (11, .v (.one (.box 2 0))), (12, .v (.one (.d (.int .i64 vr3_2)))), (13, .v (.one (.d (.int .i64 vr4_1)))), (14, .v (.one (.d (.lst (List.map encS vr1_2))))), (15, .v (.one (.d (.int .i64 vr2_2)))), (16, .v (.one (.d (.int .i64 vx3_1)))), (17, .v (.one (.d (.int .i64 vr1_3)))), (18, .v (.one (.d (.int .i64 vx4_1)))), (19, .v (.one (.d (.str ([] : List UInt8))))), (20, .v (.one (.box 3 0))), (21, .v (.one (.d (.int .i64 0))))]) 4

theorem fleetlaw2_CellsNamed_x4_ok (vr : Int) (vr5 : List UInt8) (vr4 : api_Fence) (vx1_1 : api_Spot) (vr7 : Int) (vr1_1 : List UInt8) (vr3_1 : Int) (vr2_1 : api_Spot) (vr3_2 : Int) (vr4_1 : Int) (vr1_2 : List (List UInt8)) (vr2_2 : Int) (vx3_1 : Int) (vr1_3 : Int) (vx4_1 : Int) {r} (hF : fleetlaw2_CellsNamed_x4 vr vx1_1 vx3_1 = some r) : Awp prog 0 145 (cL (cR (cR (cR (cR (cR (cR (cR (cR (cR (cR (cR (cR (cB f3)))))))))))))) (Out 0 fleetlaw2_CellsNamed_x4_k (fleetlaw2_CellsNamed_x4_S vr vr5 vr4 vx1_1 vr7 vr1_1 vr3_1 vr2_1 vr3_2 vr4_1 vr1_2 vr2_2 vx3_1 vr1_3 vx4_1) r) (fleetlaw2_CellsNamed_x4_I vr vr5 vr4 vx1_1 vr7 vr1_1 vr3_1 vr2_1 vr3_2 vr4_1 vr1_2 vr2_2 vx3_1 vr1_3 vx4_1) := by
  unfold fleetlaw2_CellsNamed_x4 at hF
  refine awp_seq ?_
  refine awp_region ?_
  refine aR 2 ?_
  refine aE ?_
  refine cE hF (fun h29 hF => ?_) fun h29 hF => ?_
  · refine awp_true (by kernel_rfl) h29 ?_
    refine bE hF fun vr2_4 h30 hF => ?_
    refine awp_region ?_
    refine aR 2 ?_
    refine aC (fleetref2_CellOf_ok h30) [] [] [] ?_
    refine aR 1 ?_
    refine aE ?_
    exact oO hF [(0, 1), (1, 2), (2, 3)] [] rfl
  · refine awp_false (by kernel_rfl) h29 ?_
    refine awp_skip ?_
    exact oO hF [(0, 1), (1, 2), (2, 3)] [] rfl

def fleetlaw2_CellsNamed_x5_k : (api_Spot × Int) → AEx
  | _ => .normal

def fleetlaw2_CellsNamed_x5_S (vr5 : List UInt8) (vr4 : api_Fence) (vr7 : Int) (vr1_1 : List UInt8) (vr3_1 : Int) (vr2_1 : api_Spot) (vr3_2 : Int) (vr4_1 : Int) (vr1_2 : List (List UInt8)) (vr2_2 : Int) (vx3_1 : Int) (vr1_3 : Int) (vx4_1 : Int) (vx5_1 : List UInt8) : (api_Spot × Int) → St
  | (vx6, vx7) => Mem.st ⟨[], [(0, [.d (.str vr4.Key), .d (.lst (List.map api_Spot.enc vr4.Corners))]), (1, [.d (.int .i64 vr2_1.X), .d (.int .i64 vr2_1.Y)]), (2, [.d (.int .i64 vx6.X), .d (.int .i64 vx6.Y)])]⟩ (tl [(7, .v (.one (.box 0 0))), (8, .v (.one (.d (.int .i64 vr7)))), (9, .v (.one (.d (.str vr1_1)))), (10, .v (.one (.d (.int .i64 vr3_1)))), (11, .v (.one (.box 1 0))), (12, .v (.one (.d (.int .i64 vr3_2)))), (13, .v (.one (.d (.int .i64 vr4_1)))), (14, .v (.one (.d (.lst (List.map encS vr1_2))))), (15, .v (.one (.d (.int .i64 vr2_2)))), (16, .v (.one (.d (.int .i64 vx3_1)))), (17, .v (.one (.d (.int .i64 vr1_3)))), (18, .v (.one (.d (.int .i64 vx4_1)))), (19, .v (.one (.d (.str vx5_1)))), (20, .v (.one (.box 2 0))), (21, .v (.one (.d (.int .i64 vx7))))]) 3

def fleetlaw2_CellsNamed_x5_I (vr5 : List UInt8) (vr4 : api_Fence) (vr7 : Int) (vr1_1 : List UInt8) (vr3_1 : Int) (vr2_1 : api_Spot) (vr3_2 : Int) (vr4_1 : Int) (vr1_2 : List (List UInt8)) (vr2_2 : Int) (vx3_1 : Int) (vr1_3 : Int) (vx4_1 : Int) (vx5_1 : List UInt8) : St := Mem.st ⟨[], [(0, [.d (.str vr4.Key), .d (.lst (List.map api_Spot.enc vr4.Corners))]), (1, [.d (.int .i64 vr2_1.X), .d (.int .i64 vr2_1.Y)]), (2, [.d (.int .i64 0), .d (.int .i64 0)])]⟩ (tl [(6, .v (.one (.d (.str vr5)))), (7, .v (.one (.box 0 0))), (8, .v (.one (.d (.int .i64 vr7)))), (9, .v (.one (.d (.str vr1_1)))), (10, .v (.one (.d (.int .i64 vr3_1)))), (11, .v (.one (.box 1 0))), (12, .v (.one (.d (.int .i64 vr3_2)))), (13, .v (.one (.d (.int .i64 vr4_1)))), (14, .v (.one (.d (.lst (List.map encS vr1_2))))), (15, .v (.one (.d (.int .i64 vr2_2)))), (16, .v (.one (.d (.int .i64 vx3_1)))), (17, .v (.one (.d (.int .i64 vr1_3)))), (18, .v (.one (.d (.int .i64 vx4_1)))), (19, .v (.one (.d (.str vx5_1)))), (20, .v (.one (.box 2 0))), (21, .v (.one (.d (.int .i64 0))))]) 3

theorem fleetlaw2_CellsNamed_x5_ok (vr5 : List UInt8) (vr4 : api_Fence) (vr7 : Int) (vr1_1 : List UInt8) (vr3_1 : Int) (vr2_1 : api_Spot) (vr3_2 : Int) (vr4_1 : Int) (vr1_2 : List (List UInt8)) (vr2_2 : Int) (vx3_1 : Int) (vr1_3 : Int) (vx4_1 : Int) (vx5_1 : List UInt8) {r} (hF : fleetlaw2_CellsNamed_x5 vr5 vr1_3 = some r) : Awp prog 0 145 (cL (cR (cR (cR (cR (cR (cR (cR (cR (cR (cR (cR (cR (cR (cB f3))))))))))))))) (Out 0 fleetlaw2_CellsNamed_x5_k (fleetlaw2_CellsNamed_x5_S vr5 vr4 vr7 vr1_1 vr3_1 vr2_1 vr3_2 vr4_1 vr1_2 vr2_2 vx3_1 vr1_3 vx4_1 vx5_1) r) (fleetlaw2_CellsNamed_x5_I vr5 vr4 vr7 vr1_1 vr3_1 vr2_1 vr3_2 vr4_1 vr1_2 vr2_2 vx3_1 vr1_3 vx4_1 vx5_1) := by
  unfold fleetlaw2_CellsNamed_x5 at hF
  refine awp_seq ?_
  refine awp_region ?_
  refine aR 2 ?_
  refine aE ?_
  refine cE hF (fun h32 hF => ?_) fun h32 hF => ?_
  · refine awp_true (by kernel_rfl) h32 ?_
    refine bE hF fun x h33 hF => ?_
    obtain ⟨vr17, vr1_4⟩ := x
    refine awp_region ?_
    refine aR 1 ?_
    refine aC (fleetref2_CellBoxOf_ok h33) [] [] [] ?_
    refine aR 5 ?_
    refine aE ?_
    exact oO hF [] [] rfl
  · refine awp_false (by kernel_rfl) h32 ?_
    refine awp_skip ?_
    exact oO hF [] [] rfl

def fleetlaw2_CellsNamed_x6_k : (Int × (List (List UInt8))) → AEx
  | _ => .normal

def fleetlaw2_CellsNamed_x6_S (vr4 : api_Fence) (vr7 : Int) (vr1_1 : List UInt8) (vr3_1 : Int) (vr2_1 : api_Spot) (vr3_2 : Int) (vr4_1 : Int) (vr1_2 : List (List UInt8)) (vr2_2 : Int) (vx3_1 : Int) (vr1_3 : Int) (vx4_1 : Int) (vx5_1 : List UInt8) (vx6_1 : api_Spot) (vx7_1 : Int) : (Int × (List (List UInt8))) → St
  | (vx8, vx9) => Mem.st ⟨[], [(0, [.d (.int .i64 vr2_1.X), .d (.int .i64 vr2_1.Y)]), (1, [.d (.int .i64 vx6_1.X), .d (.int .i64 vx6_1.Y)])]⟩ (tl [(9, .v (.one (.d (.str vr1_1)))), (10, .v (.one (.d (.int .i64 vr3_1)))), (11, .v (.one (.box 0 0))), (12, .v (.one (.d (.int .i64 vr3_2)))), (13, .v (.one (.d (.int .i64 vr4_1)))), (14, .v (.one (.d (.lst (List.map encS vr1_2))))), (15, .v (.one (.d (.int .i64 vr2_2)))), (16, .v (.one (.d (.int .i64 vx3_1)))), (17, .v (.one (.d (.int .i64 vr1_3)))), (18, .v (.one (.d (.int .i64 vx8)))), (19, .v (.one (.d (.str vx5_1)))), (20, .v (.one (.box 1 0))), (21, .v (.one (.d (.int .i64 vx7_1)))), (22, .v (.one (.d (.lst (List.map encS vx9)))))]) 2

def fleetlaw2_CellsNamed_x6_I (vr4 : api_Fence) (vr7 : Int) (vr1_1 : List UInt8) (vr3_1 : Int) (vr2_1 : api_Spot) (vr3_2 : Int) (vr4_1 : Int) (vr1_2 : List (List UInt8)) (vr2_2 : Int) (vx3_1 : Int) (vr1_3 : Int) (vx4_1 : Int) (vx5_1 : List UInt8) (vx6_1 : api_Spot) (vx7_1 : Int) : St := Mem.st ⟨[], [(0, [.d (.str vr4.Key), .d (.lst (List.map api_Spot.enc vr4.Corners))]), (1, [.d (.int .i64 vr2_1.X), .d (.int .i64 vr2_1.Y)]), (2, [.d (.int .i64 vx6_1.X), .d (.int .i64 vx6_1.Y)])]⟩ (tl [(7, .v (.one (.box 0 0))), (8, .v (.one (.d (.int .i64 vr7)))), (9, .v (.one (.d (.str vr1_1)))), (10, .v (.one (.d (.int .i64 vr3_1)))), (11, .v (.one (.box 1 0))), (12, .v (.one (.d (.int .i64 vr3_2)))), (13, .v (.one (.d (.int .i64 vr4_1)))), (14, .v (.one (.d (.lst (List.map encS vr1_2))))), (15, .v (.one (.d (.int .i64 vr2_2)))), (16, .v (.one (.d (.int .i64 vx3_1)))), (17, .v (.one (.d (.int .i64 vr1_3)))), (18, .v (.one (.d (.int .i64 vx4_1)))), (19, .v (.one (.d (.str vx5_1)))), (20, .v (.one (.box 2 0))), (21, .v (.one (.d (.int .i64 vx7_1)))), (22, .v (.one (.nil)))]) 3

theorem fleetlaw2_CellsNamed_x6_ok (vr4 : api_Fence) (vr7 : Int) (vr1_1 : List UInt8) (vr3_1 : Int) (vr2_1 : api_Spot) (vr3_2 : Int) (vr4_1 : Int) (vr1_2 : List (List UInt8)) (vr2_2 : Int) (vx3_1 : Int) (vr1_3 : Int) (vx4_1 : Int) (vx5_1 : List UInt8) (vx6_1 : api_Spot) (vx7_1 : Int) {r} (hF : fleetlaw2_CellsNamed_x6 vr4 vr7 vx4_1 = some r) : Awp prog 0 145 (cL (cR (cR (cR (cR (cR (cR (cR (cR (cR (cR (cR (cR (cR (cR (cR (cB f3))))))))))))))))) (Out 0 fleetlaw2_CellsNamed_x6_k (fleetlaw2_CellsNamed_x6_S vr4 vr7 vr1_1 vr3_1 vr2_1 vr3_2 vr4_1 vr1_2 vr2_2 vx3_1 vr1_3 vx4_1 vx5_1 vx6_1 vx7_1) r) (fleetlaw2_CellsNamed_x6_I vr4 vr7 vr1_1 vr3_1 vr2_1 vr3_2 vr4_1 vr1_2 vr2_2 vx3_1 vr1_3 vx4_1 vx5_1 vx6_1 vx7_1) := by
  unfold fleetlaw2_CellsNamed_x6 at hF
  refine awp_seq ?_
  refine awp_region ?_
  refine aR 2 ?_
  refine aE ?_
  refine cE hF (fun h35 hF => ?_) fun h35 hF => ?_
  · refine awp_true (by kernel_rfl) h35 ?_
    refine bE hF fun x h36 hF => ?_
    obtain ⟨vr10_1, vr11_1⟩ := x
    refine awp_region ?_
    refine aR 3 ?_
    refine aC (fleetref2_CellsOf_ok h36) [] [] [] ?_
    refine aR 5 ?_
    refine aE ?_
    exact oO hF [(0, 1), (1, 2)] [] rfl
  · refine awp_false (by kernel_rfl) h35 ?_
    refine awp_skip ?_
    exact oO hF [(0, 1), (1, 2)] [] rfl

def fleetlaw2_CellsNamed_x7_k : Bool → AEx
  | _ => .normal

def fleetlaw2_CellsNamed_x7_S (vr1_1 : List UInt8) (vr3_1 : Int) (vr2_1 : api_Spot) (vr3_2 : Int) (vr4_1 : Int) (vr1_2 : List (List UInt8)) (vr2_2 : Int) (vx3_1 : Int) (vr1_3 : Int) (vx5_1 : List UInt8) (vx6_1 : api_Spot) (vx7_1 : Int) (vx8_1 : Int) (vx9_1 : List (List UInt8)) : Bool → St
  | vx10 => Mem.st ⟨[], []⟩ (tl [(2, .v (.one (.d (.bool vx10))))]) 0

def fleetlaw2_CellsNamed_x7_I (vr1_1 : List UInt8) (vr3_1 : Int) (vr2_1 : api_Spot) (vr3_2 : Int) (vr4_1 : Int) (vr1_2 : List (List UInt8)) (vr2_2 : Int) (vx3_1 : Int) (vr1_3 : Int) (vx5_1 : List UInt8) (vx6_1 : api_Spot) (vx7_1 : Int) (vx8_1 : Int) (vx9_1 : List (List UInt8)) : St := Mem.st ⟨[], [(0, [.d (.int .i64 vr2_1.X), .d (.int .i64 vr2_1.Y)]), (1, [.d (.int .i64 vx6_1.X), .d (.int .i64 vx6_1.Y)])]⟩ (tl [(9, .v (.one (.d (.str vr1_1)))), (10, .v (.one (.d (.int .i64 vr3_1)))), (11, .v (.one (.box 0 0))), (12, .v (.one (.d (.int .i64 vr3_2)))), (13, .v (.one (.d (.int .i64 vr4_1)))), (14, .v (.one (.d (.lst (List.map encS vr1_2))))), (15, .v (.one (.d (.int .i64 vr2_2)))), (16, .v (.one (.d (.int .i64 vx3_1)))), (17, .v (.one (.d (.int .i64 vr1_3)))), (18, .v (.one (.d (.int .i64 vx8_1)))), (19, .v (.one (.d (.str vx5_1)))), (20, .v (.one (.box 1 0))), (21, .v (.one (.d (.int .i64 vx7_1)))), (22, .v (.one (.d (.lst (List.map encS vx9_1)))))]) 2

theorem fleetlaw2_CellsNamed_x7_ok (vr1_1 : List UInt8) (vr3_1 : Int) (vr2_1 : api_Spot) (vr3_2 : Int) (vr4_1 : Int) (vr1_2 : List (List UInt8)) (vr2_2 : Int) (vx3_1 : Int) (vr1_3 : Int) (vx5_1 : List UInt8) (vx6_1 : api_Spot) (vx7_1 : Int) (vx8_1 : Int) (vx9_1 : List (List UInt8)) {r} (hF : fleetlaw2_CellsNamed_x7 vr1_1 vr3_1 vr2_1 vr3_2 vr4_1 vr1_2 vr2_2 vx3_1 vr1_3 vx5_1 vx6_1 vx7_1 vx8_1 vx9_1 = some r) : Awp prog 0 145 (cL (cR (cR (cR (cR (cR (cR (cR (cR (cR (cR (cR (cR (cR (cR (cR (cR (cB f3)))))))))))))))))) (Out 0 fleetlaw2_CellsNamed_x7_k (fleetlaw2_CellsNamed_x7_S vr1_1 vr3_1 vr2_1 vr3_2 vr4_1 vr1_2 vr2_2 vx3_1 vr1_3 vx5_1 vx6_1 vx7_1 vx8_1 vx9_1) r) (fleetlaw2_CellsNamed_x7_I vr1_1 vr3_1 vr2_1 vr3_2 vr4_1 vr1_2 vr2_2 vx3_1 vr1_3 vx5_1 vx6_1 vx7_1 vx8_1 vx9_1) := by
  unfold fleetlaw2_CellsNamed_x7 at hF
  refine cE hF (fun h38 hF => ?_) fun h38 hF => ?_
  · refine cE hF (fun h39 hF => ?_) fun h39 hF => ?_
    · refine cE hF (fun h40 hF => ?_) fun h40 hF => ?_
      · refine cE hF (fun h41 hF => ?_) fun h41 hF => ?_
        · refine cE hF (fun h42 hF => ?_) fun h42 hF => ?_
          · refine cE hF (fun h43 hF => ?_) fun h43 hF => ?_
            · refine bE hF fun vr18 h44 hF => ?_
              refine cE hF (fun h45 hF => ?_) fun h45 hF => ?_
              · refine bE hF fun vr19 h46 hF => ?_
                refine awp_region ?_
                refine aR 2 ?_
                refine aB h38 ?_
                refine aR 3 ?_
                refine aB h39 ?_
                refine aR 4 ?_
                refine aB h40 ?_
                refine aR 4 ?_
                refine aSb (does_eqS (op := .eql) (xs := [.int .i64 vr2_1.X, .int .i64 vr2_1.Y]) (ys := [.int .i64 vx6_1.X, .int .i64 vx6_1.Y]) (b := (decide (vr2_1.X = vx6_1.X) && (decide (vr2_1.Y = vx6_1.Y) && true))) (c := (decide (vr2_1.X = vx6_1.X) && (decide (vr2_1.Y = vx6_1.Y) && true))) rfl (.inl ⟨rfl, rfl⟩) (by kernel_rfl) (by kernel_rfl) (by kernel_rfl) (by kernel_rfl) (by kernel_rfl) (by kernel_rfl)) h41 ?_
                refine aR 4 ?_
                refine aB h42 ?_
                refine aR 4 ?_
                refine aB h43 ?_
                refine aR 4 ?_
                refine aCb (slices_Equal_string_string_ok h44) [] [] [] h45 ?_
                refine aR 2 ?_
                refine aC (fleetlaw2_placed_ok h46) [] [] [] ?_
                refine aR 2 ?_
                refine aE ?_
                exact oO hF [] [] rfl
              · refine awp_region ?_
                refine aR 2 ?_
                refine aB h38 ?_
                refine aR 3 ?_
                refine aB h39 ?_
                refine aR 4 ?_
                refine aB h40 ?_
                refine aR 4 ?_
                refine aSb (does_eqS (op := .eql) (xs := [.int .i64 vr2_1.X, .int .i64 vr2_1.Y]) (ys := [.int .i64 vx6_1.X, .int .i64 vx6_1.Y]) (b := (decide (vr2_1.X = vx6_1.X) && (decide (vr2_1.Y = vx6_1.Y) && true))) (c := (decide (vr2_1.X = vx6_1.X) && (decide (vr2_1.Y = vx6_1.Y) && true))) rfl (.inl ⟨rfl, rfl⟩) (by kernel_rfl) (by kernel_rfl) (by kernel_rfl) (by kernel_rfl) (by kernel_rfl) (by kernel_rfl)) h41 ?_
                refine aR 4 ?_
                refine aB h42 ?_
                refine aR 4 ?_
                refine aB h43 ?_
                refine aR 4 ?_
                refine aCb (slices_Equal_string_string_ok h44) [] [] [] h45 ?_
                refine aR 5 ?_
                refine aE ?_
                exact oO hF [] [] rfl
            · refine awp_region ?_
              refine aR 2 ?_
              refine aB h38 ?_
              refine aR 3 ?_
              refine aB h39 ?_
              refine aR 4 ?_
              refine aB h40 ?_
              refine aR 4 ?_
              refine aSb (does_eqS (op := .eql) (xs := [.int .i64 vr2_1.X, .int .i64 vr2_1.Y]) (ys := [.int .i64 vx6_1.X, .int .i64 vx6_1.Y]) (b := (decide (vr2_1.X = vx6_1.X) && (decide (vr2_1.Y = vx6_1.Y) && true))) (c := (decide (vr2_1.X = vx6_1.X) && (decide (vr2_1.Y = vx6_1.Y) && true))) rfl (.inl ⟨rfl, rfl⟩) (by kernel_rfl) (by kernel_rfl) (by kernel_rfl) (by kernel_rfl) (by kernel_rfl) (by kernel_rfl)) h41 ?_
              refine aR 4 ?_
              refine aB h42 ?_
              refine aR 4 ?_
              refine aB h43 ?_
              refine aR 10 ?_
              refine aE ?_
              exact oO hF [] [] rfl
          · refine awp_region ?_
            refine aR 2 ?_
            refine aB h38 ?_
            refine aR 3 ?_
            refine aB h39 ?_
            refine aR 4 ?_
            refine aB h40 ?_
            refine aR 4 ?_
            refine aSb (does_eqS (op := .eql) (xs := [.int .i64 vr2_1.X, .int .i64 vr2_1.Y]) (ys := [.int .i64 vx6_1.X, .int .i64 vx6_1.Y]) (b := (decide (vr2_1.X = vx6_1.X) && (decide (vr2_1.Y = vx6_1.Y) && true))) (c := (decide (vr2_1.X = vx6_1.X) && (decide (vr2_1.Y = vx6_1.Y) && true))) rfl (.inl ⟨rfl, rfl⟩) (by kernel_rfl) (by kernel_rfl) (by kernel_rfl) (by kernel_rfl) (by kernel_rfl) (by kernel_rfl)) h41 ?_
            refine aR 4 ?_
            refine aB h42 ?_
            refine aR 15 ?_
            refine aE ?_
            exact oO hF [] [] rfl
        · refine awp_region ?_
          refine aR 2 ?_
          refine aB h38 ?_
          refine aR 3 ?_
          refine aB h39 ?_
          refine aR 4 ?_
          refine aB h40 ?_
          refine aR 4 ?_
          refine aSb (does_eqS (op := .eql) (xs := [.int .i64 vr2_1.X, .int .i64 vr2_1.Y]) (ys := [.int .i64 vx6_1.X, .int .i64 vx6_1.Y]) (b := (decide (vr2_1.X = vx6_1.X) && (decide (vr2_1.Y = vx6_1.Y) && true))) (c := (decide (vr2_1.X = vx6_1.X) && (decide (vr2_1.Y = vx6_1.Y) && true))) rfl (.inl ⟨rfl, rfl⟩) (by kernel_rfl) (by kernel_rfl) (by kernel_rfl) (by kernel_rfl) (by kernel_rfl) (by kernel_rfl)) h41 ?_
          refine aR 20 ?_
          refine aE ?_
          exact oO hF [] [] rfl
      · refine awp_region ?_
        refine aR 2 ?_
        refine aB h38 ?_
        refine aR 3 ?_
        refine aB h39 ?_
        refine aR 4 ?_
        refine aB h40 ?_
        refine aR 25 ?_
        refine aE ?_
        exact oO hF [] [] rfl
    · refine awp_region ?_
      refine aR 2 ?_
      refine aB h38 ?_
      refine aR 3 ?_
      refine aB h39 ?_
      refine aR 30 ?_
      refine aE ?_
      exact oO hF [] [] rfl
  · refine awp_region ?_
    refine aR 2 ?_
    refine aB h38 ?_
    refine aR 34 ?_
    refine aE ?_
    exact oO hF [] [] rfl

def fleetlaw2_CellsNamed_R (qx : List Int) (r : Bool) : TV × Mem := (.v (.one (.d (.bool r))), ⟨[], []⟩)

theorem fleetlaw2_CellsNamed_ok {qx : List Int} {r} (hF : fleetlaw2_CellsNamed qx = some r) : Holds prog 3 [.v (.one (.d (.lst (List.map (encI .i64) qx))))] ⟨[], []⟩ (Is (fleetlaw2_CellsNamed_R qx r)) := by
  unfold fleetlaw2_CellsNamed at hF
  refine holds_of_awp hΓ (fn := f3) (c := cB f3) (A := 0) (nx := 0) (by kernel_rfl) (by kernel_rfl) (by kernel_rfl) (by kernel_rfl) (by kernel_rfl) (by kernel_rfl) (lowc_of (by kernel_rfl)) ?_
  show Awp prog 0 145 (cB f3) _ _
  refine awp_seq ?_
  refine awp_region ?_
  refine aR 1 ?_
  refine aE ?_
  refine awp_seq ?_
  refine awp_region ?_
  refine aR 4 ?_
  refine aE ?_
  refine awp_seq ?_
  refine bE hF fun x h1 hF => ?_
  obtain ⟨vs3, vr1⟩ := x
  refine bE hF fun vr h2 hF => ?_
  refine bE hF fun x h3 hF => ?_
  obtain ⟨vs4, vr5⟩ := x
  refine bE hF fun x h4 hF => ?_
  obtain ⟨vs2, vr4⟩ := x
  refine awp_region ?_
  refine aR 1 ?_
  refine aC (fleetmake_Stream_Spot_ok h1) [(0, 3000)] [] [] ?_
  refine aR 2 ?_
  refine aC (fleetmake_Stream_Pick_o1_ok h2) [(0, 3000), (1, 8000)] [] [] ?_
  refine aR 1 ?_
  refine aC (fleetmake_Stream_CellKey_ok h3) [(0, 3000)] [] [] ?_
  refine aR 1 ?_
  refine aC (fleetmake_Stream_Fence_ok h4) [(0, 3000)] [] [] ?_
  refine aR 6 ?_
  refine aE ?_
  refine awp_seq ?_
  refine awp_to (st' := fleetlaw2_CellsNamed_x1_I vr1 vr vr5 vs2 vr4) (oT [(0, 3000), (1, 14000), (2, 15000)] []) ?_
  refine bE hF fun x h9 hF => ?_
  obtain ⟨vx2, vx1_1⟩ := x
  refine awp_sub (fleetlaw2_CellsNamed_x1_ok vr1 vr vr5 vs2 vr4 h9) ?_
  refine awp_seq ?_
  refine bE hF fun vr7 h10 hF => ?_
  refine awp_region ?_
  refine aR 2 ?_
  refine aC (fleetmake_Stream_Pick_o1_ok h10) [(1, 1003)] [] [] ?_
  refine aR 1 ?_
  refine aE ?_
  refine awp_seq ?_
  refine bE hF fun x h11 hF => ?_
  obtain ⟨vr1_1, vr3_1⟩ := x
  refine awp_region ?_
  refine aR 2 ?_
  refine aC (place_Cell_ok h11) [] [] [] ?_
  refine aR 5 ?_
  refine aE ?_
  refine awp_seq ?_
  refine bE hF fun x h12 hF => ?_
  obtain ⟨vr2_1, vr3_2, vr4_1⟩ := x
  refine awp_region ?_
  refine aR 1 ?_
  refine aC (place_CellBox_ok h12) [] [] [] ?_
  refine aR 8 ?_
  refine aE ?_
  refine awp_seq ?_
  refine bE hF fun x h13 hF => ?_
  obtain ⟨vr1_2, vr2_2⟩ := x
  refine awp_region ?_
  refine aR 2 ?_
  refine aC (place_Cells_ok h13) [] [] [] ?_
  refine aR 5 ?_
  refine aE ?_
  refine awp_to (oT (m := ⟨[], [(0, [.d (.int .i64 vx1_1.X), .d (.int .i64 vx1_1.Y)]), (1, [.d (.str vr4.Key), .d (.lst (List.map api_Spot.enc vr4.Corners))]), (2, [.d (.int .i64 vr2_1.X), .d (.int .i64 vr2_1.Y)])]⟩) (ts := [(4, .v (.one (.box 0 0))), (5, .v (.one (.d (.int .i64 vr)))), (6, .v (.one (.d (.str vr5)))), (7, .v (.one (.box 1 0))), (8, .v (.one (.d (.int .i64 vr7)))), (9, .v (.one (.d (.str vr1_1)))), (10, .v (.one (.d (.int .i64 vr3_1)))), (11, .v (.one (.box 2 0))), (12, .v (.one (.d (.int .i64 vr3_2)))), (13, .v (.one (.d (.int .i64 vr4_1)))), (14, .v (.one (.d (.lst (List.map encS vr1_2))))), (15, .v (.one (.d (.int .i64 vr2_2))))]) (nx := 3) [(0, 1), (1, 2), (2, 18003)] []) ?_
  refine awp_seq ?_
  refine awp_to (st' := fleetlaw2_CellsNamed_x2_I vr vr5 vr4 vx1_1 vr7 vr1_1 vr3_1 vr2_1 vr3_2 vr4_1 vr1_2 vr2_2) (oT [] []) ?_
  refine bE hF fun vx3_1 h20 hF => ?_
  refine awp_sub (fleetlaw2_CellsNamed_x2_ok vr vr5 vr4 vx1_1 vr7 vr1_1 vr3_1 vr2_1 vr3_2 vr4_1 vr1_2 vr2_2 h20) ?_
  refine awp_seq ?_
  refine bE hF fun vr1_3 h21 hF => ?_
  refine awp_region ?_
  refine aR 1 ?_
  refine aC (fleetref2_CellFault_ok h21) [] [] [] ?_
  refine aR 1 ?_
  refine aE ?_
  refine awp_seq ?_
  refine awp_to (st' := fleetlaw2_CellsNamed_x3_I vr vr5 vr4 vx1_1 vr7 vr1_1 vr3_1 vr2_1 vr3_2 vr4_1 vr1_2 vr2_2 vx3_1 vr1_3) (oT [] []) ?_
  refine bE hF fun vx4_1 h28 hF => ?_
  refine awp_sub (fleetlaw2_CellsNamed_x3_ok vr vr5 vr4 vx1_1 vr7 vr1_1 vr3_1 vr2_1 vr3_2 vr4_1 vr1_2 vr2_2 vx3_1 vr1_3 h28) ?_
  refine awp_seq ?_
  refine awp_region ?_
  refine aR 5 ?_
  refine aE ?_
  refine awp_seq ?_
  refine awp_to (st' := fleetlaw2_CellsNamed_x4_I vr vr5 vr4 vx1_1 vr7 vr1_1 vr3_1 vr2_1 vr3_2 vr4_1 vr1_2 vr2_2 vx3_1 vr1_3 vx4_1) (oT [(3, 1003)] []) ?_
  refine bE hF fun vx5_1 h31 hF => ?_
  refine awp_sub (fleetlaw2_CellsNamed_x4_ok vr vr5 vr4 vx1_1 vr7 vr1_1 vr3_1 vr2_1 vr3_2 vr4_1 vr1_2 vr2_2 vx3_1 vr1_3 vx4_1 h31) ?_
  refine awp_seq ?_
  refine awp_to (st' := fleetlaw2_CellsNamed_x5_I vr5 vr4 vr7 vr1_1 vr3_1 vr2_1 vr3_2 vr4_1 vr1_2 vr2_2 vx3_1 vr1_3 vx4_1 vx5_1) (oT [] []) ?_
  refine bE hF fun x h34 hF => ?_
  obtain ⟨vx6_1, vx7_1⟩ := x
  refine awp_sub (fleetlaw2_CellsNamed_x5_ok vr5 vr4 vr7 vr1_1 vr3_1 vr2_1 vr3_2 vr4_1 vr1_2 vr2_2 vx3_1 vr1_3 vx4_1 vx5_1 h34) ?_
  refine awp_seq ?_
  refine awp_region ?_
  refine aR 1 ?_
  refine aE ?_
  refine awp_seq ?_
  refine awp_to (st' := fleetlaw2_CellsNamed_x6_I vr4 vr7 vr1_1 vr3_1 vr2_1 vr3_2 vr4_1 vr1_2 vr2_2 vx3_1 vr1_3 vx4_1 vx5_1 vx6_1 vx7_1) (oT [] []) ?_
  refine bE hF fun x h37 hF => ?_
  obtain ⟨vx8_1, vx9_1⟩ := x
  refine awp_sub (fleetlaw2_CellsNamed_x6_ok vr4 vr7 vr1_1 vr3_1 vr2_1 vr3_2 vr4_1 vr1_2 vr2_2 vx3_1 vr1_3 vx4_1 vx5_1 vx6_1 vx7_1 h37) ?_
  refine awp_seq ?_
  refine awp_to (st' := fleetlaw2_CellsNamed_x7_I vr1_1 vr3_1 vr2_1 vr3_2 vr4_1 vr1_2 vr2_2 vx3_1 vr1_3 vx5_1 vx6_1 vx7_1 vx8_1 vx9_1) (oT [] []) ?_
  refine bE hF fun vx10_1 h47 hF => ?_
  refine awp_sub (fleetlaw2_CellsNamed_x7_ok vr1_1 vr3_1 vr2_1 vr3_2 vr4_1 vr1_2 vr2_2 vx3_1 vr1_3 vx5_1 vx6_1 vx7_1 vx8_1 vx9_1 h47) ?_
  refine awp_ret ?_
  exact oF hF [] []

end Go.Eng
