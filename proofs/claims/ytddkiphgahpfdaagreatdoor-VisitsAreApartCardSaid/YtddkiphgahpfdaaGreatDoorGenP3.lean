/-
The code of the Go functions that the law VisitsAreApart reaches does what the plain functions say, part 3.
-/
import Derived.Test.YtddkiphgahpfdaaGreatDoorGenP2

namespace Go.Eng

open Go Go.Proofs.Tryz

set_option linter.unusedVariables false

set_option maxRecDepth 20000

set_option maxHeartbeats 0

/-! ### beaconfleet/place.CheckFence -/
def place_CheckFence_x1_k : Unit ⊕ Int → AEx
  | .inl _ => .exit 1
  | .inr _ => .ret

def place_CheckFence_x1_S (qf : api_Fence) : Unit ⊕ Int → St
  | .inl _ => Mem.st ⟨[], [(0, [.d (.str qf.Key), .d (.lst (List.map api_Spot.enc qf.Corners))])]⟩ (tl [(1, .v (.one (.box 0 0)))]) 1
  | .inr vx1 => Mem.st ⟨[], []⟩ (tl [(2, .v (.one (.d (.int .i64 vx1))))]) 0

def place_CheckFence_x1_H (qf : api_Fence) : Int → St
  | vx => Mem.st ⟨[], [(0, [.d (.str qf.Key), .d (.lst (List.map api_Spot.enc qf.Corners))])]⟩ (tl [(1, .v (.one (.box 0 0))), (21, .v (.one (.d (.lst (List.map api_Spot.enc qf.Corners))))), (22, .v (.one (.d (.int .i64 (qf.Corners.length : Int))))), (23, .v (.one (.d (.int .i64 vx))))]) 1

theorem place_CheckFence_x1_ok (qf : api_Fence) (vx : Int) (r : (Int) ⊕ (Unit ⊕ Int)) (hF : place_CheckFence_x1 qf vx = some r) : Awp prog 0 41 (cL (cL (cR (cL (cR (cR (cB f35))))))) (Out 0 (kk place_CheckFence_x1_k) (SS (place_CheckFence_x1_H qf) (place_CheckFence_x1_S qf)) r) (place_CheckFence_x1_H qf vx) := by
  unfold place_CheckFence_x1 at hF
  refine awp_seq ?_
  refine awp_region ?_
  refine aR 1 ?_
  refine aE ?_
  refine awp_seq ?_
  refine cE hF (fun h5 hF => ?_) fun h5 hF => ?_
  · refine awp_true (by kernel_rfl) h5 ?_
    refine awp_skip ?_
    refine awp_seq ?_
    refine awp_block ?_
    refine awp_seq ?_
    refine bE hF fun vy1 h6 hF => ?_
    refine awp_region ?_
    refine aR 1 ?_
    refine aX (x_idx api_Spot.enc h6) ?_
    refine aR 4 ?_
    refine aE ?_
    refine awp_seq ?_
    refine awp_seq ?_
    refine bE hF fun vr2_1 h7 hF => ?_
    refine awp_region ?_
    refine aR 1 ?_
    refine aC (place_isSpot_ok h7) [] [] [] ?_
    refine aR 1 ?_
    refine aE ?_
    refine cE hF (fun h8 hF => ?_) fun h8 hF => ?_
    · refine awp_true (by kernel_rfl) h8 ?_
      refine awp_seq ?_
      refine awp_region ?_
      refine aR 1 ?_
      refine aE ?_
      refine awp_ret ?_
      exact oO hF [] [] rfl
    · refine awp_false (by kernel_rfl) h8 ?_
      refine awp_skip ?_
      refine awp_seq ?_
      refine bE hF fun vl1 h9 hF => ?_
      refine bE hF fun vr1_1 h10 hF => ?_
      refine aD ?_
      refine dR 3 ?_
      refine dX (x_slice api_Spot.enc h9) ?_
      refine dR 1 ?_
      refine dC (slices_Contains_api_Spot_api_Spot_ok h10) [] [] [] ?_
      refine dE ?_
      refine cE hF (fun h11 hF => ?_) fun h11 hF => ?_
      · refine awp_true (by kernel_rfl) h11 ?_
        refine awp_seq ?_
        refine awp_region ?_
        refine aR 1 ?_
        refine aE ?_
        refine awp_ret ?_
        exact oO hF [] [] rfl
      · refine awp_false (by kernel_rfl) h11 ?_
        refine awp_skip ?_
        refine awp_region ?_
        refine aR 2 ?_
        refine aE ?_
        exact oO hF [] [] rfl
  · refine awp_false (by kernel_rfl) h5 ?_
    refine awp_exit ?_
    exact oO hF [] [] rfl

def place_CheckFence_R (qf : api_Fence) (r : Int) : TV × Mem := (.v (.one (.d (.int .i64 r))), ⟨[], []⟩)

theorem place_CheckFence_ok {qf : api_Fence} {r} (hF : place_CheckFence qf = some r) : Holds prog 35 [.v (.agg [.d (.str qf.Key), .d (.lst (List.map api_Spot.enc qf.Corners))])] ⟨[], []⟩ (Is (place_CheckFence_R qf r)) := by
  unfold place_CheckFence at hF
  refine holds_of_awp hΓ (fn := f35) (c := cB f35) (A := 0) (nx := 0) (by kernel_rfl) (by kernel_rfl) (by kernel_rfl) (by kernel_rfl) (by kernel_rfl) (by kernel_rfl) (lowc_of (by kernel_rfl)) ?_
  show Awp prog 0 41 (cB f35) _ _
  refine awp_seq ?_
  refine awp_region ?_
  refine aR 2 ?_
  refine aE ?_
  refine awp_seq ?_
  refine awp_block ?_
  refine awp_seq ?_
  refine bE hF fun vr h1 hF => ?_
  refine awp_region ?_
  refine aR 2 ?_
  refine aC (base_Key_ok h1) [] [] [] ?_
  refine aR 2 ?_
  refine aE ?_
  refine cE hF (fun h2 hF => ?_) fun h2 hF => ?_
  · refine awp_true (by kernel_rfl) h2 ?_
    refine awp_seq ?_
    refine awp_region ?_
    refine aR 1 ?_
    refine aE ?_
    refine awp_ret ?_
    exact oF hF [] []
  · refine awp_false (by kernel_rfl) h2 ?_
    refine awp_seq ?_
    refine awp_region ?_
    refine aR 2 ?_
    refine aL api_Spot.enc qf.Corners ?_
    refine aR 2 ?_
    refine aE ?_
    refine cE hF (fun h3 hF => ?_) fun h3 hF => ?_
    · refine awp_true (by kernel_rfl) h3 ?_
      refine awp_seq ?_
      refine awp_region ?_
      refine aR 1 ?_
      refine aE ?_
      refine awp_ret ?_
      exact oF hF [] []
    · refine awp_false (by kernel_rfl) h3 ?_
      refine awp_seq ?_
      refine awp_region ?_
      refine aR 2 ?_
      refine aL api_Spot.enc qf.Corners ?_
      refine aR 2 ?_
      refine aE ?_
      refine cE hF (fun h4 hF => ?_) fun h4 hF => ?_
      · refine awp_true (by kernel_rfl) h4 ?_
        refine awp_seq ?_
        refine awp_region ?_
        refine aR 1 ?_
        refine aE ?_
        refine awp_ret ?_
        exact oF hF [] []
      · refine awp_false (by kernel_rfl) h4 ?_
        refine awp_skip ?_
        refine awp_seq ?_
        refine awp_seq ?_
        refine awp_region ?_
        refine aR 2 ?_
        refine aL api_Spot.enc qf.Corners ?_
        refine aR 1 ?_
        refine aE ?_
        refine awp_block ?_
        refine awp_to (st' := place_CheckFence_x1_H qf 0) (oT [] []) ?_
        refine bE hF fun x h12 hF => ?_
        rcases x with _ | vx1_1
        · refine awp_sub (awp_loop' (place_CheckFence_x1_H qf) place_CheckFence_x1_k (place_CheckFence_x1_S qf) (by intro x; rcases x with x | x <;> exact fun h => nomatch h) h12 (place_CheckFence_x1_ok qf)) ?_
          refine awp_seq ?_
          refine awp_seq ?_
          refine bE hF fun vr17 h13 hF => ?_
          refine awp_region ?_
          refine aR 2 ?_
          refine aC (place_crossed_ok h13) [] [] [] ?_
          refine aE ?_
          refine cE hF (fun h14 hF => ?_) fun h14 hF => ?_
          · refine awp_true (by kernel_rfl) h14 ?_
            refine awp_seq ?_
            refine awp_region ?_
            refine aR 1 ?_
            refine aE ?_
            refine awp_ret ?_
            exact oF hF [] []
          · refine awp_false (by kernel_rfl) h14 ?_
            refine awp_skip ?_
            refine awp_seq ?_
            refine awp_region ?_
            refine aR 1 ?_
            refine aE ?_
            refine awp_ret ?_
            exact oF hF [] []
        · refine awp_sub (awp_loop' (place_CheckFence_x1_H qf) place_CheckFence_x1_k (place_CheckFence_x1_S qf) (by intro x; rcases x with x | x <;> exact fun h => nomatch h) h12 (place_CheckFence_x1_ok qf)) ?_
          exact oF hF [] []

/-! ### beaconfleet/place.where$1 -/
def place_where_1_R (qa : api_Spot) (qb : api_Spot) (qx : api_Spot) (r : Bool) : TV × Mem := (.v (.one (.d (.bool r))), ⟨[], [(0, [.d (.int .i64 qx.X), .d (.int .i64 qx.Y)])]⟩)

theorem place_where_1_ok {qa : api_Spot} {qb : api_Spot} {qx : api_Spot} {r} (hF : place_where_1 qa qb qx = some r) : Holds prog 70 [.v (.agg [.d (.int .i64 qa.X), .d (.int .i64 qa.Y)]), .v (.agg [.d (.int .i64 qb.X), .d (.int .i64 qb.Y)]), .v (.one (.box 0 0))] ⟨[], [(0, [.d (.int .i64 qx.X), .d (.int .i64 qx.Y)])]⟩ (Is (place_where_1_R qa qb qx r)) := by
  unfold place_where_1 at hF
  refine holds_of_awp hΓ (fn := f70) (c := cB f70) (A := 1) (nx := 1) (by kernel_rfl) (by kernel_rfl) (by kernel_rfl) (by kernel_rfl) (by kernel_rfl) (by kernel_rfl) (lowc_of (by kernel_rfl)) ?_
  show Awp prog 1 10 (cB f70) _ _
  refine awp_seq ?_
  refine awp_region ?_
  refine aR 3 ?_
  refine aE ?_
  refine awp_seq ?_
  refine bE hF fun vr h1 hF => ?_
  refine awp_region ?_
  refine aR 3 ?_
  refine aC (place_on_ok h1) [] [] [] ?_
  refine aR 1 ?_
  refine aE ?_
  refine awp_ret ?_
  exact oF hF [] []

/-! ### beaconfleet/place.edges -/
def place_edges_f1_place_where_1_x1_k : Unit ⊕ Unit → AEx
  | .inl _ => .exit 0
  | .inr _ => .ret

def place_edges_f1_place_where_1_x1_S (ql : List api_Spot) (qf : api_Spot) : Unit ⊕ Unit → St
  | .inl _ => Mem.st ⟨[], [(0, [.d (.int .i64 qf.X), .d (.int .i64 qf.Y)])]⟩ (tl []) 1
  | .inr _ => Mem.st ⟨[], [(0, [.d (.int .i64 qf.X), .d (.int .i64 qf.Y)])]⟩ (tl [(4, .v (.one (.d (.bool true))))]) 1

def place_edges_f1_place_where_1_x1_H (ql : List api_Spot) (qf : api_Spot) : Int → St
  | vx => Mem.st ⟨[], [(0, [.d (.int .i64 qf.X), .d (.int .i64 qf.Y)])]⟩ (tl [(0, .v (.one (.d (.lst (List.map api_Spot.enc ql))))), (1, .v (.one (.fn 70 [0]))), (7, .v (.one (.d (.lst (List.map api_Spot.enc ql))))), (8, .v (.one (.d (.int .i64 (ql.length : Int))))), (9, .v (.one (.d (.int .i64 vx))))]) 1

theorem place_edges_f1_place_where_1_x1_ok (ql : List api_Spot) (qf : api_Spot) (vx : Int) (r : (Int) ⊕ (Unit ⊕ Unit)) (hF : place_edges_f1_place_where_1_x1 ql qf vx = some r) : Awp prog 1 26 (cL (cL (cR (cL (cR (cB f66)))))) (Out 1 (kk place_edges_f1_place_where_1_x1_k) (SS (place_edges_f1_place_where_1_x1_H ql qf) (place_edges_f1_place_where_1_x1_S ql qf)) r) (place_edges_f1_place_where_1_x1_H ql qf vx) := by
  unfold place_edges_f1_place_where_1_x1 at hF
  refine awp_seq ?_
  refine awp_region ?_
  refine aR 1 ?_
  refine aE ?_
  refine awp_seq ?_
  refine cE hF (fun h1 hF => ?_) fun h1 hF => ?_
  · refine awp_true (by kernel_rfl) h1 ?_
    refine awp_skip ?_
    refine awp_seq ?_
    refine awp_block ?_
    refine awp_seq ?_
    refine bE hF fun vy2 h2 hF => ?_
    refine awp_region ?_
    refine aR 1 ?_
    refine aX (x_idx api_Spot.enc h2) ?_
    refine aR 4 ?_
    refine aE ?_
    refine awp_seq ?_
    refine gE hF fun h3 hF => ?_
    refine bE hF fun vy3 h4 hF => ?_
    refine bE hF fun vr1_1 h5 hF => ?_
    refine aD ?_
    refine dR 6 ?_
    refine dL api_Spot.enc ql ?_
    refine dX (x_rem h3) ?_
    refine dX (x_idx api_Spot.enc h4) ?_
    refine dR 1 ?_
    refine dC (place_where_1_ok h5) [] [] [] ?_
    refine dE ?_
    refine cE hF (fun h6 hF => ?_) fun h6 hF => ?_
    · refine awp_true (by kernel_rfl) h6 ?_
      refine awp_seq ?_
      refine awp_region ?_
      refine aR 1 ?_
      refine aE ?_
      refine awp_ret ?_
      exact oO hF [] [] rfl
    · refine awp_false (by kernel_rfl) h6 ?_
      refine awp_skip ?_
      refine awp_region ?_
      refine aR 2 ?_
      refine aE ?_
      exact oO hF [] [] rfl
  · refine awp_false (by kernel_rfl) h1 ?_
    refine awp_exit ?_
    exact oO hF [] [] rfl

def place_edges_f1_place_where_1_R (ql : List api_Spot) (qf : api_Spot) (r : Bool) : TV × Mem := (.v (.one (.d (.bool r))), ⟨[], [(0, [.d (.int .i64 qf.X), .d (.int .i64 qf.Y)])]⟩)

theorem place_edges_f1_place_where_1_ok {ql : List api_Spot} {qf : api_Spot} {r} (hF : place_edges_f1_place_where_1 ql qf = some r) : Holds prog 66 [.v (.one (.d (.lst (List.map api_Spot.enc ql)))), .v (.one (.fn 70 [0]))] ⟨[], [(0, [.d (.int .i64 qf.X), .d (.int .i64 qf.Y)])]⟩ (Is (place_edges_f1_place_where_1_R ql qf r)) := by
  unfold place_edges_f1_place_where_1 at hF
  refine holds_of_awp hΓ (fn := f66) (c := cB f66) (A := 1) (nx := 1) (by kernel_rfl) (by kernel_rfl) (by kernel_rfl) (by kernel_rfl) (by kernel_rfl) (by kernel_rfl) (lowc_of (by kernel_rfl)) ?_
  show Awp prog 1 26 (cB f66) _ _
  refine awp_seq ?_
  refine awp_region ?_
  refine aR 1 ?_
  refine aE ?_
  refine awp_seq ?_
  refine awp_seq ?_
  refine awp_region ?_
  refine aR 1 ?_
  refine aL api_Spot.enc ql ?_
  refine aR 1 ?_
  refine aE ?_
  refine awp_block ?_
  refine awp_to (st' := place_edges_f1_place_where_1_x1_H ql qf 0) (oT [] []) ?_
  refine bE hF fun x h7 hF => ?_
  rcases x with _ | _
  · refine awp_sub (awp_loop' (place_edges_f1_place_where_1_x1_H ql qf) place_edges_f1_place_where_1_x1_k (place_edges_f1_place_where_1_x1_S ql qf) (by intro x; rcases x with x | x <;> exact fun h => nomatch h) h7 (place_edges_f1_place_where_1_x1_ok ql qf)) ?_
    refine awp_seq ?_
    refine awp_region ?_
    refine aR 1 ?_
    refine aE ?_
    refine awp_ret ?_
    exact oF hF [] []
  · refine awp_sub (awp_loop' (place_edges_f1_place_where_1_x1_H ql qf) place_edges_f1_place_where_1_x1_k (place_edges_f1_place_where_1_x1_S ql qf) (by intro x; rcases x with x | x <;> exact fun h => nomatch h) h7 (place_edges_f1_place_where_1_x1_ok ql qf)) ?_
    exact oF hF [] []

/-! ### beaconfleet/place.where$2 -/
def place_where_2_x1_k : (api_Spot × api_Spot) → AEx
  | _ => .normal

def place_where_2_x1_S (qa : api_Spot) (qb : api_Spot) (qx : api_Spot) (qx1 : Bool) : (api_Spot × api_Spot) → St
  | (va, vb) => Mem.st ⟨[], [(0, [.d (.int .i64 qx.X), .d (.int .i64 qx.Y)]), (1, [.d (.bool qx1)]), (2, [.d (.int .i64 va.X), .d (.int .i64 va.Y)]), (3, [.d (.int .i64 vb.X), .d (.int .i64 vb.Y)])]⟩ (tl [(2, .v (.one (.box 0 0))), (3, .v (.one (.box 1 0))), (4, .v (.one (.box 2 0))), (5, .v (.one (.box 3 0)))]) 4

def place_where_2_x1_I (qa : api_Spot) (qb : api_Spot) (qx : api_Spot) (qx1 : Bool) : St := Mem.st ⟨[], [(0, [.d (.int .i64 qx.X), .d (.int .i64 qx.Y)]), (1, [.d (.bool qx1)]), (2, [.d (.int .i64 qa.X), .d (.int .i64 qa.Y)]), (3, [.d (.int .i64 qb.X), .d (.int .i64 qb.Y)])]⟩ (tl [(2, .v (.one (.box 0 0))), (3, .v (.one (.box 1 0))), (4, .v (.one (.box 2 0))), (5, .v (.one (.box 3 0)))]) 4

theorem place_where_2_x1_ok (qa : api_Spot) (qb : api_Spot) (qx : api_Spot) (qx1 : Bool) {r} (hF : place_where_2_x1 qa qb = some r) : Awp prog 2 35 (cL (cR (cB f72))) (Out 2 place_where_2_x1_k (place_where_2_x1_S qa qb qx qx1) r) (place_where_2_x1_I qa qb qx qx1) := by
  unfold place_where_2_x1 at hF
  refine awp_seq ?_
  refine awp_region ?_
  refine aR 5 ?_
  refine aE ?_
  refine cE hF (fun h1 hF => ?_) fun h1 hF => ?_
  · refine awp_true (by kernel_rfl) h1 ?_
    refine awp_region ?_
    refine aR 4 ?_
    refine aE ?_
    exact oO hF [] [] rfl
  · refine awp_false (by kernel_rfl) h1 ?_
    refine awp_skip ?_
    exact oO hF [] [] rfl

def place_where_2_x3_k : Bool → AEx
  | _ => .normal

def place_where_2_x3_S (qx : api_Spot) (qx1 : Bool) (va1 : api_Spot) (vb1 : api_Spot) : Bool → St
  | vx => Mem.st ⟨[], [(0, [.d (.int .i64 qx.X), .d (.int .i64 qx.Y)]), (1, [.d (.bool qx1)])]⟩ (tl [(3, .v (.one (.box 1 0))), (32, .v (.one (.d (.bool vx))))]) 2

def place_where_2_x3_I (qx : api_Spot) (qx1 : Bool) (va1 : api_Spot) (vb1 : api_Spot) : St := Mem.st ⟨[], [(0, [.d (.int .i64 qx.X), .d (.int .i64 qx.Y)]), (1, [.d (.bool qx1)]), (2, [.d (.int .i64 va1.X), .d (.int .i64 va1.Y)]), (3, [.d (.int .i64 vb1.X), .d (.int .i64 vb1.Y)])]⟩ (tl [(2, .v (.one (.box 0 0))), (3, .v (.one (.box 1 0))), (4, .v (.one (.box 2 0))), (5, .v (.one (.box 3 0)))]) 4

theorem place_where_2_x3_ok (qx : api_Spot) (qx1 : Bool) (va1 : api_Spot) (vb1 : api_Spot) {r} (hF : place_where_2_x3 qx va1 vb1 = some r) : Awp prog 2 35 (cL (cL (cR (cR (cB f72))))) (Out 2 place_where_2_x3_k (place_where_2_x3_S qx qx1 va1 vb1) r) (place_where_2_x3_I qx qx1 va1 vb1) := by
  unfold place_where_2_x3 at hF
  refine cE hF (fun h3 hF => ?_) fun h3 hF => ?_
  · refine cE hF (fun h4 hF => ?_) fun h4 hF => ?_
    · refine bE hF fun _ h5 hF => ?_
      refine awp_region ?_
      refine aR 4 ?_
      refine aB h3 ?_
      refine aR 5 ?_
      refine aB h4 ?_
      refine aR 5 ?_
      refine aC (place_side_ok h5) [] [] [] ?_
      refine aR 2 ?_
      refine aE ?_
      exact oO hF [] [] rfl
    · refine awp_region ?_
      refine aR 4 ?_
      refine aB h3 ?_
      refine aR 5 ?_
      refine aB h4 ?_
      refine aR 8 ?_
      refine aE ?_
      exact oO hF [] [] rfl
  · refine awp_region ?_
    refine aR 4 ?_
    refine aB h3 ?_
    refine aR 14 ?_
    refine aE ?_
    exact oO hF [] [] rfl

def place_where_2_x2_k : Bool → AEx
  | _ => .normal

def place_where_2_x2_S (qx : api_Spot) (qx1 : Bool) (va1 : api_Spot) (vb1 : api_Spot) : Bool → St
  | vs => Mem.st ⟨[], [(0, [.d (.int .i64 qx.X), .d (.int .i64 qx.Y)]), (1, [.d (.bool vs)])]⟩ (tl []) 2

def place_where_2_x2_I (qx : api_Spot) (qx1 : Bool) (va1 : api_Spot) (vb1 : api_Spot) : St := Mem.st ⟨[], [(0, [.d (.int .i64 qx.X), .d (.int .i64 qx.Y)]), (1, [.d (.bool qx1)]), (2, [.d (.int .i64 va1.X), .d (.int .i64 va1.Y)]), (3, [.d (.int .i64 vb1.X), .d (.int .i64 vb1.Y)])]⟩ (tl [(2, .v (.one (.box 0 0))), (3, .v (.one (.box 1 0))), (4, .v (.one (.box 2 0))), (5, .v (.one (.box 3 0)))]) 4

theorem place_where_2_x2_ok (qx : api_Spot) (qx1 : Bool) (va1 : api_Spot) (vb1 : api_Spot) {r} (hF : place_where_2_x2 qx qx1 va1 vb1 = some r) : Awp prog 2 35 (cL (cR (cR (cB f72)))) (Out 2 place_where_2_x2_k (place_where_2_x2_S qx qx1 va1 vb1) r) (place_where_2_x2_I qx qx1 va1 vb1) := by
  unfold place_where_2_x2 at hF
  refine awp_seq ?_
  refine awp_to (st' := place_where_2_x3_I qx qx1 va1 vb1) (oT [] []) ?_
  refine bE hF fun vx1 h6 hF => ?_
  refine awp_sub (place_where_2_x3_ok qx qx1 va1 vb1 h6) ?_
  refine cE hF (fun h7 hF => ?_) fun h7 hF => ?_
  · refine awp_true (by kernel_rfl) h7 ?_
    refine awp_region ?_
    refine aR 3 ?_
    refine aE ?_
    exact oO hF [] [] rfl
  · refine awp_false (by kernel_rfl) h7 ?_
    refine awp_skip ?_
    exact oO hF [] [] rfl

def place_where_2_R (qa : api_Spot) (qb : api_Spot) (qx : api_Spot) (qx1 : Bool) (r : Bool) : TV × Mem := (.v (.one (.d (.bool false))), ⟨[], [(0, [.d (.int .i64 qx.X), .d (.int .i64 qx.Y)]), (1, [.d (.bool r)])]⟩)

theorem place_where_2_ok {qa : api_Spot} {qb : api_Spot} {qx : api_Spot} {qx1 : Bool} {r} (hF : place_where_2 qa qb qx qx1 = some r) : Holds prog 72 [.v (.agg [.d (.int .i64 qa.X), .d (.int .i64 qa.Y)]), .v (.agg [.d (.int .i64 qb.X), .d (.int .i64 qb.Y)]), .v (.one (.box 0 0)), .v (.one (.box 1 0))] ⟨[], [(0, [.d (.int .i64 qx.X), .d (.int .i64 qx.Y)]), (1, [.d (.bool qx1)])]⟩ (Is (place_where_2_R qa qb qx qx1 r)) := by
  unfold place_where_2 at hF
  refine holds_of_awp hΓ (fn := f72) (c := cB f72) (A := 2) (nx := 2) (by kernel_rfl) (by kernel_rfl) (by kernel_rfl) (by kernel_rfl) (by kernel_rfl) (by kernel_rfl) (lowc_of (by kernel_rfl)) ?_
  show Awp prog 2 35 (cB f72) _ _
  refine awp_seq ?_
  refine awp_region ?_
  refine aR 3 ?_
  refine aE ?_
  refine awp_seq ?_
  refine awp_to (st' := place_where_2_x1_I qa qb qx qx1) (oT [(3, 1002)] []) ?_
  refine bE hF fun x h2 hF => ?_
  obtain ⟨va1, vb1⟩ := x
  refine awp_sub (place_where_2_x1_ok qa qb qx qx1 h2) ?_
  refine awp_seq ?_
  refine awp_to (st' := place_where_2_x2_I qx qx1 va1 vb1) (oT [] []) ?_
  refine bE hF fun vs1 h8 hF => ?_
  refine awp_sub (place_where_2_x2_ok qx qx1 va1 vb1 h8) ?_
  refine awp_seq ?_
  refine awp_region ?_
  refine aR 1 ?_
  refine aE ?_
  refine awp_ret ?_
  exact oF hF [] []

/-! ### beaconfleet/place.edges -/
def place_edges_f1_place_where_2_x1_k : Bool → AEx
  | _ => .exit 0

def place_edges_f1_place_where_2_x1_S (ql : List api_Spot) (qf : api_Spot) : Bool → St
  | vs1 => Mem.st ⟨[], [(0, [.d (.int .i64 qf.X), .d (.int .i64 qf.Y)]), (1, [.d (.bool vs1)])]⟩ (tl []) 2

def place_edges_f1_place_where_2_x1_H (ql : List api_Spot) (qf : api_Spot) : Bool × Int → St
  | (vs, vx) => Mem.st ⟨[], [(0, [.d (.int .i64 qf.X), .d (.int .i64 qf.Y)]), (1, [.d (.bool vs)])]⟩ (tl [(0, .v (.one (.d (.lst (List.map api_Spot.enc ql))))), (1, .v (.one (.fn 72 [0, 1]))), (7, .v (.one (.d (.lst (List.map api_Spot.enc ql))))), (8, .v (.one (.d (.int .i64 (ql.length : Int))))), (9, .v (.one (.d (.int .i64 vx))))]) 2

theorem place_edges_f1_place_where_2_x1_ok (ql : List api_Spot) (qf : api_Spot) (s : Bool × Int) (r : (Bool × Int) ⊕ (Bool)) (hF : place_edges_f1_place_where_2_x1 ql qf s = some r) : Awp prog 2 26 (cL (cL (cR (cL (cR (cB f66)))))) (Out 2 (kk place_edges_f1_place_where_2_x1_k) (SS (place_edges_f1_place_where_2_x1_H ql qf) (place_edges_f1_place_where_2_x1_S ql qf)) r) (place_edges_f1_place_where_2_x1_H ql qf s) := by
  obtain ⟨vs, vx⟩ := s
  unfold place_edges_f1_place_where_2_x1 at hF
  refine awp_seq ?_
  refine awp_region ?_
  refine aR 1 ?_
  refine aE ?_
  refine awp_seq ?_
  refine cE hF (fun h1 hF => ?_) fun h1 hF => ?_
  · refine awp_true (by kernel_rfl) h1 ?_
    refine awp_skip ?_
    refine awp_seq ?_
    refine awp_block ?_
    refine awp_seq ?_
    refine bE hF fun vy2 h2 hF => ?_
    refine awp_region ?_
    refine aR 1 ?_
    refine aX (x_idx api_Spot.enc h2) ?_
    refine aR 4 ?_
    refine aE ?_
    refine awp_seq ?_
    refine gE hF fun h3 hF => ?_
    refine bE hF fun vy3 h4 hF => ?_
    refine bE hF fun vs2_1 h5 hF => ?_
    refine aD ?_
    refine dR 6 ?_
    refine dL api_Spot.enc ql ?_
    refine dX (x_rem h3) ?_
    refine dX (x_idx api_Spot.enc h4) ?_
    refine dR 1 ?_
    refine dC (place_where_2_ok h5) [] [] [] ?_
    refine dE ?_
    refine awp_false (by kernel_rfl) rfl ?_
    refine awp_skip ?_
    refine awp_region ?_
    refine aR 2 ?_
    refine aE ?_
    exact oO hF [] [] rfl
  · refine awp_false (by kernel_rfl) h1 ?_
    refine awp_exit ?_
    exact oO hF [] [] rfl

def place_edges_f1_place_where_2_R (ql : List api_Spot) (qf : api_Spot) (qf1 : Bool) (r : Bool) : TV × Mem := (.v (.one (.d (.bool false))), ⟨[], [(0, [.d (.int .i64 qf.X), .d (.int .i64 qf.Y)]), (1, [.d (.bool r)])]⟩)

theorem place_edges_f1_place_where_2_ok {ql : List api_Spot} {qf : api_Spot} {qf1 : Bool} {r} (hF : place_edges_f1_place_where_2 ql qf qf1 = some r) : Holds prog 66 [.v (.one (.d (.lst (List.map api_Spot.enc ql)))), .v (.one (.fn 72 [0, 1]))] ⟨[], [(0, [.d (.int .i64 qf.X), .d (.int .i64 qf.Y)]), (1, [.d (.bool qf1)])]⟩ (Is (place_edges_f1_place_where_2_R ql qf qf1 r)) := by
  unfold place_edges_f1_place_where_2 at hF
  refine holds_of_awp hΓ (fn := f66) (c := cB f66) (A := 2) (nx := 2) (by kernel_rfl) (by kernel_rfl) (by kernel_rfl) (by kernel_rfl) (by kernel_rfl) (by kernel_rfl) (lowc_of (by kernel_rfl)) ?_
  show Awp prog 2 26 (cB f66) _ _
  refine awp_seq ?_
  refine awp_region ?_
  refine aR 1 ?_
  refine aE ?_
  refine awp_seq ?_
  refine awp_seq ?_
  refine awp_region ?_
  refine aR 1 ?_
  refine aL api_Spot.enc ql ?_
  refine aR 1 ?_
  refine aE ?_
  refine awp_block ?_
  refine awp_to (st' := place_edges_f1_place_where_2_x1_H ql qf (qf1, 0)) (oT [] []) ?_
  refine bE hF fun vs1_1 h6 hF => ?_
  refine awp_sub (awp_loop' (place_edges_f1_place_where_2_x1_H ql qf) place_edges_f1_place_where_2_x1_k (place_edges_f1_place_where_2_x1_S ql qf) (by intro x; exact fun h => nomatch h) h6 (place_edges_f1_place_where_2_x1_ok ql qf)) ?_
  refine awp_seq ?_
  refine awp_region ?_
  refine aR 1 ?_
  refine aE ?_
  refine awp_ret ?_
  exact oF hF [] []

/-! ### beaconfleet/place.where -/
def place_where_R (ql : List api_Spot) (qs : api_Spot) (r : Int) : TV × Mem := (.v (.one (.d (.int .i64 r))), ⟨[], []⟩)

theorem place_where_ok {ql : List api_Spot} {qs : api_Spot} {r} (hF : place_where ql qs = some r) : Holds prog 38 [.v (.one (.d (.lst (List.map api_Spot.enc ql)))), .v (.agg [.d (.int .i64 qs.X), .d (.int .i64 qs.Y)])] ⟨[], []⟩ (Is (place_where_R ql qs r)) := by
  unfold place_where at hF
  refine holds_of_awp hΓ (fn := f38) (c := cB f38) (A := 0) (nx := 0) (by kernel_rfl) (by kernel_rfl) (by kernel_rfl) (by kernel_rfl) (by kernel_rfl) (by kernel_rfl) (lowc_of (by kernel_rfl)) ?_
  show Awp prog 0 13 (cB f38) _ _
  refine awp_seq ?_
  refine awp_region ?_
  refine aR 2 ?_
  refine aE ?_
  refine awp_seq ?_
  refine awp_seq ?_
  refine bE hF fun vr h1 hF => ?_
  refine awp_region ?_
  refine aR 2 ?_
  refine aC (place_edges_f1_place_where_1_ok h1) [] [] [] ?_
  refine aE ?_
  refine cE hF (fun h2 hF => ?_) fun h2 hF => ?_
  · refine awp_true (by kernel_rfl) h2 ?_
    refine awp_seq ?_
    refine awp_region ?_
    refine aR 1 ?_
    refine aE ?_
    refine awp_ret ?_
    exact oF hF [] []
  · refine awp_false (by kernel_rfl) h2 ?_
    refine awp_skip ?_
    refine awp_seq ?_
    refine awp_region ?_
    refine aR 2 ?_
    refine aE ?_
    refine awp_seq ?_
    refine bE hF fun vs3 h3 hF => ?_
    refine awp_region ?_
    refine aR 2 ?_
    refine aC (place_edges_f1_place_where_2_ok h3) [(1, 5000)] [] [] ?_
    refine aE ?_
    refine awp_seq ?_
    refine awp_seq ?_
    refine awp_region ?_
    refine aR 1 ?_
    refine aE ?_
    refine cE hF (fun h4 hF => ?_) fun h4 hF => ?_
    · refine awp_true (by kernel_rfl) h4 ?_
      refine awp_seq ?_
      refine awp_region ?_
      refine aR 1 ?_
      refine aE ?_
      refine awp_ret ?_
      exact oF hF [] []
    · refine awp_false (by kernel_rfl) h4 ?_
      refine awp_skip ?_
      refine awp_seq ?_
      refine awp_region ?_
      refine aR 1 ?_
      refine aE ?_
      refine awp_ret ?_
      exact oF hF [] []

/-! ### beaconfleet/base.Gcd -/
def base_Gcd_x1_k : Int → AEx
  | _ => .exit 0

def base_Gcd_x1_S : Int → St
  | va1 => Mem.st ⟨[], []⟩ (tl [(0, .v (.one (.d (.int .i64 va1))))]) 0

def base_Gcd_x1_H : Int × Int → St
  | (va, vb) => Mem.st ⟨[], []⟩ (tl [(0, .v (.one (.d (.int .i64 va)))), (1, .v (.one (.d (.int .i64 vb))))]) 0

theorem base_Gcd_x1_ok (s : Int × Int) (r : (Int × Int) ⊕ (Int)) (hF : base_Gcd_x1  s = some r) : Awp prog 0 12 (cL (cL (cL (cR (cB f159))))) (Out 0 (kk base_Gcd_x1_k) (SS (base_Gcd_x1_H ) (base_Gcd_x1_S )) r) (base_Gcd_x1_H  s) := by
  obtain ⟨va, vb⟩ := s
  unfold base_Gcd_x1 at hF
  refine awp_seq ?_
  refine awp_seq ?_
  refine awp_region ?_
  refine aR 2 ?_
  refine aE ?_
  refine cE hF (fun h1 hF => ?_) fun h1 hF => ?_
  · refine awp_true (by kernel_rfl) h1 ?_
    refine awp_skip ?_
    refine awp_block ?_
    refine gE hF fun h2 hF => ?_
    refine aD ?_
    refine dR 3 ?_
    refine dX (x_rem h2) ?_
    refine dR 2 ?_
    refine dE ?_
    exact oO hF [] [] rfl
  · refine awp_false (by kernel_rfl) h1 ?_
    refine awp_exit ?_
    exact oO hF [] [] rfl

def base_Gcd_R (qa : Int) (qb : Int) (r : Int) : TV × Mem := (.v (.one (.d (.int .i64 r))), ⟨[], []⟩)

theorem base_Gcd_ok {qa : Int} {qb : Int} {r} (hF : base_Gcd qa qb = some r) : Holds prog 159 [.v (.one (.d (.int .i64 qa))), .v (.one (.d (.int .i64 qb)))] ⟨[], []⟩ (Is (base_Gcd_R qa qb r)) := by
  unfold base_Gcd at hF
  refine holds_of_awp hΓ (fn := f159) (c := cB f159) (A := 0) (nx := 0) (by kernel_rfl) (by kernel_rfl) (by kernel_rfl) (by kernel_rfl) (by kernel_rfl) (by kernel_rfl) (lowc_of (by kernel_rfl)) ?_
  show Awp prog 0 12 (cB f159) _ _
  refine awp_seq ?_
  refine awp_region ?_
  refine aR 1 ?_
  refine aE ?_
  refine awp_seq ?_
  refine awp_block ?_
  refine awp_to (st' := base_Gcd_x1_H  (qa, qb)) (oT [] []) ?_
  refine bE hF fun va1_1 h3 hF => ?_
  refine awp_sub (awp_loop' (base_Gcd_x1_H ) base_Gcd_x1_k (base_Gcd_x1_S ) (by intro x; exact fun h => nomatch h) h3 (base_Gcd_x1_ok )) ?_
  refine awp_seq ?_
  refine awp_region ?_
  refine aR 2 ?_
  refine aE ?_
  refine awp_ret ?_
  exact oF hF [] []

/-! ### beaconfleet/base.Fraction -/
def base_Fraction_R (qnum : Int) (qden : Int) (r : api_Fraction) : TV × Mem := (.v (.agg [.d (.int .i64 r.Num), .d (.int .i64 r.Den)]), ⟨[], []⟩)

theorem base_Fraction_ok {qnum : Int} {qden : Int} {r} (hF : base_Fraction qnum qden = some r) : Holds prog 134 [.v (.one (.d (.int .i64 qnum))), .v (.one (.d (.int .i64 qden)))] ⟨[], []⟩ (Is (base_Fraction_R qnum qden r)) := by
  unfold base_Fraction at hF
  refine holds_of_awp hΓ (fn := f134) (c := cB f134) (A := 0) (nx := 0) (by kernel_rfl) (by kernel_rfl) (by kernel_rfl) (by kernel_rfl) (by kernel_rfl) (by kernel_rfl) (lowc_of (by kernel_rfl)) ?_
  show Awp prog 0 19 (cB f134) _ _
  refine awp_seq ?_
  refine awp_region ?_
  refine aR 1 ?_
  refine aE ?_
  refine awp_seq ?_
  refine bE hF fun vr h1 hF => ?_
  refine awp_region ?_
  refine aR 5 ?_
  refine aC (base_Gcd_ok h1) [] [] [] ?_
  refine aR 1 ?_
  refine aE ?_
  refine awp_seq ?_
  refine gE hF fun h2 hF => ?_
  refine aD ?_
  refine dR 2 ?_
  refine dX (x_quo h2) ?_
  refine dR 2 ?_
  refine dX (x_quo h2) ?_
  refine dR 2 ?_
  refine dE ?_
  refine awp_ret ?_
  exact oF hF [] []

/-! ### beaconfleet/place.far -/
def place_far_R (qa : api_Spot) (qb : api_Spot) (qs : api_Spot) (r : api_Fraction) : TV × Mem := (.v (.agg [.d (.int .i64 r.Num), .d (.int .i64 r.Den)]), ⟨[], []⟩)

theorem place_far_ok {qa : api_Spot} {qb : api_Spot} {qs : api_Spot} {r} (hF : place_far qa qb qs = some r) : Holds prog 106 [.v (.agg [.d (.int .i64 qa.X), .d (.int .i64 qa.Y)]), .v (.agg [.d (.int .i64 qb.X), .d (.int .i64 qb.Y)]), .v (.agg [.d (.int .i64 qs.X), .d (.int .i64 qs.Y)])] ⟨[], []⟩ (Is (place_far_R qa qb qs r)) := by
  unfold place_far at hF
  refine holds_of_awp hΓ (fn := f106) (c := cB f106) (A := 0) (nx := 0) (by kernel_rfl) (by kernel_rfl) (by kernel_rfl) (by kernel_rfl) (by kernel_rfl) (by kernel_rfl) (lowc_of (by kernel_rfl)) ?_
  show Awp prog 0 60 (cB f106) _ _
  refine awp_seq ?_
  refine awp_region ?_
  refine aR 4 ?_
  refine aE ?_
  refine awp_seq ?_
  refine bE hF fun _ h1 hF => ?_
  refine awp_region ?_
  refine aR 2 ?_
  refine aC (place_square_ok h1) [] [] [] ?_
  refine aR 1 ?_
  refine aE ?_
  refine awp_seq ?_
  refine awp_region ?_
  refine aR 24 ?_
  refine aE ?_
  refine awp_seq ?_
  refine awp_block ?_
  refine awp_seq ?_
  refine awp_region ?_
  refine aR 3 ?_
  refine aE ?_
  refine cE hF (fun h2 hF => ?_) fun h2 hF => ?_
  · refine awp_true (by kernel_rfl) h2 ?_
    refine awp_seq ?_
    refine bE hF fun _ h3 hF => ?_
    refine awp_region ?_
    refine aR 2 ?_
    refine aC (place_square_ok h3) [] [] [] ?_
    refine aR 2 ?_
    refine aE ?_
    refine awp_ret ?_
    exact oF hF [] []
  · refine awp_false (by kernel_rfl) h2 ?_
    refine awp_seq ?_
    refine awp_region ?_
    refine aR 4 ?_
    refine aE ?_
    refine cE hF (fun h4 hF => ?_) fun h4 hF => ?_
    · refine awp_true (by kernel_rfl) h4 ?_
      refine awp_seq ?_
      refine bE hF fun _ h5 hF => ?_
      refine awp_region ?_
      refine aR 2 ?_
      refine aC (place_square_ok h5) [] [] [] ?_
      refine aR 2 ?_
      refine aE ?_
      refine awp_ret ?_
      exact oF hF [] []
    · refine awp_false (by kernel_rfl) h4 ?_
      refine awp_skip ?_
      refine awp_seq ?_
      refine bE hF fun _ h6 hF => ?_
      refine awp_region ?_
      refine aR 3 ?_
      refine aC (place_side_ok h6) [] [] [] ?_
      refine aR 1 ?_
      refine aE ?_
      refine awp_seq ?_
      refine bE hF fun vr1 h7 hF => ?_
      refine awp_region ?_
      refine aR 4 ?_
      refine aC (base_Fraction_ok h7) [] [] [] ?_
      refine aR 1 ?_
      refine aE ?_
      refine awp_ret ?_
      exact oF hF [] []

/-! ### math/bits.Mul64 -/
def bits_Mul64_R (qx : Int) (qy : Int) (r : Unit) : TV × Mem := (.tup [.one (.d (.int .u64 (IntKind.wrap .u64 ((IntKind.wrap .u64 ((IntKind.wrap .u64 ((ishr .u64 qx 32) * (ishr .u64 qy 32))) + (ishr .u64 (IntKind.wrap .u64 ((IntKind.wrap .u64 ((ishr .u64 qx 32) * (ibits .and .u64 qy 4294967295))) + (ishr .u64 (IntKind.wrap .u64 ((ibits .and .u64 qx 4294967295) * (ibits .and .u64 qy 4294967295))) 32))) 32))) + (ishr .u64 (IntKind.wrap .u64 ((ibits .and .u64 (IntKind.wrap .u64 ((IntKind.wrap .u64 ((ishr .u64 qx 32) * (ibits .and .u64 qy 4294967295))) + (ishr .u64 (IntKind.wrap .u64 ((ibits .and .u64 qx 4294967295) * (ibits .and .u64 qy 4294967295))) 32))) 4294967295) + (IntKind.wrap .u64 ((ibits .and .u64 qx 4294967295) * (ishr .u64 qy 32))))) 32))))), .one (.d (.int .u64 (IntKind.wrap .u64 (qx * qy))))], ⟨[], []⟩)

theorem bits_Mul64_ok {qx : Int} {qy : Int} {r} (hF : bits_Mul64 qx qy = some r) : Holds prog 133 [.v (.one (.d (.int .u64 qx))), .v (.one (.d (.int .u64 qy)))] ⟨[], []⟩ (Is (bits_Mul64_R qx qy r)) := by
  unfold bits_Mul64 at hF
  refine holds_of_awp hΓ (fn := f133) (c := cB f133) (A := 0) (nx := 0) (by kernel_rfl) (by kernel_rfl) (by kernel_rfl) (by kernel_rfl) (by kernel_rfl) (by kernel_rfl) (lowc_of (by kernel_rfl)) ?_
  show Awp prog 0 51 (cB f133) _ _
  refine awp_seq ?_
  refine awp_region ?_
  refine aR 2 ?_
  refine aE ?_
  refine awp_seq ?_
  refine awp_region ?_
  refine aR 3 ?_
  refine aE ?_
  refine awp_seq ?_
  refine awp_region ?_
  refine aR 3 ?_
  refine aE ?_
  refine awp_seq ?_
  refine awp_region ?_
  refine aR 3 ?_
  refine aE ?_
  refine awp_seq ?_
  refine awp_region ?_
  refine aR 3 ?_
  refine aE ?_
  refine awp_seq ?_
  refine awp_region ?_
  refine aR 4 ?_
  refine aE ?_
  refine awp_seq ?_
  refine awp_region ?_
  refine aR 7 ?_
  refine aE ?_
  refine awp_seq ?_
  refine awp_region ?_
  refine aR 3 ?_
  refine aE ?_
  refine awp_seq ?_
  refine awp_region ?_
  refine aR 3 ?_
  refine aE ?_
  refine awp_seq ?_
  refine awp_region ?_
  refine aR 6 ?_
  refine aE ?_
  refine awp_seq ?_
  refine awp_region ?_
  refine aR 9 ?_
  refine aE ?_
  refine awp_seq ?_
  refine awp_region ?_
  refine aR 4 ?_
  refine aE ?_
  refine awp_ret ?_
  exact oF hF [] []

/-! ### beaconfleet/base.CompareProducts -/
def base_CompareProducts_x2_k : Bool → AEx
  | _ => .normal

def base_CompareProducts_x2_S (qa : Int) (qb : Int) (qc : Int) (qd : Int) : Bool → St
  | vx => Mem.st ⟨[], []⟩ (tl [(9, .v (.one (.d (.int .u64 (IntKind.wrap .u64 ((IntKind.wrap .u64 ((IntKind.wrap .u64 ((ishr .u64 (IntKind.wrap .u64 (qa)) 32) * (ishr .u64 (IntKind.wrap .u64 (qb)) 32))) + (ishr .u64 (IntKind.wrap .u64 ((IntKind.wrap .u64 ((ishr .u64 (IntKind.wrap .u64 (qa)) 32) * (ibits .and .u64 (IntKind.wrap .u64 (qb)) 4294967295))) + (ishr .u64 (IntKind.wrap .u64 ((ibits .and .u64 (IntKind.wrap .u64 (qa)) 4294967295) * (ibits .and .u64 (IntKind.wrap .u64 (qb)) 4294967295))) 32))) 32))) + (ishr .u64 (IntKind.wrap .u64 ((ibits .and .u64 (IntKind.wrap .u64 ((IntKind.wrap .u64 ((ishr .u64 (IntKind.wrap .u64 (qa)) 32) * (ibits .and .u64 (IntKind.wrap .u64 (qb)) 4294967295))) + (ishr .u64 (IntKind.wrap .u64 ((ibits .and .u64 (IntKind.wrap .u64 (qa)) 4294967295) * (ibits .and .u64 (IntKind.wrap .u64 (qb)) 4294967295))) 32))) 4294967295) + (IntKind.wrap .u64 ((ibits .and .u64 (IntKind.wrap .u64 (qa)) 4294967295) * (ishr .u64 (IntKind.wrap .u64 (qb)) 32))))) 32))))))), (10, .v (.one (.d (.int .u64 (IntKind.wrap .u64 ((IntKind.wrap .u64 (qa)) * (IntKind.wrap .u64 (qb)))))))), (11, .v (.one (.d (.int .u64 (IntKind.wrap .u64 ((IntKind.wrap .u64 ((IntKind.wrap .u64 ((ishr .u64 (IntKind.wrap .u64 (qc)) 32) * (ishr .u64 (IntKind.wrap .u64 (qd)) 32))) + (ishr .u64 (IntKind.wrap .u64 ((IntKind.wrap .u64 ((ishr .u64 (IntKind.wrap .u64 (qc)) 32) * (ibits .and .u64 (IntKind.wrap .u64 (qd)) 4294967295))) + (ishr .u64 (IntKind.wrap .u64 ((ibits .and .u64 (IntKind.wrap .u64 (qc)) 4294967295) * (ibits .and .u64 (IntKind.wrap .u64 (qd)) 4294967295))) 32))) 32))) + (ishr .u64 (IntKind.wrap .u64 ((ibits .and .u64 (IntKind.wrap .u64 ((IntKind.wrap .u64 ((ishr .u64 (IntKind.wrap .u64 (qc)) 32) * (ibits .and .u64 (IntKind.wrap .u64 (qd)) 4294967295))) + (ishr .u64 (IntKind.wrap .u64 ((ibits .and .u64 (IntKind.wrap .u64 (qc)) 4294967295) * (ibits .and .u64 (IntKind.wrap .u64 (qd)) 4294967295))) 32))) 4294967295) + (IntKind.wrap .u64 ((ibits .and .u64 (IntKind.wrap .u64 (qc)) 4294967295) * (ishr .u64 (IntKind.wrap .u64 (qd)) 32))))) 32))))))), (12, .v (.one (.d (.int .u64 (IntKind.wrap .u64 ((IntKind.wrap .u64 (qc)) * (IntKind.wrap .u64 (qd)))))))), (29, .v (.one (.d (.bool vx))))]) 0

def base_CompareProducts_x2_I (qa : Int) (qb : Int) (qc : Int) (qd : Int) : St := Mem.st ⟨[], []⟩ (tl [(9, .v (.one (.d (.int .u64 (IntKind.wrap .u64 ((IntKind.wrap .u64 ((IntKind.wrap .u64 ((ishr .u64 (IntKind.wrap .u64 (qa)) 32) * (ishr .u64 (IntKind.wrap .u64 (qb)) 32))) + (ishr .u64 (IntKind.wrap .u64 ((IntKind.wrap .u64 ((ishr .u64 (IntKind.wrap .u64 (qa)) 32) * (ibits .and .u64 (IntKind.wrap .u64 (qb)) 4294967295))) + (ishr .u64 (IntKind.wrap .u64 ((ibits .and .u64 (IntKind.wrap .u64 (qa)) 4294967295) * (ibits .and .u64 (IntKind.wrap .u64 (qb)) 4294967295))) 32))) 32))) + (ishr .u64 (IntKind.wrap .u64 ((ibits .and .u64 (IntKind.wrap .u64 ((IntKind.wrap .u64 ((ishr .u64 (IntKind.wrap .u64 (qa)) 32) * (ibits .and .u64 (IntKind.wrap .u64 (qb)) 4294967295))) + (ishr .u64 (IntKind.wrap .u64 ((ibits .and .u64 (IntKind.wrap .u64 (qa)) 4294967295) * (ibits .and .u64 (IntKind.wrap .u64 (qb)) 4294967295))) 32))) 4294967295) + (IntKind.wrap .u64 ((ibits .and .u64 (IntKind.wrap .u64 (qa)) 4294967295) * (ishr .u64 (IntKind.wrap .u64 (qb)) 32))))) 32))))))), (10, .v (.one (.d (.int .u64 (IntKind.wrap .u64 ((IntKind.wrap .u64 (qa)) * (IntKind.wrap .u64 (qb)))))))), (11, .v (.one (.d (.int .u64 (IntKind.wrap .u64 ((IntKind.wrap .u64 ((IntKind.wrap .u64 ((ishr .u64 (IntKind.wrap .u64 (qc)) 32) * (ishr .u64 (IntKind.wrap .u64 (qd)) 32))) + (ishr .u64 (IntKind.wrap .u64 ((IntKind.wrap .u64 ((ishr .u64 (IntKind.wrap .u64 (qc)) 32) * (ibits .and .u64 (IntKind.wrap .u64 (qd)) 4294967295))) + (ishr .u64 (IntKind.wrap .u64 ((ibits .and .u64 (IntKind.wrap .u64 (qc)) 4294967295) * (ibits .and .u64 (IntKind.wrap .u64 (qd)) 4294967295))) 32))) 32))) + (ishr .u64 (IntKind.wrap .u64 ((ibits .and .u64 (IntKind.wrap .u64 ((IntKind.wrap .u64 ((ishr .u64 (IntKind.wrap .u64 (qc)) 32) * (ibits .and .u64 (IntKind.wrap .u64 (qd)) 4294967295))) + (ishr .u64 (IntKind.wrap .u64 ((ibits .and .u64 (IntKind.wrap .u64 (qc)) 4294967295) * (ibits .and .u64 (IntKind.wrap .u64 (qd)) 4294967295))) 32))) 4294967295) + (IntKind.wrap .u64 ((ibits .and .u64 (IntKind.wrap .u64 (qc)) 4294967295) * (ishr .u64 (IntKind.wrap .u64 (qd)) 32))))) 32))))))), (12, .v (.one (.d (.int .u64 (IntKind.wrap .u64 ((IntKind.wrap .u64 (qc)) * (IntKind.wrap .u64 (qd))))))))]) 0

theorem base_CompareProducts_x2_ok (qa : Int) (qb : Int) (qc : Int) (qd : Int) {r} (hF : base_CompareProducts_x2 qa qb qc qd = some r) : Awp prog 0 55 (cL (cL (cL (cL (cR (cR (cR (cB f104)))))))) (Out 0 base_CompareProducts_x2_k (base_CompareProducts_x2_S qa qb qc qd) r) (base_CompareProducts_x2_I qa qb qc qd) := by
  unfold base_CompareProducts_x2 at hF
  refine cE hF (fun h3 hF => ?_) fun h3 hF => ?_
  · refine awp_region ?_
    refine aR 2 ?_
    refine aB h3 ?_
    refine aR 6 ?_
    refine aE ?_
    exact oO hF [] [] rfl
  · refine awp_region ?_
    refine aR 2 ?_
    refine aB h3 ?_
    refine aR 6 ?_
    refine aE ?_
    exact oO hF [] [] rfl

def base_CompareProducts_x1_k : Bool → AEx
  | _ => .normal

def base_CompareProducts_x1_S (qa : Int) (qb : Int) (qc : Int) (qd : Int) : Bool → St
  | vx2 => Mem.st ⟨[], []⟩ (tl [(9, .v (.one (.d (.int .u64 (IntKind.wrap .u64 ((IntKind.wrap .u64 ((IntKind.wrap .u64 ((ishr .u64 (IntKind.wrap .u64 (qa)) 32) * (ishr .u64 (IntKind.wrap .u64 (qb)) 32))) + (ishr .u64 (IntKind.wrap .u64 ((IntKind.wrap .u64 ((ishr .u64 (IntKind.wrap .u64 (qa)) 32) * (ibits .and .u64 (IntKind.wrap .u64 (qb)) 4294967295))) + (ishr .u64 (IntKind.wrap .u64 ((ibits .and .u64 (IntKind.wrap .u64 (qa)) 4294967295) * (ibits .and .u64 (IntKind.wrap .u64 (qb)) 4294967295))) 32))) 32))) + (ishr .u64 (IntKind.wrap .u64 ((ibits .and .u64 (IntKind.wrap .u64 ((IntKind.wrap .u64 ((ishr .u64 (IntKind.wrap .u64 (qa)) 32) * (ibits .and .u64 (IntKind.wrap .u64 (qb)) 4294967295))) + (ishr .u64 (IntKind.wrap .u64 ((ibits .and .u64 (IntKind.wrap .u64 (qa)) 4294967295) * (ibits .and .u64 (IntKind.wrap .u64 (qb)) 4294967295))) 32))) 4294967295) + (IntKind.wrap .u64 ((ibits .and .u64 (IntKind.wrap .u64 (qa)) 4294967295) * (ishr .u64 (IntKind.wrap .u64 (qb)) 32))))) 32))))))), (10, .v (.one (.d (.int .u64 (IntKind.wrap .u64 ((IntKind.wrap .u64 (qa)) * (IntKind.wrap .u64 (qb)))))))), (11, .v (.one (.d (.int .u64 (IntKind.wrap .u64 ((IntKind.wrap .u64 ((IntKind.wrap .u64 ((ishr .u64 (IntKind.wrap .u64 (qc)) 32) * (ishr .u64 (IntKind.wrap .u64 (qd)) 32))) + (ishr .u64 (IntKind.wrap .u64 ((IntKind.wrap .u64 ((ishr .u64 (IntKind.wrap .u64 (qc)) 32) * (ibits .and .u64 (IntKind.wrap .u64 (qd)) 4294967295))) + (ishr .u64 (IntKind.wrap .u64 ((ibits .and .u64 (IntKind.wrap .u64 (qc)) 4294967295) * (ibits .and .u64 (IntKind.wrap .u64 (qd)) 4294967295))) 32))) 32))) + (ishr .u64 (IntKind.wrap .u64 ((ibits .and .u64 (IntKind.wrap .u64 ((IntKind.wrap .u64 ((ishr .u64 (IntKind.wrap .u64 (qc)) 32) * (ibits .and .u64 (IntKind.wrap .u64 (qd)) 4294967295))) + (ishr .u64 (IntKind.wrap .u64 ((ibits .and .u64 (IntKind.wrap .u64 (qc)) 4294967295) * (ibits .and .u64 (IntKind.wrap .u64 (qd)) 4294967295))) 32))) 4294967295) + (IntKind.wrap .u64 ((ibits .and .u64 (IntKind.wrap .u64 (qc)) 4294967295) * (ishr .u64 (IntKind.wrap .u64 (qd)) 32))))) 32))))))), (12, .v (.one (.d (.int .u64 (IntKind.wrap .u64 ((IntKind.wrap .u64 (qc)) * (IntKind.wrap .u64 (qd)))))))), (29, .v (.one (.d (.bool vx2))))]) 0

def base_CompareProducts_x1_I (qa : Int) (qb : Int) (qc : Int) (qd : Int) : St := Mem.st ⟨[], []⟩ (tl [(9, .v (.one (.d (.int .u64 (IntKind.wrap .u64 ((IntKind.wrap .u64 ((IntKind.wrap .u64 ((ishr .u64 (IntKind.wrap .u64 (qa)) 32) * (ishr .u64 (IntKind.wrap .u64 (qb)) 32))) + (ishr .u64 (IntKind.wrap .u64 ((IntKind.wrap .u64 ((ishr .u64 (IntKind.wrap .u64 (qa)) 32) * (ibits .and .u64 (IntKind.wrap .u64 (qb)) 4294967295))) + (ishr .u64 (IntKind.wrap .u64 ((ibits .and .u64 (IntKind.wrap .u64 (qa)) 4294967295) * (ibits .and .u64 (IntKind.wrap .u64 (qb)) 4294967295))) 32))) 32))) + (ishr .u64 (IntKind.wrap .u64 ((ibits .and .u64 (IntKind.wrap .u64 ((IntKind.wrap .u64 ((ishr .u64 (IntKind.wrap .u64 (qa)) 32) * (ibits .and .u64 (IntKind.wrap .u64 (qb)) 4294967295))) + (ishr .u64 (IntKind.wrap .u64 ((ibits .and .u64 (IntKind.wrap .u64 (qa)) 4294967295) * (ibits .and .u64 (IntKind.wrap .u64 (qb)) 4294967295))) 32))) 4294967295) + (IntKind.wrap .u64 ((ibits .and .u64 (IntKind.wrap .u64 (qa)) 4294967295) * (ishr .u64 (IntKind.wrap .u64 (qb)) 32))))) 32))))))), (10, .v (.one (.d (.int .u64 (IntKind.wrap .u64 ((IntKind.wrap .u64 (qa)) * (IntKind.wrap .u64 (qb)))))))), (11, .v (.one (.d (.int .u64 (IntKind.wrap .u64 ((IntKind.wrap .u64 ((IntKind.wrap .u64 ((ishr .u64 (IntKind.wrap .u64 (qc)) 32) * (ishr .u64 (IntKind.wrap .u64 (qd)) 32))) + (ishr .u64 (IntKind.wrap .u64 ((IntKind.wrap .u64 ((ishr .u64 (IntKind.wrap .u64 (qc)) 32) * (ibits .and .u64 (IntKind.wrap .u64 (qd)) 4294967295))) + (ishr .u64 (IntKind.wrap .u64 ((ibits .and .u64 (IntKind.wrap .u64 (qc)) 4294967295) * (ibits .and .u64 (IntKind.wrap .u64 (qd)) 4294967295))) 32))) 32))) + (ishr .u64 (IntKind.wrap .u64 ((ibits .and .u64 (IntKind.wrap .u64 ((IntKind.wrap .u64 ((ishr .u64 (IntKind.wrap .u64 (qc)) 32) * (ibits .and .u64 (IntKind.wrap .u64 (qd)) 4294967295))) + (ishr .u64 (IntKind.wrap .u64 ((ibits .and .u64 (IntKind.wrap .u64 (qc)) 4294967295) * (ibits .and .u64 (IntKind.wrap .u64 (qd)) 4294967295))) 32))) 4294967295) + (IntKind.wrap .u64 ((ibits .and .u64 (IntKind.wrap .u64 (qc)) 4294967295) * (ishr .u64 (IntKind.wrap .u64 (qd)) 32))))) 32))))))), (12, .v (.one (.d (.int .u64 (IntKind.wrap .u64 ((IntKind.wrap .u64 (qc)) * (IntKind.wrap .u64 (qd))))))))]) 0

theorem base_CompareProducts_x1_ok (qa : Int) (qb : Int) (qc : Int) (qd : Int) {r} (hF : base_CompareProducts_x1 qa qb qc qd = some r) : Awp prog 0 55 (cL (cL (cL (cR (cR (cR (cB f104))))))) (Out 0 base_CompareProducts_x1_k (base_CompareProducts_x1_S qa qb qc qd) r) (base_CompareProducts_x1_I qa qb qc qd) := by
  unfold base_CompareProducts_x1 at hF
  refine awp_seq ?_
  refine awp_to (st' := base_CompareProducts_x2_I qa qb qc qd) (oT [] []) ?_
  refine bE hF fun vx1 h4 hF => ?_
  refine awp_sub (base_CompareProducts_x2_ok qa qb qc qd h4) ?_
  refine cE hF (fun h5 hF => ?_) fun h5 hF => ?_
  · refine awp_true (by kernel_rfl) h5 ?_
    refine awp_skip ?_
    exact oO hF [] [] rfl
  · refine awp_false (by kernel_rfl) h5 ?_
    refine cE hF (fun h6 hF => ?_) fun h6 hF => ?_
    · refine awp_region ?_
      refine aR 2 ?_
      refine aB h6 ?_
      refine aR 6 ?_
      refine aE ?_
      exact oO hF [] [] rfl
    · refine awp_region ?_
      refine aR 2 ?_
      refine aB h6 ?_
      refine aR 6 ?_
      refine aE ?_
      exact oO hF [] [] rfl

def base_CompareProducts_x3_k : Bool → AEx
  | _ => .normal

def base_CompareProducts_x3_S (qa : Int) (qb : Int) (qc : Int) (qd : Int) : Bool → St
  | vx3 => Mem.st ⟨[], []⟩ (tl [(46, .v (.one (.d (.bool vx3))))]) 0

def base_CompareProducts_x3_I (qa : Int) (qb : Int) (qc : Int) (qd : Int) : St := Mem.st ⟨[], []⟩ (tl [(9, .v (.one (.d (.int .u64 (IntKind.wrap .u64 ((IntKind.wrap .u64 ((IntKind.wrap .u64 ((ishr .u64 (IntKind.wrap .u64 (qa)) 32) * (ishr .u64 (IntKind.wrap .u64 (qb)) 32))) + (ishr .u64 (IntKind.wrap .u64 ((IntKind.wrap .u64 ((ishr .u64 (IntKind.wrap .u64 (qa)) 32) * (ibits .and .u64 (IntKind.wrap .u64 (qb)) 4294967295))) + (ishr .u64 (IntKind.wrap .u64 ((ibits .and .u64 (IntKind.wrap .u64 (qa)) 4294967295) * (ibits .and .u64 (IntKind.wrap .u64 (qb)) 4294967295))) 32))) 32))) + (ishr .u64 (IntKind.wrap .u64 ((ibits .and .u64 (IntKind.wrap .u64 ((IntKind.wrap .u64 ((ishr .u64 (IntKind.wrap .u64 (qa)) 32) * (ibits .and .u64 (IntKind.wrap .u64 (qb)) 4294967295))) + (ishr .u64 (IntKind.wrap .u64 ((ibits .and .u64 (IntKind.wrap .u64 (qa)) 4294967295) * (ibits .and .u64 (IntKind.wrap .u64 (qb)) 4294967295))) 32))) 4294967295) + (IntKind.wrap .u64 ((ibits .and .u64 (IntKind.wrap .u64 (qa)) 4294967295) * (ishr .u64 (IntKind.wrap .u64 (qb)) 32))))) 32))))))), (10, .v (.one (.d (.int .u64 (IntKind.wrap .u64 ((IntKind.wrap .u64 (qa)) * (IntKind.wrap .u64 (qb)))))))), (11, .v (.one (.d (.int .u64 (IntKind.wrap .u64 ((IntKind.wrap .u64 ((IntKind.wrap .u64 ((ishr .u64 (IntKind.wrap .u64 (qc)) 32) * (ishr .u64 (IntKind.wrap .u64 (qd)) 32))) + (ishr .u64 (IntKind.wrap .u64 ((IntKind.wrap .u64 ((ishr .u64 (IntKind.wrap .u64 (qc)) 32) * (ibits .and .u64 (IntKind.wrap .u64 (qd)) 4294967295))) + (ishr .u64 (IntKind.wrap .u64 ((ibits .and .u64 (IntKind.wrap .u64 (qc)) 4294967295) * (ibits .and .u64 (IntKind.wrap .u64 (qd)) 4294967295))) 32))) 32))) + (ishr .u64 (IntKind.wrap .u64 ((ibits .and .u64 (IntKind.wrap .u64 ((IntKind.wrap .u64 ((ishr .u64 (IntKind.wrap .u64 (qc)) 32) * (ibits .and .u64 (IntKind.wrap .u64 (qd)) 4294967295))) + (ishr .u64 (IntKind.wrap .u64 ((ibits .and .u64 (IntKind.wrap .u64 (qc)) 4294967295) * (ibits .and .u64 (IntKind.wrap .u64 (qd)) 4294967295))) 32))) 4294967295) + (IntKind.wrap .u64 ((ibits .and .u64 (IntKind.wrap .u64 (qc)) 4294967295) * (ishr .u64 (IntKind.wrap .u64 (qd)) 32))))) 32))))))), (12, .v (.one (.d (.int .u64 (IntKind.wrap .u64 ((IntKind.wrap .u64 (qc)) * (IntKind.wrap .u64 (qd))))))))]) 0

theorem base_CompareProducts_x3_ok (qa : Int) (qb : Int) (qc : Int) (qd : Int) {r} (hF : base_CompareProducts_x3 qa qb qc qd = some r) : Awp prog 0 55 (cL (cR (cR (cL (cL (cR (cR (cR (cB f104))))))))) (Out 0 base_CompareProducts_x3_k (base_CompareProducts_x3_S qa qb qc qd) r) (base_CompareProducts_x3_I qa qb qc qd) := by
  unfold base_CompareProducts_x3 at hF
  refine cE hF (fun h9 hF => ?_) fun h9 hF => ?_
  · refine awp_region ?_
    refine aR 2 ?_
    refine aB h9 ?_
    refine aR 6 ?_
    refine aE ?_
    exact oO hF [] [] rfl
  · refine awp_region ?_
    refine aR 2 ?_
    refine aB h9 ?_
    refine aR 6 ?_
    refine aE ?_
    exact oO hF [] [] rfl

def base_CompareProducts_R (qa : Int) (qb : Int) (qc : Int) (qd : Int) (r : Int) : TV × Mem := (.v (.one (.d (.int .i64 r))), ⟨[], []⟩)

theorem base_CompareProducts_ok {qa : Int} {qb : Int} {qc : Int} {qd : Int} {r} (hF : base_CompareProducts qa qb qc qd = some r) : Holds prog 104 [.v (.one (.d (.int .i64 qa))), .v (.one (.d (.int .i64 qb))), .v (.one (.d (.int .i64 qc))), .v (.one (.d (.int .i64 qd)))] ⟨[], []⟩ (Is (base_CompareProducts_R qa qb qc qd r)) := by
  unfold base_CompareProducts at hF
  refine holds_of_awp hΓ (fn := f104) (c := cB f104) (A := 0) (nx := 0) (by kernel_rfl) (by kernel_rfl) (by kernel_rfl) (by kernel_rfl) (by kernel_rfl) (by kernel_rfl) (lowc_of (by kernel_rfl)) ?_
  show Awp prog 0 55 (cB f104) _ _
  refine awp_seq ?_
  refine awp_region ?_
  refine aR 1 ?_
  refine aE ?_
  refine awp_seq ?_
  refine bE hF fun _ h1 hF => ?_
  refine awp_region ?_
  refine aR 4 ?_
  refine aC (bits_Mul64_ok h1) [] [] [] ?_
  refine aR 5 ?_
  refine aE ?_
  refine awp_seq ?_
  refine bE hF fun _ h2 hF => ?_
  refine awp_region ?_
  refine aR 4 ?_
  refine aC (bits_Mul64_ok h2) [] [] [] ?_
  refine aR 5 ?_
  refine aE ?_
  refine awp_seq ?_
  refine awp_block ?_
  refine awp_seq ?_
  refine awp_to (st' := base_CompareProducts_x1_I qa qb qc qd) (oT [] []) ?_
  refine bE hF fun vx2_1 h7 hF => ?_
  refine awp_sub (base_CompareProducts_x1_ok qa qb qc qd h7) ?_
  refine cE hF (fun h8 hF => ?_) fun h8 hF => ?_
  · refine awp_true (by kernel_rfl) h8 ?_
    refine awp_seq ?_
    refine awp_region ?_
    refine aR 1 ?_
    refine aE ?_
    refine awp_ret ?_
    exact oF hF [] []
  · refine awp_false (by kernel_rfl) h8 ?_
    refine awp_seq ?_
    refine awp_to (st' := base_CompareProducts_x3_I qa qb qc qd) (oT [] []) ?_
    refine bE hF fun vx3_1 h10 hF => ?_
    refine awp_sub (base_CompareProducts_x3_ok qa qb qc qd h10) ?_
    refine cE hF (fun h11 hF => ?_) fun h11 hF => ?_
    · refine awp_true (by kernel_rfl) h11 ?_
      refine awp_seq ?_
      refine awp_region ?_
      refine aR 1 ?_
      refine aE ?_
      refine awp_ret ?_
      exact oF hF [] []
    · refine awp_false (by kernel_rfl) h11 ?_
      refine awp_skip ?_
      refine awp_seq ?_
      refine awp_region ?_
      refine aR 1 ?_
      refine aE ?_
      refine awp_ret ?_
      exact oF hF [] []

/-! ### beaconfleet/place.less -/
def place_less_R (qa : api_Fraction) (qb : api_Fraction) (r : Bool) : TV × Mem := (.v (.one (.d (.bool r))), ⟨[], []⟩)

theorem place_less_ok {qa : api_Fraction} {qb : api_Fraction} {r} (hF : place_less qa qb = some r) : Holds prog 74 [.v (.agg [.d (.int .i64 qa.Num), .d (.int .i64 qa.Den)]), .v (.agg [.d (.int .i64 qb.Num), .d (.int .i64 qb.Den)])] ⟨[], []⟩ (Is (place_less_R qa qb r)) := by
  unfold place_less at hF
  refine holds_of_awp hΓ (fn := f74) (c := cB f74) (A := 0) (nx := 0) (by kernel_rfl) (by kernel_rfl) (by kernel_rfl) (by kernel_rfl) (by kernel_rfl) (by kernel_rfl) (lowc_of (by kernel_rfl)) ?_
  show Awp prog 0 15 (cB f74) _ _
  refine awp_seq ?_
  refine awp_region ?_
  refine aR 3 ?_
  refine aE ?_
  refine awp_seq ?_
  refine bE hF fun vr h1 hF => ?_
  refine awp_region ?_
  refine aR 8 ?_
  refine aC (base_CompareProducts_ok h1) [] [] [] ?_
  refine aR 2 ?_
  refine aE ?_
  refine awp_ret ?_
  exact oF hF [] []

/-! ### beaconfleet/place.farOf$1 -/
def place_farOf_1_x2_k : Bool → AEx
  | _ => .normal

def place_farOf_1_x2_S (qx : api_Spot) (qx1 : api_Fraction) (vr : api_Fraction) : Bool → St
  | vx => Mem.st ⟨[], [(0, [.d (.int .i64 qx.X), .d (.int .i64 qx.Y)]), (1, [.d (.int .i64 qx1.Num), .d (.int .i64 qx1.Den)]), (2, [.d (.int .i64 vr.Num), .d (.int .i64 vr.Den)])]⟩ (tl [(3, .v (.one (.box 1 0))), (7, .v (.one (.box 2 0))), (19, .v (.one (.d (.bool vx))))]) 3

def place_farOf_1_x2_I (qx : api_Spot) (qx1 : api_Fraction) (vr : api_Fraction) : St := Mem.st ⟨[], [(0, [.d (.int .i64 qx.X), .d (.int .i64 qx.Y)]), (1, [.d (.int .i64 qx1.Num), .d (.int .i64 qx1.Den)]), (2, [.d (.int .i64 vr.Num), .d (.int .i64 vr.Den)])]⟩ (tl [(3, .v (.one (.box 1 0))), (7, .v (.one (.box 2 0)))]) 3

theorem place_farOf_1_x2_ok (qx : api_Spot) (qx1 : api_Fraction) (vr : api_Fraction) {r} (hF : place_farOf_1_x2 qx1 vr = some r) : Awp prog 2 21 (cL (cR (cL (cR (cB f105))))) (Out 2 place_farOf_1_x2_k (place_farOf_1_x2_S qx qx1 vr) r) (place_farOf_1_x2_I qx qx1 vr) := by
  unfold place_farOf_1_x2 at hF
  refine cE hF (fun h2 hF => ?_) fun h2 hF => ?_
  · refine awp_region ?_
    refine aR 2 ?_
    refine aB h2 ?_
    refine aR 5 ?_
    refine aE ?_
    exact oO hF [] [] rfl
  · refine bE hF fun vr1 h3 hF => ?_
    refine awp_region ?_
    refine aR 2 ?_
    refine aB h2 ?_
    refine aR 3 ?_
    refine aC (place_less_ok h3) [] [] [] ?_
    refine aR 1 ?_
    refine aE ?_
    exact oO hF [] [] rfl

def place_farOf_1_x1_k : api_Fraction → AEx
  | _ => .normal

def place_farOf_1_x1_S (qa : api_Spot) (qb : api_Spot) (qx : api_Spot) (qx1 : api_Fraction) : api_Fraction → St
  | vs => Mem.st ⟨[], [(0, [.d (.int .i64 qx.X), .d (.int .i64 qx.Y)]), (1, [.d (.int .i64 vs.Num), .d (.int .i64 vs.Den)])]⟩ (tl []) 2

def place_farOf_1_x1_I (qa : api_Spot) (qb : api_Spot) (qx : api_Spot) (qx1 : api_Fraction) : St := Mem.st ⟨[], [(0, [.d (.int .i64 qx.X), .d (.int .i64 qx.Y)]), (1, [.d (.int .i64 qx1.Num), .d (.int .i64 qx1.Den)]), (2, [.d (.int .i64 qa.X), .d (.int .i64 qa.Y)]), (3, [.d (.int .i64 qb.X), .d (.int .i64 qb.Y)])]⟩ (tl [(2, .v (.one (.box 0 0))), (3, .v (.one (.box 1 0))), (4, .v (.one (.box 2 0))), (5, .v (.one (.box 3 0)))]) 4

theorem place_farOf_1_x1_ok (qa : api_Spot) (qb : api_Spot) (qx : api_Spot) (qx1 : api_Fraction) {r} (hF : place_farOf_1_x1 qa qb qx qx1 = some r) : Awp prog 2 21 (cL (cR (cB f105))) (Out 2 place_farOf_1_x1_k (place_farOf_1_x1_S qa qb qx qx1) r) (place_farOf_1_x1_I qa qb qx qx1) := by
  unfold place_farOf_1_x1 at hF
  refine awp_seq ?_
  refine bE hF fun vr h1 hF => ?_
  refine awp_region ?_
  refine aR 3 ?_
  refine aC (place_far_ok h1) [] [] [] ?_
  refine aR 2 ?_
  refine aE ?_
  refine awp_seq ?_
  refine awp_to (st' := place_farOf_1_x2_I qx qx1 vr) (oT [(2, 4004)] []) ?_
  refine bE hF fun vx1 h4 hF => ?_
  refine awp_sub (place_farOf_1_x2_ok qx qx1 vr h4) ?_
  refine cE hF (fun h5 hF => ?_) fun h5 hF => ?_
  · refine awp_true (by kernel_rfl) h5 ?_
    refine awp_region ?_
    refine aR 2 ?_
    refine aE ?_
    exact oO hF [] [] rfl
  · refine awp_false (by kernel_rfl) h5 ?_
    refine awp_skip ?_
    exact oO hF [] [] rfl

def place_farOf_1_R (qa : api_Spot) (qb : api_Spot) (qx : api_Spot) (qx1 : api_Fraction) (r : api_Fraction) : TV × Mem := (.v (.one (.d (.bool false))), ⟨[], [(0, [.d (.int .i64 qx.X), .d (.int .i64 qx.Y)]), (1, [.d (.int .i64 r.Num), .d (.int .i64 r.Den)])]⟩)

theorem place_farOf_1_ok {qa : api_Spot} {qb : api_Spot} {qx : api_Spot} {qx1 : api_Fraction} {r} (hF : place_farOf_1 qa qb qx qx1 = some r) : Holds prog 105 [.v (.agg [.d (.int .i64 qa.X), .d (.int .i64 qa.Y)]), .v (.agg [.d (.int .i64 qb.X), .d (.int .i64 qb.Y)]), .v (.one (.box 0 0)), .v (.one (.box 1 0))] ⟨[], [(0, [.d (.int .i64 qx.X), .d (.int .i64 qx.Y)]), (1, [.d (.int .i64 qx1.Num), .d (.int .i64 qx1.Den)])]⟩ (Is (place_farOf_1_R qa qb qx qx1 r)) := by
  unfold place_farOf_1 at hF
  refine holds_of_awp hΓ (fn := f105) (c := cB f105) (A := 2) (nx := 2) (by kernel_rfl) (by kernel_rfl) (by kernel_rfl) (by kernel_rfl) (by kernel_rfl) (by kernel_rfl) (lowc_of (by kernel_rfl)) ?_
  show Awp prog 2 21 (cB f105) _ _
  refine awp_seq ?_
  refine awp_region ?_
  refine aR 3 ?_
  refine aE ?_
  refine awp_seq ?_
  refine awp_to (st' := place_farOf_1_x1_I qa qb qx qx1) (oT [(3, 1002)] []) ?_
  refine bE hF fun vs1 h6 hF => ?_
  refine awp_sub (place_farOf_1_x1_ok qa qb qx qx1 h6) ?_
  refine awp_seq ?_
  refine awp_region ?_
  refine aR 1 ?_
  refine aE ?_
  refine awp_ret ?_
  exact oF hF [] []

/-! ### beaconfleet/place.edges -/
def place_edges_f1_place_farOf_1_x1_k : api_Fraction → AEx
  | _ => .exit 0

def place_edges_f1_place_farOf_1_x1_S (ql : List api_Spot) (qf : api_Spot) : api_Fraction → St
  | vs1 => Mem.st ⟨[], [(0, [.d (.int .i64 qf.X), .d (.int .i64 qf.Y)]), (1, [.d (.int .i64 vs1.Num), .d (.int .i64 vs1.Den)])]⟩ (tl []) 2

def place_edges_f1_place_farOf_1_x1_H (ql : List api_Spot) (qf : api_Spot) : api_Fraction × Int → St
  | (vs, vx) => Mem.st ⟨[], [(0, [.d (.int .i64 qf.X), .d (.int .i64 qf.Y)]), (1, [.d (.int .i64 vs.Num), .d (.int .i64 vs.Den)])]⟩ (tl [(0, .v (.one (.d (.lst (List.map api_Spot.enc ql))))), (1, .v (.one (.fn 105 [0, 1]))), (7, .v (.one (.d (.lst (List.map api_Spot.enc ql))))), (8, .v (.one (.d (.int .i64 (ql.length : Int))))), (9, .v (.one (.d (.int .i64 vx))))]) 2

theorem place_edges_f1_place_farOf_1_x1_ok (ql : List api_Spot) (qf : api_Spot) (s : api_Fraction × Int) (r : (api_Fraction × Int) ⊕ (api_Fraction)) (hF : place_edges_f1_place_farOf_1_x1 ql qf s = some r) : Awp prog 2 26 (cL (cL (cR (cL (cR (cB f66)))))) (Out 2 (kk place_edges_f1_place_farOf_1_x1_k) (SS (place_edges_f1_place_farOf_1_x1_H ql qf) (place_edges_f1_place_farOf_1_x1_S ql qf)) r) (place_edges_f1_place_farOf_1_x1_H ql qf s) := by
  obtain ⟨vs, vx⟩ := s
  unfold place_edges_f1_place_farOf_1_x1 at hF
  refine awp_seq ?_
  refine awp_region ?_
  refine aR 1 ?_
  refine aE ?_
  refine awp_seq ?_
  refine cE hF (fun h1 hF => ?_) fun h1 hF => ?_
  · refine awp_true (by kernel_rfl) h1 ?_
    refine awp_skip ?_
    refine awp_seq ?_
    refine awp_block ?_
    refine awp_seq ?_
    refine bE hF fun vy2 h2 hF => ?_
    refine awp_region ?_
    refine aR 1 ?_
    refine aX (x_idx api_Spot.enc h2) ?_
    refine aR 4 ?_
    refine aE ?_
    refine awp_seq ?_
    refine gE hF fun h3 hF => ?_
    refine bE hF fun vy3 h4 hF => ?_
    refine bE hF fun vs2_1 h5 hF => ?_
    refine aD ?_
    refine dR 6 ?_
    refine dL api_Spot.enc ql ?_
    refine dX (x_rem h3) ?_
    refine dX (x_idx api_Spot.enc h4) ?_
    refine dR 1 ?_
    refine dC (place_farOf_1_ok h5) [] [] [] ?_
    refine dE ?_
    refine awp_false (by kernel_rfl) rfl ?_
    refine awp_skip ?_
    refine awp_region ?_
    refine aR 2 ?_
    refine aE ?_
    exact oO hF [] [] rfl
  · refine awp_false (by kernel_rfl) h1 ?_
    refine awp_exit ?_
    exact oO hF [] [] rfl

def place_edges_f1_place_farOf_1_R (ql : List api_Spot) (qf : api_Spot) (qf1 : api_Fraction) (r : api_Fraction) : TV × Mem := (.v (.one (.d (.bool false))), ⟨[], [(0, [.d (.int .i64 qf.X), .d (.int .i64 qf.Y)]), (1, [.d (.int .i64 r.Num), .d (.int .i64 r.Den)])]⟩)

theorem place_edges_f1_place_farOf_1_ok {ql : List api_Spot} {qf : api_Spot} {qf1 : api_Fraction} {r} (hF : place_edges_f1_place_farOf_1 ql qf qf1 = some r) : Holds prog 66 [.v (.one (.d (.lst (List.map api_Spot.enc ql)))), .v (.one (.fn 105 [0, 1]))] ⟨[], [(0, [.d (.int .i64 qf.X), .d (.int .i64 qf.Y)]), (1, [.d (.int .i64 qf1.Num), .d (.int .i64 qf1.Den)])]⟩ (Is (place_edges_f1_place_farOf_1_R ql qf qf1 r)) := by
  unfold place_edges_f1_place_farOf_1 at hF
  refine holds_of_awp hΓ (fn := f66) (c := cB f66) (A := 2) (nx := 2) (by kernel_rfl) (by kernel_rfl) (by kernel_rfl) (by kernel_rfl) (by kernel_rfl) (by kernel_rfl) (lowc_of (by kernel_rfl)) ?_
  show Awp prog 2 26 (cB f66) _ _
  refine awp_seq ?_
  refine awp_region ?_
  refine aR 1 ?_
  refine aE ?_
  refine awp_seq ?_
  refine awp_seq ?_
  refine awp_region ?_
  refine aR 1 ?_
  refine aL api_Spot.enc ql ?_
  refine aR 1 ?_
  refine aE ?_
  refine awp_block ?_
  refine awp_to (st' := place_edges_f1_place_farOf_1_x1_H ql qf (qf1, 0)) (oT [] []) ?_
  refine bE hF fun vs1_1 h6 hF => ?_
  refine awp_sub (awp_loop' (place_edges_f1_place_farOf_1_x1_H ql qf) place_edges_f1_place_farOf_1_x1_k (place_edges_f1_place_farOf_1_x1_S ql qf) (by intro x; exact fun h => nomatch h) h6 (place_edges_f1_place_farOf_1_x1_ok ql qf)) ?_
  refine awp_seq ?_
  refine awp_region ?_
  refine aR 1 ?_
  refine aE ?_
  refine awp_ret ?_
  exact oF hF [] []

/-! ### beaconfleet/place.farOf -/
def place_farOf_R (ql : List api_Spot) (qs : api_Spot) (r : api_Fraction) : TV × Mem := (.v (.agg [.d (.int .i64 r.Num), .d (.int .i64 r.Den)]), ⟨[], []⟩)

theorem place_farOf_ok {ql : List api_Spot} {qs : api_Spot} {r} (hF : place_farOf ql qs = some r) : Holds prog 75 [.v (.one (.d (.lst (List.map api_Spot.enc ql)))), .v (.agg [.d (.int .i64 qs.X), .d (.int .i64 qs.Y)])] ⟨[], []⟩ (Is (place_farOf_R ql qs r)) := by
  unfold place_farOf at hF
  refine holds_of_awp hΓ (fn := f75) (c := cB f75) (A := 0) (nx := 0) (by kernel_rfl) (by kernel_rfl) (by kernel_rfl) (by kernel_rfl) (by kernel_rfl) (by kernel_rfl) (lowc_of (by kernel_rfl)) ?_
  show Awp prog 0 11 (cB f75) _ _
  refine awp_seq ?_
  refine awp_region ?_
  refine aR 2 ?_
  refine aE ?_
  refine awp_seq ?_
  refine awp_region ?_
  refine aR 3 ?_
  refine aE ?_
  refine awp_seq ?_
  refine bE hF fun vs3 h1 hF => ?_
  refine awp_region ?_
  refine aR 2 ?_
  refine aC (place_edges_f1_place_farOf_1_ok h1) [(1, 3000)] [] [] ?_
  refine aE ?_
  refine awp_seq ?_
  refine awp_region ?_
  refine aR 2 ?_
  refine aE ?_
  refine awp_ret ?_
  exact oF hF [] []

/-! ### beaconfleet/place.surely -/
def place_surely_x1_k : Bool → AEx
  | _ => .normal

def place_surely_x1_S (ql : List api_Spot) (qx : api_Fix) (vr1 : Int) : Bool → St
  | vx => Mem.st ⟨[], []⟩ (tl [(6, .v (.one (.d (.int .i64 vr1)))), (29, .v (.one (.d (.bool vx))))]) 0

def place_surely_x1_I (ql : List api_Spot) (qx : api_Fix) (vr1 : Int) : St := Mem.st ⟨[], [(0, [.d (.str qx.Device), .d (.int .i64 qx.At), .d (.int .i64 qx.X), .d (.int .i64 qx.Y), .d (.int .i64 qx.Error)]), (1, [.d (.int .i64 qx.X), .d (.int .i64 qx.Y)])]⟩ (tl [(0, .v (.one (.d (.lst (List.map api_Spot.enc ql))))), (3, .v (.one (.box 0 0))), (5, .v (.one (.box 1 0))), (6, .v (.one (.d (.int .i64 vr1))))]) 2

theorem place_surely_x1_ok (ql : List api_Spot) (qx : api_Fix) (vr1 : Int) {r} (hF : place_surely_x1 ql qx vr1 = some r) : Awp prog 0 31 (cL (cL (cR (cR (cR (cB f39)))))) (Out 0 place_surely_x1_k (place_surely_x1_S ql qx vr1) r) (place_surely_x1_I ql qx vr1) := by
  unfold place_surely_x1 at hF
  refine cE hF (fun h2 hF => ?_) fun h2 hF => ?_
  · refine aD ?_
    refine dR 1 ?_
    refine dB h2 ?_
    refine dR 13 ?_
    refine dE ?_
    exact oO hF [] [] rfl
  · refine bE hF fun vr h3 hF => ?_
    refine bE hF fun vr1_1 h4 hF => ?_
    refine aD ?_
    refine dR 1 ?_
    refine dB h2 ?_
    refine dR 9 ?_
    refine dC (place_farOf_ok h3) [] [] [] ?_
    refine dC (place_less_ok h4) [] [] [] ?_
    refine dR 2 ?_
    refine dE ?_
    exact oO hF [] [] rfl

def place_surely_R (ql : List api_Spot) (qx : api_Fix) (r : Int) : TV × Mem := (.v (.one (.d (.int .i64 r))), ⟨[], []⟩)

theorem place_surely_ok {ql : List api_Spot} {qx : api_Fix} {r} (hF : place_surely ql qx = some r) : Holds prog 39 [.v (.one (.d (.lst (List.map api_Spot.enc ql)))), .v (.agg [.d (.str qx.Device), .d (.int .i64 qx.At), .d (.int .i64 qx.X), .d (.int .i64 qx.Y), .d (.int .i64 qx.Error)])] ⟨[], []⟩ (Is (place_surely_R ql qx r)) := by
  unfold place_surely at hF
  refine holds_of_awp hΓ (fn := f39) (c := cB f39) (A := 0) (nx := 0) (by kernel_rfl) (by kernel_rfl) (by kernel_rfl) (by kernel_rfl) (by kernel_rfl) (by kernel_rfl) (lowc_of (by kernel_rfl)) ?_
  show Awp prog 0 31 (cB f39) _ _
  refine awp_seq ?_
  refine awp_region ?_
  refine aR 2 ?_
  refine aE ?_
  refine awp_seq ?_
  refine awp_region ?_
  refine aR 7 ?_
  refine aE ?_
  refine awp_seq ?_
  refine bE hF fun vr1 h1 hF => ?_
  refine awp_region ?_
  refine aR 2 ?_
  refine aC (place_where_ok h1) [] [] [] ?_
  refine aR 1 ?_
  refine aE ?_
  refine awp_seq ?_
  refine awp_seq ?_
  refine awp_to (st' := place_surely_x1_I ql qx vr1) (oT [(1, 7000)] []) ?_
  refine bE hF fun vx1 h5 hF => ?_
  refine awp_sub (place_surely_x1_ok ql qx vr1 h5) ?_
  refine cE hF (fun h6 hF => ?_) fun h6 hF => ?_
  · refine awp_true (by kernel_rfl) h6 ?_
    refine awp_seq ?_
    refine awp_region ?_
    refine aR 1 ?_
    refine aE ?_
    refine awp_ret ?_
    exact oF hF [] []
  · refine awp_false (by kernel_rfl) h6 ?_
    refine awp_skip ?_
    refine awp_seq ?_
    refine awp_region ?_
    refine aR 2 ?_
    refine aE ?_
    refine awp_ret ?_
    exact oF hF [] []

/-! ### beaconfleet/place.Visits -/
def place_Visits_x3_k : Bool → AEx
  | _ => .normal

def place_Visits_x3_S (qx : api_Fence) (qx1 : List api_Fix) (vx : List api_Visit) (vx1 : Int) (vy3 : api_Fix) : Bool → St
  | vx4 => Mem.st ⟨[(1, ⟨56, 2, List.map api_Visit.enc vx⟩)], [(0, [.d (.str qx.Key), .d (.lst (List.map api_Spot.enc qx.Corners))]), (2, [.d (.str vy3.Device), .d (.int .i64 vy3.At), .d (.int .i64 vy3.X), .d (.int .i64 vy3.Y), .d (.int .i64 vy3.Error)])]⟩ (tl [(2, .v (.one (.box 0 0))), (7, .v (.one (.own 1 none))), (9, .v (.one (.box 2 0))), (10, .v (.one (.d (.bool vx4)))), (20, .v (.one (.d (.lst (List.map api_Fix.enc qx1))))), (21, .v (.one (.d (.int .i64 (qx1.length : Int))))), (22, .v (.one (.d (.int .i64 vx1))))]) 3

def place_Visits_x3_I (qx : api_Fence) (qx1 : List api_Fix) (vx : List api_Visit) (vx1 : Int) (vy3 : api_Fix) : St := Mem.st ⟨[(1, ⟨56, 2, List.map api_Visit.enc vx⟩)], [(0, [.d (.str qx.Key), .d (.lst (List.map api_Spot.enc qx.Corners))]), (2, [.d (.str vy3.Device), .d (.int .i64 vy3.At), .d (.int .i64 vy3.X), .d (.int .i64 vy3.Y), .d (.int .i64 vy3.Error)])]⟩ (tl [(2, .v (.one (.box 0 0))), (7, .v (.one (.own 1 none))), (9, .v (.one (.box 2 0))), (20, .v (.one (.d (.lst (List.map api_Fix.enc qx1))))), (21, .v (.one (.d (.int .i64 (qx1.length : Int))))), (22, .v (.one (.d (.int .i64 vx1))))]) 3

theorem place_Visits_x3_ok (qx : api_Fence) (qx1 : List api_Fix) (vx : List api_Visit) (vx1 : Int) (vy3 : api_Fix) {r} (hF : place_Visits_x3 vx = some r) : Awp prog 0 66 (cL (cR (cL (cL (cR (cR (cL (cL (cR (cL (cR (cR (cR (cB f16)))))))))))))) (Out 0 place_Visits_x3_k (place_Visits_x3_S qx qx1 vx vx1 vy3) r) (place_Visits_x3_I qx qx1 vx vx1 vy3) := by
  unfold place_Visits_x3 at hF
  refine cE hF (fun h7 hF => ?_) fun h7 hF => ?_
  · refine bE hF fun vy4 h8 hF => ?_
    refine awp_region ?_
    refine aR 1 ?_
    refine aL api_Visit.enc vx ?_
    refine aB h7 ?_
    refine aR 3 ?_
    refine aL api_Visit.enc vx ?_
    refine aR 1 ?_
    refine aX (x_idxO api_Visit.enc 1 h8) ?_
    refine aR 1 ?_
    refine aX (x_ldE api_Visit.enc h8) ?_
    refine aR 3 ?_
    refine aE ?_
    exact oO hF [] [] rfl
  · refine awp_region ?_
    refine aR 1 ?_
    refine aL api_Visit.enc vx ?_
    refine aB h7 ?_
    refine aR 11 ?_
    refine aE ?_
    exact oO hF [] [] rfl

def place_Visits_x2_k : (List api_Visit) → AEx
  | _ => .normal

def place_Visits_x2_S (qx : api_Fence) (qx1 : List api_Fix) (vx : List api_Visit) (vx1 : Int) : (List api_Visit) → St
  | vx5 => Mem.st ⟨[(1, ⟨56, 2, List.map api_Visit.enc vx5⟩)], [(0, [.d (.str qx.Key), .d (.lst (List.map api_Spot.enc qx.Corners))])]⟩ (tl [(2, .v (.one (.box 0 0))), (7, .v (.one (.own 1 none))), (20, .v (.one (.d (.lst (List.map api_Fix.enc qx1))))), (21, .v (.one (.d (.int .i64 (qx1.length : Int))))), (22, .v (.one (.d (.int .i64 vx1))))]) 2

def place_Visits_x2_I (qx : api_Fence) (qx1 : List api_Fix) (vx : List api_Visit) (vx1 : Int) : St := Mem.st ⟨[(1, ⟨56, 2, List.map api_Visit.enc vx⟩)], [(0, [.d (.str qx.Key), .d (.lst (List.map api_Spot.enc qx.Corners))])]⟩ (tl [(2, .v (.one (.box 0 0))), (7, .v (.one (.own 1 none))), (20, .v (.one (.d (.lst (List.map api_Fix.enc qx1))))), (21, .v (.one (.d (.int .i64 (qx1.length : Int))))), (22, .v (.one (.d (.int .i64 vx1))))]) 2

theorem place_Visits_x2_ok (qx : api_Fence) (qx1 : List api_Fix) (vx : List api_Visit) (vx1 : Int) {r} (hF : place_Visits_x2 qx qx1 vx vx1 = some r) : Awp prog 0 66 (cL (cR (cR (cL (cL (cR (cL (cR (cR (cR (cB f16))))))))))) (Out 0 place_Visits_x2_k (place_Visits_x2_S qx qx1 vx vx1) r) (place_Visits_x2_I qx qx1 vx vx1) := by
  unfold place_Visits_x2 at hF
  refine awp_block ?_
  refine awp_seq ?_
  refine bE hF fun vy3 h6 hF => ?_
  refine awp_region ?_
  refine aX (x_idx api_Fix.enc h6) ?_
  refine aR 3 ?_
  refine aE ?_
  refine awp_seq ?_
  refine awp_to (st' := place_Visits_x3_I qx qx1 vx vx1 vy3) (oT [(2, 2002)] []) ?_
  refine bE hF fun vx4_1 h9 hF => ?_
  refine awp_sub (place_Visits_x3_ok qx qx1 vx vx1 vy3 h9) ?_
  refine awp_seq ?_
  refine bE hF fun vr2_1 h10 hF => ?_
  refine awp_region ?_
  refine aR 3 ?_
  refine aC (place_surely_ok h10) [] [] [] ?_
  refine aE ?_
  refine awp_block ?_
  refine awp_seq ?_
  refine awp_region ?_
  refine aR 2 ?_
  refine aE ?_
  refine cE hF (fun h11 hF => ?_) fun h11 hF => ?_
  · refine awp_true (by kernel_rfl) h11 ?_
    refine awp_seq ?_
    refine awp_region ?_
    refine aR 2 ?_
    refine aE ?_
    refine cE hF (fun h12 hF => ?_) fun h12 hF => ?_
    · refine awp_true (by kernel_rfl) h12 ?_
      refine gE hF fun h13 hF => ?_
      refine awp_region ?_
      refine aR 5 ?_
      refine aX (x_app api_Visit.enc 1 h13) ?_
      refine aR 1 ?_
      refine aE ?_
      exact oO hF [(1, 13003)] [] rfl
    · refine awp_false (by kernel_rfl) h12 ?_
      refine awp_skip ?_
      exact oO hF [] [] rfl
  · refine awp_false (by kernel_rfl) h11 ?_
    refine awp_seq ?_
    refine awp_region ?_
    refine aR 2 ?_
    refine aE ?_
    refine cE hF (fun h14 hF => ?_) fun h14 hF => ?_
    · refine awp_true (by kernel_rfl) h14 ?_
      refine awp_seq ?_
      refine awp_region ?_
      refine aR 1 ?_
      refine aE ?_
      refine cE hF (fun h15 hF => ?_) fun h15 hF => ?_
      · refine awp_true (by kernel_rfl) h15 ?_
        refine bE hF fun vy5 h16 hF => ?_
        refine awp_region ?_
        refine aR 2 ?_
        refine aL api_Visit.enc vx ?_
        refine aR 3 ?_
        refine aX (x_idxO api_Visit.enc 1 h16) ?_
        refine aR 1 ?_
        refine aX (x_stE api_Visit.enc (api_Visit.mk vy5.From vy3.At) h16) ?_
        refine aE ?_
        exact oO hF [] [] rfl
      · refine awp_false (by kernel_rfl) h15 ?_
        refine awp_skip ?_
        exact oO hF [] [] rfl
    · refine awp_false (by kernel_rfl) h14 ?_
      refine awp_skip ?_
      exact oO hF [] [] rfl

def place_Visits_x1_k : (List api_Visit) → AEx
  | _ => .exit 0

def place_Visits_x1_S (qx : api_Fence) (qx1 : List api_Fix) : (List api_Visit) → St
  | vx6 => Mem.st ⟨[(0, ⟨56, 2, List.map api_Visit.enc vx6⟩)], []⟩ (tl [(7, .v (.one (.own 0 none)))]) 1

def place_Visits_x1_H (qx : api_Fence) (qx1 : List api_Fix) : (List api_Visit) × Int → St
  | (vx, vx1) => Mem.st ⟨[(1, ⟨56, 2, List.map api_Visit.enc vx⟩)], [(0, [.d (.str qx.Key), .d (.lst (List.map api_Spot.enc qx.Corners))])]⟩ (tl [(2, .v (.one (.box 0 0))), (7, .v (.one (.own 1 none))), (20, .v (.one (.d (.lst (List.map api_Fix.enc qx1))))), (21, .v (.one (.d (.int .i64 (qx1.length : Int))))), (22, .v (.one (.d (.int .i64 vx1))))]) 2

theorem place_Visits_x1_ok (qx : api_Fence) (qx1 : List api_Fix) (s : (List api_Visit) × Int) (r : ((List api_Visit) × Int) ⊕ ((List api_Visit))) (hF : place_Visits_x1 qx qx1 s = some r) : Awp prog 0 66 (cL (cL (cR (cL (cR (cR (cR (cB f16)))))))) (Out 0 (kk place_Visits_x1_k) (SS (place_Visits_x1_H qx qx1) (place_Visits_x1_S qx qx1)) r) (place_Visits_x1_H qx qx1 s) := by
  obtain ⟨vx, vx1⟩ := s
  unfold place_Visits_x1 at hF
  refine awp_seq ?_
  refine awp_region ?_
  refine aR 1 ?_
  refine aE ?_
  refine awp_seq ?_
  refine cE hF (fun h5 hF => ?_) fun h5 hF => ?_
  · refine awp_true (by kernel_rfl) h5 ?_
    refine awp_skip ?_
    refine awp_seq ?_
    refine awp_to (st' := place_Visits_x2_I qx qx1 vx vx1) (oT [] []) ?_
    refine bE hF fun vx5_1 h17 hF => ?_
    refine awp_sub (place_Visits_x2_ok qx qx1 vx vx1 h17) ?_
    refine awp_region ?_
    refine aR 2 ?_
    refine aE ?_
    exact oO hF [] [] rfl
  · refine awp_false (by kernel_rfl) h5 ?_
    refine awp_exit ?_
    exact oO hF [(0, 1)] [] rfl

def place_Visits_R (qx : api_Fence) (qx1 : List api_Fix) (r : (List api_Visit) × Int) : TV × Mem := (.tup [.one (.own 0 none), .one (.d (.int .i64 r.2))], ⟨[(0, ⟨56, 2, List.map api_Visit.enc r.1⟩)], []⟩)

theorem place_Visits_ok {qx : api_Fence} {qx1 : List api_Fix} {r} (hF : place_Visits qx qx1 = some r) : Holds prog 16 [.v (.agg [.d (.str qx.Key), .d (.lst (List.map api_Spot.enc qx.Corners))]), .v (.one (.d (.lst (List.map api_Fix.enc qx1))))] ⟨[], []⟩ (Is (place_Visits_R qx qx1 r)) := by
  unfold place_Visits at hF
  refine holds_of_awp hΓ (fn := f16) (c := cB f16) (A := 0) (nx := 0) (by kernel_rfl) (by kernel_rfl) (by kernel_rfl) (by kernel_rfl) (by kernel_rfl) (by kernel_rfl) (lowc_of (by kernel_rfl)) ?_
  show Awp prog 0 66 (cB f16) _ _
  refine awp_seq ?_
  refine awp_region ?_
  refine aR 3 ?_
  refine aE ?_
  refine awp_seq ?_
  refine awp_seq ?_
  refine bE hF fun vr3 h1 hF => ?_
  refine bE hF fun vr1 h2 hF => ?_
  refine bE hF fun vr h3 hF => ?_
  refine awp_region ?_
  refine aR 1 ?_
  refine aC (place_CheckFence_ok h1) [] [] [] ?_
  refine aR 1 ?_
  refine aC (place_trackFault_ok h2) [] [] [] ?_
  refine aR 1 ?_
  refine aC (base_First_ok h3) [] [] [7000] ?_
  refine aR 1 ?_
  refine aE ?_
  refine awp_seq ?_
  refine awp_region ?_
  refine aR 2 ?_
  refine aE ?_
  refine cE hF (fun h4 hF => ?_) fun h4 hF => ?_
  · refine awp_true (by kernel_rfl) h4 ?_
    refine awp_seq ?_
    refine awp_region ?_
    refine aR 3 ?_
    refine aE ?_
    refine awp_ret ?_
    exact oF hF [] [0]
  · refine awp_false (by kernel_rfl) h4 ?_
    refine awp_skip ?_
    refine awp_seq ?_
    refine awp_region ?_
    refine aR 1 ?_
    refine aE ?_
    refine awp_seq ?_
    refine awp_seq ?_
    refine awp_region ?_
    refine aR 1 ?_
    refine aL api_Fix.enc qx1 ?_
    refine aR 1 ?_
    refine aE ?_
    refine awp_block ?_
    refine awp_to (st' := place_Visits_x1_H qx qx1 ([], 0)) (oT [] [1]) ?_
    refine bE hF fun vx6_1 h18 hF => ?_
    refine awp_sub (awp_loop' (place_Visits_x1_H qx qx1) place_Visits_x1_k (place_Visits_x1_S qx qx1) (by intro x; exact fun h => nomatch h) h18 (place_Visits_x1_ok qx qx1)) ?_
    refine awp_seq ?_
    refine awp_region ?_
    refine aR 3 ?_
    refine aE ?_
    refine awp_ret ?_
    exact oF hF [] []

/-! ### beaconfleet/fleetkeep2.VisitsAreApart$1 -/
def fleetkeep2_VisitsAreApart_1_R (qy : api_Fix) (qx : api_Visit) (r : Unit) : TV × Mem := (.v (.one (.d (.bool (decide (qy.At = qx.From))))), ⟨[], [(0, [.d (.int .i64 qx.From), .d (.int .i64 qx.To)])]⟩)

theorem fleetkeep2_VisitsAreApart_1_ok {qy : api_Fix} {qx : api_Visit} {r} (hF : fleetkeep2_VisitsAreApart_1 qy qx = some r) : Holds prog 18 [.v (.agg [.d (.str qy.Device), .d (.int .i64 qy.At), .d (.int .i64 qy.X), .d (.int .i64 qy.Y), .d (.int .i64 qy.Error)]), .v (.one (.box 0 0))] ⟨[], [(0, [.d (.int .i64 qx.From), .d (.int .i64 qx.To)])]⟩ (Is (fleetkeep2_VisitsAreApart_1_R qy qx r)) := by
  unfold fleetkeep2_VisitsAreApart_1 at hF
  refine holds_of_awp hΓ (fn := f18) (c := cB f18) (A := 1) (nx := 1) (by kernel_rfl) (by kernel_rfl) (by kernel_rfl) (by kernel_rfl) (by kernel_rfl) (by kernel_rfl) (lowc_of (by kernel_rfl)) ?_
  show Awp prog 1 9 (cB f18) _ _
  refine awp_seq ?_
  refine awp_region ?_
  refine aR 2 ?_
  refine aE ?_
  refine awp_seq ?_
  refine awp_region ?_
  refine aR 6 ?_
  refine aE ?_
  refine awp_ret ?_
  exact oF hF [] []

/-! ### slices.IndexFunc[[]beaconfleet/api.Fix,beaconfleet/api.Fix] -/
def slices_IndexFunc_api_Fix_api_Fix_f1_fleetkeep2_VisitsAreApart_1_x1_k : Unit ⊕ Int → AEx
  | .inl _ => .exit 0
  | .inr _ => .ret

def slices_IndexFunc_api_Fix_api_Fix_f1_fleetkeep2_VisitsAreApart_1_x1_S (qs : List api_Fix) (qf : api_Visit) : Unit ⊕ Int → St
  | .inl _ => Mem.st ⟨[], [(0, [.d (.int .i64 qf.From), .d (.int .i64 qf.To)])]⟩ (tl []) 1
  | .inr vx1 => Mem.st ⟨[], [(0, [.d (.int .i64 qf.From), .d (.int .i64 qf.To)])]⟩ (tl [(4, .v (.one (.d (.int .i64 vx1))))]) 1

def slices_IndexFunc_api_Fix_api_Fix_f1_fleetkeep2_VisitsAreApart_1_x1_H (qs : List api_Fix) (qf : api_Visit) : Int → St
  | vx => Mem.st ⟨[], [(0, [.d (.int .i64 qf.From), .d (.int .i64 qf.To)])]⟩ (tl [(0, .v (.one (.d (.lst (List.map api_Fix.enc qs))))), (1, .v (.one (.fn 18 [0]))), (7, .v (.one (.d (.int .i64 (qs.length : Int))))), (8, .v (.one (.d (.int .i64 vx))))]) 1

theorem slices_IndexFunc_api_Fix_api_Fix_f1_fleetkeep2_VisitsAreApart_1_x1_ok (qs : List api_Fix) (qf : api_Visit) (vx : Int) (r : (Int) ⊕ (Unit ⊕ Int)) (hF : slices_IndexFunc_api_Fix_api_Fix_f1_fleetkeep2_VisitsAreApart_1_x1 qs qf vx = some r) : Awp prog 1 19 (cL (cL (cR (cL (cR (cB f17)))))) (Out 1 (kk slices_IndexFunc_api_Fix_api_Fix_f1_fleetkeep2_VisitsAreApart_1_x1_k) (SS (slices_IndexFunc_api_Fix_api_Fix_f1_fleetkeep2_VisitsAreApart_1_x1_H qs qf) (slices_IndexFunc_api_Fix_api_Fix_f1_fleetkeep2_VisitsAreApart_1_x1_S qs qf)) r) (slices_IndexFunc_api_Fix_api_Fix_f1_fleetkeep2_VisitsAreApart_1_x1_H qs qf vx) := by
  unfold slices_IndexFunc_api_Fix_api_Fix_f1_fleetkeep2_VisitsAreApart_1_x1 at hF
  refine awp_seq ?_
  refine awp_region ?_
  refine aR 1 ?_
  refine aE ?_
  refine awp_seq ?_
  refine cE hF (fun h1 hF => ?_) fun h1 hF => ?_
  · refine awp_true (by kernel_rfl) h1 ?_
    refine awp_skip ?_
    refine awp_seq ?_
    refine awp_block ?_
    refine awp_seq ?_
    refine awp_region ?_
    refine aR 2 ?_
    refine aE ?_
    refine awp_seq ?_
    refine bE hF fun vy1 h2 hF => ?_
    refine bE hF fun _ h3 hF => ?_
    refine awp_region ?_
    refine aR 3 ?_
    refine aX (x_idx api_Fix.enc h2) ?_
    refine aR 1 ?_
    refine aC (fleetkeep2_VisitsAreApart_1_ok h3) [] [] [] ?_
    refine aE ?_
    refine cE hF (fun h4 hF => ?_) fun h4 hF => ?_
    · refine awp_true (by kernel_rfl) h4 ?_
      refine awp_seq ?_
      refine awp_region ?_
      refine aR 2 ?_
      refine aE ?_
      refine awp_ret ?_
      exact oO hF [] [] rfl
    · refine awp_false (by kernel_rfl) h4 ?_
      refine awp_skip ?_
      refine awp_region ?_
      refine aR 2 ?_
      refine aE ?_
      exact oO hF [] [] rfl
  · refine awp_false (by kernel_rfl) h1 ?_
    refine awp_exit ?_
    exact oO hF [] [] rfl

def slices_IndexFunc_api_Fix_api_Fix_f1_fleetkeep2_VisitsAreApart_1_R (qs : List api_Fix) (qf : api_Visit) (r : Int) : TV × Mem := (.v (.one (.d (.int .i64 r))), ⟨[], [(0, [.d (.int .i64 qf.From), .d (.int .i64 qf.To)])]⟩)

theorem slices_IndexFunc_api_Fix_api_Fix_f1_fleetkeep2_VisitsAreApart_1_ok {qs : List api_Fix} {qf : api_Visit} {r} (hF : slices_IndexFunc_api_Fix_api_Fix_f1_fleetkeep2_VisitsAreApart_1 qs qf = some r) : Holds prog 17 [.v (.one (.d (.lst (List.map api_Fix.enc qs)))), .v (.one (.fn 18 [0]))] ⟨[], [(0, [.d (.int .i64 qf.From), .d (.int .i64 qf.To)])]⟩ (Is (slices_IndexFunc_api_Fix_api_Fix_f1_fleetkeep2_VisitsAreApart_1_R qs qf r)) := by
  unfold slices_IndexFunc_api_Fix_api_Fix_f1_fleetkeep2_VisitsAreApart_1 at hF
  refine holds_of_awp hΓ (fn := f17) (c := cB f17) (A := 1) (nx := 1) (by kernel_rfl) (by kernel_rfl) (by kernel_rfl) (by kernel_rfl) (by kernel_rfl) (by kernel_rfl) (lowc_of (by kernel_rfl)) ?_
  show Awp prog 1 19 (cB f17) _ _
  refine awp_seq ?_
  refine awp_region ?_
  refine aR 1 ?_
  refine aE ?_
  refine awp_seq ?_
  refine awp_seq ?_
  refine awp_region ?_
  refine aR 1 ?_
  refine aL api_Fix.enc qs ?_
  refine aR 1 ?_
  refine aE ?_
  refine awp_block ?_
  refine awp_to (st' := slices_IndexFunc_api_Fix_api_Fix_f1_fleetkeep2_VisitsAreApart_1_x1_H qs qf 0) (oT [] []) ?_
  refine bE hF fun x h5 hF => ?_
  rcases x with _ | vx1_1
  · refine awp_sub (awp_loop' (slices_IndexFunc_api_Fix_api_Fix_f1_fleetkeep2_VisitsAreApart_1_x1_H qs qf) slices_IndexFunc_api_Fix_api_Fix_f1_fleetkeep2_VisitsAreApart_1_x1_k (slices_IndexFunc_api_Fix_api_Fix_f1_fleetkeep2_VisitsAreApart_1_x1_S qs qf) (by intro x; rcases x with x | x <;> exact fun h => nomatch h) h5 (slices_IndexFunc_api_Fix_api_Fix_f1_fleetkeep2_VisitsAreApart_1_x1_ok qs qf)) ?_
    refine awp_seq ?_
    refine awp_region ?_
    refine aR 1 ?_
    refine aE ?_
    refine awp_ret ?_
    exact oF hF [] []
  · refine awp_sub (awp_loop' (slices_IndexFunc_api_Fix_api_Fix_f1_fleetkeep2_VisitsAreApart_1_x1_H qs qf) slices_IndexFunc_api_Fix_api_Fix_f1_fleetkeep2_VisitsAreApart_1_x1_k (slices_IndexFunc_api_Fix_api_Fix_f1_fleetkeep2_VisitsAreApart_1_x1_S qs qf) (by intro x; rcases x with x | x <;> exact fun h => nomatch h) h5 (slices_IndexFunc_api_Fix_api_Fix_f1_fleetkeep2_VisitsAreApart_1_x1_ok qs qf)) ?_
    exact oF hF [] []

/-! ### beaconfleet/place.Surely -/
def place_Surely_R (qf : api_Fence) (qx : api_Fix) (r : Int × Int) : TV × Mem := (.tup [.one (.d (.int .i64 r.1)), .one (.d (.int .i64 r.2))], ⟨[], []⟩)

theorem place_Surely_ok {qf : api_Fence} {qx : api_Fix} {r} (hF : place_Surely qf qx = some r) : Holds prog 19 [.v (.agg [.d (.str qf.Key), .d (.lst (List.map api_Spot.enc qf.Corners))]), .v (.agg [.d (.str qx.Device), .d (.int .i64 qx.At), .d (.int .i64 qx.X), .d (.int .i64 qx.Y), .d (.int .i64 qx.Error)])] ⟨[], []⟩ (Is (place_Surely_R qf qx r)) := by
  unfold place_Surely at hF
  refine holds_of_awp hΓ (fn := f19) (c := cB f19) (A := 0) (nx := 0) (by kernel_rfl) (by kernel_rfl) (by kernel_rfl) (by kernel_rfl) (by kernel_rfl) (by kernel_rfl) (lowc_of (by kernel_rfl)) ?_
  show Awp prog 0 21 (cB f19) _ _
  refine awp_seq ?_
  refine awp_region ?_
  refine aR 4 ?_
  refine aE ?_
  refine awp_seq ?_
  refine awp_seq ?_
  refine bE hF fun vr3 h1 hF => ?_
  refine bE hF fun vr6 h2 hF => ?_
  refine bE hF fun vr h3 hF => ?_
  refine aD ?_
  refine dR 1 ?_
  refine dC (place_CheckFence_ok h1) [] [] [] ?_
  refine dR 2 ?_
  refine dC (place_CheckFixes_ok h2) [] [] [7000] ?_
  refine dR 1 ?_
  refine dC (base_First_ok h3) [] [] [9000] ?_
  refine dR 1 ?_
  refine dE ?_
  refine awp_seq ?_
  refine awp_region ?_
  refine aR 2 ?_
  refine aE ?_
  refine cE hF (fun h4 hF => ?_) fun h4 hF => ?_
  · refine awp_true (by kernel_rfl) h4 ?_
    refine awp_seq ?_
    refine awp_region ?_
    refine aR 3 ?_
    refine aE ?_
    refine awp_ret ?_
    exact oF hF [] []
  · refine awp_false (by kernel_rfl) h4 ?_
    refine awp_skip ?_
    refine awp_seq ?_
    refine bE hF fun vr2 h5 hF => ?_
    refine awp_region ?_
    refine aR 3 ?_
    refine aC (place_surely_ok h5) [] [] [] ?_
    refine aR 2 ?_
    refine aE ?_
    refine awp_ret ?_
    exact oF hF [] []

/-! ### beaconfleet/fleetkeep2.VisitsAreApart$2 -/
def fleetkeep2_VisitsAreApart_2_R (qy : api_Fix) (qx : api_Visit) (r : Unit) : TV × Mem := (.v (.one (.d (.bool (decide (qy.At = qx.To))))), ⟨[], [(0, [.d (.int .i64 qx.From), .d (.int .i64 qx.To)])]⟩)

theorem fleetkeep2_VisitsAreApart_2_ok {qy : api_Fix} {qx : api_Visit} {r} (hF : fleetkeep2_VisitsAreApart_2 qy qx = some r) : Holds prog 20 [.v (.agg [.d (.str qy.Device), .d (.int .i64 qy.At), .d (.int .i64 qy.X), .d (.int .i64 qy.Y), .d (.int .i64 qy.Error)]), .v (.one (.box 0 0))] ⟨[], [(0, [.d (.int .i64 qx.From), .d (.int .i64 qx.To)])]⟩ (Is (fleetkeep2_VisitsAreApart_2_R qy qx r)) := by
  unfold fleetkeep2_VisitsAreApart_2 at hF
  refine holds_of_awp hΓ (fn := f20) (c := cB f20) (A := 1) (nx := 1) (by kernel_rfl) (by kernel_rfl) (by kernel_rfl) (by kernel_rfl) (by kernel_rfl) (by kernel_rfl) (lowc_of (by kernel_rfl)) ?_
  show Awp prog 1 9 (cB f20) _ _
  refine awp_seq ?_
  refine awp_region ?_
  refine aR 2 ?_
  refine aE ?_
  refine awp_seq ?_
  refine awp_region ?_
  refine aR 6 ?_
  refine aE ?_
  refine awp_ret ?_
  exact oF hF [] []

/-! ### slices.IndexFunc[[]beaconfleet/api.Fix,beaconfleet/api.Fix] -/
def slices_IndexFunc_api_Fix_api_Fix_f1_fleetkeep2_VisitsAreApart_2_x1_k : Unit ⊕ Int → AEx
  | .inl _ => .exit 0
  | .inr _ => .ret

def slices_IndexFunc_api_Fix_api_Fix_f1_fleetkeep2_VisitsAreApart_2_x1_S (qs : List api_Fix) (qf : api_Visit) : Unit ⊕ Int → St
  | .inl _ => Mem.st ⟨[], [(0, [.d (.int .i64 qf.From), .d (.int .i64 qf.To)])]⟩ (tl []) 1
  | .inr vx1 => Mem.st ⟨[], [(0, [.d (.int .i64 qf.From), .d (.int .i64 qf.To)])]⟩ (tl [(4, .v (.one (.d (.int .i64 vx1))))]) 1

def slices_IndexFunc_api_Fix_api_Fix_f1_fleetkeep2_VisitsAreApart_2_x1_H (qs : List api_Fix) (qf : api_Visit) : Int → St
  | vx => Mem.st ⟨[], [(0, [.d (.int .i64 qf.From), .d (.int .i64 qf.To)])]⟩ (tl [(0, .v (.one (.d (.lst (List.map api_Fix.enc qs))))), (1, .v (.one (.fn 20 [0]))), (7, .v (.one (.d (.int .i64 (qs.length : Int))))), (8, .v (.one (.d (.int .i64 vx))))]) 1

theorem slices_IndexFunc_api_Fix_api_Fix_f1_fleetkeep2_VisitsAreApart_2_x1_ok (qs : List api_Fix) (qf : api_Visit) (vx : Int) (r : (Int) ⊕ (Unit ⊕ Int)) (hF : slices_IndexFunc_api_Fix_api_Fix_f1_fleetkeep2_VisitsAreApart_2_x1 qs qf vx = some r) : Awp prog 1 19 (cL (cL (cR (cL (cR (cB f17)))))) (Out 1 (kk slices_IndexFunc_api_Fix_api_Fix_f1_fleetkeep2_VisitsAreApart_2_x1_k) (SS (slices_IndexFunc_api_Fix_api_Fix_f1_fleetkeep2_VisitsAreApart_2_x1_H qs qf) (slices_IndexFunc_api_Fix_api_Fix_f1_fleetkeep2_VisitsAreApart_2_x1_S qs qf)) r) (slices_IndexFunc_api_Fix_api_Fix_f1_fleetkeep2_VisitsAreApart_2_x1_H qs qf vx) := by
  unfold slices_IndexFunc_api_Fix_api_Fix_f1_fleetkeep2_VisitsAreApart_2_x1 at hF
  refine awp_seq ?_
  refine awp_region ?_
  refine aR 1 ?_
  refine aE ?_
  refine awp_seq ?_
  refine cE hF (fun h1 hF => ?_) fun h1 hF => ?_
  · refine awp_true (by kernel_rfl) h1 ?_
    refine awp_skip ?_
    refine awp_seq ?_
    refine awp_block ?_
    refine awp_seq ?_
    refine awp_region ?_
    refine aR 2 ?_
    refine aE ?_
    refine awp_seq ?_
    refine bE hF fun vy1 h2 hF => ?_
    refine bE hF fun _ h3 hF => ?_
    refine awp_region ?_
    refine aR 3 ?_
    refine aX (x_idx api_Fix.enc h2) ?_
    refine aR 1 ?_
    refine aC (fleetkeep2_VisitsAreApart_2_ok h3) [] [] [] ?_
    refine aE ?_
    refine cE hF (fun h4 hF => ?_) fun h4 hF => ?_
    · refine awp_true (by kernel_rfl) h4 ?_
      refine awp_seq ?_
      refine awp_region ?_
      refine aR 2 ?_
      refine aE ?_
      refine awp_ret ?_
      exact oO hF [] [] rfl
    · refine awp_false (by kernel_rfl) h4 ?_
      refine awp_skip ?_
      refine awp_region ?_
      refine aR 2 ?_
      refine aE ?_
      exact oO hF [] [] rfl
  · refine awp_false (by kernel_rfl) h1 ?_
    refine awp_exit ?_
    exact oO hF [] [] rfl

def slices_IndexFunc_api_Fix_api_Fix_f1_fleetkeep2_VisitsAreApart_2_R (qs : List api_Fix) (qf : api_Visit) (r : Int) : TV × Mem := (.v (.one (.d (.int .i64 r))), ⟨[], [(0, [.d (.int .i64 qf.From), .d (.int .i64 qf.To)])]⟩)

theorem slices_IndexFunc_api_Fix_api_Fix_f1_fleetkeep2_VisitsAreApart_2_ok {qs : List api_Fix} {qf : api_Visit} {r} (hF : slices_IndexFunc_api_Fix_api_Fix_f1_fleetkeep2_VisitsAreApart_2 qs qf = some r) : Holds prog 17 [.v (.one (.d (.lst (List.map api_Fix.enc qs)))), .v (.one (.fn 20 [0]))] ⟨[], [(0, [.d (.int .i64 qf.From), .d (.int .i64 qf.To)])]⟩ (Is (slices_IndexFunc_api_Fix_api_Fix_f1_fleetkeep2_VisitsAreApart_2_R qs qf r)) := by
  unfold slices_IndexFunc_api_Fix_api_Fix_f1_fleetkeep2_VisitsAreApart_2 at hF
  refine holds_of_awp hΓ (fn := f17) (c := cB f17) (A := 1) (nx := 1) (by kernel_rfl) (by kernel_rfl) (by kernel_rfl) (by kernel_rfl) (by kernel_rfl) (by kernel_rfl) (lowc_of (by kernel_rfl)) ?_
  show Awp prog 1 19 (cB f17) _ _
  refine awp_seq ?_
  refine awp_region ?_
  refine aR 1 ?_
  refine aE ?_
  refine awp_seq ?_
  refine awp_seq ?_
  refine awp_region ?_
  refine aR 1 ?_
  refine aL api_Fix.enc qs ?_
  refine aR 1 ?_
  refine aE ?_
  refine awp_block ?_
  refine awp_to (st' := slices_IndexFunc_api_Fix_api_Fix_f1_fleetkeep2_VisitsAreApart_2_x1_H qs qf 0) (oT [] []) ?_
  refine bE hF fun x h5 hF => ?_
  rcases x with _ | vx1_1
  · refine awp_sub (awp_loop' (slices_IndexFunc_api_Fix_api_Fix_f1_fleetkeep2_VisitsAreApart_2_x1_H qs qf) slices_IndexFunc_api_Fix_api_Fix_f1_fleetkeep2_VisitsAreApart_2_x1_k (slices_IndexFunc_api_Fix_api_Fix_f1_fleetkeep2_VisitsAreApart_2_x1_S qs qf) (by intro x; rcases x with x | x <;> exact fun h => nomatch h) h5 (slices_IndexFunc_api_Fix_api_Fix_f1_fleetkeep2_VisitsAreApart_2_x1_ok qs qf)) ?_
    refine awp_seq ?_
    refine awp_region ?_
    refine aR 1 ?_
    refine aE ?_
    refine awp_ret ?_
    exact oF hF [] []
  · refine awp_sub (awp_loop' (slices_IndexFunc_api_Fix_api_Fix_f1_fleetkeep2_VisitsAreApart_2_x1_H qs qf) slices_IndexFunc_api_Fix_api_Fix_f1_fleetkeep2_VisitsAreApart_2_x1_k (slices_IndexFunc_api_Fix_api_Fix_f1_fleetkeep2_VisitsAreApart_2_x1_S qs qf) (by intro x; rcases x with x | x <;> exact fun h => nomatch h) h5 (slices_IndexFunc_api_Fix_api_Fix_f1_fleetkeep2_VisitsAreApart_2_x1_ok qs qf)) ?_
    exact oF hF [] []

/-! ### beaconfleet/fleetkeep2.VisitsAreApart -/
def fleetkeep2_VisitsAreApart_x2_k : Bool → AEx
  | _ => .normal

def fleetkeep2_VisitsAreApart_x2_S (vr9 : List api_Spot) (vr16 : List api_Fix) (vr4 : List api_Visit) (vx : Int) (vx1 : Int) (vy3 : api_Visit) (vr3 : Int) : Bool → St
  | vx5 => Mem.st ⟨[], [(0, [.d (.str ([102] : List UInt8)), .d (.lst (List.map api_Spot.enc vr9))]), (1, [.d (.int .i64 vy3.From), .d (.int .i64 vy3.To)])]⟩ (tl [(4, .v (.one (.box 0 0))), (5, .v (.one (.d (.lst (List.map api_Fix.enc vr16))))), (6, .v (.one (.d (.lst (List.map api_Visit.enc vr4))))), (10, .v (.one (.box 1 0))), (11, .v (.one (.d (.int .i64 vr3)))), (30, .v (.one (.d (.lst (List.map api_Visit.enc vr4))))), (31, .v (.one (.d (.int .i64 (vr4.length : Int))))), (32, .v (.one (.d (.int .i64 vx1)))), (75, .v (.one (.d (.bool vx5))))]) 2

def fleetkeep2_VisitsAreApart_x2_I (vr9 : List api_Spot) (vr16 : List api_Fix) (vr4 : List api_Visit) (vx : Int) (vx1 : Int) (vy3 : api_Visit) (vr3 : Int) : St := Mem.st ⟨[], [(0, [.d (.str ([102] : List UInt8)), .d (.lst (List.map api_Spot.enc vr9))]), (1, [.d (.int .i64 vy3.From), .d (.int .i64 vy3.To)])]⟩ (tl [(4, .v (.one (.box 0 0))), (5, .v (.one (.d (.lst (List.map api_Fix.enc vr16))))), (6, .v (.one (.d (.lst (List.map api_Visit.enc vr4))))), (8, .v (.one (.d (.int .i64 vx)))), (9, .v (.one (.d (.int .i64 vx1)))), (10, .v (.one (.box 1 0))), (11, .v (.one (.d (.int .i64 vr3)))), (30, .v (.one (.d (.lst (List.map api_Visit.enc vr4))))), (31, .v (.one (.d (.int .i64 (vr4.length : Int))))), (32, .v (.one (.d (.int .i64 vx1))))]) 2

theorem fleetkeep2_VisitsAreApart_x2_ok (vr9 : List api_Spot) (vr16 : List api_Fix) (vr4 : List api_Visit) (vx : Int) (vx1 : Int) (vy3 : api_Visit) (vr3 : Int) {r} (hF : fleetkeep2_VisitsAreApart_x2 vr4 vx vx1 vy3 vr3 = some r) : Awp prog 0 118 (cL (cL (cR (cR (cL (cL (cR (cR (cL (cL (cR (cL (cR (cR (cR (cR (cR (cR (cB f5))))))))))))))))))) (Out 0 fleetkeep2_VisitsAreApart_x2_k (fleetkeep2_VisitsAreApart_x2_S vr9 vr16 vr4 vx vx1 vy3 vr3) r) (fleetkeep2_VisitsAreApart_x2_I vr9 vr16 vr4 vx vx1 vy3 vr3) := by
  unfold fleetkeep2_VisitsAreApart_x2 at hF
  refine cE hF (fun h8 hF => ?_) fun h8 hF => ?_
  · refine cE hF (fun h9 hF => ?_) fun h9 hF => ?_
    · refine awp_region ?_
      refine aR 3 ?_
      refine aB h8 ?_
      refine aR 2 ?_
      refine aB h9 ?_
      refine aR 29 ?_
      refine aE ?_
      exact oO hF [] [] rfl
    · refine cE hF (fun h10 hF => ?_) fun h10 hF => ?_
      · refine awp_region ?_
        refine aR 3 ?_
        refine aB h8 ?_
        refine aR 2 ?_
        refine aB h9 ?_
        refine aR 3 ?_
        refine aB h10 ?_
        refine aR 25 ?_
        refine aE ?_
        exact oO hF [] [] rfl
      · refine cE hF (fun h11 hF => ?_) fun h11 hF => ?_
        · refine cE hF (fun h12 hF => ?_) fun h12 hF => ?_
          · refine awp_region ?_
            refine aR 3 ?_
            refine aB h8 ?_
            refine aR 2 ?_
            refine aB h9 ?_
            refine aR 3 ?_
            refine aB h10 ?_
            refine aR 4 ?_
            refine aB h11 ?_
            refine aR 3 ?_
            refine aL api_Visit.enc vr4 ?_
            refine aR 1 ?_
            refine aB h12 ?_
            refine aR 14 ?_
            refine aE ?_
            exact oO hF [] [] rfl
          · refine cE hF (fun h13 hF => ?_) fun h13 hF => ?_
            · refine awp_region ?_
              refine aR 3 ?_
              refine aB h8 ?_
              refine aR 2 ?_
              refine aB h9 ?_
              refine aR 3 ?_
              refine aB h10 ?_
              refine aR 4 ?_
              refine aB h11 ?_
              refine aR 3 ?_
              refine aL api_Visit.enc vr4 ?_
              refine aR 1 ?_
              refine aB h12 ?_
              refine aR 5 ?_
              refine aB h13 ?_
              refine aR 8 ?_
              refine aE ?_
              exact oO hF [] [] rfl
            · refine awp_region ?_
              refine aR 3 ?_
              refine aB h8 ?_
              refine aR 2 ?_
              refine aB h9 ?_
              refine aR 3 ?_
              refine aB h10 ?_
              refine aR 4 ?_
              refine aB h11 ?_
              refine aR 3 ?_
              refine aL api_Visit.enc vr4 ?_
              refine aR 1 ?_
              refine aB h12 ?_
              refine aR 5 ?_
              refine aB h13 ?_
              refine aR 8 ?_
              refine aE ?_
              exact oO hF [] [] rfl
        · refine cE hF (fun h14 hF => ?_) fun h14 hF => ?_
          · refine awp_region ?_
            refine aR 3 ?_
            refine aB h8 ?_
            refine aR 2 ?_
            refine aB h9 ?_
            refine aR 3 ?_
            refine aB h10 ?_
            refine aR 4 ?_
            refine aB h11 ?_
            refine aR 11 ?_
            refine aB h14 ?_
            refine aR 8 ?_
            refine aE ?_
            exact oO hF [] [] rfl
          · refine awp_region ?_
            refine aR 3 ?_
            refine aB h8 ?_
            refine aR 2 ?_
            refine aB h9 ?_
            refine aR 3 ?_
            refine aB h10 ?_
            refine aR 4 ?_
            refine aB h11 ?_
            refine aR 11 ?_
            refine aB h14 ?_
            refine aR 8 ?_
            refine aE ?_
            exact oO hF [] [] rfl
  · refine cE hF (fun h15 hF => ?_) fun h15 hF => ?_
    · refine awp_region ?_
      refine aR 3 ?_
      refine aB h8 ?_
      refine aR 6 ?_
      refine aB h15 ?_
      refine aR 25 ?_
      refine aE ?_
      exact oO hF [] [] rfl
    · refine cE hF (fun h16 hF => ?_) fun h16 hF => ?_
      · refine cE hF (fun h17 hF => ?_) fun h17 hF => ?_
        · refine awp_region ?_
          refine aR 3 ?_
          refine aB h8 ?_
          refine aR 6 ?_
          refine aB h15 ?_
          refine aR 4 ?_
          refine aB h16 ?_
          refine aR 3 ?_
          refine aL api_Visit.enc vr4 ?_
          refine aR 1 ?_
          refine aB h17 ?_
          refine aR 14 ?_
          refine aE ?_
          exact oO hF [] [] rfl
        · refine cE hF (fun h18 hF => ?_) fun h18 hF => ?_
          · refine awp_region ?_
            refine aR 3 ?_
            refine aB h8 ?_
            refine aR 6 ?_
            refine aB h15 ?_
            refine aR 4 ?_
            refine aB h16 ?_
            refine aR 3 ?_
            refine aL api_Visit.enc vr4 ?_
            refine aR 1 ?_
            refine aB h17 ?_
            refine aR 5 ?_
            refine aB h18 ?_
            refine aR 8 ?_
            refine aE ?_
            exact oO hF [] [] rfl
          · refine awp_region ?_
            refine aR 3 ?_
            refine aB h8 ?_
            refine aR 6 ?_
            refine aB h15 ?_
            refine aR 4 ?_
            refine aB h16 ?_
            refine aR 3 ?_
            refine aL api_Visit.enc vr4 ?_
            refine aR 1 ?_
            refine aB h17 ?_
            refine aR 5 ?_
            refine aB h18 ?_
            refine aR 8 ?_
            refine aE ?_
            exact oO hF [] [] rfl
      · refine cE hF (fun h19 hF => ?_) fun h19 hF => ?_
        · refine awp_region ?_
          refine aR 3 ?_
          refine aB h8 ?_
          refine aR 6 ?_
          refine aB h15 ?_
          refine aR 4 ?_
          refine aB h16 ?_
          refine aR 11 ?_
          refine aB h19 ?_
          refine aR 8 ?_
          refine aE ?_
          exact oO hF [] [] rfl
        · refine awp_region ?_
          refine aR 3 ?_
          refine aB h8 ?_
          refine aR 6 ?_
          refine aB h15 ?_
          refine aR 4 ?_
          refine aB h16 ?_
          refine aR 11 ?_
          refine aB h19 ?_
          refine aR 8 ?_
          refine aE ?_
          exact oO hF [] [] rfl

def fleetkeep2_VisitsAreApart_x3_k : Bool → AEx
  | _ => .normal

def fleetkeep2_VisitsAreApart_x3_S (vr9 : List api_Spot) (vr16 : List api_Fix) (vr4 : List api_Visit) (vx1 : Int) (vy3 : api_Visit) (vr1_2 : Int) (vr4_3 : Int) : Bool → St
  | vx6 => Mem.st ⟨[], [(0, [.d (.str ([102] : List UInt8)), .d (.lst (List.map api_Spot.enc vr9))]), (1, [.d (.int .i64 vy3.From), .d (.int .i64 vy3.To)])]⟩ (tl [(4, .v (.one (.box 0 0))), (5, .v (.one (.d (.lst (List.map api_Fix.enc vr16))))), (6, .v (.one (.d (.lst (List.map api_Visit.enc vr4))))), (10, .v (.one (.box 1 0))), (30, .v (.one (.d (.lst (List.map api_Visit.enc vr4))))), (31, .v (.one (.d (.int .i64 (vr4.length : Int))))), (32, .v (.one (.d (.int .i64 vx1)))), (90, .v (.one (.d (.bool vx6))))]) 2

def fleetkeep2_VisitsAreApart_x3_I (vr9 : List api_Spot) (vr16 : List api_Fix) (vr4 : List api_Visit) (vx1 : Int) (vy3 : api_Visit) (vr1_2 : Int) (vr4_3 : Int) : St := Mem.st ⟨[], [(0, [.d (.str ([102] : List UInt8)), .d (.lst (List.map api_Spot.enc vr9))]), (1, [.d (.int .i64 vy3.From), .d (.int .i64 vy3.To)])]⟩ (tl [(4, .v (.one (.box 0 0))), (5, .v (.one (.d (.lst (List.map api_Fix.enc vr16))))), (6, .v (.one (.d (.lst (List.map api_Visit.enc vr4))))), (10, .v (.one (.box 1 0))), (12, .v (.one (.d (.int .i64 vr1_2)))), (13, .v (.one (.d (.int .i64 vr4_3)))), (30, .v (.one (.d (.lst (List.map api_Visit.enc vr4))))), (31, .v (.one (.d (.int .i64 (vr4.length : Int))))), (32, .v (.one (.d (.int .i64 vx1))))]) 2

theorem fleetkeep2_VisitsAreApart_x3_ok (vr9 : List api_Spot) (vr16 : List api_Fix) (vr4 : List api_Visit) (vx1 : Int) (vy3 : api_Visit) (vr1_2 : Int) (vr4_3 : Int) {r} (hF : fleetkeep2_VisitsAreApart_x3 vr1_2 vr4_3 = some r) : Awp prog 0 118 (cL (cL (cR (cR (cR (cR (cL (cL (cR (cR (cL (cL (cR (cL (cR (cR (cR (cR (cR (cR (cB f5))))))))))))))))))))) (Out 0 fleetkeep2_VisitsAreApart_x3_k (fleetkeep2_VisitsAreApart_x3_S vr9 vr16 vr4 vx1 vy3 vr1_2 vr4_3) r) (fleetkeep2_VisitsAreApart_x3_I vr9 vr16 vr4 vx1 vy3 vr1_2 vr4_3) := by
  unfold fleetkeep2_VisitsAreApart_x3 at hF
  refine cE hF (fun h24 hF => ?_) fun h24 hF => ?_
  · refine awp_region ?_
    refine aR 1 ?_
    refine aB h24 ?_
    refine aR 4 ?_
    refine aE ?_
    exact oO hF [] [] rfl
  · refine awp_region ?_
    refine aR 1 ?_
    refine aB h24 ?_
    refine aR 4 ?_
    refine aE ?_
    exact oO hF [] [] rfl

def fleetkeep2_VisitsAreApart_x5_k : Bool → AEx
  | _ => .normal

def fleetkeep2_VisitsAreApart_x5_S (vr9 : List api_Spot) (vr16 : List api_Fix) (vr4 : List api_Visit) (vx1 : Int) (vy3 : api_Visit) (vr1_3 : Int) (vr4_4 : Int) : Bool → St
  | vx7 => Mem.st ⟨[], [(0, [.d (.str ([102] : List UInt8)), .d (.lst (List.map api_Spot.enc vr9))]), (1, [.d (.int .i64 vy3.From), .d (.int .i64 vy3.To)])]⟩ (tl [(4, .v (.one (.box 0 0))), (5, .v (.one (.d (.lst (List.map api_Fix.enc vr16))))), (6, .v (.one (.d (.lst (List.map api_Visit.enc vr4))))), (10, .v (.one (.box 1 0))), (30, .v (.one (.d (.lst (List.map api_Visit.enc vr4))))), (31, .v (.one (.d (.int .i64 (vr4.length : Int))))), (32, .v (.one (.d (.int .i64 vx1)))), (113, .v (.one (.d (.bool vx7))))]) 2

def fleetkeep2_VisitsAreApart_x5_I (vr9 : List api_Spot) (vr16 : List api_Fix) (vr4 : List api_Visit) (vx1 : Int) (vy3 : api_Visit) (vr1_3 : Int) (vr4_4 : Int) : St := Mem.st ⟨[], [(0, [.d (.str ([102] : List UInt8)), .d (.lst (List.map api_Spot.enc vr9))]), (1, [.d (.int .i64 vy3.From), .d (.int .i64 vy3.To)])]⟩ (tl [(4, .v (.one (.box 0 0))), (5, .v (.one (.d (.lst (List.map api_Fix.enc vr16))))), (6, .v (.one (.d (.lst (List.map api_Visit.enc vr4))))), (10, .v (.one (.box 1 0))), (12, .v (.one (.d (.int .i64 vr1_3)))), (13, .v (.one (.d (.int .i64 vr4_4)))), (30, .v (.one (.d (.lst (List.map api_Visit.enc vr4))))), (31, .v (.one (.d (.int .i64 (vr4.length : Int))))), (32, .v (.one (.d (.int .i64 vx1))))]) 2

theorem fleetkeep2_VisitsAreApart_x5_ok (vr9 : List api_Spot) (vr16 : List api_Fix) (vr4 : List api_Visit) (vx1 : Int) (vy3 : api_Visit) (vr1_3 : Int) (vr4_4 : Int) {r} (hF : fleetkeep2_VisitsAreApart_x5 vr1_3 vr4_4 = some r) : Awp prog 0 118 (cL (cR (cR (cL (cR (cR (cL (cR (cR (cR (cR (cR (cL (cL (cR (cR (cL (cL (cR (cL (cR (cR (cR (cR (cR (cR (cB f5))))))))))))))))))))))))))) (Out 0 fleetkeep2_VisitsAreApart_x5_k (fleetkeep2_VisitsAreApart_x5_S vr9 vr16 vr4 vx1 vy3 vr1_3 vr4_4) r) (fleetkeep2_VisitsAreApart_x5_I vr9 vr16 vr4 vx1 vy3 vr1_3 vr4_4) := by
  unfold fleetkeep2_VisitsAreApart_x5 at hF
  refine cE hF (fun h32 hF => ?_) fun h32 hF => ?_
  · refine awp_region ?_
    refine aR 1 ?_
    refine aB h32 ?_
    refine aR 4 ?_
    refine aE ?_
    exact oO hF [] [] rfl
  · refine awp_region ?_
    refine aR 1 ?_
    refine aB h32 ?_
    refine aR 4 ?_
    refine aE ?_
    exact oO hF [] [] rfl

def fleetkeep2_VisitsAreApart_x4_k : Unit ⊕ Unit → AEx
  | .inl _ => .normal
  | .inr _ => .ret

def fleetkeep2_VisitsAreApart_x4_S (vr9 : List api_Spot) (vr16 : List api_Fix) (vr4 : List api_Visit) (vx1 : Int) (vy3 : api_Visit) : Unit ⊕ Unit → St
  | .inl _ => Mem.st ⟨[], [(0, [.d (.str ([102] : List UInt8)), .d (.lst (List.map api_Spot.enc vr9))]), (1, [.d (.int .i64 vy3.From), .d (.int .i64 vy3.To)])]⟩ (tl [(4, .v (.one (.box 0 0))), (5, .v (.one (.d (.lst (List.map api_Fix.enc vr16))))), (6, .v (.one (.d (.lst (List.map api_Visit.enc vr4))))), (10, .v (.one (.box 1 0))), (30, .v (.one (.d (.lst (List.map api_Visit.enc vr4))))), (31, .v (.one (.d (.int .i64 (vr4.length : Int))))), (32, .v (.one (.d (.int .i64 vx1))))]) 2
  | .inr _ => Mem.st ⟨[], []⟩ (tl [(2, .v (.one (.d (.bool false))))]) 0

def fleetkeep2_VisitsAreApart_x4_I (vr9 : List api_Spot) (vr16 : List api_Fix) (vr4 : List api_Visit) (vx1 : Int) (vy3 : api_Visit) : St := Mem.st ⟨[], [(0, [.d (.str ([102] : List UInt8)), .d (.lst (List.map api_Spot.enc vr9))]), (1, [.d (.int .i64 vy3.From), .d (.int .i64 vy3.To)])]⟩ (tl [(4, .v (.one (.box 0 0))), (5, .v (.one (.d (.lst (List.map api_Fix.enc vr16))))), (6, .v (.one (.d (.lst (List.map api_Visit.enc vr4))))), (10, .v (.one (.box 1 0))), (30, .v (.one (.d (.lst (List.map api_Visit.enc vr4))))), (31, .v (.one (.d (.int .i64 (vr4.length : Int))))), (32, .v (.one (.d (.int .i64 vx1))))]) 2

theorem fleetkeep2_VisitsAreApart_x4_ok (vr9 : List api_Spot) (vr16 : List api_Fix) (vr4 : List api_Visit) (vx1 : Int) (vy3 : api_Visit) {r} (hF : fleetkeep2_VisitsAreApart_x4 vr9 vr16 vy3 = some r) : Awp prog 0 118 (cL (cR (cR (cR (cR (cR (cL (cL (cR (cR (cL (cL (cR (cL (cR (cR (cR (cR (cR (cR (cB f5))))))))))))))))))))) (Out 0 fleetkeep2_VisitsAreApart_x4_k (fleetkeep2_VisitsAreApart_x4_S vr9 vr16 vr4 vx1 vy3) r) (fleetkeep2_VisitsAreApart_x4_I vr9 vr16 vr4 vx1 vy3) := by
  unfold fleetkeep2_VisitsAreApart_x4 at hF
  refine awp_seq ?_
  refine bE hF fun vr6 h27 hF => ?_
  refine awp_region ?_
  refine aR 2 ?_
  refine aC (slices_IndexFunc_api_Fix_api_Fix_f1_fleetkeep2_VisitsAreApart_2_ok h27) [(0, 1)] [] [] ?_
  refine aR 1 ?_
  refine aE ?_
  refine awp_seq ?_
  refine awp_region ?_
  refine aR 3 ?_
  refine aE ?_
  refine cE hF (fun h28 hF => ?_) fun h28 hF => ?_
  · refine awp_true (by kernel_rfl) h28 ?_
    refine awp_seq ?_
    refine awp_seq ?_
    refine awp_region ?_
    refine aR 2 ?_
    refine aE ?_
    refine cE hF (fun h29 hF => ?_) fun h29 hF => ?_
    · refine awp_true (by kernel_rfl) h29 ?_
      refine awp_seq ?_
      refine awp_region ?_
      refine aR 1 ?_
      refine aE ?_
      refine awp_ret ?_
      exact oO hF [] [] rfl
    · refine awp_false (by kernel_rfl) h29 ?_
      refine awp_skip ?_
      refine awp_seq ?_
      refine bE hF fun vy5 h30 hF => ?_
      refine bE hF fun x h31 hF => ?_
      obtain ⟨vr1_3, vr4_4⟩ := x
      refine aD ?_
      refine dR 3 ?_
      refine dX (x_idx api_Fix.enc h30) ?_
      refine dR 1 ?_
      refine dC (place_Surely_ok h31) [] [] [] ?_
      refine dR 5 ?_
      refine dE ?_
      refine awp_seq ?_
      refine awp_to (st' := fleetkeep2_VisitsAreApart_x5_I vr9 vr16 vr4 vx1 vy3 vr1_3 vr4_4) (oT [] []) ?_
      refine bE hF fun vx7_1 h33 hF => ?_
      refine awp_sub (fleetkeep2_VisitsAreApart_x5_ok vr9 vr16 vr4 vx1 vy3 vr1_3 vr4_4 h33) ?_
      refine cE hF (fun h34 hF => ?_) fun h34 hF => ?_
      · refine awp_true (by kernel_rfl) h34 ?_
        refine awp_seq ?_
        refine awp_region ?_
        refine aR 1 ?_
        refine aE ?_
        refine awp_ret ?_
        exact oO hF [] [] rfl
      · refine awp_false (by kernel_rfl) h34 ?_
        refine awp_skip ?_
        exact oO hF [] [] rfl
  · refine awp_false (by kernel_rfl) h28 ?_
    refine awp_skip ?_
    exact oO hF [] [] rfl

def fleetkeep2_VisitsAreApart_x1_k : Unit ⊕ Unit → AEx
  | .inl _ => .exit 0
  | .inr _ => .ret

def fleetkeep2_VisitsAreApart_x1_S (vr9 : List api_Spot) (vr16 : List api_Fix) (vr4 : List api_Visit) : Unit ⊕ Unit → St
  | .inl _ => Mem.st ⟨[], []⟩ (tl []) 0
  | .inr _ => Mem.st ⟨[], []⟩ (tl [(2, .v (.one (.d (.bool false))))]) 0

def fleetkeep2_VisitsAreApart_x1_H (vr9 : List api_Spot) (vr16 : List api_Fix) (vr4 : List api_Visit) : Int × Int → St
  | (vx, vx1) => Mem.st ⟨[], [(0, [.d (.str ([102] : List UInt8)), .d (.lst (List.map api_Spot.enc vr9))])]⟩ (tl [(4, .v (.one (.box 0 0))), (5, .v (.one (.d (.lst (List.map api_Fix.enc vr16))))), (6, .v (.one (.d (.lst (List.map api_Visit.enc vr4))))), (8, .v (.one (.d (.int .i64 vx)))), (30, .v (.one (.d (.lst (List.map api_Visit.enc vr4))))), (31, .v (.one (.d (.int .i64 (vr4.length : Int))))), (32, .v (.one (.d (.int .i64 vx1))))]) 1

theorem fleetkeep2_VisitsAreApart_x1_ok (vr9 : List api_Spot) (vr16 : List api_Fix) (vr4 : List api_Visit) (s : Int × Int) (r : (Int × Int) ⊕ (Unit ⊕ Unit)) (hF : fleetkeep2_VisitsAreApart_x1 vr9 vr16 vr4 s = some r) : Awp prog 0 118 (cL (cL (cR (cL (cR (cR (cR (cR (cR (cR (cB f5))))))))))) (Out 0 (kk fleetkeep2_VisitsAreApart_x1_k) (SS (fleetkeep2_VisitsAreApart_x1_H vr9 vr16 vr4) (fleetkeep2_VisitsAreApart_x1_S vr9 vr16 vr4)) r) (fleetkeep2_VisitsAreApart_x1_H vr9 vr16 vr4 s) := by
  obtain ⟨vx, vx1⟩ := s
  unfold fleetkeep2_VisitsAreApart_x1 at hF
  refine awp_seq ?_
  refine awp_region ?_
  refine aR 1 ?_
  refine aE ?_
  refine awp_seq ?_
  refine cE hF (fun h5 hF => ?_) fun h5 hF => ?_
  · refine awp_true (by kernel_rfl) h5 ?_
    refine awp_skip ?_
    refine awp_seq ?_
    refine awp_block ?_
    refine awp_seq ?_
    refine bE hF fun vy3 h6 hF => ?_
    refine awp_region ?_
    refine aR 1 ?_
    refine aX (x_idx api_Visit.enc h6) ?_
    refine aR 4 ?_
    refine aE ?_
    refine awp_seq ?_
    refine bE hF fun vr3 h7 hF => ?_
    refine awp_region ?_
    refine aR 2 ?_
    refine aC (slices_IndexFunc_api_Fix_api_Fix_f1_fleetkeep2_VisitsAreApart_1_ok h7) [(0, 4001)] [] [] ?_
    refine aR 1 ?_
    refine aE ?_
    refine awp_seq ?_
    refine awp_seq ?_
    refine awp_to (st' := fleetkeep2_VisitsAreApart_x2_I vr9 vr16 vr4 vx vx1 vy3 vr3) (oT [(1, 4001)] []) ?_
    refine bE hF fun vx5_1 h20 hF => ?_
    refine awp_sub (fleetkeep2_VisitsAreApart_x2_ok vr9 vr16 vr4 vx vx1 vy3 vr3 h20) ?_
    refine cE hF (fun h21 hF => ?_) fun h21 hF => ?_
    · refine awp_true (by kernel_rfl) h21 ?_
      refine awp_seq ?_
      refine awp_region ?_
      refine aR 1 ?_
      refine aE ?_
      refine awp_ret ?_
      exact oO hF [] [] rfl
    · refine awp_false (by kernel_rfl) h21 ?_
      refine awp_skip ?_
      refine awp_seq ?_
      refine bE hF fun vy4 h22 hF => ?_
      refine bE hF fun x h23 hF => ?_
      obtain ⟨vr1_2, vr4_3⟩ := x
      refine aD ?_
      refine dR 3 ?_
      refine dX (x_idx api_Fix.enc h22) ?_
      refine dR 1 ?_
      refine dC (place_Surely_ok h23) [] [] [] ?_
      refine dR 5 ?_
      refine dE ?_
      refine awp_seq ?_
      refine awp_seq ?_
      refine awp_to (st' := fleetkeep2_VisitsAreApart_x3_I vr9 vr16 vr4 vx1 vy3 vr1_2 vr4_3) (oT [] []) ?_
      refine bE hF fun vx6_1 h25 hF => ?_
      refine awp_sub (fleetkeep2_VisitsAreApart_x3_ok vr9 vr16 vr4 vx1 vy3 vr1_2 vr4_3 h25) ?_
      refine cE hF (fun h26 hF => ?_) fun h26 hF => ?_
      · refine awp_true (by kernel_rfl) h26 ?_
        refine awp_seq ?_
        refine awp_region ?_
        refine aR 1 ?_
        refine aE ?_
        refine awp_ret ?_
        exact oO hF [] [] rfl
      · refine awp_false (by kernel_rfl) h26 ?_
        refine awp_skip ?_
        refine awp_seq ?_
        refine awp_to (st' := fleetkeep2_VisitsAreApart_x4_I vr9 vr16 vr4 vx1 vy3) (oT [] []) ?_
        refine bE hF fun x h35 hF => ?_
        rcases x with _ | _
        · refine awp_sub (fleetkeep2_VisitsAreApart_x4_ok vr9 vr16 vr4 vx1 vy3 h35) ?_
          refine awp_region ?_
          refine aR 3 ?_
          refine aE ?_
          refine awp_region ?_
          refine aR 2 ?_
          refine aE ?_
          exact oO hF [] [] rfl
        · refine awp_sub (fleetkeep2_VisitsAreApart_x4_ok vr9 vr16 vr4 vx1 vy3 h35) ?_
          exact oO hF [] [] rfl
  · refine awp_false (by kernel_rfl) h5 ?_
    refine awp_exit ?_
    exact oO hF [] [] rfl

def fleetkeep2_VisitsAreApart_R (qx : List Int) (r : Bool) : TV × Mem := (.v (.one (.d (.bool r))), ⟨[], []⟩)

theorem fleetkeep2_VisitsAreApart_ok {qx : List Int} {r} (hF : fleetkeep2_VisitsAreApart qx = some r) : Holds prog 5 [.v (.one (.d (.lst (List.map (encI .i64) qx))))] ⟨[], []⟩ (Is (fleetkeep2_VisitsAreApart_R qx r)) := by
  unfold fleetkeep2_VisitsAreApart at hF
  refine holds_of_awp hΓ (fn := f5) (c := cB f5) (A := 0) (nx := 0) (by kernel_rfl) (by kernel_rfl) (by kernel_rfl) (by kernel_rfl) (by kernel_rfl) (by kernel_rfl) (lowc_of (by kernel_rfl)) ?_
  show Awp prog 0 118 (cB f5) _ _
  refine awp_seq ?_
  refine awp_region ?_
  refine aR 1 ?_
  refine aE ?_
  refine awp_seq ?_
  refine awp_region ?_
  refine aR 4 ?_
  refine aE ?_
  refine awp_seq ?_
  refine bE hF fun x h1 hF => ?_
  obtain ⟨vs15, vr9⟩ := x
  refine bE hF fun x h2 hF => ?_
  obtain ⟨vs11, vr16⟩ := x
  refine awp_region ?_
  refine aR 1 ?_
  refine aC (fleetmake_Stream_RightFence_ok h1) [(0, 3000)] [] [] ?_
  refine aR 1 ?_
  refine aC (fleetmake_Stream_RightTrack_ok h2) [(0, 3000)] [] [] ?_
  refine aR 3 ?_
  refine aE ?_
  refine awp_to (oT (m := ⟨[(1, ⟨35, 2, List.map api_Spot.enc vr9⟩)], [(0, [.d (.str ([102] : List UInt8)), .own 1 none])]⟩) (ts := [(4, .v (.one (.box 0 0))), (5, .v (.one (.d (.lst (List.map api_Fix.enc vr16)))))]) (nx := 2) [(0, 9000), (1, 6001)] []) ?_
  refine awp_seq ?_
  refine bE hF fun x h3 hF => ?_
  obtain ⟨vr4, vr5⟩ := x
  refine awp_to (oT (m := ⟨[], [(0, [.d (.str ([102] : List UInt8)), .d (.lst (List.map api_Spot.enc vr9))])]⟩) (ts := [(4, .v (.one (.box 0 0))), (5, .v (.one (.d (.lst (List.map api_Fix.enc vr16)))))]) (nx := 2) [] []) ?_
  refine awp_region ?_
  refine aR 2 ?_
  refine aC (place_Visits_ok h3) [] [] [] ?_
  refine aR 5 ?_
  refine aE ?_
  refine awp_to (oT (m := ⟨[], [(0, [.d (.str ([102] : List UInt8)), .d (.lst (List.map api_Spot.enc vr9))])]⟩) (ts := [(4, .v (.one (.box 0 0))), (5, .v (.one (.d (.lst (List.map api_Fix.enc vr16))))), (6, .v (.one (.d (.lst (List.map api_Visit.enc vr4))))), (7, .v (.one (.d (.int .i64 vr5))))]) (nx := 1) [] []) ?_
  refine awp_seq ?_
  refine awp_seq ?_
  refine awp_region ?_
  refine aR 2 ?_
  refine aE ?_
  refine cE hF (fun h4 hF => ?_) fun h4 hF => ?_
  · refine awp_true (by kernel_rfl) h4 ?_
    refine awp_seq ?_
    refine awp_region ?_
    refine aR 1 ?_
    refine aE ?_
    refine awp_ret ?_
    exact oF hF [] []
  · refine awp_false (by kernel_rfl) h4 ?_
    refine awp_skip ?_
    refine awp_seq ?_
    refine awp_region ?_
    refine aR 1 ?_
    refine aE ?_
    refine awp_seq ?_
    refine awp_seq ?_
    refine awp_region ?_
    refine aR 1 ?_
    refine aL api_Visit.enc vr4 ?_
    refine aR 1 ?_
    refine aE ?_
    refine awp_block ?_
    refine awp_to (st' := fleetkeep2_VisitsAreApart_x1_H vr9 vr16 vr4 ((-1), 0)) (oT [] []) ?_
    refine bE hF fun x h36 hF => ?_
    rcases x with _ | _
    · refine awp_sub (awp_loop' (fleetkeep2_VisitsAreApart_x1_H vr9 vr16 vr4) fleetkeep2_VisitsAreApart_x1_k (fleetkeep2_VisitsAreApart_x1_S vr9 vr16 vr4) (by intro x; rcases x with x | x <;> exact fun h => nomatch h) h36 (fleetkeep2_VisitsAreApart_x1_ok vr9 vr16 vr4)) ?_
      refine awp_seq ?_
      refine bE hF fun vr9_1 h37 hF => ?_
      refine awp_region ?_
      refine aC (fleetkeep2_ready_ok h37) [] [] [] ?_
      refine aR 1 ?_
      refine aE ?_
      refine awp_ret ?_
      exact oF hF [] []
    · refine awp_sub (awp_loop' (fleetkeep2_VisitsAreApart_x1_H vr9 vr16 vr4) fleetkeep2_VisitsAreApart_x1_k (fleetkeep2_VisitsAreApart_x1_S vr9 vr16 vr4) (by intro x; rcases x with x | x <;> exact fun h => nomatch h) h36 (fleetkeep2_VisitsAreApart_x1_ok vr9 vr16 vr4)) ?_
      exact oF hF [] []

end Go.Eng
