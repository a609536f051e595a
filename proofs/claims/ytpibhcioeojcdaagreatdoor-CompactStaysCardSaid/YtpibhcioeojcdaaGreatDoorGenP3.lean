/-
The code of the Go functions that the law CompactStays reaches does what the plain functions say, part 3.
-/
import Derived.Test.YtpibhcioeojcdaaGreatDoorGenP2

namespace Go.Eng

open Go Go.Proofs.Tryz

set_option linter.unusedVariables false

set_option maxRecDepth 20000

set_option maxHeartbeats 0

/-! ### beaconfleet/twin.Compact -/
def twin_Compact_x2_k : (List api_Cell) → AEx
  | _ => .normal

def twin_Compact_x2_S (qx : List api_Cell) (qx1 : Int) (vx : List api_Cell) (vx1 : Int) : (List api_Cell) → St
  | vx3 => Mem.st ⟨[(1, ⟨49, 8, List.map api_Cell.enc vx3⟩)], [(0, [.d (.int .i64 qx1)])]⟩ (tl [(0, .v (.one (.d (.lst (List.map api_Cell.enc qx))))), (7, .v (.one (.fn 79 [0]))), (8, .v (.one (.own 1 none))), (9, .v (.one (.nil))), (23, .v (.one (.d (.lst (List.map api_Cell.enc qx))))), (24, .v (.one (.d (.int .i64 (qx.length : Int))))), (25, .v (.one (.d (.int .i64 vx1))))]) 2

def twin_Compact_x2_I (qx : List api_Cell) (qx1 : Int) (vx : List api_Cell) (vx1 : Int) : St := Mem.st ⟨[(1, ⟨49, 8, List.map api_Cell.enc vx⟩)], [(0, [.d (.int .i64 qx1)])]⟩ (tl [(0, .v (.one (.d (.lst (List.map api_Cell.enc qx))))), (7, .v (.one (.fn 79 [0]))), (8, .v (.one (.own 1 none))), (9, .v (.one (.nil))), (23, .v (.one (.d (.lst (List.map api_Cell.enc qx))))), (24, .v (.one (.d (.int .i64 (qx.length : Int))))), (25, .v (.one (.d (.int .i64 vx1))))]) 2

theorem twin_Compact_x2_ok (qx : List api_Cell) (qx1 : Int) (vx : List api_Cell) (vx1 : Int) {r} (hF : twin_Compact_x2 qx qx1 vx vx1 = some r) : Awp prog 0 68 (cL (cR (cR (cL (cL (cR (cL (cR (cR (cR (cR (cR (cB f16))))))))))))) (Out 0 twin_Compact_x2_k (twin_Compact_x2_S qx qx1 vx vx1) r) (twin_Compact_x2_I qx qx1 vx vx1) := by
  unfold twin_Compact_x2 at hF
  refine awp_block ?_
  refine awp_seq ?_
  refine bE hF fun vy1 h6 hF => ?_
  refine awp_region ?_
  refine aX (x_idx api_Cell.enc h6) ?_
  refine aR 3 ?_
  refine aE ?_
  refine awp_seq ?_
  refine bE hF fun vr1_1 h7 hF => ?_
  refine awp_region ?_
  refine aR 3 ?_
  refine aC (twin_hidden_f2_twin_Compact_1_ok h7) [] [] [] ?_
  refine aR 1 ?_
  refine aE ?_
  refine cE hF (fun h8 hF => ?_) fun h8 hF => ?_
  · refine awp_true (by kernel_rfl) h8 ?_
    refine gE hF fun h9 hF => ?_
    refine awp_region ?_
    refine aR 3 ?_
    refine aX (x_app api_Cell.enc 1 h9) ?_
    refine aR 1 ?_
    refine aE ?_
    exact oO hF [(1, 12002)] [] rfl
  · refine awp_false (by kernel_rfl) h8 ?_
    refine awp_skip ?_
    exact oO hF [] [] rfl

def twin_Compact_x1_k : (List api_Cell) → AEx
  | _ => .exit 0

def twin_Compact_x1_S (qx : List api_Cell) (qx1 : Int) : (List api_Cell) → St
  | vx4 => Mem.st ⟨[(1, ⟨49, 8, List.map api_Cell.enc vx4⟩)], [(0, [.d (.int .i64 qx1)])]⟩ (tl [(7, .v (.one (.fn 79 [0]))), (8, .v (.one (.own 1 none))), (9, .v (.one (.nil)))]) 2

def twin_Compact_x1_H (qx : List api_Cell) (qx1 : Int) : (List api_Cell) × Int → St
  | (vx, vx1) => Mem.st ⟨[(1, ⟨49, 8, List.map api_Cell.enc vx⟩)], [(0, [.d (.int .i64 qx1)])]⟩ (tl [(0, .v (.one (.d (.lst (List.map api_Cell.enc qx))))), (7, .v (.one (.fn 79 [0]))), (8, .v (.one (.own 1 none))), (9, .v (.one (.nil))), (23, .v (.one (.d (.lst (List.map api_Cell.enc qx))))), (24, .v (.one (.d (.int .i64 (qx.length : Int))))), (25, .v (.one (.d (.int .i64 vx1))))]) 2

theorem twin_Compact_x1_ok (qx : List api_Cell) (qx1 : Int) (s : (List api_Cell) × Int) (r : ((List api_Cell) × Int) ⊕ ((List api_Cell))) (hF : twin_Compact_x1 qx qx1 s = some r) : Awp prog 0 68 (cL (cL (cR (cL (cR (cR (cR (cR (cR (cB f16)))))))))) (Out 0 (kk twin_Compact_x1_k) (SS (twin_Compact_x1_H qx qx1) (twin_Compact_x1_S qx qx1)) r) (twin_Compact_x1_H qx qx1 s) := by
  obtain ⟨vx, vx1⟩ := s
  unfold twin_Compact_x1 at hF
  refine awp_seq ?_
  refine awp_region ?_
  refine aR 1 ?_
  refine aE ?_
  refine awp_seq ?_
  refine cE hF (fun h5 hF => ?_) fun h5 hF => ?_
  · refine awp_true (by kernel_rfl) h5 ?_
    refine awp_skip ?_
    refine awp_seq ?_
    refine awp_to (st' := twin_Compact_x2_I qx qx1 vx vx1) (oT [] []) ?_
    refine bE hF fun vx3_1 h10 hF => ?_
    refine awp_sub (twin_Compact_x2_ok qx qx1 vx vx1 h10) ?_
    refine awp_region ?_
    refine aR 2 ?_
    refine aE ?_
    exact oO hF [] [] rfl
  · refine awp_false (by kernel_rfl) h5 ?_
    refine awp_exit ?_
    exact oO hF [] [] rfl

def twin_Compact_x5_k : Bool → AEx
  | _ => .normal

def twin_Compact_x5_S (qx1 : Int) (vx4_1 : List api_Cell) (vx5 : List api_Cell) (vx6 : Int) (vy3 : api_Cell) : Bool → St
  | vx9 => Mem.st ⟨[(2, ⟨49, 8, List.map api_Cell.enc vx4_1⟩), (3, ⟨49, 8, List.map api_Cell.enc vx5⟩)], [(0, [.d (.str vy3.Prop_.Name), .d (.int .i64 vy3.Prop_.Value.Kind), .d (.bool vy3.Prop_.Value.Flag), .d (.int .i64 vy3.Prop_.Value.Number), .d (.str vy3.Prop_.Value.Words), .d (.int .i64 vy3.Stamp.At), .d (.str vy3.Stamp.By), .d (.int .i64 vy3.Stamp.No)]), (1, [.d (.int .i64 qx1)])]⟩ (tl [(7, .v (.one (.fn 79 [1]))), (8, .v (.one (.own 2 none))), (9, .v (.one (.own 3 none))), (13, .v (.one (.box 0 0))), (39, .v (.one (.own 2 none))), (40, .v (.one (.d (.int .i64 (vx4_1.length : Int))))), (41, .v (.one (.d (.int .i64 vx6)))), (61, .v (.one (.d (.bool vx9))))]) 4

def twin_Compact_x5_I (qx1 : Int) (vx4_1 : List api_Cell) (vx5 : List api_Cell) (vx6 : Int) (vy3 : api_Cell) : St := Mem.st ⟨[(2, ⟨49, 8, List.map api_Cell.enc vx4_1⟩), (3, ⟨49, 8, List.map api_Cell.enc vx5⟩)], [(0, [.d (.str vy3.Prop_.Name), .d (.int .i64 vy3.Prop_.Value.Kind), .d (.bool vy3.Prop_.Value.Flag), .d (.int .i64 vy3.Prop_.Value.Number), .d (.str vy3.Prop_.Value.Words), .d (.int .i64 vy3.Stamp.At), .d (.str vy3.Stamp.By), .d (.int .i64 vy3.Stamp.No)]), (1, [.d (.int .i64 qx1)])]⟩ (tl [(7, .v (.one (.fn 79 [1]))), (8, .v (.one (.own 2 none))), (9, .v (.one (.own 3 none))), (13, .v (.one (.box 0 0))), (14, .v (.one (.fn 81 [0]))), (39, .v (.one (.own 2 none))), (40, .v (.one (.d (.int .i64 (vx4_1.length : Int))))), (41, .v (.one (.d (.int .i64 vx6))))]) 4

theorem twin_Compact_x5_ok (qx1 : Int) (vx4_1 : List api_Cell) (vx5 : List api_Cell) (vx6 : Int) (vy3 : api_Cell) {r} (hF : twin_Compact_x5 qx1 vx4_1 vy3 = some r) : Awp prog 0 68 (cL (cR (cR (cL (cL (cR (cR (cL (cL (cR (cL (cR (cR (cR (cR (cR (cR (cB f16)))))))))))))))))) (Out 0 twin_Compact_x5_k (twin_Compact_x5_S qx1 vx4_1 vx5 vx6 vy3) r) (twin_Compact_x5_I qx1 vx4_1 vx5 vx6 vy3) := by
  unfold twin_Compact_x5 at hF
  refine cE hF (fun h14 hF => ?_) fun h14 hF => ?_
  · refine awp_region ?_
    refine aR 4 ?_
    refine aB h14 ?_
    refine aR 11 ?_
    refine aE ?_
    exact oO hF [] [] rfl
  · refine bE hF fun _ h15 hF => ?_
    refine cE hF (fun h16 hF => ?_) fun h16 hF => ?_
    · refine awp_region ?_
      refine aR 4 ?_
      refine aB h14 ?_
      refine aR 3 ?_
      refine aC (twin_Compact_1_ok h15) [(0, 1)] [] [] ?_
      refine aB h16 ?_
      refine aR 6 ?_
      refine aE ?_
      exact oO hF [] [] rfl
    · refine bE hF fun vr1_3 h17 hF => ?_
      refine awp_region ?_
      refine aR 4 ?_
      refine aB h14 ?_
      refine aR 3 ?_
      refine aC (twin_Compact_1_ok h15) [(0, 1)] [] [] ?_
      refine aB h16 ?_
      refine aR 4 ?_
      refine aC (slices_ContainsFunc_api_Cell_api_Cell_f1_twin_Compact_2_ok h17) [] [] [2] ?_
      refine aR 1 ?_
      refine aE ?_
      exact oO hF [] [] rfl

def twin_Compact_x4_k : (List api_Cell) → AEx
  | _ => .normal

def twin_Compact_x4_S (qx1 : Int) (vx4_1 : List api_Cell) (vx5 : List api_Cell) (vx6 : Int) : (List api_Cell) → St
  | vx10 => Mem.st ⟨[(1, ⟨49, 8, List.map api_Cell.enc vx4_1⟩), (2, ⟨49, 8, List.map api_Cell.enc vx10⟩)], [(0, [.d (.int .i64 qx1)])]⟩ (tl [(7, .v (.one (.fn 79 [0]))), (8, .v (.one (.own 1 none))), (9, .v (.one (.own 2 none))), (39, .v (.one (.own 1 none))), (40, .v (.one (.d (.int .i64 (vx4_1.length : Int))))), (41, .v (.one (.d (.int .i64 vx6))))]) 3

def twin_Compact_x4_I (qx1 : Int) (vx4_1 : List api_Cell) (vx5 : List api_Cell) (vx6 : Int) : St := Mem.st ⟨[(1, ⟨49, 8, List.map api_Cell.enc vx4_1⟩), (2, ⟨49, 8, List.map api_Cell.enc vx5⟩)], [(0, [.d (.int .i64 qx1)])]⟩ (tl [(7, .v (.one (.fn 79 [0]))), (8, .v (.one (.own 1 none))), (9, .v (.one (.own 2 none))), (39, .v (.one (.own 1 none))), (40, .v (.one (.d (.int .i64 (vx4_1.length : Int))))), (41, .v (.one (.d (.int .i64 vx6))))]) 3

theorem twin_Compact_x4_ok (qx1 : Int) (vx4_1 : List api_Cell) (vx5 : List api_Cell) (vx6 : Int) {r} (hF : twin_Compact_x4 qx1 vx4_1 vx5 vx6 = some r) : Awp prog 0 68 (cL (cR (cR (cL (cL (cR (cL (cR (cR (cR (cR (cR (cR (cB f16)))))))))))))) (Out 0 twin_Compact_x4_k (twin_Compact_x4_S qx1 vx4_1 vx5 vx6) r) (twin_Compact_x4_I qx1 vx4_1 vx5 vx6) := by
  unfold twin_Compact_x4 at hF
  refine awp_block ?_
  refine awp_seq ?_
  refine bE hF fun vy3 h13 hF => ?_
  refine awp_region ?_
  refine aX (x_idxO api_Cell.enc 1 h13) ?_
  refine aX (x_ldE api_Cell.enc h13) ?_
  refine aR 2 ?_
  refine aE ?_
  refine awp_seq ?_
  refine awp_region ?_
  refine aR 2 ?_
  refine aE ?_
  refine awp_seq ?_
  refine awp_to (st' := twin_Compact_x5_I qx1 vx4_1 vx5 vx6 vy3) (oT [(0, 2003), (1, 0), (2, 1), (3, 2)] []) ?_
  refine bE hF fun vx9_1 h18 hF => ?_
  refine awp_sub (twin_Compact_x5_ok qx1 vx4_1 vx5 vx6 vy3 h18) ?_
  refine cE hF (fun h19 hF => ?_) fun h19 hF => ?_
  · refine awp_true (by kernel_rfl) h19 ?_
    refine gE hF fun h20 hF => ?_
    refine awp_region ?_
    refine aR 3 ?_
    refine aX (x_app api_Cell.enc 3 h20) ?_
    refine aR 1 ?_
    refine aE ?_
    exact oO hF [(0, 1), (1, 2), (2, 3004)] [] rfl
  · refine awp_false (by kernel_rfl) h19 ?_
    refine awp_skip ?_
    exact oO hF [(0, 1), (1, 2), (2, 3)] [] rfl

def twin_Compact_x3_k : (List api_Cell) → AEx
  | _ => .exit 2

def twin_Compact_x3_S (qx1 : Int) (vx4_1 : List api_Cell) : (List api_Cell) → St
  | vx11 => Mem.st ⟨[(0, ⟨49, 8, List.map api_Cell.enc vx11⟩)], []⟩ (tl [(9, .v (.one (.own 0 none)))]) 1

def twin_Compact_x3_H (qx1 : Int) (vx4_1 : List api_Cell) : (List api_Cell) × Int → St
  | (vx5, vx6) => Mem.st ⟨[(1, ⟨49, 8, List.map api_Cell.enc vx4_1⟩), (2, ⟨49, 8, List.map api_Cell.enc vx5⟩)], [(0, [.d (.int .i64 qx1)])]⟩ (tl [(7, .v (.one (.fn 79 [0]))), (8, .v (.one (.own 1 none))), (9, .v (.one (.own 2 none))), (39, .v (.one (.own 1 none))), (40, .v (.one (.d (.int .i64 (vx4_1.length : Int))))), (41, .v (.one (.d (.int .i64 vx6))))]) 3

theorem twin_Compact_x3_ok (qx1 : Int) (vx4_1 : List api_Cell) (s : (List api_Cell) × Int) (r : ((List api_Cell) × Int) ⊕ ((List api_Cell))) (hF : twin_Compact_x3 qx1 vx4_1 s = some r) : Awp prog 0 68 (cL (cL (cR (cL (cR (cR (cR (cR (cR (cR (cB f16))))))))))) (Out 0 (kk twin_Compact_x3_k) (SS (twin_Compact_x3_H qx1 vx4_1) (twin_Compact_x3_S qx1 vx4_1)) r) (twin_Compact_x3_H qx1 vx4_1 s) := by
  obtain ⟨vx5, vx6⟩ := s
  unfold twin_Compact_x3 at hF
  refine awp_seq ?_
  refine awp_region ?_
  refine aR 1 ?_
  refine aE ?_
  refine awp_seq ?_
  refine cE hF (fun h12 hF => ?_) fun h12 hF => ?_
  · refine awp_true (by kernel_rfl) h12 ?_
    refine awp_skip ?_
    refine awp_seq ?_
    refine awp_to (st' := twin_Compact_x4_I qx1 vx4_1 vx5 vx6) (oT [] []) ?_
    refine bE hF fun vx10_1 h21 hF => ?_
    refine awp_sub (twin_Compact_x4_ok qx1 vx4_1 vx5 vx6 h21) ?_
    refine awp_region ?_
    refine aR 2 ?_
    refine aE ?_
    exact oO hF [] [] rfl
  · refine awp_false (by kernel_rfl) h12 ?_
    refine awp_exit ?_
    exact oO hF [(0, 2)] [] rfl

def twin_Compact_R (qx : List api_Cell) (qx1 : Int) (r : (List api_Cell) × Int) : TV × Mem := (.tup [.one (.own 0 none), .one (.d (.int .i64 r.2))], ⟨[(0, ⟨49, 8, List.map api_Cell.enc r.1⟩)], []⟩)

theorem twin_Compact_ok {qx : List api_Cell} {qx1 : Int} {r} (hF : twin_Compact qx qx1 = some r) : Holds prog 16 [.v (.one (.d (.lst (List.map api_Cell.enc qx)))), .v (.one (.d (.int .i64 qx1)))] ⟨[], []⟩ (Is (twin_Compact_R qx qx1 r)) := by
  unfold twin_Compact at hF
  refine holds_of_awp hΓ (fn := f16) (c := cB f16) (A := 0) (nx := 0) (by kernel_rfl) (by kernel_rfl) (by kernel_rfl) (by kernel_rfl) (by kernel_rfl) (by kernel_rfl) (lowc_of (by kernel_rfl)) ?_
  show Awp prog 0 68 (cB f16) _ _
  refine awp_seq ?_
  refine awp_region ?_
  refine aR 3 ?_
  refine aE ?_
  refine awp_seq ?_
  refine awp_seq ?_
  refine bE hF fun vr6 h1 hF => ?_
  refine awp_region ?_
  refine aR 1 ?_
  refine aC (twin_CheckCells_ok h1) [] [] [] ?_
  refine aR 1 ?_
  refine aE ?_
  refine awp_seq ?_
  refine awp_region ?_
  refine aR 2 ?_
  refine aE ?_
  refine cE hF (fun h2 hF => ?_) fun h2 hF => ?_
  · refine awp_true (by kernel_rfl) h2 ?_
    refine awp_seq ?_
    refine awp_region ?_
    refine aR 3 ?_
    refine aE ?_
    refine awp_ret ?_
    exact oF hF [] [0]
  · refine awp_false (by kernel_rfl) h2 ?_
    refine awp_skip ?_
    refine awp_seq ?_
    refine awp_seq ?_
    refine bE hF fun vr h3 hF => ?_
    refine awp_region ?_
    refine aR 1 ?_
    refine aC (base_Out_ok h3) [] [] [] ?_
    refine aE ?_
    refine cE hF (fun h4 hF => ?_) fun h4 hF => ?_
    · refine awp_true (by kernel_rfl) h4 ?_
      refine awp_seq ?_
      refine awp_region ?_
      refine aR 2 ?_
      refine aE ?_
      refine awp_ret ?_
      exact oF hF [] [0]
    · refine awp_false (by kernel_rfl) h4 ?_
      refine awp_skip ?_
      refine awp_seq ?_
      refine awp_region ?_
      refine aR 2 ?_
      refine aE ?_
      refine awp_seq ?_
      refine awp_region ?_
      refine aR 2 ?_
      refine aE ?_
      refine awp_seq ?_
      refine awp_seq ?_
      refine awp_region ?_
      refine aR 1 ?_
      refine aL api_Cell.enc qx ?_
      refine aR 1 ?_
      refine aE ?_
      refine awp_block ?_
      refine awp_to (st' := twin_Compact_x1_H qx qx1 ([], 0)) (oT [] [1]) ?_
      refine bE hF fun vx4_1 h11 hF => ?_
      refine awp_sub (awp_loop' (twin_Compact_x1_H qx qx1) twin_Compact_x1_k (twin_Compact_x1_S qx qx1) (by intro x; exact fun h => nomatch h) h11 (twin_Compact_x1_ok qx qx1)) ?_
      refine awp_seq ?_
      refine awp_seq ?_
      refine awp_region ?_
      refine aR 1 ?_
      refine aL api_Cell.enc vx4_1 ?_
      refine aR 1 ?_
      refine aE ?_
      refine awp_block ?_
      refine awp_to (st' := twin_Compact_x3_H qx1 vx4_1 ([], 0)) (oT [] [2]) ?_
      refine bE hF fun vx11_1 h22 hF => ?_
      refine awp_sub (awp_loop' (twin_Compact_x3_H qx1 vx4_1) twin_Compact_x3_k (twin_Compact_x3_S qx1 vx4_1) (by intro x; exact fun h => nomatch h) h22 (twin_Compact_x3_ok qx1 vx4_1)) ?_
      refine awp_seq ?_
      refine awp_region ?_
      refine aR 3 ?_
      refine aE ?_
      refine awp_ret ?_
      exact oF hF [] []

/-! ### slices.Equal[[]beaconfleet/api.Prop,beaconfleet/api.Prop] -/
def slices_Equal_api_Prop_api_Prop_x1_k : Unit ⊕ Unit → AEx
  | .inl _ => .exit 0
  | .inr _ => .ret

def slices_Equal_api_Prop_api_Prop_x1_S (qs1 : List api_Prop) (qs2 : List api_Prop) : Unit ⊕ Unit → St
  | .inl _ => Mem.st ⟨[], []⟩ (tl []) 0
  | .inr _ => Mem.st ⟨[], []⟩ (tl [(4, .v (.one (.d (.bool false))))]) 0

def slices_Equal_api_Prop_api_Prop_x1_H (qs1 : List api_Prop) (qs2 : List api_Prop) : Int → St
  | vx => Mem.st ⟨[], []⟩ (tl [(0, .v (.one (.d (.lst (List.map api_Prop.enc qs1))))), (1, .v (.one (.d (.lst (List.map api_Prop.enc qs2))))), (12, .v (.one (.d (.int .i64 (qs1.length : Int))))), (13, .v (.one (.d (.int .i64 vx))))]) 0

theorem slices_Equal_api_Prop_api_Prop_x1_ok (qs1 : List api_Prop) (qs2 : List api_Prop) (vx : Int) (r : (Int) ⊕ (Unit ⊕ Unit)) (hF : slices_Equal_api_Prop_api_Prop_x1 qs1 qs2 vx = some r) : Awp prog 0 26 (cL (cL (cR (cL (cR (cR (cB f22))))))) (Out 0 (kk slices_Equal_api_Prop_api_Prop_x1_k) (SS (slices_Equal_api_Prop_api_Prop_x1_H qs1 qs2) (slices_Equal_api_Prop_api_Prop_x1_S qs1 qs2)) r) (slices_Equal_api_Prop_api_Prop_x1_H qs1 qs2 vx) := by
  unfold slices_Equal_api_Prop_api_Prop_x1 at hF
  refine awp_seq ?_
  refine awp_region ?_
  refine aR 1 ?_
  refine aE ?_
  refine awp_seq ?_
  refine cE hF (fun h2 hF => ?_) fun h2 hF => ?_
  · refine awp_true (by kernel_rfl) h2 ?_
    refine awp_skip ?_
    refine awp_seq ?_
    refine awp_block ?_
    refine awp_seq ?_
    refine awp_region ?_
    refine aR 2 ?_
    refine aE ?_
    refine awp_seq ?_
    refine bE hF fun vy2 h3 hF => ?_
    refine bE hF fun vy3 h4 hF => ?_
    refine aD ?_
    refine dR 2 ?_
    refine dX (x_idx api_Prop.enc h3) ?_
    refine dR 3 ?_
    refine dX (x_idx api_Prop.enc h4) ?_
    refine dR 1 ?_
    refine dS (U := []) (stable_eqS (op := .neq) (xs := [.str vy2.Name, .int .i64 vy2.Value.Kind, .bool vy2.Value.Flag, .int .i64 vy2.Value.Number, .str vy2.Value.Words]) (ys := [.str vy3.Name, .int .i64 vy3.Value.Kind, .bool vy3.Value.Flag, .int .i64 vy3.Value.Number, .str vy3.Value.Words]) (b := (decide (vy2.Name = vy3.Name) && ((decide (vy2.Value.Kind = vy3.Value.Kind) && ((vy2.Value.Flag == vy3.Value.Flag) && (decide (vy2.Value.Number = vy3.Value.Number) && (decide (vy2.Value.Words = vy3.Value.Words) && true)))) && true))) (c := (!(decide (vy2.Name = vy3.Name) && ((decide (vy2.Value.Kind = vy3.Value.Kind) && ((vy2.Value.Flag == vy3.Value.Flag) && (decide (vy2.Value.Number = vy3.Value.Number) && (decide (vy2.Value.Words = vy3.Value.Words) && true)))) && true)))) rfl (.inr ⟨rfl, rfl⟩) (by kernel_rfl) (by kernel_rfl) (by kernel_rfl) (by kernel_rfl) (by kernel_rfl) (by kernel_rfl)) ?_
    refine dE ?_
    refine cE hF (fun h5 hF => ?_) fun h5 hF => ?_
    · refine awp_true (by kernel_rfl) h5 ?_
      refine awp_seq ?_
      refine awp_region ?_
      refine aR 1 ?_
      refine aE ?_
      refine awp_ret ?_
      exact oO hF [] [] rfl
    · refine awp_false (by kernel_rfl) h5 ?_
      refine awp_skip ?_
      refine awp_region ?_
      refine aR 2 ?_
      refine aE ?_
      exact oO hF [] [] rfl
  · refine awp_false (by kernel_rfl) h2 ?_
    refine awp_exit ?_
    exact oO hF [] [] rfl

def slices_Equal_api_Prop_api_Prop_R (qs1 : List api_Prop) (qs2 : List api_Prop) (r : Bool) : TV × Mem := (.v (.one (.d (.bool r))), ⟨[], []⟩)

theorem slices_Equal_api_Prop_api_Prop_ok {qs1 : List api_Prop} {qs2 : List api_Prop} {r} (hF : slices_Equal_api_Prop_api_Prop qs1 qs2 = some r) : Holds prog 22 [.v (.one (.d (.lst (List.map api_Prop.enc qs1)))), .v (.one (.d (.lst (List.map api_Prop.enc qs2))))] ⟨[], []⟩ (Is (slices_Equal_api_Prop_api_Prop_R qs1 qs2 r)) := by
  unfold slices_Equal_api_Prop_api_Prop at hF
  refine holds_of_awp hΓ (fn := f22) (c := cB f22) (A := 0) (nx := 0) (by kernel_rfl) (by kernel_rfl) (by kernel_rfl) (by kernel_rfl) (by kernel_rfl) (by kernel_rfl) (lowc_of (by kernel_rfl)) ?_
  show Awp prog 0 26 (cB f22) _ _
  refine awp_seq ?_
  refine awp_region ?_
  refine aR 1 ?_
  refine aE ?_
  refine awp_seq ?_
  refine awp_seq ?_
  refine awp_region ?_
  refine aR 1 ?_
  refine aL api_Prop.enc qs1 ?_
  refine aR 1 ?_
  refine aL api_Prop.enc qs2 ?_
  refine aR 1 ?_
  refine aE ?_
  refine cE hF (fun h1 hF => ?_) fun h1 hF => ?_
  · refine awp_true (by kernel_rfl) h1 ?_
    refine awp_seq ?_
    refine awp_region ?_
    refine aR 1 ?_
    refine aE ?_
    refine awp_ret ?_
    exact oF hF [] []
  · refine awp_false (by kernel_rfl) h1 ?_
    refine awp_skip ?_
    refine awp_seq ?_
    refine awp_seq ?_
    refine awp_region ?_
    refine aR 1 ?_
    refine aL api_Prop.enc qs1 ?_
    refine aR 1 ?_
    refine aE ?_
    refine awp_block ?_
    refine awp_to (st' := slices_Equal_api_Prop_api_Prop_x1_H qs1 qs2 0) (oT [] []) ?_
    refine bE hF fun x h6 hF => ?_
    rcases x with _ | _
    · refine awp_sub (awp_loop' (slices_Equal_api_Prop_api_Prop_x1_H qs1 qs2) slices_Equal_api_Prop_api_Prop_x1_k (slices_Equal_api_Prop_api_Prop_x1_S qs1 qs2) (by intro x; rcases x with x | x <;> exact fun h => nomatch h) h6 (slices_Equal_api_Prop_api_Prop_x1_ok qs1 qs2)) ?_
      refine awp_seq ?_
      refine awp_region ?_
      refine aR 1 ?_
      refine aE ?_
      refine awp_ret ?_
      exact oF hF [] []
    · refine awp_sub (awp_loop' (slices_Equal_api_Prop_api_Prop_x1_H qs1 qs2) slices_Equal_api_Prop_api_Prop_x1_k (slices_Equal_api_Prop_api_Prop_x1_S qs1 qs2) (by intro x; rcases x with x | x <;> exact fun h => nomatch h) h6 (slices_Equal_api_Prop_api_Prop_x1_ok qs1 qs2)) ?_
      exact oF hF [] []

/-! ### beaconfleet/fleetkeep2.CompactStays -/
def fleetkeep2_CompactStays_x1_k : (List api_Cell) → AEx
  | _ => .exit 0

def fleetkeep2_CompactStays_x1_S (vr8 : List api_Cell) (vr8_1 : List api_Cell) (vr : Int) : (List api_Cell) → St
  | vx2 => Mem.st ⟨[(0, ⟨49, 8, List.map api_Cell.enc vx2⟩)], []⟩ (tl [(4, .v (.one (.d (.lst (List.map api_Cell.enc vr8))))), (5, .v (.one (.own 0 none))), (6, .v (.one (.d (.int .i64 vr))))]) 1

def fleetkeep2_CompactStays_x1_H (vr8 : List api_Cell) (vr8_1 : List api_Cell) (vr : Int) : (List api_Cell) × Int → St
  | (vx, vx1) => Mem.st ⟨[(0, ⟨49, 8, List.map api_Cell.enc vx⟩)], []⟩ (tl [(4, .v (.one (.d (.lst (List.map api_Cell.enc vr8))))), (5, .v (.one (.own 0 none))), (6, .v (.one (.d (.int .i64 vr)))), (27, .v (.one (.d (.int .i64 (vr8_1.length : Int))))), (28, .v (.one (.d (.int .i64 vx1))))]) 1

theorem fleetkeep2_CompactStays_x1_ok (vr8 : List api_Cell) (vr8_1 : List api_Cell) (vr : Int) (s : (List api_Cell) × Int) (r : ((List api_Cell) × Int) ⊕ ((List api_Cell))) (hF : fleetkeep2_CompactStays_x1 vr8_1 vr s = some r) : Awp prog 0 117 (cL (cL (cR (cL (cR (cR (cR (cB f11)))))))) (Out 0 (kk fleetkeep2_CompactStays_x1_k) (SS (fleetkeep2_CompactStays_x1_H vr8 vr8_1 vr) (fleetkeep2_CompactStays_x1_S vr8 vr8_1 vr)) r) (fleetkeep2_CompactStays_x1_H vr8 vr8_1 vr s) := by
  obtain ⟨vx, vx1⟩ := s
  unfold fleetkeep2_CompactStays_x1 at hF
  refine awp_seq ?_
  refine awp_region ?_
  refine aR 1 ?_
  refine aE ?_
  refine awp_seq ?_
  refine cE hF (fun h4 hF => ?_) fun h4 hF => ?_
  · refine awp_true (by kernel_rfl) h4 ?_
    refine awp_skip ?_
    refine awp_seq ?_
    refine awp_block ?_
    refine awp_seq ?_
    refine awp_region ?_
    refine aR 2 ?_
    refine aE ?_
    refine bE hF fun vy1 h5 hF => ?_
    refine awp_region ?_
    refine aR 2 ?_
    refine aX (x_idxO api_Cell.enc 0 h5) ?_
    refine aR 2 ?_
    refine aX (x_ldE api_Cell.enc h5) ?_
    refine aR 2 ?_
    refine aX (x_idxO api_Cell.enc 0 h5) ?_
    refine aR 2 ?_
    refine aX (x_stE api_Cell.enc (api_Cell.mk (api_Prop.mk vy1.Prop_.Name (api_Value.mk vy1.Prop_.Value.Kind vy1.Prop_.Value.Flag vy1.Prop_.Value.Number vy1.Prop_.Value.Words)) (api_Stamp.mk (IntKind.wrap .i64 (vy1.Stamp.At + vr)) vy1.Stamp.By vy1.Stamp.No)) h5) ?_
    refine aE ?_
    refine awp_region ?_
    refine aR 2 ?_
    refine aE ?_
    exact oO hF [] [] rfl
  · refine awp_false (by kernel_rfl) h4 ?_
    refine awp_exit ?_
    exact oO hF [] [] rfl

def fleetkeep2_CompactStays_x2_k : Bool → AEx
  | _ => .normal

def fleetkeep2_CompactStays_x2_S (vr8 : List api_Cell) (vx2_1 : List api_Cell) (vr2 : List api_Cell) (vr3 : Int) (vr1 : List api_Prop) (vr2_1 : Int) (vr1_1 : List api_Prop) (vr2_2 : Int) : Bool → St
  | vx3 => Mem.st ⟨[(0, ⟨49, 8, List.map api_Cell.enc vx2_1⟩)], []⟩ (tl [(4, .v (.one (.d (.lst (List.map api_Cell.enc vr8))))), (5, .v (.one (.own 0 none))), (8, .v (.one (.d (.lst (List.map api_Cell.enc vr2))))), (77, .v (.one (.d (.bool vx3))))]) 1

def fleetkeep2_CompactStays_x2_I (vr8 : List api_Cell) (vx2_1 : List api_Cell) (vr2 : List api_Cell) (vr3 : Int) (vr1 : List api_Prop) (vr2_1 : Int) (vr1_1 : List api_Prop) (vr2_2 : Int) : St := Mem.st ⟨[(0, ⟨49, 8, List.map api_Cell.enc vx2_1⟩)], []⟩ (tl [(4, .v (.one (.d (.lst (List.map api_Cell.enc vr8))))), (5, .v (.one (.own 0 none))), (8, .v (.one (.d (.lst (List.map api_Cell.enc vr2))))), (9, .v (.one (.d (.int .i64 vr3)))), (10, .v (.one (.d (.lst (List.map api_Prop.enc vr1))))), (11, .v (.one (.d (.int .i64 vr2_1)))), (12, .v (.one (.d (.lst (List.map api_Prop.enc vr1_1))))), (13, .v (.one (.d (.int .i64 vr2_2))))]) 1

theorem fleetkeep2_CompactStays_x2_ok (vr8 : List api_Cell) (vx2_1 : List api_Cell) (vr2 : List api_Cell) (vr3 : Int) (vr1 : List api_Prop) (vr2_1 : Int) (vr1_1 : List api_Prop) (vr2_2 : Int) {r} (hF : fleetkeep2_CompactStays_x2 vr8 vr2 vr3 vr1 vr2_1 vr1_1 vr2_2 = some r) : Awp prog 0 117 (cL (cL (cR (cR (cR (cR (cR (cR (cR (cB f11)))))))))) (Out 0 fleetkeep2_CompactStays_x2_k (fleetkeep2_CompactStays_x2_S vr8 vx2_1 vr2 vr3 vr1 vr2_1 vr1_1 vr2_2) r) (fleetkeep2_CompactStays_x2_I vr8 vx2_1 vr2 vr3 vr1 vr2_1 vr1_1 vr2_2) := by
  unfold fleetkeep2_CompactStays_x2 at hF
  refine bE hF fun vr4 h10 hF => ?_
  refine cE hF (fun h11 hF => ?_) fun h11 hF => ?_
  · refine awp_region ?_
    refine aR 4 ?_
    refine aC (fleetkeep2_errs_ok h10) [] [] [3001] ?_
    refine aB h11 ?_
    refine aR 13 ?_
    refine aE ?_
    exact oO hF [] [] rfl
  · refine bE hF fun vr5 h12 hF => ?_
    refine cE hF (fun h13 hF => ?_) fun h13 hF => ?_
    · refine awp_region ?_
      refine aR 4 ?_
      refine aC (fleetkeep2_errs_ok h10) [] [] [3001] ?_
      refine aB h11 ?_
      refine aR 3 ?_
      refine aC (slices_Equal_api_Prop_api_Prop_ok h12) [] [] [] ?_
      refine aB h13 ?_
      refine aR 8 ?_
      refine aE ?_
      exact oO hF [] [] rfl
    · refine awp_region ?_
      refine aR 4 ?_
      refine aC (fleetkeep2_errs_ok h10) [] [] [3001] ?_
      refine aB h11 ?_
      refine aR 3 ?_
      refine aC (slices_Equal_api_Prop_api_Prop_ok h12) [] [] [] ?_
      refine aB h13 ?_
      refine aR 3 ?_
      refine aL api_Cell.enc vr2 ?_
      refine aR 1 ?_
      refine aL api_Cell.enc vr8 ?_
      refine aR 2 ?_
      refine aE ?_
      exact oO hF [] [] rfl

def fleetkeep2_CompactStays_x3_k : Bool → AEx
  | _ => .normal

def fleetkeep2_CompactStays_x3_S (vr4_2 : Int) (vr1_2 : List api_Prop) (vr2_5 : Int) (vr1_3 : List api_Prop) (vr2_6 : Int) : Bool → St
  | vx4 => Mem.st ⟨[], []⟩ (tl [(2, .v (.one (.d (.bool vx4))))]) 0

def fleetkeep2_CompactStays_x3_I (vr4_2 : Int) (vr1_2 : List api_Prop) (vr2_5 : Int) (vr1_3 : List api_Prop) (vr2_6 : Int) : St := Mem.st ⟨[], []⟩ (tl [(10, .v (.one (.d (.lst (List.map api_Prop.enc vr1_2))))), (11, .v (.one (.d (.int .i64 vr4_2)))), (12, .v (.one (.d (.lst (List.map api_Prop.enc vr1_3))))), (13, .v (.one (.d (.int .i64 vr2_5)))), (16, .v (.one (.d (.int .i64 vr2_6))))]) 0

theorem fleetkeep2_CompactStays_x3_ok (vr4_2 : Int) (vr1_2 : List api_Prop) (vr2_5 : Int) (vr1_3 : List api_Prop) (vr2_6 : Int) {r} (hF : fleetkeep2_CompactStays_x3 vr4_2 vr1_2 vr2_5 vr1_3 vr2_6 = some r) : Awp prog 0 117 (cL (cR (cR (cR (cR (cR (cR (cR (cR (cR (cR (cR (cR (cR (cB f11))))))))))))))) (Out 0 fleetkeep2_CompactStays_x3_k (fleetkeep2_CompactStays_x3_S vr4_2 vr1_2 vr2_5 vr1_3 vr2_6) r) (fleetkeep2_CompactStays_x3_I vr4_2 vr1_2 vr2_5 vr1_3 vr2_6) := by
  unfold fleetkeep2_CompactStays_x3 at hF
  refine bE hF fun vr6 h22 hF => ?_
  refine cE hF (fun h23 hF => ?_) fun h23 hF => ?_
  · refine bE hF fun vr7 h24 hF => ?_
    refine cE hF (fun h25 hF => ?_) fun h25 hF => ?_
    · refine bE hF fun vr9_1 h26 hF => ?_
      refine awp_region ?_
      refine aR 4 ?_
      refine aC (fleetkeep2_errs_ok h22) [] [] [3000] ?_
      refine aB h23 ?_
      refine aR 3 ?_
      refine aCb (slices_Equal_api_Prop_api_Prop_ok h24) [] [] [] h25 ?_
      refine aR 2 ?_
      refine aC (fleetkeep2_ready_ok h26) [] [] [] ?_
      refine aR 2 ?_
      refine aE ?_
      exact oO hF [] [] rfl
    · refine awp_region ?_
      refine aR 4 ?_
      refine aC (fleetkeep2_errs_ok h22) [] [] [3000] ?_
      refine aB h23 ?_
      refine aR 3 ?_
      refine aCb (slices_Equal_api_Prop_api_Prop_ok h24) [] [] [] h25 ?_
      refine aR 5 ?_
      refine aE ?_
      exact oO hF [] [] rfl
  · refine awp_region ?_
    refine aR 4 ?_
    refine aC (fleetkeep2_errs_ok h22) [] [] [3000] ?_
    refine aB h23 ?_
    refine aR 9 ?_
    refine aE ?_
    exact oO hF [] [] rfl

def fleetkeep2_CompactStays_R (qx : List Int) (r : Bool) : TV × Mem := (.v (.one (.d (.bool r))), ⟨[], []⟩)

theorem fleetkeep2_CompactStays_ok {qx : List Int} {r} (hF : fleetkeep2_CompactStays qx = some r) : Holds prog 11 [.v (.one (.d (.lst (List.map (encI .i64) qx))))] ⟨[], []⟩ (Is (fleetkeep2_CompactStays_R qx r)) := by
  unfold fleetkeep2_CompactStays at hF
  refine holds_of_awp hΓ (fn := f11) (c := cB f11) (A := 0) (nx := 0) (by kernel_rfl) (by kernel_rfl) (by kernel_rfl) (by kernel_rfl) (by kernel_rfl) (by kernel_rfl) (lowc_of (by kernel_rfl)) ?_
  show Awp prog 0 117 (cB f11) _ _
  refine awp_seq ?_
  refine awp_region ?_
  refine aR 1 ?_
  refine aE ?_
  refine awp_seq ?_
  refine awp_region ?_
  refine aR 4 ?_
  refine aE ?_
  refine awp_seq ?_
  refine bE hF fun x h1 hF => ?_
  obtain ⟨vs3, vr8⟩ := x
  refine bE hF fun x h2 hF => ?_
  obtain ⟨vs3_1, vr8_1⟩ := x
  refine bE hF fun x h3 hF => ?_
  obtain ⟨vs, vr⟩ := x
  refine awp_region ?_
  refine aR 1 ?_
  refine aC (fleetmake_Stream_RightCells_ok h1) [(0, 3000)] [] [] ?_
  refine aR 1 ?_
  refine aC (fleetmake_Stream_RightCells_ok h2) [(0, 3000)] [] [] ?_
  refine aR 1 ?_
  refine aC (fleetmake_Stream_Range_ok h3) [(0, 3000)] [] [] ?_
  refine aR 3 ?_
  refine aE ?_
  refine awp_to (oT (m := ⟨[(0, ⟨49, 8, List.map api_Cell.enc vr8_1⟩)], []⟩) (ts := [(4, .v (.one (.d (.lst (List.map api_Cell.enc vr8))))), (5, .v (.one (.own 0 none))), (6, .v (.one (.d (.int .i64 vr))))]) (nx := 1) [(0, 8001)] []) ?_
  refine awp_seq ?_
  refine awp_seq ?_
  refine awp_region ?_
  refine aR 1 ?_
  refine aL api_Cell.enc vr8_1 ?_
  refine aR 1 ?_
  refine aE ?_
  refine awp_block ?_
  refine awp_to (st' := fleetkeep2_CompactStays_x1_H vr8 vr8_1 vr (vr8_1, 0)) (oT [] []) ?_
  refine bE hF fun vx2_1 h6 hF => ?_
  refine awp_sub (awp_loop' (fleetkeep2_CompactStays_x1_H vr8 vr8_1 vr) fleetkeep2_CompactStays_x1_k (fleetkeep2_CompactStays_x1_S vr8 vr8_1 vr) (by intro x; exact fun h => nomatch h) h6 (fleetkeep2_CompactStays_x1_ok vr8 vr8_1 vr)) ?_
  refine awp_seq ?_
  refine bE hF fun x h7 hF => ?_
  obtain ⟨vr2, vr3⟩ := x
  refine awp_region ?_
  refine aR 2 ?_
  refine aC (twin_Compact_ok h7) [] [] [] ?_
  refine aR 5 ?_
  refine aE ?_
  refine awp_to (oT (m := ⟨[(0, ⟨49, 8, List.map api_Cell.enc vx2_1⟩)], []⟩) (ts := [(4, .v (.one (.d (.lst (List.map api_Cell.enc vr8))))), (5, .v (.one (.own 0 none))), (8, .v (.one (.d (.lst (List.map api_Cell.enc vr2))))), (9, .v (.one (.d (.int .i64 vr3))))]) (nx := 1) [] []) ?_
  refine awp_seq ?_
  refine bE hF fun x h8 hF => ?_
  obtain ⟨vr1, vr2_1⟩ := x
  refine awp_region ?_
  refine aR 1 ?_
  refine aC (twin_Visible_ok h8) [] [] [] ?_
  refine aR 5 ?_
  refine aE ?_
  refine awp_to (oT (m := ⟨[(0, ⟨49, 8, List.map api_Cell.enc vx2_1⟩)], []⟩) (ts := [(4, .v (.one (.d (.lst (List.map api_Cell.enc vr8))))), (5, .v (.one (.own 0 none))), (8, .v (.one (.d (.lst (List.map api_Cell.enc vr2))))), (9, .v (.one (.d (.int .i64 vr3)))), (10, .v (.one (.d (.lst (List.map api_Prop.enc vr1))))), (11, .v (.one (.d (.int .i64 vr2_1))))]) (nx := 1) [] []) ?_
  refine awp_seq ?_
  refine bE hF fun x h9 hF => ?_
  obtain ⟨vr1_1, vr2_2⟩ := x
  refine awp_region ?_
  refine aR 1 ?_
  refine aC (twin_Visible_ok h9) [] [] [] ?_
  refine aR 5 ?_
  refine aE ?_
  refine awp_to (oT (m := ⟨[(0, ⟨49, 8, List.map api_Cell.enc vx2_1⟩)], []⟩) (ts := [(4, .v (.one (.d (.lst (List.map api_Cell.enc vr8))))), (5, .v (.one (.own 0 none))), (8, .v (.one (.d (.lst (List.map api_Cell.enc vr2))))), (9, .v (.one (.d (.int .i64 vr3)))), (10, .v (.one (.d (.lst (List.map api_Prop.enc vr1))))), (11, .v (.one (.d (.int .i64 vr2_1)))), (12, .v (.one (.d (.lst (List.map api_Prop.enc vr1_1))))), (13, .v (.one (.d (.int .i64 vr2_2))))]) (nx := 1) [] []) ?_
  refine awp_seq ?_
  refine awp_seq ?_
  refine awp_to (st' := fleetkeep2_CompactStays_x2_I vr8 vx2_1 vr2 vr3 vr1 vr2_1 vr1_1 vr2_2) (oT [] []) ?_
  refine bE hF fun vx3_1 h14 hF => ?_
  refine awp_sub (fleetkeep2_CompactStays_x2_ok vr8 vx2_1 vr2 vr3 vr1 vr2_1 vr1_1 vr2_2 h14) ?_
  refine cE hF (fun h15 hF => ?_) fun h15 hF => ?_
  · refine awp_true (by kernel_rfl) h15 ?_
    refine awp_seq ?_
    refine awp_region ?_
    refine aR 1 ?_
    refine aE ?_
    refine awp_ret ?_
    exact oF hF [] []
  · refine awp_false (by kernel_rfl) h15 ?_
    refine awp_skip ?_
    refine awp_seq ?_
    refine bE hF fun x h16 hF => ?_
    obtain ⟨vr2_3, vr4_1⟩ := x
    refine awp_to (oT (m := ⟨[], []⟩) (ts := [(4, .v (.one (.d (.lst (List.map api_Cell.enc vr8))))), (5, .v (.one (.d (.lst (List.map api_Cell.enc vx2_1))))), (8, .v (.one (.d (.lst (List.map api_Cell.enc vr2)))))]) (nx := 1) [] []) ?_
    refine awp_region ?_
    refine aR 2 ?_
    refine aC (twin_Merge_ok h16) [] [] [] ?_
    refine aR 5 ?_
    refine aE ?_
    refine awp_to (oT (m := ⟨[], []⟩) (ts := [(5, .v (.one (.d (.lst (List.map api_Cell.enc vx2_1))))), (8, .v (.one (.d (.lst (List.map api_Cell.enc vr2))))), (9, .v (.one (.d (.int .i64 vr4_1)))), (14, .v (.one (.d (.lst (List.map api_Cell.enc vr2_3)))))]) (nx := 0) [] []) ?_
    refine awp_seq ?_
    refine bE hF fun x h17 hF => ?_
    obtain ⟨vr2_4, vr4_2⟩ := x
    refine awp_region ?_
    refine aR 2 ?_
    refine aC (twin_Merge_ok h17) [] [] [] ?_
    refine aR 5 ?_
    refine aE ?_
    refine awp_to (oT (m := ⟨[], []⟩) (ts := [(9, .v (.one (.d (.int .i64 vr4_1)))), (11, .v (.one (.d (.int .i64 vr4_2)))), (14, .v (.one (.d (.lst (List.map api_Cell.enc vr2_3))))), (15, .v (.one (.d (.lst (List.map api_Cell.enc vr2_4)))))]) (nx := 0) [] []) ?_
    refine awp_seq ?_
    refine awp_seq ?_
    refine awp_region ?_
    refine aR 2 ?_
    refine aE ?_
    refine cE hF (fun h18 hF => ?_) fun h18 hF => ?_
    · refine awp_true (by kernel_rfl) h18 ?_
      refine awp_seq ?_
      refine bE hF fun vr9 h19 hF => ?_
      refine awp_region ?_
      refine aC (fleetkeep2_ready_ok h19) [] [] [] ?_
      refine aR 1 ?_
      refine aE ?_
      refine awp_ret ?_
      exact oF hF [] []
    · refine awp_false (by kernel_rfl) h18 ?_
      refine awp_skip ?_
      refine awp_seq ?_
      refine bE hF fun x h20 hF => ?_
      obtain ⟨vr1_2, vr2_5⟩ := x
      refine awp_region ?_
      refine aR 1 ?_
      refine aC (twin_Visible_ok h20) [] [] [] ?_
      refine aR 5 ?_
      refine aE ?_
      refine awp_to (oT (m := ⟨[], []⟩) (ts := [(10, .v (.one (.d (.lst (List.map api_Prop.enc vr1_2))))), (11, .v (.one (.d (.int .i64 vr4_2)))), (13, .v (.one (.d (.int .i64 vr2_5)))), (15, .v (.one (.d (.lst (List.map api_Cell.enc vr2_4)))))]) (nx := 0) [] []) ?_
      refine awp_seq ?_
      refine bE hF fun x h21 hF => ?_
      obtain ⟨vr1_3, vr2_6⟩ := x
      refine awp_region ?_
      refine aR 1 ?_
      refine aC (twin_Visible_ok h21) [] [] [] ?_
      refine aR 5 ?_
      refine aE ?_
      refine awp_to (oT (m := ⟨[], []⟩) (ts := [(10, .v (.one (.d (.lst (List.map api_Prop.enc vr1_2))))), (11, .v (.one (.d (.int .i64 vr4_2)))), (12, .v (.one (.d (.lst (List.map api_Prop.enc vr1_3))))), (13, .v (.one (.d (.int .i64 vr2_5)))), (16, .v (.one (.d (.int .i64 vr2_6))))]) (nx := 0) [] []) ?_
      refine awp_seq ?_
      refine awp_to (st' := fleetkeep2_CompactStays_x3_I vr4_2 vr1_2 vr2_5 vr1_3 vr2_6) (oT [] []) ?_
      refine bE hF fun vx4_1 h27 hF => ?_
      refine awp_sub (fleetkeep2_CompactStays_x3_ok vr4_2 vr1_2 vr2_5 vr1_3 vr2_6 h27) ?_
      refine awp_ret ?_
      exact oF hF [] []

end Go.Eng
