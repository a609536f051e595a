/-
The code of the Go functions that the law FencesMeet reaches does what the plain functions say, part 2.
-/
import Derived.Test.YtfbgfjddpkfhhaaGenP1

namespace Go.Eng

open Go Go.Proofs.Try

set_option linter.unusedVariables false

set_option maxRecDepth 20000

set_option maxHeartbeats 0

/-! ### beaconfleet/fleetref2.Key -/
def fleetref2_Key_x1_k : Bool → AEx
  | _ => .normal

def fleetref2_Key_x1_S (qs : List UInt8) : Bool → St
  | vx => Mem.st ⟨[], []⟩ (tl [(2, .v (.one (.d (.bool vx))))]) 0

def fleetref2_Key_x1_I (qs : List UInt8) : St := Mem.st ⟨[], []⟩ (tl [(0, .v (.one (.d (.str qs))))]) 0

theorem fleetref2_Key_x1_ok (qs : List UInt8) {r} (hF : fleetref2_Key_x1 qs = some r) : Awp prog 0 15 (cL (cR (cB f36))) (Out 0 fleetref2_Key_x1_k (fleetref2_Key_x1_S qs) r) (fleetref2_Key_x1_I qs) := by
  unfold fleetref2_Key_x1 at hF
  refine bE hF fun vr h1 hF => ?_
  refine cE hF (fun h2 hF => ?_) fun h2 hF => ?_
  · refine bE hF fun vs h3 hF => ?_
    refine bE hF fun vr1 h4 hF => ?_
    refine cE hF (fun h5 hF => ?_) fun h5 hF => ?_
    · refine bE hF fun vr2 h6 hF => ?_
      refine awp_region ?_
      refine aR 2 ?_
      refine aCb (fleetref2_in_ok h1) [] [] [] h2 ?_
      refine aR 2 ?_
      refine aX (x_sliceS h3) ?_
      refine aCb (fleetref2_only_ok h4) [] [] [] h5 ?_
      refine aR 3 ?_
      refine aC (fleetref2_only_ok h6) [] [] [] ?_
      refine aR 2 ?_
      refine aE ?_
      exact oO hF [] [] rfl
    · refine awp_region ?_
      refine aR 2 ?_
      refine aCb (fleetref2_in_ok h1) [] [] [] h2 ?_
      refine aR 2 ?_
      refine aX (x_sliceS h3) ?_
      refine aCb (fleetref2_only_ok h4) [] [] [] h5 ?_
      refine aR 6 ?_
      refine aE ?_
      exact oO hF [] [] rfl
  · refine awp_region ?_
    refine aR 2 ?_
    refine aCb (fleetref2_in_ok h1) [] [] [] h2 ?_
    refine aR 10 ?_
    refine aE ?_
    exact oO hF [] [] rfl

def fleetref2_Key_R (qs : List UInt8) (r : Bool) : TV × Mem := (.v (.one (.d (.bool r))), ⟨[], []⟩)

theorem fleetref2_Key_ok {qs : List UInt8} {r} (hF : fleetref2_Key qs = some r) : Holds prog 36 [.v (.one (.d (.str qs)))] ⟨[], []⟩ (Is (fleetref2_Key_R qs r)) := by
  unfold fleetref2_Key at hF
  refine holds_of_awp hΓ (fn := f36) (c := cB f36) (A := 0) (nx := 0) (by kernel_rfl) (by kernel_rfl) (by kernel_rfl) (by kernel_rfl) (by kernel_rfl) (by kernel_rfl) (lowc_of (by kernel_rfl)) ?_
  show Awp prog 0 15 (cB f36) _ _
  refine awp_seq ?_
  refine awp_region ?_
  refine aR 1 ?_
  refine aE ?_
  refine awp_seq ?_
  refine awp_to (st' := fleetref2_Key_x1_I qs) (oT [] []) ?_
  refine bE hF fun vx1 h7 hF => ?_
  refine awp_sub (fleetref2_Key_x1_ok qs h7) ?_
  refine awp_ret ?_
  exact oF hF [] []

/-! ### beaconfleet/fleetref2.FenceFault -/
def fleetref2_FenceFault_R (qf : api_Fence) (r : Int) : TV × Mem := (.v (.one (.d (.int .i64 r))), ⟨[], []⟩)

theorem fleetref2_FenceFault_ok {qf : api_Fence} {r} (hF : fleetref2_FenceFault qf = some r) : Holds prog 12 [.v (.agg [.d (.str qf.Key), .d (.lst (List.map api_Spot.enc qf.Corners))])] ⟨[], []⟩ (Is (fleetref2_FenceFault_R qf r)) := by
  unfold fleetref2_FenceFault at hF
  refine holds_of_awp hΓ (fn := f12) (c := cB f12) (A := 0) (nx := 0) (by kernel_rfl) (by kernel_rfl) (by kernel_rfl) (by kernel_rfl) (by kernel_rfl) (by kernel_rfl) (lowc_of (by kernel_rfl)) ?_
  show Awp prog 0 10 (cB f12) _ _
  refine awp_seq ?_
  refine awp_region ?_
  refine aR 2 ?_
  refine aE ?_
  refine awp_seq ?_
  refine awp_seq ?_
  refine bE hF fun vr3 h1 hF => ?_
  refine awp_region ?_
  refine aR 2 ?_
  refine aC (fleetref2_Key_ok h1) [] [] [] ?_
  refine aR 1 ?_
  refine aE ?_
  refine cE hF (fun h2 hF => ?_) fun h2 hF => ?_
  · refine awp_true (by kernel_rfl) h2 ?_
    refine awp_seq ?_
    refine awp_region ?_
    refine aR 1 ?_
    refine aE ?_
    refine awp_ret ?_
    exact oF hF [] []
  · refine awp_false (by kernel_rfl) h2 ?_
    refine awp_skip ?_
    refine awp_seq ?_
    refine bE hF fun vr16 h3 hF => ?_
    refine awp_region ?_
    refine aR 2 ?_
    refine aC (fleetref2_CornersFault_ok h3) [] [] [] ?_
    refine aR 1 ?_
    refine aE ?_
    refine awp_ret ?_
    exact oF hF [] []

/-! ### beaconfleet/fleetlaw2.errs -/
def fleetlaw2_errs_x1_k : Unit ⊕ Int → AEx
  | .inl _ => .exit 0
  | .inr _ => .ret

def fleetlaw2_errs_x1_S (ql : List Int) : Unit ⊕ Int → St
  | .inl _ => Mem.st ⟨[], []⟩ (tl []) 0
  | .inr vx1 => Mem.st ⟨[], []⟩ (tl [(2, .v (.one (.d (.int .i64 vx1))))]) 0

def fleetlaw2_errs_x1_H (ql : List Int) : Int → St
  | vx => Mem.st ⟨[], []⟩ (tl [(5, .v (.one (.d (.lst (List.map (encI .i64) ql))))), (6, .v (.one (.d (.int .i64 (ql.length : Int))))), (7, .v (.one (.d (.int .i64 vx))))]) 0

theorem fleetlaw2_errs_x1_ok (ql : List Int) (vx : Int) (r : (Int) ⊕ (Unit ⊕ Int)) (hF : fleetlaw2_errs_x1 ql vx = some r) : Awp prog 0 15 (cL (cL (cR (cL (cR (cB f11)))))) (Out 0 (kk fleetlaw2_errs_x1_k) (SS (fleetlaw2_errs_x1_H ql) (fleetlaw2_errs_x1_S ql)) r) (fleetlaw2_errs_x1_H ql vx) := by
  unfold fleetlaw2_errs_x1 at hF
  refine awp_seq ?_
  refine awp_region ?_
  refine aR 1 ?_
  refine aE ?_
  refine awp_seq ?_
  refine cE hF (fun h1 hF => ?_) fun h1 hF => ?_
  · refine awp_true (by kernel_rfl) h1 ?_
    refine awp_skip ?_
    refine awp_seq ?_
    refine awp_block ?_
    refine awp_seq ?_
    refine bE hF fun vy1 h2 hF => ?_
    refine awp_region ?_
    refine aX (x_idx (encI .i64) h2) ?_
    refine aR 2 ?_
    refine aE ?_
    refine awp_seq ?_
    refine awp_region ?_
    refine aR 2 ?_
    refine aE ?_
    refine cE hF (fun h3 hF => ?_) fun h3 hF => ?_
    · refine awp_true (by kernel_rfl) h3 ?_
      refine awp_seq ?_
      refine awp_region ?_
      refine aR 2 ?_
      refine aE ?_
      refine awp_ret ?_
      exact oO hF [] [] rfl
    · refine awp_false (by kernel_rfl) h3 ?_
      refine awp_skip ?_
      refine awp_region ?_
      refine aR 2 ?_
      refine aE ?_
      exact oO hF [] [] rfl
  · refine awp_false (by kernel_rfl) h1 ?_
    refine awp_exit ?_
    exact oO hF [] [] rfl

def fleetlaw2_errs_R (ql : List Int) (r : Int) : TV × Mem := (.v (.one (.d (.int .i64 r))), ⟨[], []⟩)

theorem fleetlaw2_errs_ok {ql : List Int} {r} (hF : fleetlaw2_errs ql = some r) : Holds prog 11 [.v (.one (.d (.lst (List.map (encI .i64) ql))))] ⟨[], []⟩ (Is (fleetlaw2_errs_R ql r)) := by
  unfold fleetlaw2_errs at hF
  refine holds_of_awp hΓ (fn := f11) (c := cB f11) (A := 0) (nx := 0) (by kernel_rfl) (by kernel_rfl) (by kernel_rfl) (by kernel_rfl) (by kernel_rfl) (by kernel_rfl) (lowc_of (by kernel_rfl)) ?_
  show Awp prog 0 15 (cB f11) _ _
  refine awp_seq ?_
  refine awp_region ?_
  refine aR 1 ?_
  refine aE ?_
  refine awp_seq ?_
  refine awp_seq ?_
  refine awp_region ?_
  refine aR 1 ?_
  refine aL (encI .i64) ql ?_
  refine aR 1 ?_
  refine aE ?_
  refine awp_block ?_
  refine awp_to (st' := fleetlaw2_errs_x1_H ql 0) (oT [] []) ?_
  refine bE hF fun x h4 hF => ?_
  rcases x with _ | vx1_1
  · refine awp_sub (awp_loop' (fleetlaw2_errs_x1_H ql) fleetlaw2_errs_x1_k (fleetlaw2_errs_x1_S ql) (by intro x; rcases x with x | x <;> exact fun h => nomatch h) h4 (fleetlaw2_errs_x1_ok ql)) ?_
    refine awp_seq ?_
    refine awp_region ?_
    refine aR 1 ?_
    refine aE ?_
    refine awp_ret ?_
    exact oF hF [] []
  · refine awp_sub (awp_loop' (fleetlaw2_errs_x1_H ql) fleetlaw2_errs_x1_k (fleetlaw2_errs_x1_S ql) (by intro x; rcases x with x | x <;> exact fun h => nomatch h) h4 (fleetlaw2_errs_x1_ok ql)) ?_
    exact oF hF [] []

/-! ### beaconfleet/fleetref2.spotOrder -/
def fleetref2_spotOrder_R (qa : api_Spot) (qb : api_Spot) (r : Int) : TV × Mem := (.v (.one (.d (.int .i64 r))), ⟨[], []⟩)

theorem fleetref2_spotOrder_ok {qa : api_Spot} {qb : api_Spot} {r} (hF : fleetref2_spotOrder qa qb = some r) : Holds prog 39 [.v (.agg [.d (.int .i64 qa.X), .d (.int .i64 qa.Y)]), .v (.agg [.d (.int .i64 qb.X), .d (.int .i64 qb.Y)])] ⟨[], []⟩ (Is (fleetref2_spotOrder_R qa qb r)) := by
  unfold fleetref2_spotOrder at hF
  refine holds_of_awp hΓ (fn := f39) (c := cB f39) (A := 0) (nx := 0) (by kernel_rfl) (by kernel_rfl) (by kernel_rfl) (by kernel_rfl) (by kernel_rfl) (by kernel_rfl) (lowc_of (by kernel_rfl)) ?_
  show Awp prog 0 22 (cB f39) _ _
  refine awp_seq ?_
  refine awp_region ?_
  refine aR 3 ?_
  refine aE ?_
  refine awp_seq ?_
  refine awp_seq ?_
  refine awp_region ?_
  refine aR 5 ?_
  refine aE ?_
  refine cE hF (fun h1 hF => ?_) fun h1 hF => ?_
  · refine awp_true (by kernel_rfl) h1 ?_
    refine awp_seq ?_
    refine bE hF fun vr h2 hF => ?_
    refine awp_region ?_
    refine aR 5 ?_
    refine aC (fleetref2_sign_ok h2) [] [] [] ?_
    refine aR 1 ?_
    refine aE ?_
    refine awp_ret ?_
    exact oF hF [] []
  · refine awp_false (by kernel_rfl) h1 ?_
    refine awp_skip ?_
    refine awp_seq ?_
    refine bE hF fun vr1 h3 hF => ?_
    refine awp_region ?_
    refine aR 5 ?_
    refine aC (fleetref2_sign_ok h3) [] [] [] ?_
    refine aR 1 ?_
    refine aE ?_
    refine awp_ret ?_
    exact oF hF [] []

/-! ### slices.insertionSortCmpFunc[beaconfleet/api.Spot] -/
def slices_insertionSortCmpFunc_api_Spot_o0_f3_fleetref2_spotOrder_x3_k : Bool → AEx
  | _ => .normal

def slices_insertionSortCmpFunc_api_Spot_o0_f3_fleetref2_spotOrder_x3_S (qa : Int) (qb : Int) (vi : Int) (vl3 : List api_Spot) (vj1 : Int) : Bool → St
  | vx4 => Mem.st ⟨[(0, ⟨32, 2, List.map api_Spot.enc vl3⟩)], []⟩ (tl [(0, .v (.one (.own 0 none))), (1, .v (.one (.d (.int .i64 qa)))), (2, .v (.one (.d (.int .i64 qb)))), (3, .v (.one (.fn 39 []))), (8, .v (.one (.d (.int .i64 vi)))), (9, .v (.one (.d (.int .i64 vj1)))), (34, .v (.one (.d (.bool vx4))))]) 1

def slices_insertionSortCmpFunc_api_Spot_o0_f3_fleetref2_spotOrder_x3_I (qa : Int) (qb : Int) (vi : Int) (vl3 : List api_Spot) (vj1 : Int) : St := Mem.st ⟨[(0, ⟨32, 2, List.map api_Spot.enc vl3⟩)], []⟩ (tl [(0, .v (.one (.own 0 none))), (1, .v (.one (.d (.int .i64 qa)))), (2, .v (.one (.d (.int .i64 qb)))), (3, .v (.one (.fn 39 []))), (8, .v (.one (.d (.int .i64 vi)))), (9, .v (.one (.d (.int .i64 vj1))))]) 1

theorem slices_insertionSortCmpFunc_api_Spot_o0_f3_fleetref2_spotOrder_x3_ok (qa : Int) (qb : Int) (vi : Int) (vl3 : List api_Spot) (vj1 : Int) {r} (hF : slices_insertionSortCmpFunc_api_Spot_o0_f3_fleetref2_spotOrder_x3 qa vl3 vj1 = some r) : Awp prog 1 53 (cL (cL (cL (cL (cR (cL (cL (cR (cL (cL (cR (cB f73)))))))))))) (Out 1 slices_insertionSortCmpFunc_api_Spot_o0_f3_fleetref2_spotOrder_x3_k (slices_insertionSortCmpFunc_api_Spot_o0_f3_fleetref2_spotOrder_x3_S qa qb vi vl3 vj1) r) (slices_insertionSortCmpFunc_api_Spot_o0_f3_fleetref2_spotOrder_x3_I qa qb vi vl3 vj1) := by
  unfold slices_insertionSortCmpFunc_api_Spot_o0_f3_fleetref2_spotOrder_x3 at hF
  refine cE hF (fun h2 hF => ?_) fun h2 hF => ?_
  · refine bE hF fun vy15 h3 hF => ?_
    refine bE hF fun vy16 h4 hF => ?_
    refine bE hF fun vr2_3 h5 hF => ?_
    refine aD ?_
    refine dR 2 ?_
    refine dB h2 ?_
    refine dR 4 ?_
    refine dX (x_idxO api_Spot.enc 0 h3) ?_
    refine dX (x_ldE api_Spot.enc h3) ?_
    refine dR 3 ?_
    refine dX (x_idxO api_Spot.enc 0 h4) ?_
    refine dX (x_ldE api_Spot.enc h4) ?_
    refine dC (fleetref2_spotOrder_ok h5) [] [] [] ?_
    refine dR 2 ?_
    refine dE ?_
    exact oO hF [] [] rfl
  · refine aD ?_
    refine dR 2 ?_
    refine dB h2 ?_
    refine dR 14 ?_
    refine dE ?_
    exact oO hF [] [] rfl

def slices_insertionSortCmpFunc_api_Spot_o0_f3_fleetref2_spotOrder_x2_k : (List api_Spot) → AEx
  | _ => .exit 2

def slices_insertionSortCmpFunc_api_Spot_o0_f3_fleetref2_spotOrder_x2_S (qa : Int) (qb : Int) (vi : Int) : (List api_Spot) → St
  | vl4 => Mem.st ⟨[(0, ⟨32, 2, List.map api_Spot.enc vl4⟩)], []⟩ (tl [(0, .v (.one (.own 0 none))), (1, .v (.one (.d (.int .i64 qa)))), (2, .v (.one (.d (.int .i64 qb)))), (3, .v (.one (.fn 39 []))), (8, .v (.one (.d (.int .i64 vi))))]) 1

def slices_insertionSortCmpFunc_api_Spot_o0_f3_fleetref2_spotOrder_x2_H (qa : Int) (qb : Int) (vi : Int) : (List api_Spot) × Int → St
  | (vl3, vj1) => Mem.st ⟨[(0, ⟨32, 2, List.map api_Spot.enc vl3⟩)], []⟩ (tl [(0, .v (.one (.own 0 none))), (1, .v (.one (.d (.int .i64 qa)))), (2, .v (.one (.d (.int .i64 qb)))), (3, .v (.one (.fn 39 []))), (8, .v (.one (.d (.int .i64 vi)))), (9, .v (.one (.d (.int .i64 vj1))))]) 1

theorem slices_insertionSortCmpFunc_api_Spot_o0_f3_fleetref2_spotOrder_x2_ok (qa : Int) (qb : Int) (vi : Int) (s : (List api_Spot) × Int) (r : ((List api_Spot) × Int) ⊕ ((List api_Spot))) (hF : slices_insertionSortCmpFunc_api_Spot_o0_f3_fleetref2_spotOrder_x2 qa s = some r) : Awp prog 1 53 (cL (cL (cR (cL (cL (cR (cL (cL (cR (cB f73)))))))))) (Out 1 (kk slices_insertionSortCmpFunc_api_Spot_o0_f3_fleetref2_spotOrder_x2_k) (SS (slices_insertionSortCmpFunc_api_Spot_o0_f3_fleetref2_spotOrder_x2_H qa qb vi) (slices_insertionSortCmpFunc_api_Spot_o0_f3_fleetref2_spotOrder_x2_S qa qb vi)) r) (slices_insertionSortCmpFunc_api_Spot_o0_f3_fleetref2_spotOrder_x2_H qa qb vi s) := by
  obtain ⟨vl3, vj1⟩ := s
  unfold slices_insertionSortCmpFunc_api_Spot_o0_f3_fleetref2_spotOrder_x2 at hF
  refine awp_seq ?_
  refine awp_seq ?_
  refine awp_to (st' := slices_insertionSortCmpFunc_api_Spot_o0_f3_fleetref2_spotOrder_x3_I qa qb vi vl3 vj1) (oT [] []) ?_
  refine bE hF fun vx4_1 h6 hF => ?_
  refine awp_sub (slices_insertionSortCmpFunc_api_Spot_o0_f3_fleetref2_spotOrder_x3_ok qa qb vi vl3 vj1 h6) ?_
  refine cE hF (fun h7 hF => ?_) fun h7 hF => ?_
  · refine awp_true (by kernel_rfl) h7 ?_
    refine awp_skip ?_
    refine awp_seq ?_
    refine awp_block ?_
    refine bE hF fun vy17 h8 hF => ?_
    refine bE hF fun vy18 h9 hF => ?_
    refine bE hF fun vy19 h10 hF => ?_
    refine aDw [0] ?_
    refine dR 8 ?_
    refine dI api_Spot.enc 0 h8 rfl ?_
    refine dX (x_ldE api_Spot.enc h8) ?_
    refine dR 2 ?_
    refine dI api_Spot.enc 0 h9 rfl ?_
    refine dX (x_ldE api_Spot.enc h9) ?_
    refine dI api_Spot.enc 0 h9 rfl ?_
    refine dW api_Spot.enc vy17 h9 rfl ?_
    refine dI api_Spot.enc 0 h10 rfl ?_
    refine dW api_Spot.enc vy18 h10 rfl ?_
    refine dE ?_
    refine awp_region ?_
    refine aR 3 ?_
    refine aE ?_
    exact oO hF [] [] rfl
  · refine awp_false (by kernel_rfl) h7 ?_
    refine awp_exit ?_
    exact oO hF [] [] rfl

def slices_insertionSortCmpFunc_api_Spot_o0_f3_fleetref2_spotOrder_x1_k : (List api_Spot) → AEx
  | _ => .exit 0

def slices_insertionSortCmpFunc_api_Spot_o0_f3_fleetref2_spotOrder_x1_S (qa : Int) (qb : Int) : (List api_Spot) → St
  | vl5 => Mem.st ⟨[(0, ⟨32, 2, List.map api_Spot.enc vl5⟩)], []⟩ (tl []) 1

def slices_insertionSortCmpFunc_api_Spot_o0_f3_fleetref2_spotOrder_x1_H (qa : Int) (qb : Int) : (List api_Spot) × Int → St
  | (vl, vi) => Mem.st ⟨[(0, ⟨32, 2, List.map api_Spot.enc vl⟩)], []⟩ (tl [(0, .v (.one (.own 0 none))), (1, .v (.one (.d (.int .i64 qa)))), (2, .v (.one (.d (.int .i64 qb)))), (3, .v (.one (.fn 39 []))), (8, .v (.one (.d (.int .i64 vi))))]) 1

theorem slices_insertionSortCmpFunc_api_Spot_o0_f3_fleetref2_spotOrder_x1_ok (qa : Int) (qb : Int) (s : (List api_Spot) × Int) (r : ((List api_Spot) × Int) ⊕ ((List api_Spot))) (hF : slices_insertionSortCmpFunc_api_Spot_o0_f3_fleetref2_spotOrder_x1 qa qb s = some r) : Awp prog 1 53 (cL (cL (cR (cB f73)))) (Out 1 (kk slices_insertionSortCmpFunc_api_Spot_o0_f3_fleetref2_spotOrder_x1_k) (SS (slices_insertionSortCmpFunc_api_Spot_o0_f3_fleetref2_spotOrder_x1_H qa qb) (slices_insertionSortCmpFunc_api_Spot_o0_f3_fleetref2_spotOrder_x1_S qa qb)) r) (slices_insertionSortCmpFunc_api_Spot_o0_f3_fleetref2_spotOrder_x1_H qa qb s) := by
  obtain ⟨vl, vi⟩ := s
  unfold slices_insertionSortCmpFunc_api_Spot_o0_f3_fleetref2_spotOrder_x1 at hF
  refine awp_seq ?_
  refine awp_seq ?_
  refine awp_region ?_
  refine aR 3 ?_
  refine aE ?_
  refine cE hF (fun h1 hF => ?_) fun h1 hF => ?_
  · refine awp_true (by kernel_rfl) h1 ?_
    refine awp_skip ?_
    refine awp_seq ?_
    refine awp_block ?_
    refine awp_seq ?_
    refine awp_region ?_
    refine aR 2 ?_
    refine aE ?_
    refine awp_block ?_
    refine awp_to (st' := slices_insertionSortCmpFunc_api_Spot_o0_f3_fleetref2_spotOrder_x2_H qa qb vi (vl, vi)) (oT [] []) ?_
    refine bE hF fun vl4_1 h11 hF => ?_
    refine awp_sub (awp_loop' (slices_insertionSortCmpFunc_api_Spot_o0_f3_fleetref2_spotOrder_x2_H qa qb vi) slices_insertionSortCmpFunc_api_Spot_o0_f3_fleetref2_spotOrder_x2_k (slices_insertionSortCmpFunc_api_Spot_o0_f3_fleetref2_spotOrder_x2_S qa qb vi) (by intro x; exact fun h => nomatch h) h11 (slices_insertionSortCmpFunc_api_Spot_o0_f3_fleetref2_spotOrder_x2_ok qa qb vi)) ?_
    refine awp_region ?_
    refine aR 3 ?_
    refine aE ?_
    exact oO hF [] [] rfl
  · refine awp_false (by kernel_rfl) h1 ?_
    refine awp_exit ?_
    exact oO hF [] [] rfl

def slices_insertionSortCmpFunc_api_Spot_o0_f3_fleetref2_spotOrder_R (qdata : List api_Spot) (qa : Int) (qb : Int) (r : (List api_Spot)) : TV × Mem := (.tup [], ⟨[(0, ⟨32, 2, List.map api_Spot.enc r⟩)], []⟩)

theorem slices_insertionSortCmpFunc_api_Spot_o0_f3_fleetref2_spotOrder_ok {qdata : List api_Spot} {qa : Int} {qb : Int} {r} (hF : slices_insertionSortCmpFunc_api_Spot_o0_f3_fleetref2_spotOrder qdata qa qb = some r) : Holds prog 73 [.v (.one (.own 0 none)), .v (.one (.d (.int .i64 qa))), .v (.one (.d (.int .i64 qb))), .v (.one (.fn 39 []))] ⟨[(0, ⟨32, 2, List.map api_Spot.enc qdata⟩)], []⟩ (Is (slices_insertionSortCmpFunc_api_Spot_o0_f3_fleetref2_spotOrder_R qdata qa qb r)) := by
  unfold slices_insertionSortCmpFunc_api_Spot_o0_f3_fleetref2_spotOrder at hF
  refine holds_of_awp hΓ (fn := f73) (c := cB f73) (A := 1) (nx := 1) (by kernel_rfl) (by kernel_rfl) (by kernel_rfl) (by kernel_rfl) (by kernel_rfl) (by kernel_rfl) (lowc_of (by kernel_rfl)) ?_
  show Awp prog 1 53 (cB f73) _ _
  refine awp_seq ?_
  refine awp_region ?_
  refine aR 3 ?_
  refine aE ?_
  refine awp_block ?_
  refine awp_to (st' := slices_insertionSortCmpFunc_api_Spot_o0_f3_fleetref2_spotOrder_x1_H qa qb (qdata, IntKind.wrap .i64 (qa + 1))) (oT [] []) ?_
  refine bE hF fun vl5_1 h12 hF => ?_
  refine awp_sub (awp_loop' (slices_insertionSortCmpFunc_api_Spot_o0_f3_fleetref2_spotOrder_x1_H qa qb) slices_insertionSortCmpFunc_api_Spot_o0_f3_fleetref2_spotOrder_x1_k (slices_insertionSortCmpFunc_api_Spot_o0_f3_fleetref2_spotOrder_x1_S qa qb) (by intro x; exact fun h => nomatch h) h12 (slices_insertionSortCmpFunc_api_Spot_o0_f3_fleetref2_spotOrder_x1_ok qa qb)) ?_
  exact oF hF [] []

/-! ### slices.pdqsortCmpFunc[beaconfleet/api.Spot] -/
def slices_pdqsortCmpFunc_api_Spot_o0_f4_fleetref2_spotOrder_x1_k : (List api_Spot) → AEx
  | _ => .ret

def slices_pdqsortCmpFunc_api_Spot_o0_f4_fleetref2_spotOrder_x1_S (qx : List api_Spot) (qx1 : Int) (qx2 : Int) (qx3 : Int) : (List api_Spot) → St
  | vl => Mem.st ⟨[(0, ⟨32, 2, List.map api_Spot.enc vl⟩)], []⟩ (tl []) 1

def slices_pdqsortCmpFunc_api_Spot_o0_f4_fleetref2_spotOrder_x1_H (qx : List api_Spot) (qx1 : Int) (qx2 : Int) (qx3 : Int) : Unit → St
  | _ => Mem.st ⟨[(0, ⟨32, 2, List.map api_Spot.enc qx⟩)], []⟩ (tl [(0, .v (.one (.own 0 none))), (1, .v (.one (.d (.int .i64 qx1)))), (2, .v (.one (.d (.int .i64 qx2)))), (3, .v (.one (.d (.int .i64 qx3)))), (4, .v (.one (.fn 39 []))), (10, .v (.one (.d (.bool true)))), (11, .v (.one (.d (.bool true))))]) 1

theorem slices_pdqsortCmpFunc_api_Spot_o0_f4_fleetref2_spotOrder_x1_ok (qx : List api_Spot) (qx1 : Int) (qx2 : Int) (qx3 : Int) (s : Unit) (r : (Unit) ⊕ ((List api_Spot))) (hF : slices_pdqsortCmpFunc_api_Spot_o0_f4_fleetref2_spotOrder_x1 qx qx1 qx2 qx3 s = some r) : Awp prog 1 148 (cL (cL (cR (cR (cB f59))))) (Out 1 (kk slices_pdqsortCmpFunc_api_Spot_o0_f4_fleetref2_spotOrder_x1_k) (SS (slices_pdqsortCmpFunc_api_Spot_o0_f4_fleetref2_spotOrder_x1_H qx qx1 qx2 qx3) (slices_pdqsortCmpFunc_api_Spot_o0_f4_fleetref2_spotOrder_x1_S qx qx1 qx2 qx3)) r) (slices_pdqsortCmpFunc_api_Spot_o0_f4_fleetref2_spotOrder_x1_H qx qx1 qx2 qx3 s) := by
  unfold slices_pdqsortCmpFunc_api_Spot_o0_f4_fleetref2_spotOrder_x1 at hF
  refine awp_block ?_
  refine awp_seq ?_
  refine awp_region ?_
  refine aR 4 ?_
  refine aE ?_
  refine awp_seq ?_
  refine awp_seq ?_
  refine awp_region ?_
  refine aR 2 ?_
  refine aE ?_
  refine cE hF (fun h1 hF => ?_) fun h1 hF => ?_
  · refine awp_true (by kernel_rfl) h1 ?_
    refine awp_seq ?_
    refine bE hF fun vl6_1 h2 hF => ?_
    refine gE hF fun h3 hF => ?_
    refine awp_region ?_
    refine aR 4 ?_
    refine aCp (slices_insertionSortCmpFunc_api_Spot_o0_f3_fleetref2_spotOrder_ok h2) ⟨⟨rfl, rfl, pin1 h3⟩, trivial⟩ [] [] [] ?_
    refine aE ?_
    refine awp_ret ?_
    exact oO hF [] [] rfl
  · refine awp_false (by kernel_rfl) h1 ?_
    refine awp_skip ?_
    refine awp_seq ?_
    refine awp_seq ?_
    refine awp_region ?_
    refine aR 2 ?_
    refine aE ?_
    refine cE hF (fun h4 hF => ?_) fun h4 hF => ?_
    · refine awp_true (by kernel_rfl) h4 ?_
      refine awp_seq ?_
      exact nE hF
    · refine awp_false (by kernel_rfl) h4 ?_
      refine awp_skip ?_
      refine awp_seq ?_
      refine awp_seq ?_
      refine awp_region ?_
      refine aR 2 ?_
      refine aE ?_
      refine awp_false (by kernel_rfl) rfl ?_
      refine awp_skip ?_
      refine awp_seq ?_
      exact nE hF

def slices_pdqsortCmpFunc_api_Spot_o0_f4_fleetref2_spotOrder_R (qx : List api_Spot) (qx1 : Int) (qx2 : Int) (qx3 : Int) (r : (List api_Spot)) : TV × Mem := (.tup [], ⟨[(0, ⟨32, 2, List.map api_Spot.enc r⟩)], []⟩)

theorem slices_pdqsortCmpFunc_api_Spot_o0_f4_fleetref2_spotOrder_ok {qx : List api_Spot} {qx1 : Int} {qx2 : Int} {qx3 : Int} {r} (hF : slices_pdqsortCmpFunc_api_Spot_o0_f4_fleetref2_spotOrder qx qx1 qx2 qx3 = some r) : Holds prog 59 [.v (.one (.own 0 none)), .v (.one (.d (.int .i64 qx1))), .v (.one (.d (.int .i64 qx2))), .v (.one (.d (.int .i64 qx3))), .v (.one (.fn 39 []))] ⟨[(0, ⟨32, 2, List.map api_Spot.enc qx⟩)], []⟩ (Is (slices_pdqsortCmpFunc_api_Spot_o0_f4_fleetref2_spotOrder_R qx qx1 qx2 qx3 r)) := by
  unfold slices_pdqsortCmpFunc_api_Spot_o0_f4_fleetref2_spotOrder at hF
  refine holds_of_awp hΓ (fn := f59) (c := cB f59) (A := 1) (nx := 1) (by kernel_rfl) (by kernel_rfl) (by kernel_rfl) (by kernel_rfl) (by kernel_rfl) (by kernel_rfl) (lowc_of (by kernel_rfl)) ?_
  show Awp prog 1 148 (cB f59) _ _
  refine awp_seq ?_
  refine awp_region ?_
  refine aR 1 ?_
  refine aE ?_
  refine awp_seq ?_
  refine awp_region ?_
  refine aR 1 ?_
  refine aE ?_
  refine awp_block ?_
  refine awp_to (st' := slices_pdqsortCmpFunc_api_Spot_o0_f4_fleetref2_spotOrder_x1_H qx qx1 qx2 qx3 ()) (oT [] []) ?_
  refine bE hF fun vl1 h7 hF => ?_
  refine awp_sub (awp_loop' (slices_pdqsortCmpFunc_api_Spot_o0_f4_fleetref2_spotOrder_x1_H qx qx1 qx2 qx3) slices_pdqsortCmpFunc_api_Spot_o0_f4_fleetref2_spotOrder_x1_k (slices_pdqsortCmpFunc_api_Spot_o0_f4_fleetref2_spotOrder_x1_S qx qx1 qx2 qx3) (by intro x; exact fun h => nomatch h) h7 (slices_pdqsortCmpFunc_api_Spot_o0_f4_fleetref2_spotOrder_x1_ok qx qx1 qx2 qx3)) ?_
  exact oF hF [] []

/-! ### slices.SortFunc[[]beaconfleet/api.Spot,beaconfleet/api.Spot] -/
def slices_SortFunc_api_Spot_api_Spot_o0_f1_fleetref2_spotOrder_R (qx : List api_Spot) (r : (List api_Spot)) : TV × Mem := (.tup [], ⟨[(0, ⟨32, 2, List.map api_Spot.enc r⟩)], []⟩)

theorem slices_SortFunc_api_Spot_api_Spot_o0_f1_fleetref2_spotOrder_ok {qx : List api_Spot} {r} (hF : slices_SortFunc_api_Spot_api_Spot_o0_f1_fleetref2_spotOrder qx = some r) : Holds prog 30 [.v (.one (.own 0 none)), .v (.one (.fn 39 []))] ⟨[(0, ⟨32, 2, List.map api_Spot.enc qx⟩)], []⟩ (Is (slices_SortFunc_api_Spot_api_Spot_o0_f1_fleetref2_spotOrder_R qx r)) := by
  unfold slices_SortFunc_api_Spot_api_Spot_o0_f1_fleetref2_spotOrder at hF
  refine holds_of_awp hΓ (fn := f30) (c := cB f30) (A := 1) (nx := 1) (by kernel_rfl) (by kernel_rfl) (by kernel_rfl) (by kernel_rfl) (by kernel_rfl) (by kernel_rfl) (lowc_of (by kernel_rfl)) ?_
  show Awp prog 1 14 (cB f30) _ _
  refine awp_seq ?_
  refine awp_region ?_
  refine aR 1 ?_
  refine aL api_Spot.enc qx ?_
  refine aR 1 ?_
  refine aE ?_
  refine bE hF fun vr1 h1 hF => ?_
  refine bE hF fun vl2 h2 hF => ?_
  refine gE hF fun h3 hF => ?_
  refine awp_region ?_
  refine aR 4 ?_
  refine aC (bits_Len_ok h1) [] [] [] ?_
  refine aR 1 ?_
  refine aCp (slices_pdqsortCmpFunc_api_Spot_o0_f4_fleetref2_spotOrder_ok h2) ⟨⟨rfl, rfl, pin1 h3⟩, trivial⟩ [] [] [] ?_
  refine aE ?_
  exact oF hF [] []

/-! ### beaconfleet/fleetref2.HullOf$1 -/
def fleetref2_HullOf_1_R (qs : api_Spot) (qx : List api_Spot) (r : Bool) : TV × Mem := (.v (.one (.d (.bool r))), ⟨[], [(0, [.d (.lst (List.map api_Spot.enc qx))])]⟩)

theorem fleetref2_HullOf_1_ok {qs : api_Spot} {qx : List api_Spot} {r} (hF : fleetref2_HullOf_1 qs qx = some r) : Holds prog 40 [.v (.agg [.d (.int .i64 qs.X), .d (.int .i64 qs.Y)]), .v (.one (.box 0 0))] ⟨[], [(0, [.d (.lst (List.map api_Spot.enc qx))])]⟩ (Is (fleetref2_HullOf_1_R qs qx r)) := by
  unfold fleetref2_HullOf_1 at hF
  refine holds_of_awp hΓ (fn := f40) (c := cB f40) (A := 1) (nx := 1) (by kernel_rfl) (by kernel_rfl) (by kernel_rfl) (by kernel_rfl) (by kernel_rfl) (by kernel_rfl) (lowc_of (by kernel_rfl)) ?_
  show Awp prog 1 16 (cB f40) _ _
  refine awp_seq ?_
  refine awp_region ?_
  refine aR 2 ?_
  refine aE ?_
  refine awp_seq ?_
  refine bE hF fun vy h1 hF => ?_
  refine bE hF fun vy1 h2 hF => ?_
  refine bE hF fun vr1 h3 hF => ?_
  refine aD ?_
  refine dR 1 ?_
  refine dX (x_idx api_Spot.enc h1) ?_
  refine dR 3 ?_
  refine dL api_Spot.enc qx ?_
  refine dR 1 ?_
  refine dX (x_idx api_Spot.enc h2) ?_
  refine dR 2 ?_
  refine dC (fleetref2_side_ok h3) [] [] [] ?_
  refine dR 2 ?_
  refine dE ?_
  refine awp_ret ?_
  exact oF hF [] []

/-! ### slices.IndexFunc[[]beaconfleet/api.Spot,beaconfleet/api.Spot] -/
def slices_IndexFunc_api_Spot_api_Spot_f1_fleetref2_HullOf_1_x1_k : Unit ⊕ Int → AEx
  | .inl _ => .exit 0
  | .inr _ => .ret

def slices_IndexFunc_api_Spot_api_Spot_f1_fleetref2_HullOf_1_x1_S (qs : List api_Spot) : Unit ⊕ Int → St
  | .inl _ => Mem.st ⟨[], [(0, [.d (.lst (List.map api_Spot.enc qs))])]⟩ (tl []) 1
  | .inr vx1 => Mem.st ⟨[], [(0, [.d (.lst (List.map api_Spot.enc qs))])]⟩ (tl [(4, .v (.one (.d (.int .i64 vx1))))]) 1

def slices_IndexFunc_api_Spot_api_Spot_f1_fleetref2_HullOf_1_x1_H (qs : List api_Spot) : Int → St
  | vx => Mem.st ⟨[], [(0, [.d (.lst (List.map api_Spot.enc qs))])]⟩ (tl [(0, .v (.one (.d (.lst (List.map api_Spot.enc qs))))), (1, .v (.one (.fn 40 [0]))), (7, .v (.one (.d (.int .i64 (qs.length : Int))))), (8, .v (.one (.d (.int .i64 vx))))]) 1

theorem slices_IndexFunc_api_Spot_api_Spot_f1_fleetref2_HullOf_1_x1_ok (qs : List api_Spot) (vx : Int) (r : (Int) ⊕ (Unit ⊕ Int)) (hF : slices_IndexFunc_api_Spot_api_Spot_f1_fleetref2_HullOf_1_x1 qs vx = some r) : Awp prog 1 19 (cL (cL (cR (cL (cR (cB f57)))))) (Out 1 (kk slices_IndexFunc_api_Spot_api_Spot_f1_fleetref2_HullOf_1_x1_k) (SS (slices_IndexFunc_api_Spot_api_Spot_f1_fleetref2_HullOf_1_x1_H qs) (slices_IndexFunc_api_Spot_api_Spot_f1_fleetref2_HullOf_1_x1_S qs)) r) (slices_IndexFunc_api_Spot_api_Spot_f1_fleetref2_HullOf_1_x1_H qs vx) := by
  unfold slices_IndexFunc_api_Spot_api_Spot_f1_fleetref2_HullOf_1_x1 at hF
  refine awp_seq ?_
  refine awp_region ?_
  refine aR 1 ?_
  refine aE ?_
  refine awp_seq ?_
  refine cE hF (fun h1 hF => ?_) fun h1 hF => ?_
  · refine awp_true (by kernel_rfl) h1 ?_
    refine awp_skip ?_
    refine awp_seq ?_
    refine awp_block ?_
    refine awp_seq ?_
    refine awp_region ?_
    refine aR 2 ?_
    refine aE ?_
    refine awp_seq ?_
    refine bE hF fun vy1 h2 hF => ?_
    refine bE hF fun vr1 h3 hF => ?_
    refine awp_region ?_
    refine aR 3 ?_
    refine aX (x_idx api_Spot.enc h2) ?_
    refine aR 1 ?_
    refine aC (fleetref2_HullOf_1_ok h3) [] [] [] ?_
    refine aE ?_
    refine cE hF (fun h4 hF => ?_) fun h4 hF => ?_
    · refine awp_true (by kernel_rfl) h4 ?_
      refine awp_seq ?_
      refine awp_region ?_
      refine aR 2 ?_
      refine aE ?_
      refine awp_ret ?_
      exact oO hF [] [] rfl
    · refine awp_false (by kernel_rfl) h4 ?_
      refine awp_skip ?_
      refine awp_region ?_
      refine aR 2 ?_
      refine aE ?_
      exact oO hF [] [] rfl
  · refine awp_false (by kernel_rfl) h1 ?_
    refine awp_exit ?_
    exact oO hF [] [] rfl

def slices_IndexFunc_api_Spot_api_Spot_f1_fleetref2_HullOf_1_R (qs : List api_Spot) (r : Int) : TV × Mem := (.v (.one (.d (.int .i64 r))), ⟨[], [(0, [.d (.lst (List.map api_Spot.enc qs))])]⟩)

theorem slices_IndexFunc_api_Spot_api_Spot_f1_fleetref2_HullOf_1_ok {qs : List api_Spot} {r} (hF : slices_IndexFunc_api_Spot_api_Spot_f1_fleetref2_HullOf_1 qs = some r) : Holds prog 57 [.v (.one (.d (.lst (List.map api_Spot.enc qs)))), .v (.one (.fn 40 [0]))] ⟨[], [(0, [.d (.lst (List.map api_Spot.enc qs))])]⟩ (Is (slices_IndexFunc_api_Spot_api_Spot_f1_fleetref2_HullOf_1_R qs r)) := by
  unfold slices_IndexFunc_api_Spot_api_Spot_f1_fleetref2_HullOf_1 at hF
  refine holds_of_awp hΓ (fn := f57) (c := cB f57) (A := 1) (nx := 1) (by kernel_rfl) (by kernel_rfl) (by kernel_rfl) (by kernel_rfl) (by kernel_rfl) (by kernel_rfl) (lowc_of (by kernel_rfl)) ?_
  show Awp prog 1 19 (cB f57) _ _
  refine awp_seq ?_
  refine awp_region ?_
  refine aR 1 ?_
  refine aE ?_
  refine awp_seq ?_
  refine awp_seq ?_
  refine awp_region ?_
  refine aR 1 ?_
  refine aL api_Spot.enc qs ?_
  refine aR 1 ?_
  refine aE ?_
  refine awp_block ?_
  refine awp_to (st' := slices_IndexFunc_api_Spot_api_Spot_f1_fleetref2_HullOf_1_x1_H qs 0) (oT [] []) ?_
  refine bE hF fun x h5 hF => ?_
  rcases x with _ | vx1_1
  · refine awp_sub (awp_loop' (slices_IndexFunc_api_Spot_api_Spot_f1_fleetref2_HullOf_1_x1_H qs) slices_IndexFunc_api_Spot_api_Spot_f1_fleetref2_HullOf_1_x1_k (slices_IndexFunc_api_Spot_api_Spot_f1_fleetref2_HullOf_1_x1_S qs) (by intro x; rcases x with x | x <;> exact fun h => nomatch h) h5 (slices_IndexFunc_api_Spot_api_Spot_f1_fleetref2_HullOf_1_x1_ok qs)) ?_
    refine awp_seq ?_
    refine awp_region ?_
    refine aR 1 ?_
    refine aE ?_
    refine awp_ret ?_
    exact oF hF [] []
  · refine awp_sub (awp_loop' (slices_IndexFunc_api_Spot_api_Spot_f1_fleetref2_HullOf_1_x1_H qs) slices_IndexFunc_api_Spot_api_Spot_f1_fleetref2_HullOf_1_x1_k (slices_IndexFunc_api_Spot_api_Spot_f1_fleetref2_HullOf_1_x1_S qs) (by intro x; rcases x with x | x <;> exact fun h => nomatch h) h5 (slices_IndexFunc_api_Spot_api_Spot_f1_fleetref2_HullOf_1_x1_ok qs)) ?_
    exact oF hF [] []

/-! ### slices.ContainsFunc[[]beaconfleet/api.Spot,beaconfleet/api.Spot] -/
def slices_ContainsFunc_api_Spot_api_Spot_f1_fleetref2_HullOf_1_R (qs : List api_Spot) (r : Bool) : TV × Mem := (.v (.one (.d (.bool r))), ⟨[], [(0, [.d (.lst (List.map api_Spot.enc qs))])]⟩)

theorem slices_ContainsFunc_api_Spot_api_Spot_f1_fleetref2_HullOf_1_ok {qs : List api_Spot} {r} (hF : slices_ContainsFunc_api_Spot_api_Spot_f1_fleetref2_HullOf_1 qs = some r) : Holds prog 27 [.v (.one (.d (.lst (List.map api_Spot.enc qs)))), .v (.one (.fn 40 [0]))] ⟨[], [(0, [.d (.lst (List.map api_Spot.enc qs))])]⟩ (Is (slices_ContainsFunc_api_Spot_api_Spot_f1_fleetref2_HullOf_1_R qs r)) := by
  unfold slices_ContainsFunc_api_Spot_api_Spot_f1_fleetref2_HullOf_1 at hF
  refine holds_of_awp hΓ (fn := f27) (c := cB f27) (A := 1) (nx := 1) (by kernel_rfl) (by kernel_rfl) (by kernel_rfl) (by kernel_rfl) (by kernel_rfl) (by kernel_rfl) (lowc_of (by kernel_rfl)) ?_
  show Awp prog 1 9 (cB f27) _ _
  refine awp_seq ?_
  refine awp_region ?_
  refine aR 1 ?_
  refine aE ?_
  refine awp_seq ?_
  refine bE hF fun vr2 h1 hF => ?_
  refine awp_region ?_
  refine aR 2 ?_
  refine aC (slices_IndexFunc_api_Spot_api_Spot_f1_fleetref2_HullOf_1_ok h1) [] [] [] ?_
  refine aR 2 ?_
  refine aE ?_
  refine awp_ret ?_
  exact oF hF [] []

/-! ### beaconfleet/fleetref2.dot -/
def fleetref2_dot_2_R (qa : api_Spot) (r : Unit) : TV × Mem := (.v (.one (.d (.int .i64 (IntKind.wrap .i64 ((IntKind.wrap .i64 (qa.X * qa.X)) + (IntKind.wrap .i64 (qa.Y * qa.Y))))))), ⟨[], []⟩)

theorem fleetref2_dot_2_ok {qa : api_Spot} {r} (hF : fleetref2_dot_2 qa = some r) : Holds prog 42 [.v (.agg [.d (.int .i64 qa.X), .d (.int .i64 qa.Y)]), .v (.agg [.d (.int .i64 qa.X), .d (.int .i64 qa.Y)])] ⟨[], []⟩ (Is (fleetref2_dot_2_R qa r)) := by
  unfold fleetref2_dot_2 at hF
  refine holds_of_awp hΓ (fn := f42) (c := cB f42) (A := 0) (nx := 0) (by kernel_rfl) (by kernel_rfl) (by kernel_rfl) (by kernel_rfl) (by kernel_rfl) (by kernel_rfl) (lowc_of (by kernel_rfl)) ?_
  show Awp prog 0 16 (cB f42) _ _
  refine awp_seq ?_
  refine awp_region ?_
  refine aR 3 ?_
  refine aE ?_
  refine awp_seq ?_
  refine awp_region ?_
  refine aR 12 ?_
  refine aE ?_
  refine awp_ret ?_
  exact oF hF [] []

/-! ### beaconfleet/fleetref2.HullOf -/
def fleetref2_HullOf_x4_k : Bool → AEx
  | _ => .normal

def fleetref2_HullOf_x4_S (vr1 : List api_Spot) (vx : List api_Spot) (vy7 : api_Spot) (vx8 : api_Spot) (vx9 : Int) (vy9 : api_Spot) (vr1_4 : Int) : Bool → St
  | vx12 => Mem.st ⟨[(4, ⟨32, 2, List.map api_Spot.enc vx⟩)], [(0, [.d (.lst (List.map api_Spot.enc vr1))]), (1, [.d (.int .i64 vy7.X), .d (.int .i64 vy7.Y)]), (2, [.d (.int .i64 vx8.X), .d (.int .i64 vx8.Y)]), (3, [.d (.int .i64 vy9.X), .d (.int .i64 vy9.Y)])]⟩ (tl [(1, .v (.one (.box 0 0))), (3, .v (.one (.own 4 none))), (4, .v (.one (.box 1 0))), (5, .v (.one (.box 2 0))), (7, .v (.one (.box 3 0))), (44, .v (.one (.d (.lst (List.map api_Spot.enc vr1))))), (45, .v (.one (.d (.int .i64 (vr1.length : Int))))), (46, .v (.one (.d (.int .i64 vx9)))), (84, .v (.one (.d (.bool vx12))))]) 5

def fleetref2_HullOf_x4_I (vr1 : List api_Spot) (vx : List api_Spot) (vy7 : api_Spot) (vx8 : api_Spot) (vx9 : Int) (vy9 : api_Spot) (vr1_4 : Int) : St := Mem.st ⟨[(4, ⟨32, 2, List.map api_Spot.enc vx⟩)], [(0, [.d (.lst (List.map api_Spot.enc vr1))]), (1, [.d (.int .i64 vy7.X), .d (.int .i64 vy7.Y)]), (2, [.d (.int .i64 vx8.X), .d (.int .i64 vx8.Y)]), (3, [.d (.int .i64 vy9.X), .d (.int .i64 vy9.Y)])]⟩ (tl [(1, .v (.one (.box 0 0))), (3, .v (.one (.own 4 none))), (4, .v (.one (.box 1 0))), (5, .v (.one (.box 2 0))), (7, .v (.one (.box 3 0))), (8, .v (.one (.d (.int .i64 vr1_4)))), (44, .v (.one (.d (.lst (List.map api_Spot.enc vr1))))), (45, .v (.one (.d (.int .i64 (vr1.length : Int))))), (46, .v (.one (.d (.int .i64 vx9))))]) 5

theorem fleetref2_HullOf_x4_ok (vr1 : List api_Spot) (vx : List api_Spot) (vy7 : api_Spot) (vx8 : api_Spot) (vx9 : Int) (vy9 : api_Spot) (vr1_4 : Int) {r} (hF : fleetref2_HullOf_x4 vy7 vx8 vy9 vr1_4 = some r) : Awp prog 0 97 (cL (cR (cR (cR (cL (cL (cR (cR (cL (cL (cR (cL (cR (cR (cL (cL (cL (cR (cR (cR (cR (cR (cR (cR (cB f14))))))))))))))))))))))))) (Out 0 fleetref2_HullOf_x4_k (fleetref2_HullOf_x4_S vr1 vx vy7 vx8 vx9 vy9 vr1_4) r) (fleetref2_HullOf_x4_I vr1 vx vy7 vx8 vx9 vy9 vr1_4) := by
  unfold fleetref2_HullOf_x4 at hF
  refine cE hF (fun h16 hF => ?_) fun h16 hF => ?_
  · refine aD ?_
    refine dR 2 ?_
    refine dSb (U := []) (stable_eqS (op := .eql) (xs := [.int .i64 vx8.X, .int .i64 vx8.Y]) (ys := [.int .i64 vy7.X, .int .i64 vy7.Y]) (b := (decide (vx8.X = vy7.X) && (decide (vx8.Y = vy7.Y) && true))) (c := (decide (vx8.X = vy7.X) && (decide (vx8.Y = vy7.Y) && true))) rfl (.inl ⟨rfl, rfl⟩) (by kernel_rfl) (by kernel_rfl) (by kernel_rfl) (by kernel_rfl) (by kernel_rfl) (by kernel_rfl)) h16 ?_
    refine dR 25 ?_
    refine dE ?_
    exact oO hF [] [] rfl
  · refine cE hF (fun h17 hF => ?_) fun h17 hF => ?_
    · refine aD ?_
      refine dR 2 ?_
      refine dSb (U := []) (stable_eqS (op := .eql) (xs := [.int .i64 vx8.X, .int .i64 vx8.Y]) (ys := [.int .i64 vy7.X, .int .i64 vy7.Y]) (b := (decide (vx8.X = vy7.X) && (decide (vx8.Y = vy7.Y) && true))) (c := (decide (vx8.X = vy7.X) && (decide (vx8.Y = vy7.Y) && true))) rfl (.inl ⟨rfl, rfl⟩) (by kernel_rfl) (by kernel_rfl) (by kernel_rfl) (by kernel_rfl) (by kernel_rfl) (by kernel_rfl)) h16 ?_
      refine dR 2 ?_
      refine dB h17 ?_
      refine dR 22 ?_
      refine dE ?_
      exact oO hF [] [] rfl
    · refine cE hF (fun h18 hF => ?_) fun h18 hF => ?_
      · refine bE hF fun _ h19 hF => ?_
        refine bE hF fun _ h20 hF => ?_
        refine bE hF fun _ h21 hF => ?_
        refine bE hF fun _ h22 hF => ?_
        refine aD ?_
        refine dR 2 ?_
        refine dSb (U := []) (stable_eqS (op := .eql) (xs := [.int .i64 vx8.X, .int .i64 vx8.Y]) (ys := [.int .i64 vy7.X, .int .i64 vy7.Y]) (b := (decide (vx8.X = vy7.X) && (decide (vx8.Y = vy7.Y) && true))) (c := (decide (vx8.X = vy7.X) && (decide (vx8.Y = vy7.Y) && true))) rfl (.inl ⟨rfl, rfl⟩) (by kernel_rfl) (by kernel_rfl) (by kernel_rfl) (by kernel_rfl) (by kernel_rfl) (by kernel_rfl)) h16 ?_
        refine dR 2 ?_
        refine dB h17 ?_
        refine dR 3 ?_
        refine dB h18 ?_
        refine dR 3 ?_
        refine dC (fleetref2_minus_ok h19) [] [] [] ?_
        refine dR 2 ?_
        refine dC (fleetref2_minus_ok h19) [] [] [] ?_
        refine dC (fleetref2_dot_2_ok h20) [] [] [] ?_
        refine dR 2 ?_
        refine dC (fleetref2_minus_ok h21) [] [] [] ?_
        refine dR 2 ?_
        refine dC (fleetref2_minus_ok h21) [] [] [] ?_
        refine dC (fleetref2_dot_2_ok h22) [] [] [] ?_
        refine dR 3 ?_
        refine dE ?_
        exact oO hF [] [] rfl
      · refine aD ?_
        refine dR 2 ?_
        refine dSb (U := []) (stable_eqS (op := .eql) (xs := [.int .i64 vx8.X, .int .i64 vx8.Y]) (ys := [.int .i64 vy7.X, .int .i64 vy7.Y]) (b := (decide (vx8.X = vy7.X) && (decide (vx8.Y = vy7.Y) && true))) (c := (decide (vx8.X = vy7.X) && (decide (vx8.Y = vy7.Y) && true))) rfl (.inl ⟨rfl, rfl⟩) (by kernel_rfl) (by kernel_rfl) (by kernel_rfl) (by kernel_rfl) (by kernel_rfl) (by kernel_rfl)) h16 ?_
        refine dR 2 ?_
        refine dB h17 ?_
        refine dR 3 ?_
        refine dB h18 ?_
        refine dR 18 ?_
        refine dE ?_
        exact oO hF [] [] rfl

def fleetref2_HullOf_x3_k : api_Spot → AEx
  | _ => .normal

def fleetref2_HullOf_x3_S (vr1 : List api_Spot) (vx : List api_Spot) (vy7 : api_Spot) (vx8 : api_Spot) (vx9 : Int) : api_Spot → St
  | vx13 => Mem.st ⟨[(3, ⟨32, 2, List.map api_Spot.enc vx⟩)], [(0, [.d (.lst (List.map api_Spot.enc vr1))]), (1, [.d (.int .i64 vy7.X), .d (.int .i64 vy7.Y)]), (2, [.d (.int .i64 vx13.X), .d (.int .i64 vx13.Y)])]⟩ (tl [(1, .v (.one (.box 0 0))), (3, .v (.one (.own 3 none))), (4, .v (.one (.box 1 0))), (5, .v (.one (.box 2 0))), (44, .v (.one (.d (.lst (List.map api_Spot.enc vr1))))), (45, .v (.one (.d (.int .i64 (vr1.length : Int))))), (46, .v (.one (.d (.int .i64 vx9))))]) 4

def fleetref2_HullOf_x3_I (vr1 : List api_Spot) (vx : List api_Spot) (vy7 : api_Spot) (vx8 : api_Spot) (vx9 : Int) : St := Mem.st ⟨[(3, ⟨32, 2, List.map api_Spot.enc vx⟩)], [(0, [.d (.lst (List.map api_Spot.enc vr1))]), (1, [.d (.int .i64 vy7.X), .d (.int .i64 vy7.Y)]), (2, [.d (.int .i64 vx8.X), .d (.int .i64 vx8.Y)])]⟩ (tl [(1, .v (.one (.box 0 0))), (3, .v (.one (.own 3 none))), (4, .v (.one (.box 1 0))), (5, .v (.one (.box 2 0))), (44, .v (.one (.d (.lst (List.map api_Spot.enc vr1))))), (45, .v (.one (.d (.int .i64 (vr1.length : Int))))), (46, .v (.one (.d (.int .i64 vx9))))]) 4

theorem fleetref2_HullOf_x3_ok (vr1 : List api_Spot) (vx : List api_Spot) (vy7 : api_Spot) (vx8 : api_Spot) (vx9 : Int) {r} (hF : fleetref2_HullOf_x3 vr1 vy7 vx8 vx9 = some r) : Awp prog 0 97 (cL (cR (cR (cL (cL (cR (cL (cR (cR (cL (cL (cL (cR (cR (cR (cR (cR (cR (cR (cB f14)))))))))))))))))))) (Out 0 fleetref2_HullOf_x3_k (fleetref2_HullOf_x3_S vr1 vx vy7 vx8 vx9) r) (fleetref2_HullOf_x3_I vr1 vx vy7 vx8 vx9) := by
  unfold fleetref2_HullOf_x3 at hF
  refine awp_block ?_
  refine awp_seq ?_
  refine bE hF fun vy9 h13 hF => ?_
  refine awp_region ?_
  refine aX (x_idx api_Spot.enc h13) ?_
  refine aR 3 ?_
  refine aE ?_
  refine awp_seq ?_
  refine awp_seq ?_
  refine awp_region ?_
  refine aR 2 ?_
  refine aS (does_eqS (op := .eql) (xs := [.int .i64 vy9.X, .int .i64 vy9.Y]) (ys := [.int .i64 vy7.X, .int .i64 vy7.Y]) (b := (decide (vy9.X = vy7.X) && (decide (vy9.Y = vy7.Y) && true))) (c := (decide (vy9.X = vy7.X) && (decide (vy9.Y = vy7.Y) && true))) rfl (.inl ⟨rfl, rfl⟩) (by kernel_rfl) (by kernel_rfl) (by kernel_rfl) (by kernel_rfl) (by kernel_rfl) (by kernel_rfl)) ?_
  refine aE ?_
  refine cE hF (fun h14 hF => ?_) fun h14 hF => ?_
  · refine awp_true (by kernel_rfl) h14 ?_
    refine awp_exit ?_
    exact oO hF [] [] rfl
  · refine awp_false (by kernel_rfl) h14 ?_
    refine awp_skip ?_
    refine awp_seq ?_
    refine bE hF fun vr1_4 h15 hF => ?_
    refine awp_region ?_
    refine aR 3 ?_
    refine aC (fleetref2_side_ok h15) [] [] [] ?_
    refine aR 1 ?_
    refine aE ?_
    refine awp_seq ?_
    refine awp_to (st' := fleetref2_HullOf_x4_I vr1 vx vy7 vx8 vx9 vy9 vr1_4) (oT [(3, 2004), (4, 3)] []) ?_
    refine bE hF fun vx12_1 h23 hF => ?_
    refine awp_sub (fleetref2_HullOf_x4_ok vr1 vx vy7 vx8 vx9 vy9 vr1_4 h23) ?_
    refine cE hF (fun h24 hF => ?_) fun h24 hF => ?_
    · refine awp_true (by kernel_rfl) h24 ?_
      refine awp_region ?_
      refine aR 2 ?_
      refine aE ?_
      exact oO hF [(3, 4)] [] rfl
    · refine awp_false (by kernel_rfl) h24 ?_
      refine awp_skip ?_
      exact oO hF [(3, 4)] [] rfl

def fleetref2_HullOf_x2_k : api_Spot → AEx
  | _ => .exit 2

def fleetref2_HullOf_x2_S (vr1 : List api_Spot) (vx : List api_Spot) (vy7 : api_Spot) : api_Spot → St
  | vx14 => Mem.st ⟨[(2, ⟨32, 2, List.map api_Spot.enc vx⟩)], [(0, [.d (.lst (List.map api_Spot.enc vr1))]), (1, [.d (.int .i64 vx14.X), .d (.int .i64 vx14.Y)])]⟩ (tl [(1, .v (.one (.box 0 0))), (3, .v (.one (.own 2 none))), (5, .v (.one (.box 1 0)))]) 3

def fleetref2_HullOf_x2_H (vr1 : List api_Spot) (vx : List api_Spot) (vy7 : api_Spot) : api_Spot × Int → St
  | (vx8, vx9) => Mem.st ⟨[(3, ⟨32, 2, List.map api_Spot.enc vx⟩)], [(0, [.d (.lst (List.map api_Spot.enc vr1))]), (1, [.d (.int .i64 vy7.X), .d (.int .i64 vy7.Y)]), (2, [.d (.int .i64 vx8.X), .d (.int .i64 vx8.Y)])]⟩ (tl [(1, .v (.one (.box 0 0))), (3, .v (.one (.own 3 none))), (4, .v (.one (.box 1 0))), (5, .v (.one (.box 2 0))), (44, .v (.one (.d (.lst (List.map api_Spot.enc vr1))))), (45, .v (.one (.d (.int .i64 (vr1.length : Int))))), (46, .v (.one (.d (.int .i64 vx9))))]) 4

theorem fleetref2_HullOf_x2_ok (vr1 : List api_Spot) (vx : List api_Spot) (vy7 : api_Spot) (s : api_Spot × Int) (r : (api_Spot × Int) ⊕ (api_Spot)) (hF : fleetref2_HullOf_x2 vr1 vy7 s = some r) : Awp prog 0 97 (cL (cL (cR (cL (cR (cR (cL (cL (cL (cR (cR (cR (cR (cR (cR (cR (cB f14))))))))))))))))) (Out 0 (kk fleetref2_HullOf_x2_k) (SS (fleetref2_HullOf_x2_H vr1 vx vy7) (fleetref2_HullOf_x2_S vr1 vx vy7)) r) (fleetref2_HullOf_x2_H vr1 vx vy7 s) := by
  obtain ⟨vx8, vx9⟩ := s
  unfold fleetref2_HullOf_x2 at hF
  refine awp_seq ?_
  refine awp_region ?_
  refine aR 1 ?_
  refine aE ?_
  refine awp_seq ?_
  refine cE hF (fun h12 hF => ?_) fun h12 hF => ?_
  · refine awp_true (by kernel_rfl) h12 ?_
    refine awp_skip ?_
    refine awp_seq ?_
    refine awp_to (st' := fleetref2_HullOf_x3_I vr1 vx vy7 vx8 vx9) (oT [] []) ?_
    refine bE hF fun vx13_1 h25 hF => ?_
    refine awp_sub (fleetref2_HullOf_x3_ok vr1 vx vy7 vx8 vx9 h25) ?_
    refine awp_region ?_
    refine aR 2 ?_
    refine aE ?_
    exact oO hF [] [] rfl
  · refine awp_false (by kernel_rfl) h12 ?_
    refine awp_exit ?_
    exact oO hF [(1, 2), (2, 3)] [] rfl

def fleetref2_HullOf_x1_k : (List api_Spot) → AEx
  | _ => .ret

def fleetref2_HullOf_x1_S (vr1 : List api_Spot) : (List api_Spot) → St
  | vx15 => Mem.st ⟨[(0, ⟨32, 2, List.map api_Spot.enc vx15⟩)], []⟩ (tl [(2, .v (.one (.own 0 none)))]) 1

def fleetref2_HullOf_x1_H (vr1 : List api_Spot) : (List api_Spot) → St
  | vx => Mem.st ⟨[(1, ⟨32, 2, List.map api_Spot.enc vx⟩)], [(0, [.d (.lst (List.map api_Spot.enc vr1))])]⟩ (tl [(1, .v (.one (.box 0 0))), (3, .v (.one (.own 1 none)))]) 2

theorem fleetref2_HullOf_x1_ok (vr1 : List api_Spot) (vx : (List api_Spot)) (r : ((List api_Spot)) ⊕ ((List api_Spot))) (hF : fleetref2_HullOf_x1 vr1 vx = some r) : Awp prog 0 97 (cL (cL (cR (cR (cR (cR (cR (cR (cR (cB f14)))))))))) (Out 0 (kk fleetref2_HullOf_x1_k) (SS (fleetref2_HullOf_x1_H vr1) (fleetref2_HullOf_x1_S vr1)) r) (fleetref2_HullOf_x1_H vr1 vx) := by
  unfold fleetref2_HullOf_x1 at hF
  refine awp_block ?_
  refine awp_seq ?_
  refine bE hF fun vy7 h11 hF => ?_
  refine awp_region ?_
  refine aR 2 ?_
  refine aL api_Spot.enc vx ?_
  refine aR 1 ?_
  refine aX (x_idxO api_Spot.enc 1 h11) ?_
  refine aX (x_ldE api_Spot.enc h11) ?_
  refine aR 2 ?_
  refine aE ?_
  refine awp_seq ?_
  refine awp_region ?_
  refine aR 3 ?_
  refine aE ?_
  refine awp_seq ?_
  refine awp_seq ?_
  refine awp_region ?_
  refine aR 1 ?_
  refine aL api_Spot.enc vr1 ?_
  refine aR 1 ?_
  refine aE ?_
  refine awp_block ?_
  refine awp_to (st' := fleetref2_HullOf_x2_H vr1 vx vy7 (vy7, 0)) (oT [(1, 6002), (2, 9002), (3, 1)] []) ?_
  refine bE hF fun vx14_1 h26 hF => ?_
  refine awp_sub (awp_loop' (fleetref2_HullOf_x2_H vr1 vx vy7) fleetref2_HullOf_x2_k (fleetref2_HullOf_x2_S vr1 vx vy7) (by intro x; exact fun h => nomatch h) h26 (fleetref2_HullOf_x2_ok vr1 vx vy7)) ?_
  refine awp_seq ?_
  refine awp_seq ?_
  refine bE hF fun vy10 h27 hF => ?_
  refine aD ?_
  refine dR 2 ?_
  refine dX (x_idxO api_Spot.enc 2 h27) ?_
  refine dX (x_ldE api_Spot.enc h27) ?_
  refine dS (U := []) (stable_eqS (op := .eql) (xs := [.int .i64 vx14_1.X, .int .i64 vx14_1.Y]) (ys := [.int .i64 vy10.X, .int .i64 vy10.Y]) (b := (decide (vx14_1.X = vy10.X) && (decide (vx14_1.Y = vy10.Y) && true))) (c := (decide (vx14_1.X = vy10.X) && (decide (vx14_1.Y = vy10.Y) && true))) rfl (.inl ⟨rfl, rfl⟩) (by kernel_rfl) (by kernel_rfl) (by kernel_rfl) (by kernel_rfl) (by kernel_rfl) (by kernel_rfl)) ?_
  refine dE ?_
  refine cE hF (fun h28 hF => ?_) fun h28 hF => ?_
  · refine awp_true (by kernel_rfl) h28 ?_
    refine awp_seq ?_
    refine awp_region ?_
    refine aR 2 ?_
    refine aE ?_
    refine awp_ret ?_
    exact oO hF [(0, 2)] [] rfl
  · refine awp_false (by kernel_rfl) h28 ?_
    refine awp_skip ?_
    refine gE hF fun h29 hF => ?_
    refine awp_region ?_
    refine aR 3 ?_
    refine aX (x_app api_Spot.enc 2 h29) ?_
    refine aR 1 ?_
    refine aE ?_
    exact oO hF [(1, 8003)] [] rfl

def fleetref2_HullOf_R (qx : List api_Spot) (r : (List api_Spot)) : TV × Mem := (.v (.one (.own 0 none)), ⟨[(0, ⟨32, 2, List.map api_Spot.enc r⟩)], []⟩)

theorem fleetref2_HullOf_ok {qx : List api_Spot} {r} (hF : fleetref2_HullOf qx = some r) : Holds prog 14 [.v (.one (.d (.lst (List.map api_Spot.enc qx))))] ⟨[], []⟩ (Is (fleetref2_HullOf_R qx r)) := by
  unfold fleetref2_HullOf at hF
  refine holds_of_awp hΓ (fn := f14) (c := cB f14) (A := 0) (nx := 0) (by kernel_rfl) (by kernel_rfl) (by kernel_rfl) (by kernel_rfl) (by kernel_rfl) (by kernel_rfl) (lowc_of (by kernel_rfl)) ?_
  show Awp prog 0 97 (cB f14) _ _
  refine awp_seq ?_
  refine awp_region ?_
  refine aR 2 ?_
  refine aE ?_
  refine awp_seq ?_
  refine bE hF fun vr h1 hF => ?_
  refine awp_region ?_
  refine aR 1 ?_
  refine aC (slices_Clone_api_Spot_api_Spot_ok h1) [] [] [] ?_
  refine aR 1 ?_
  refine aE ?_
  refine awp_seq ?_
  refine bE hF fun vl h2 hF => ?_
  refine gE hF fun h3 hF => ?_
  refine awp_region ?_
  refine aR 1 ?_
  refine aCp (slices_SortFunc_api_Spot_api_Spot_o0_f1_fleetref2_spotOrder_ok h2) ⟨⟨rfl, rfl, pin1 h3⟩, trivial⟩ [(0, 3000)] [] [] ?_
  refine aE ?_
  refine awp_seq ?_
  refine bE hF fun vr1 h4 hF => ?_
  refine awp_region ?_
  refine aR 1 ?_
  refine aC (slices_Compact_api_Spot_api_Spot_o0_ok h4) [(0, 3000)] [] [] ?_
  refine aR 1 ?_
  refine aE ?_
  refine awp_seq ?_
  refine awp_seq ?_
  refine awp_region ?_
  refine aR 1 ?_
  refine aL api_Spot.enc vr1 ?_
  refine aR 1 ?_
  refine aE ?_
  refine cE hF (fun h5 hF => ?_) fun h5 hF => ?_
  · refine awp_true (by kernel_rfl) h5 ?_
    refine awp_seq ?_
    refine awp_region ?_
    refine aR 2 ?_
    refine aE ?_
    refine awp_ret ?_
    exact oF hF [(0, 8001)] []
  · refine awp_false (by kernel_rfl) h5 ?_
    refine awp_skip ?_
    refine awp_seq ?_
    refine awp_seq ?_
    refine awp_to (oT (m := ⟨[], [(0, [.d (.lst (List.map api_Spot.enc vr1))])]⟩) (ts := [(1, .v (.one (.box 0 0)))]) (nx := 13000) [] []) ?_
    refine bE hF fun vr2 h6 hF => ?_
    refine awp_region ?_
    refine aR 2 ?_
    refine aC (slices_ContainsFunc_api_Spot_api_Spot_f1_fleetref2_HullOf_1_ok h6) [] [] [] ?_
    refine aR 1 ?_
    refine aE ?_
    refine cE hF (fun h7 hF => ?_) fun h7 hF => ?_
    · refine awp_true (by kernel_rfl) h7 ?_
      refine awp_seq ?_
      refine bE hF fun vy h8 hF => ?_
      refine bE hF fun vy1 h9 hF => ?_
      refine aD ?_
      refine dR 1 ?_
      refine dX (x_idx api_Spot.enc h8) ?_
      refine dR 3 ?_
      refine dL api_Spot.enc vr1 ?_
      refine dR 1 ?_
      refine dX (x_idx api_Spot.enc h9) ?_
      refine dR 3 ?_
      refine dE ?_
      refine awp_ret ?_
      exact oF hF [(0, 26000)] []
    · refine awp_false (by kernel_rfl) h7 ?_
      refine awp_skip ?_
      refine awp_seq ?_
      refine bE hF fun vy2 h10 hF => ?_
      refine awp_region ?_
      refine aR 1 ?_
      refine aX (x_idx api_Spot.enc h10) ?_
      refine aR 3 ?_
      refine aE ?_
      refine awp_block ?_
      refine awp_to (st' := fleetref2_HullOf_x1_H vr1 ([vy2] : List api_Spot)) (oT [(1, 20000)] []) ?_
      refine bE hF fun vx15_1 h30 hF => ?_
      refine awp_sub (awp_loop' (fleetref2_HullOf_x1_H vr1) fleetref2_HullOf_x1_k (fleetref2_HullOf_x1_S vr1) (by intro x; exact fun h => nomatch h) h30 (fleetref2_HullOf_x1_ok vr1)) ?_
      exact oF hF [] []

/-! ### beaconfleet/fleetref2.WhereOf -/
def fleetref2_WhereOf_x3_k : Bool → AEx
  | _ => .normal

def fleetref2_WhereOf_x3_S (qx : List api_Spot) (qx1 : api_Spot) (vx : Int) (vx1 : Int) (vr3 : api_Spot) (vr1_3 : api_Spot) : Bool → St
  | vx5 => Mem.st ⟨[], [(0, [.d (.int .i64 qx1.X), .d (.int .i64 qx1.Y)]), (1, [.d (.int .i64 vr3.X), .d (.int .i64 vr3.Y)]), (2, [.d (.int .i64 vr1_3.X), .d (.int .i64 vr1_3.Y)])]⟩ (tl [(0, .v (.one (.d (.lst (List.map api_Spot.enc qx))))), (3, .v (.one (.box 0 0))), (5, .v (.one (.d (.int .i64 vx)))), (7, .v (.one (.box 1 0))), (8, .v (.one (.box 2 0))), (10, .v (.one (.d (.int .i64 (qx.length : Int))))), (11, .v (.one (.d (.int .i64 vx1)))), (24, .v (.one (.d (.bool vx5))))]) 3

def fleetref2_WhereOf_x3_I (qx : List api_Spot) (qx1 : api_Spot) (vx : Int) (vx1 : Int) (vr3 : api_Spot) (vr1_3 : api_Spot) : St := Mem.st ⟨[], [(0, [.d (.int .i64 qx1.X), .d (.int .i64 qx1.Y)]), (1, [.d (.int .i64 vr3.X), .d (.int .i64 vr3.Y)]), (2, [.d (.int .i64 vr1_3.X), .d (.int .i64 vr1_3.Y)])]⟩ (tl [(0, .v (.one (.d (.lst (List.map api_Spot.enc qx))))), (3, .v (.one (.box 0 0))), (5, .v (.one (.d (.int .i64 vx)))), (7, .v (.one (.box 1 0))), (8, .v (.one (.box 2 0))), (10, .v (.one (.d (.int .i64 (qx.length : Int))))), (11, .v (.one (.d (.int .i64 vx1))))]) 3

theorem fleetref2_WhereOf_x3_ok (qx : List api_Spot) (qx1 : api_Spot) (vx : Int) (vx1 : Int) (vr3 : api_Spot) (vr1_3 : api_Spot) {r} (hF : fleetref2_WhereOf_x3 qx1 vr3 vr1_3 = some r) : Awp prog 0 71 (cL (cL (cR (cR (cR (cL (cL (cR (cR (cL (cL (cR (cL (cR (cR (cB f46)))))))))))))))) (Out 0 fleetref2_WhereOf_x3_k (fleetref2_WhereOf_x3_S qx qx1 vx vx1 vr3 vr1_3) r) (fleetref2_WhereOf_x3_I qx qx1 vx vx1 vr3 vr1_3) := by
  unfold fleetref2_WhereOf_x3 at hF
  refine cE hF (fun h5 hF => ?_) fun h5 hF => ?_
  · refine cE hF (fun h6 hF => ?_) fun h6 hF => ?_
    · refine bE hF fun vr1_4 h7 hF => ?_
      refine awp_region ?_
      refine aR 4 ?_
      refine aB h5 ?_
      refine aR 5 ?_
      refine aB h6 ?_
      refine aR 5 ?_
      refine aC (fleetref2_side_ok h7) [] [] [] ?_
      refine aR 3 ?_
      refine aE ?_
      exact oO hF [] [] rfl
    · refine awp_region ?_
      refine aR 4 ?_
      refine aB h5 ?_
      refine aR 5 ?_
      refine aB h6 ?_
      refine aR 9 ?_
      refine aE ?_
      exact oO hF [] [] rfl
  · refine awp_region ?_
    refine aR 4 ?_
    refine aB h5 ?_
    refine aR 15 ?_
    refine aE ?_
    exact oO hF [] [] rfl

def fleetref2_WhereOf_x4_k : Bool → AEx
  | _ => .normal

def fleetref2_WhereOf_x4_S (qx : List api_Spot) (qx1 : api_Spot) (vx : Int) (vx1 : Int) (vr3 : api_Spot) (vr1_3 : api_Spot) : Bool → St
  | vx6 => Mem.st ⟨[], [(0, [.d (.int .i64 qx1.X), .d (.int .i64 qx1.Y)])]⟩ (tl [(0, .v (.one (.d (.lst (List.map api_Spot.enc qx))))), (3, .v (.one (.box 0 0))), (5, .v (.one (.d (.int .i64 vx)))), (10, .v (.one (.d (.int .i64 (qx.length : Int))))), (11, .v (.one (.d (.int .i64 vx1)))), (46, .v (.one (.d (.bool vx6))))]) 1

def fleetref2_WhereOf_x4_I (qx : List api_Spot) (qx1 : api_Spot) (vx : Int) (vx1 : Int) (vr3 : api_Spot) (vr1_3 : api_Spot) : St := Mem.st ⟨[], [(0, [.d (.int .i64 qx1.X), .d (.int .i64 qx1.Y)]), (1, [.d (.int .i64 vr3.X), .d (.int .i64 vr3.Y)]), (2, [.d (.int .i64 vr1_3.X), .d (.int .i64 vr1_3.Y)])]⟩ (tl [(0, .v (.one (.d (.lst (List.map api_Spot.enc qx))))), (3, .v (.one (.box 0 0))), (5, .v (.one (.d (.int .i64 vx)))), (7, .v (.one (.box 1 0))), (8, .v (.one (.box 2 0))), (10, .v (.one (.d (.int .i64 (qx.length : Int))))), (11, .v (.one (.d (.int .i64 vx1))))]) 3

theorem fleetref2_WhereOf_x4_ok (qx : List api_Spot) (qx1 : api_Spot) (vx : Int) (vx1 : Int) (vr3 : api_Spot) (vr1_3 : api_Spot) {r} (hF : fleetref2_WhereOf_x4 qx1 vr3 vr1_3 = some r) : Awp prog 0 71 (cL (cR (cR (cL (cR (cR (cR (cL (cL (cR (cR (cL (cL (cR (cL (cR (cR (cB f46)))))))))))))))))) (Out 0 fleetref2_WhereOf_x4_k (fleetref2_WhereOf_x4_S qx qx1 vx vx1 vr3 vr1_3) r) (fleetref2_WhereOf_x4_I qx qx1 vx vx1 vr3 vr1_3) := by
  unfold fleetref2_WhereOf_x4 at hF
  refine cE hF (fun h10 hF => ?_) fun h10 hF => ?_
  · refine cE hF (fun h11 hF => ?_) fun h11 hF => ?_
    · refine bE hF fun vr1_5 h12 hF => ?_
      refine awp_region ?_
      refine aR 4 ?_
      refine aB h10 ?_
      refine aR 5 ?_
      refine aB h11 ?_
      refine aR 5 ?_
      refine aC (fleetref2_side_ok h12) [] [] [] ?_
      refine aR 3 ?_
      refine aE ?_
      exact oO hF [] [] rfl
    · refine awp_region ?_
      refine aR 4 ?_
      refine aB h10 ?_
      refine aR 5 ?_
      refine aB h11 ?_
      refine aR 9 ?_
      refine aE ?_
      exact oO hF [] [] rfl
  · refine awp_region ?_
    refine aR 4 ?_
    refine aB h10 ?_
    refine aR 15 ?_
    refine aE ?_
    exact oO hF [] [] rfl

def fleetref2_WhereOf_x2_k : Int ⊕ Unit → AEx
  | .inl _ => .normal
  | .inr _ => .ret

def fleetref2_WhereOf_x2_S (qx : List api_Spot) (qx1 : api_Spot) (vx : Int) (vx1 : Int) : Int ⊕ Unit → St
  | .inl vx7 => Mem.st ⟨[], [(0, [.d (.int .i64 qx1.X), .d (.int .i64 qx1.Y)])]⟩ (tl [(0, .v (.one (.d (.lst (List.map api_Spot.enc qx))))), (3, .v (.one (.box 0 0))), (5, .v (.one (.d (.int .i64 vx7)))), (10, .v (.one (.d (.int .i64 (qx.length : Int))))), (11, .v (.one (.d (.int .i64 vx1))))]) 1
  | .inr _ => Mem.st ⟨[], []⟩ (tl [(4, .v (.one (.d (.int .i64 1))))]) 0

def fleetref2_WhereOf_x2_I (qx : List api_Spot) (qx1 : api_Spot) (vx : Int) (vx1 : Int) : St := Mem.st ⟨[], [(0, [.d (.int .i64 qx1.X), .d (.int .i64 qx1.Y)])]⟩ (tl [(0, .v (.one (.d (.lst (List.map api_Spot.enc qx))))), (3, .v (.one (.box 0 0))), (5, .v (.one (.d (.int .i64 vx)))), (10, .v (.one (.d (.int .i64 (qx.length : Int))))), (11, .v (.one (.d (.int .i64 vx1))))]) 1

theorem fleetref2_WhereOf_x2_ok (qx : List api_Spot) (qx1 : api_Spot) (vx : Int) (vx1 : Int) {r} (hF : fleetref2_WhereOf_x2 qx qx1 vx vx1 = some r) : Awp prog 0 71 (cL (cR (cR (cL (cL (cR (cL (cR (cR (cB f46)))))))))) (Out 0 fleetref2_WhereOf_x2_k (fleetref2_WhereOf_x2_S qx qx1 vx vx1) r) (fleetref2_WhereOf_x2_I qx qx1 vx vx1) := by
  unfold fleetref2_WhereOf_x2 at hF
  refine awp_block ?_
  refine awp_seq ?_
  refine awp_region ?_
  refine aR 2 ?_
  refine aE ?_
  refine awp_seq ?_
  refine bE hF fun x h2 hF => ?_
  obtain ⟨vr3, vr1_3⟩ := x
  refine awp_region ?_
  refine aR 2 ?_
  refine aC (fleetref2_edge_ok h2) [] [] [] ?_
  refine aR 7 ?_
  refine aE ?_
  refine awp_seq ?_
  refine awp_seq ?_
  refine bE hF fun vr4 h3 hF => ?_
  refine awp_region ?_
  refine aR 3 ?_
  refine aC (fleetref2_onWay_ok h3) [] [] [] ?_
  refine aE ?_
  refine cE hF (fun h4 hF => ?_) fun h4 hF => ?_
  · refine awp_true (by kernel_rfl) h4 ?_
    refine awp_seq ?_
    refine awp_region ?_
    refine aR 1 ?_
    refine aE ?_
    refine awp_ret ?_
    exact oO hF [] [] rfl
  · refine awp_false (by kernel_rfl) h4 ?_
    refine awp_skip ?_
    refine awp_block ?_
    refine awp_seq ?_
    refine awp_to (st' := fleetref2_WhereOf_x3_I qx qx1 vx vx1 vr3 vr1_3) (oT [(1, 8001), (2, 9001)] []) ?_
    refine bE hF fun vx5_1 h8 hF => ?_
    refine awp_sub (fleetref2_WhereOf_x3_ok qx qx1 vx vx1 vr3 vr1_3 h8) ?_
    refine cE hF (fun h9 hF => ?_) fun h9 hF => ?_
    · refine awp_true (by kernel_rfl) h9 ?_
      refine awp_region ?_
      refine aR 3 ?_
      refine aE ?_
      exact oO hF [] [] rfl
    · refine awp_false (by kernel_rfl) h9 ?_
      refine awp_seq ?_
      refine awp_to (st' := fleetref2_WhereOf_x4_I qx qx1 vx vx1 vr3 vr1_3) (oT [] []) ?_
      refine bE hF fun vx6_1 h13 hF => ?_
      refine awp_sub (fleetref2_WhereOf_x4_ok qx qx1 vx vx1 vr3 vr1_3 h13) ?_
      refine cE hF (fun h14 hF => ?_) fun h14 hF => ?_
      · refine awp_true (by kernel_rfl) h14 ?_
        refine awp_region ?_
        refine aR 3 ?_
        refine aE ?_
        exact oO hF [] [] rfl
      · refine awp_false (by kernel_rfl) h14 ?_
        refine awp_skip ?_
        exact oO hF [] [] rfl

def fleetref2_WhereOf_x1_k : Int ⊕ Unit → AEx
  | .inl _ => .exit 0
  | .inr _ => .ret

def fleetref2_WhereOf_x1_S (qx : List api_Spot) (qx1 : api_Spot) : Int ⊕ Unit → St
  | .inl vx8 => Mem.st ⟨[], []⟩ (tl [(5, .v (.one (.d (.int .i64 vx8))))]) 0
  | .inr _ => Mem.st ⟨[], []⟩ (tl [(4, .v (.one (.d (.int .i64 1))))]) 0

def fleetref2_WhereOf_x1_H (qx : List api_Spot) (qx1 : api_Spot) : Int × Int → St
  | (vx, vx1) => Mem.st ⟨[], [(0, [.d (.int .i64 qx1.X), .d (.int .i64 qx1.Y)])]⟩ (tl [(0, .v (.one (.d (.lst (List.map api_Spot.enc qx))))), (3, .v (.one (.box 0 0))), (5, .v (.one (.d (.int .i64 vx)))), (10, .v (.one (.d (.int .i64 (qx.length : Int))))), (11, .v (.one (.d (.int .i64 vx1))))]) 1

theorem fleetref2_WhereOf_x1_ok (qx : List api_Spot) (qx1 : api_Spot) (s : Int × Int) (r : (Int × Int) ⊕ (Int ⊕ Unit)) (hF : fleetref2_WhereOf_x1 qx qx1 s = some r) : Awp prog 0 71 (cL (cL (cR (cL (cR (cR (cB f46))))))) (Out 0 (kk fleetref2_WhereOf_x1_k) (SS (fleetref2_WhereOf_x1_H qx qx1) (fleetref2_WhereOf_x1_S qx qx1)) r) (fleetref2_WhereOf_x1_H qx qx1 s) := by
  obtain ⟨vx, vx1⟩ := s
  unfold fleetref2_WhereOf_x1 at hF
  refine awp_seq ?_
  refine awp_region ?_
  refine aR 1 ?_
  refine aE ?_
  refine awp_seq ?_
  refine cE hF (fun h1 hF => ?_) fun h1 hF => ?_
  · refine awp_true (by kernel_rfl) h1 ?_
    refine awp_skip ?_
    refine awp_seq ?_
    refine awp_to (st' := fleetref2_WhereOf_x2_I qx qx1 vx vx1) (oT [] []) ?_
    refine bE hF fun x h15 hF => ?_
    rcases x with vx7_1 | _
    · refine awp_sub (fleetref2_WhereOf_x2_ok qx qx1 vx vx1 h15) ?_
      refine awp_region ?_
      refine aR 2 ?_
      refine aE ?_
      exact oO hF [] [] rfl
    · refine awp_sub (fleetref2_WhereOf_x2_ok qx qx1 vx vx1 h15) ?_
      exact oO hF [] [] rfl
  · refine awp_false (by kernel_rfl) h1 ?_
    refine awp_exit ?_
    exact oO hF [] [] rfl

def fleetref2_WhereOf_R (qx : List api_Spot) (qx1 : api_Spot) (r : Int) : TV × Mem := (.v (.one (.d (.int .i64 r))), ⟨[], []⟩)

theorem fleetref2_WhereOf_ok {qx : List api_Spot} {qx1 : api_Spot} {r} (hF : fleetref2_WhereOf qx qx1 = some r) : Holds prog 46 [.v (.one (.d (.lst (List.map api_Spot.enc qx)))), .v (.agg [.d (.int .i64 qx1.X), .d (.int .i64 qx1.Y)])] ⟨[], []⟩ (Is (fleetref2_WhereOf_R qx qx1 r)) := by
  unfold fleetref2_WhereOf at hF
  refine holds_of_awp hΓ (fn := f46) (c := cB f46) (A := 0) (nx := 0) (by kernel_rfl) (by kernel_rfl) (by kernel_rfl) (by kernel_rfl) (by kernel_rfl) (by kernel_rfl) (lowc_of (by kernel_rfl)) ?_
  show Awp prog 0 71 (cB f46) _ _
  refine awp_seq ?_
  refine awp_region ?_
  refine aR 2 ?_
  refine aE ?_
  refine awp_seq ?_
  refine awp_region ?_
  refine aR 1 ?_
  refine aE ?_
  refine awp_seq ?_
  refine awp_seq ?_
  refine awp_region ?_
  refine aR 1 ?_
  refine aL api_Spot.enc qx ?_
  refine aR 1 ?_
  refine aE ?_
  refine awp_block ?_
  refine awp_to (st' := fleetref2_WhereOf_x1_H qx qx1 (0, 0)) (oT [] []) ?_
  refine bE hF fun x h16 hF => ?_
  rcases x with vx8_1 | _
  · refine awp_sub (awp_loop' (fleetref2_WhereOf_x1_H qx qx1) fleetref2_WhereOf_x1_k (fleetref2_WhereOf_x1_S qx qx1) (by intro x; rcases x with x | x <;> exact fun h => nomatch h) h16 (fleetref2_WhereOf_x1_ok qx qx1)) ?_
    refine awp_seq ?_
    refine awp_seq ?_
    refine awp_region ?_
    refine aR 2 ?_
    refine aE ?_
    refine cE hF (fun h17 hF => ?_) fun h17 hF => ?_
    · refine awp_true (by kernel_rfl) h17 ?_
      refine awp_seq ?_
      refine awp_region ?_
      refine aR 1 ?_
      refine aE ?_
      refine awp_ret ?_
      exact oF hF [] []
    · refine awp_false (by kernel_rfl) h17 ?_
      refine awp_skip ?_
      refine awp_seq ?_
      refine awp_region ?_
      refine aR 1 ?_
      refine aE ?_
      refine awp_ret ?_
      exact oF hF [] []
  · refine awp_sub (awp_loop' (fleetref2_WhereOf_x1_H qx qx1) fleetref2_WhereOf_x1_k (fleetref2_WhereOf_x1_S qx qx1) (by intro x; rcases x with x | x <;> exact fun h => nomatch h) h16 (fleetref2_WhereOf_x1_ok qx qx1)) ?_
    exact oF hF [] []

/-! ### beaconfleet/fleetref2.MeetOf -/
def fleetref2_MeetOf_x2_k : Unit ⊕ Unit → AEx
  | .inl _ => .exit 2
  | .inr _ => .ret

def fleetref2_MeetOf_x2_S (qf : List api_Spot) (qg : List api_Spot) (vx : Int) (vr5 : api_Spot) (vr1_3 : api_Spot) : Unit ⊕ Unit → St
  | .inl _ => Mem.st ⟨[], []⟩ (tl [(0, .v (.one (.d (.lst (List.map api_Spot.enc qf))))), (1, .v (.one (.d (.lst (List.map api_Spot.enc qg))))), (12, .v (.one (.d (.int .i64 (qf.length : Int))))), (13, .v (.one (.d (.int .i64 vx))))]) 0
  | .inr _ => Mem.st ⟨[], []⟩ (tl [(4, .v (.one (.d (.bool true))))]) 0

def fleetref2_MeetOf_x2_H (qf : List api_Spot) (qg : List api_Spot) (vx : Int) (vr5 : api_Spot) (vr1_3 : api_Spot) : Int → St
  | vx2 => Mem.st ⟨[], [(0, [.d (.int .i64 vr5.X), .d (.int .i64 vr5.Y)]), (1, [.d (.int .i64 vr1_3.X), .d (.int .i64 vr1_3.Y)])]⟩ (tl [(0, .v (.one (.d (.lst (List.map api_Spot.enc qf))))), (1, .v (.one (.d (.lst (List.map api_Spot.enc qg))))), (6, .v (.one (.box 0 0))), (7, .v (.one (.box 1 0))), (12, .v (.one (.d (.int .i64 (qf.length : Int))))), (13, .v (.one (.d (.int .i64 vx)))), (23, .v (.one (.d (.int .i64 (qg.length : Int))))), (24, .v (.one (.d (.int .i64 vx2))))]) 2

theorem fleetref2_MeetOf_x2_ok (qf : List api_Spot) (qg : List api_Spot) (vx : Int) (vr5 : api_Spot) (vr1_3 : api_Spot) (vx2 : Int) (r : (Int) ⊕ (Unit ⊕ Unit)) (hF : fleetref2_MeetOf_x2 qg vr5 vr1_3 vx2 = some r) : Awp prog 0 54 (cL (cL (cR (cR (cR (cL (cL (cR (cR (cL (cL (cR (cL (cR (cB f15))))))))))))))) (Out 0 (kk fleetref2_MeetOf_x2_k) (SS (fleetref2_MeetOf_x2_H qf qg vx vr5 vr1_3) (fleetref2_MeetOf_x2_S qf qg vx vr5 vr1_3)) r) (fleetref2_MeetOf_x2_H qf qg vx vr5 vr1_3 vx2) := by
  unfold fleetref2_MeetOf_x2 at hF
  refine awp_seq ?_
  refine awp_region ?_
  refine aR 1 ?_
  refine aE ?_
  refine awp_seq ?_
  refine cE hF (fun h3 hF => ?_) fun h3 hF => ?_
  · refine awp_true (by kernel_rfl) h3 ?_
    refine awp_skip ?_
    refine awp_seq ?_
    refine awp_block ?_
    refine awp_seq ?_
    refine awp_region ?_
    refine aR 2 ?_
    refine aE ?_
    refine awp_seq ?_
    refine bE hF fun x h4 hF => ?_
    obtain ⟨vr7, vr1_5⟩ := x
    refine awp_region ?_
    refine aR 2 ?_
    refine aC (fleetref2_edge_ok h4) [] [] [] ?_
    refine aR 7 ?_
    refine aE ?_
    refine awp_seq ?_
    refine bE hF fun vr4_3 h5 hF => ?_
    refine awp_region ?_
    refine aR 4 ?_
    refine aC (fleetref2_touches_ok h5) [] [] [] ?_
    refine aE ?_
    refine cE hF (fun h6 hF => ?_) fun h6 hF => ?_
    · refine awp_true (by kernel_rfl) h6 ?_
      refine awp_seq ?_
      refine awp_region ?_
      refine aR 1 ?_
      refine aE ?_
      refine awp_ret ?_
      exact oO hF [] [] rfl
    · refine awp_false (by kernel_rfl) h6 ?_
      refine awp_skip ?_
      refine awp_region ?_
      refine aR 2 ?_
      refine aE ?_
      exact oO hF [] [] rfl
  · refine awp_false (by kernel_rfl) h3 ?_
    refine awp_exit ?_
    exact oO hF [] [] rfl

def fleetref2_MeetOf_x1_k : Unit ⊕ Unit → AEx
  | .inl _ => .exit 0
  | .inr _ => .ret

def fleetref2_MeetOf_x1_S (qf : List api_Spot) (qg : List api_Spot) : Unit ⊕ Unit → St
  | .inl _ => Mem.st ⟨[], []⟩ (tl [(0, .v (.one (.d (.lst (List.map api_Spot.enc qf))))), (1, .v (.one (.d (.lst (List.map api_Spot.enc qg)))))]) 0
  | .inr _ => Mem.st ⟨[], []⟩ (tl [(4, .v (.one (.d (.bool true))))]) 0

def fleetref2_MeetOf_x1_H (qf : List api_Spot) (qg : List api_Spot) : Int → St
  | vx => Mem.st ⟨[], []⟩ (tl [(0, .v (.one (.d (.lst (List.map api_Spot.enc qf))))), (1, .v (.one (.d (.lst (List.map api_Spot.enc qg))))), (12, .v (.one (.d (.int .i64 (qf.length : Int))))), (13, .v (.one (.d (.int .i64 vx))))]) 0

theorem fleetref2_MeetOf_x1_ok (qf : List api_Spot) (qg : List api_Spot) (vx : Int) (r : (Int) ⊕ (Unit ⊕ Unit)) (hF : fleetref2_MeetOf_x1 qf qg vx = some r) : Awp prog 0 54 (cL (cL (cR (cL (cR (cB f15)))))) (Out 0 (kk fleetref2_MeetOf_x1_k) (SS (fleetref2_MeetOf_x1_H qf qg) (fleetref2_MeetOf_x1_S qf qg)) r) (fleetref2_MeetOf_x1_H qf qg vx) := by
  unfold fleetref2_MeetOf_x1 at hF
  refine awp_seq ?_
  refine awp_region ?_
  refine aR 1 ?_
  refine aE ?_
  refine awp_seq ?_
  refine cE hF (fun h1 hF => ?_) fun h1 hF => ?_
  · refine awp_true (by kernel_rfl) h1 ?_
    refine awp_skip ?_
    refine awp_seq ?_
    refine awp_block ?_
    refine awp_seq ?_
    refine awp_region ?_
    refine aR 2 ?_
    refine aE ?_
    refine awp_seq ?_
    refine bE hF fun x h2 hF => ?_
    obtain ⟨vr5, vr1_3⟩ := x
    refine awp_region ?_
    refine aR 2 ?_
    refine aC (fleetref2_edge_ok h2) [] [] [] ?_
    refine aR 7 ?_
    refine aE ?_
    refine awp_seq ?_
    refine awp_region ?_
    refine aR 1 ?_
    refine aL api_Spot.enc qg ?_
    refine aR 1 ?_
    refine aE ?_
    refine awp_block ?_
    refine awp_to (st' := fleetref2_MeetOf_x2_H qf qg vx vr5 vr1_3 0) (oT [(0, 9000), (1, 10000)] []) ?_
    refine bE hF fun x h7 hF => ?_
    rcases x with _ | _
    · refine awp_sub (awp_loop' (fleetref2_MeetOf_x2_H qf qg vx vr5 vr1_3) fleetref2_MeetOf_x2_k (fleetref2_MeetOf_x2_S qf qg vx vr5 vr1_3) (by intro x; rcases x with x | x <;> exact fun h => nomatch h) h7 (fleetref2_MeetOf_x2_ok qf qg vx vr5 vr1_3)) ?_
      refine awp_region ?_
      refine aR 2 ?_
      refine aE ?_
      exact oO hF [] [] rfl
    · refine awp_sub (awp_loop' (fleetref2_MeetOf_x2_H qf qg vx vr5 vr1_3) fleetref2_MeetOf_x2_k (fleetref2_MeetOf_x2_S qf qg vx vr5 vr1_3) (by intro x; rcases x with x | x <;> exact fun h => nomatch h) h7 (fleetref2_MeetOf_x2_ok qf qg vx vr5 vr1_3)) ?_
      exact oO hF [] [] rfl
  · refine awp_false (by kernel_rfl) h1 ?_
    refine awp_exit ?_
    exact oO hF [] [] rfl

def fleetref2_MeetOf_x3_k : Bool → AEx
  | _ => .normal

def fleetref2_MeetOf_x3_S (qf : List api_Spot) (qg : List api_Spot) : Bool → St
  | vx3 => Mem.st ⟨[], []⟩ (tl [(4, .v (.one (.d (.bool vx3))))]) 0

def fleetref2_MeetOf_x3_I (qf : List api_Spot) (qg : List api_Spot) : St := Mem.st ⟨[], []⟩ (tl [(0, .v (.one (.d (.lst (List.map api_Spot.enc qf))))), (1, .v (.one (.d (.lst (List.map api_Spot.enc qg)))))]) 0

theorem fleetref2_MeetOf_x3_ok (qf : List api_Spot) (qg : List api_Spot) {r} (hF : fleetref2_MeetOf_x3 qf qg = some r) : Awp prog 0 54 (cL (cR (cR (cB f15)))) (Out 0 fleetref2_MeetOf_x3_k (fleetref2_MeetOf_x3_S qf qg) r) (fleetref2_MeetOf_x3_I qf qg) := by
  unfold fleetref2_MeetOf_x3 at hF
  refine bE hF fun vy h9 hF => ?_
  refine bE hF fun vr5_1 h10 hF => ?_
  refine cE hF (fun h11 hF => ?_) fun h11 hF => ?_
  · refine awp_region ?_
    refine aR 2 ?_
    refine aX (x_idx api_Spot.enc h9) ?_
    refine aR 1 ?_
    refine aC (fleetref2_WhereOf_ok h10) [] [] [] ?_
    refine aB h11 ?_
    refine aR 9 ?_
    refine aE ?_
    exact oO hF [] [] rfl
  · refine bE hF fun vy1 h12 hF => ?_
    refine bE hF fun vr5_2 h13 hF => ?_
    refine awp_region ?_
    refine aR 2 ?_
    refine aX (x_idx api_Spot.enc h9) ?_
    refine aR 1 ?_
    refine aC (fleetref2_WhereOf_ok h10) [] [] [] ?_
    refine aB h11 ?_
    refine aR 3 ?_
    refine aX (x_idx api_Spot.enc h12) ?_
    refine aR 1 ?_
    refine aC (fleetref2_WhereOf_ok h13) [] [] [] ?_
    refine aR 3 ?_
    refine aE ?_
    exact oO hF [] [] rfl

def fleetref2_MeetOf_R (qf : List api_Spot) (qg : List api_Spot) (r : Bool) : TV × Mem := (.v (.one (.d (.bool r))), ⟨[], []⟩)

theorem fleetref2_MeetOf_ok {qf : List api_Spot} {qg : List api_Spot} {r} (hF : fleetref2_MeetOf qf qg = some r) : Holds prog 15 [.v (.one (.d (.lst (List.map api_Spot.enc qf)))), .v (.one (.d (.lst (List.map api_Spot.enc qg))))] ⟨[], []⟩ (Is (fleetref2_MeetOf_R qf qg r)) := by
  unfold fleetref2_MeetOf at hF
  refine holds_of_awp hΓ (fn := f15) (c := cB f15) (A := 0) (nx := 0) (by kernel_rfl) (by kernel_rfl) (by kernel_rfl) (by kernel_rfl) (by kernel_rfl) (by kernel_rfl) (lowc_of (by kernel_rfl)) ?_
  show Awp prog 0 54 (cB f15) _ _
  refine awp_seq ?_
  refine awp_region ?_
  refine aR 1 ?_
  refine aE ?_
  refine awp_seq ?_
  refine awp_seq ?_
  refine awp_region ?_
  refine aR 1 ?_
  refine aL api_Spot.enc qf ?_
  refine aR 1 ?_
  refine aE ?_
  refine awp_block ?_
  refine awp_to (st' := fleetref2_MeetOf_x1_H qf qg 0) (oT [] []) ?_
  refine bE hF fun x h8 hF => ?_
  rcases x with _ | _
  · refine awp_sub (awp_loop' (fleetref2_MeetOf_x1_H qf qg) fleetref2_MeetOf_x1_k (fleetref2_MeetOf_x1_S qf qg) (by intro x; rcases x with x | x <;> exact fun h => nomatch h) h8 (fleetref2_MeetOf_x1_ok qf qg)) ?_
    refine awp_seq ?_
    refine awp_to (st' := fleetref2_MeetOf_x3_I qf qg) (oT [] []) ?_
    refine bE hF fun vx3_1 h14 hF => ?_
    refine awp_sub (fleetref2_MeetOf_x3_ok qf qg h14) ?_
    refine awp_ret ?_
    exact oF hF [] []
  · refine awp_sub (awp_loop' (fleetref2_MeetOf_x1_H qf qg) fleetref2_MeetOf_x1_k (fleetref2_MeetOf_x1_S qf qg) (by intro x; rcases x with x | x <;> exact fun h => nomatch h) h8 (fleetref2_MeetOf_x1_ok qf qg)) ?_
    exact oF hF [] []

/-! ### slices.Equal[[]beaconfleet/api.Spot,beaconfleet/api.Spot] -/
def slices_Equal_api_Spot_api_Spot_x1_k : Unit ⊕ Unit → AEx
  | .inl _ => .exit 0
  | .inr _ => .ret

def slices_Equal_api_Spot_api_Spot_x1_S (qs1 : List api_Spot) (qs2 : List api_Spot) : Unit ⊕ Unit → St
  | .inl _ => Mem.st ⟨[], []⟩ (tl []) 0
  | .inr _ => Mem.st ⟨[], []⟩ (tl [(4, .v (.one (.d (.bool false))))]) 0

def slices_Equal_api_Spot_api_Spot_x1_H (qs1 : List api_Spot) (qs2 : List api_Spot) : Int → St
  | vx => Mem.st ⟨[], []⟩ (tl [(0, .v (.one (.d (.lst (List.map api_Spot.enc qs1))))), (1, .v (.one (.d (.lst (List.map api_Spot.enc qs2))))), (12, .v (.one (.d (.int .i64 (qs1.length : Int))))), (13, .v (.one (.d (.int .i64 vx))))]) 0

theorem slices_Equal_api_Spot_api_Spot_x1_ok (qs1 : List api_Spot) (qs2 : List api_Spot) (vx : Int) (r : (Int) ⊕ (Unit ⊕ Unit)) (hF : slices_Equal_api_Spot_api_Spot_x1 qs1 qs2 vx = some r) : Awp prog 0 26 (cL (cL (cR (cL (cR (cR (cB f16))))))) (Out 0 (kk slices_Equal_api_Spot_api_Spot_x1_k) (SS (slices_Equal_api_Spot_api_Spot_x1_H qs1 qs2) (slices_Equal_api_Spot_api_Spot_x1_S qs1 qs2)) r) (slices_Equal_api_Spot_api_Spot_x1_H qs1 qs2 vx) := by
  unfold slices_Equal_api_Spot_api_Spot_x1 at hF
  refine awp_seq ?_
  refine awp_region ?_
  refine aR 1 ?_
  refine aE ?_
  refine awp_seq ?_
  refine cE hF (fun h2 hF => ?_) fun h2 hF => ?_
  · refine awp_true (by kernel_rfl) h2 ?_
    refine awp_skip ?_
    refine awp_seq ?_
    refine awp_block ?_
    refine awp_seq ?_
    refine awp_region ?_
    refine aR 2 ?_
    refine aE ?_
    refine awp_seq ?_
    refine bE hF fun vy2 h3 hF => ?_
    refine bE hF fun vy3 h4 hF => ?_
    refine aD ?_
    refine dR 2 ?_
    refine dX (x_idx api_Spot.enc h3) ?_
    refine dR 3 ?_
    refine dX (x_idx api_Spot.enc h4) ?_
    refine dR 1 ?_
    refine dS (U := []) (stable_eqS (op := .neq) (xs := [.int .i64 vy2.X, .int .i64 vy2.Y]) (ys := [.int .i64 vy3.X, .int .i64 vy3.Y]) (b := (decide (vy2.X = vy3.X) && (decide (vy2.Y = vy3.Y) && true))) (c := (!(decide (vy2.X = vy3.X) && (decide (vy2.Y = vy3.Y) && true)))) rfl (.inr ⟨rfl, rfl⟩) (by kernel_rfl) (by kernel_rfl) (by kernel_rfl) (by kernel_rfl) (by kernel_rfl) (by kernel_rfl)) ?_
    refine dE ?_
    refine cE hF (fun h5 hF => ?_) fun h5 hF => ?_
    · refine awp_true (by kernel_rfl) h5 ?_
      refine awp_seq ?_
      refine awp_region ?_
      refine aR 1 ?_
      refine aE ?_
      refine awp_ret ?_
      exact oO hF [] [] rfl
    · refine awp_false (by kernel_rfl) h5 ?_
      refine awp_skip ?_
      refine awp_region ?_
      refine aR 2 ?_
      refine aE ?_
      exact oO hF [] [] rfl
  · refine awp_false (by kernel_rfl) h2 ?_
    refine awp_exit ?_
    exact oO hF [] [] rfl

def slices_Equal_api_Spot_api_Spot_R (qs1 : List api_Spot) (qs2 : List api_Spot) (r : Bool) : TV × Mem := (.v (.one (.d (.bool r))), ⟨[], []⟩)

theorem slices_Equal_api_Spot_api_Spot_ok {qs1 : List api_Spot} {qs2 : List api_Spot} {r} (hF : slices_Equal_api_Spot_api_Spot qs1 qs2 = some r) : Holds prog 16 [.v (.one (.d (.lst (List.map api_Spot.enc qs1)))), .v (.one (.d (.lst (List.map api_Spot.enc qs2))))] ⟨[], []⟩ (Is (slices_Equal_api_Spot_api_Spot_R qs1 qs2 r)) := by
  unfold slices_Equal_api_Spot_api_Spot at hF
  refine holds_of_awp hΓ (fn := f16) (c := cB f16) (A := 0) (nx := 0) (by kernel_rfl) (by kernel_rfl) (by kernel_rfl) (by kernel_rfl) (by kernel_rfl) (by kernel_rfl) (lowc_of (by kernel_rfl)) ?_
  show Awp prog 0 26 (cB f16) _ _
  refine awp_seq ?_
  refine awp_region ?_
  refine aR 1 ?_
  refine aE ?_
  refine awp_seq ?_
  refine awp_seq ?_
  refine awp_region ?_
  refine aR 1 ?_
  refine aL api_Spot.enc qs1 ?_
  refine aR 1 ?_
  refine aL api_Spot.enc qs2 ?_
  refine aR 1 ?_
  refine aE ?_
  refine cE hF (fun h1 hF => ?_) fun h1 hF => ?_
  · refine awp_true (by kernel_rfl) h1 ?_
    refine awp_seq ?_
    refine awp_region ?_
    refine aR 1 ?_
    refine aE ?_
    refine awp_ret ?_
    exact oF hF [] []
  · refine awp_false (by kernel_rfl) h1 ?_
    refine awp_skip ?_
    refine awp_seq ?_
    refine awp_seq ?_
    refine awp_region ?_
    refine aR 1 ?_
    refine aL api_Spot.enc qs1 ?_
    refine aR 1 ?_
    refine aE ?_
    refine awp_block ?_
    refine awp_to (st' := slices_Equal_api_Spot_api_Spot_x1_H qs1 qs2 0) (oT [] []) ?_
    refine bE hF fun x h6 hF => ?_
    rcases x with _ | _
    · refine awp_sub (awp_loop' (slices_Equal_api_Spot_api_Spot_x1_H qs1 qs2) slices_Equal_api_Spot_api_Spot_x1_k (slices_Equal_api_Spot_api_Spot_x1_S qs1 qs2) (by intro x; rcases x with x | x <;> exact fun h => nomatch h) h6 (slices_Equal_api_Spot_api_Spot_x1_ok qs1 qs2)) ?_
      refine awp_seq ?_
      refine awp_region ?_
      refine aR 1 ?_
      refine aE ?_
      refine awp_ret ?_
      exact oF hF [] []
    · refine awp_sub (awp_loop' (slices_Equal_api_Spot_api_Spot_x1_H qs1 qs2) slices_Equal_api_Spot_api_Spot_x1_k (slices_Equal_api_Spot_api_Spot_x1_S qs1 qs2) (by intro x; rcases x with x | x <;> exact fun h => nomatch h) h6 (slices_Equal_api_Spot_api_Spot_x1_ok qs1 qs2)) ?_
      exact oF hF [] []

/-! ### beaconfleet/place.Cell -/
def place_Cell_x1_k : Bool → AEx
  | _ => .normal

def place_Cell_x1_S (qs : api_Spot) (qlevel : Int) : Bool → St
  | vx => Mem.st ⟨[], [(0, [.d (.int .i64 qs.X), .d (.int .i64 qs.Y)])]⟩ (tl [(1, .v (.one (.d (.int .i64 qlevel)))), (2, .v (.one (.box 0 0))), (16, .v (.one (.d (.bool vx))))]) 1

def place_Cell_x1_I (qs : api_Spot) (qlevel : Int) : St := Mem.st ⟨[], [(0, [.d (.int .i64 qs.X), .d (.int .i64 qs.Y)])]⟩ (tl [(1, .v (.one (.d (.int .i64 qlevel)))), (2, .v (.one (.box 0 0)))]) 1

theorem place_Cell_x1_ok (qs : api_Spot) (qlevel : Int) {r} (hF : place_Cell_x1 qs qlevel = some r) : Awp prog 0 47 (cL (cL (cR (cB f47)))) (Out 0 place_Cell_x1_k (place_Cell_x1_S qs qlevel) r) (place_Cell_x1_I qs qlevel) := by
  unfold place_Cell_x1 at hF
  refine bE hF fun vr2 h1 hF => ?_
  refine cE hF (fun h2 hF => ?_) fun h2 hF => ?_
  · refine awp_region ?_
    refine aR 1 ?_
    refine aC (place_isSpot_ok h1) [] [] [] ?_
    refine aB h2 ?_
    refine aR 4 ?_
    refine aE ?_
    exact oO hF [] [] rfl
  · refine bE hF fun vr h3 hF => ?_
    refine awp_region ?_
    refine aR 1 ?_
    refine aC (place_isSpot_ok h1) [] [] [] ?_
    refine aB h2 ?_
    refine aR 2 ?_
    refine aC (base_Out_ok h3) [] [] [] ?_
    refine aR 1 ?_
    refine aE ?_
    exact oO hF [] [] rfl

def place_Cell_x2_k : (List Int) → AEx
  | _ => .exit 0

def place_Cell_x2_S (qs : api_Spot) (qlevel : Int) : (List Int) → St
  | vout1 => Mem.st ⟨[(0, ⟨5, 1, List.map (encI .u8) vout1⟩)], []⟩ (tl [(6, .v (.one (.own 0 none)))]) 1

def place_Cell_x2_H (qs : api_Spot) (qlevel : Int) : (List Int) × Int × Int → St
  | (vout, vlong, vx2) => Mem.st ⟨[(0, ⟨5, 1, List.map (encI .u8) vout⟩)], []⟩ (tl [(6, .v (.one (.own 0 none))), (7, .v (.one (.d (.int .i64 (IntKind.wrap .i64 (qs.X - (-16384))))))), (8, .v (.one (.d (.int .i64 (IntKind.wrap .i64 (qs.Y - (-16384))))))), (9, .v (.one (.d (.int .i64 vlong)))), (23, .v (.one (.d (.int .i64 qlevel)))), (24, .v (.one (.d (.int .i64 vx2))))]) 1

theorem place_Cell_x2_ok (qs : api_Spot) (qlevel : Int) (s : (List Int) × Int × Int) (r : ((List Int) × Int × Int) ⊕ ((List Int))) (hF : place_Cell_x2 qs qlevel s = some r) : Awp prog 0 47 (cL (cL (cR (cL (cR (cR (cR (cR (cB f47))))))))) (Out 0 (kk place_Cell_x2_k) (SS (place_Cell_x2_H qs qlevel) (place_Cell_x2_S qs qlevel)) r) (place_Cell_x2_H qs qlevel s) := by
  obtain ⟨vout, vlong, vx2⟩ := s
  unfold place_Cell_x2 at hF
  refine awp_seq ?_
  refine awp_region ?_
  refine aR 1 ?_
  refine aE ?_
  refine awp_seq ?_
  refine cE hF (fun h6 hF => ?_) fun h6 hF => ?_
  · refine awp_true (by kernel_rfl) h6 ?_
    refine awp_skip ?_
    refine awp_seq ?_
    refine awp_block ?_
    refine awp_seq ?_
    refine awp_region ?_
    refine aR 3 ?_
    refine aE ?_
    refine gE hF fun h7 hF => ?_
    refine gE hF fun h8 hF => ?_
    refine aD ?_
    refine dR 3 ?_
    refine dX (x_quo h7) ?_
    refine dR 5 ?_
    refine dX (x_quo h7) ?_
    refine dR 5 ?_
    refine dX (x_app (encI .u8) 0 h8) ?_
    refine dR 1 ?_
    refine dE ?_
    refine awp_region ?_
    refine aR 2 ?_
    refine aE ?_
    exact oO hF [(0, 19001)] [] rfl
  · refine awp_false (by kernel_rfl) h6 ?_
    refine awp_exit ?_
    exact oO hF [] [] rfl

def place_Cell_R (qs : api_Spot) (qlevel : Int) (r : (List UInt8) × Int) : TV × Mem := (.tup [.one (.d (.str r.1)), .one (.d (.int .i64 r.2))], ⟨[], []⟩)

theorem place_Cell_ok {qs : api_Spot} {qlevel : Int} {r} (hF : place_Cell qs qlevel = some r) : Holds prog 47 [.v (.agg [.d (.int .i64 qs.X), .d (.int .i64 qs.Y)]), .v (.one (.d (.int .i64 qlevel)))] ⟨[], []⟩ (Is (place_Cell_R qs qlevel r)) := by
  unfold place_Cell at hF
  refine holds_of_awp hΓ (fn := f47) (c := cB f47) (A := 0) (nx := 0) (by kernel_rfl) (by kernel_rfl) (by kernel_rfl) (by kernel_rfl) (by kernel_rfl) (by kernel_rfl) (lowc_of (by kernel_rfl)) ?_
  show Awp prog 0 47 (cB f47) _ _
  refine awp_seq ?_
  refine awp_region ?_
  refine aR 3 ?_
  refine aE ?_
  refine awp_seq ?_
  refine awp_seq ?_
  refine awp_to (st' := place_Cell_x1_I qs qlevel) (oT [] []) ?_
  refine bE hF fun vx1 h4 hF => ?_
  refine awp_sub (place_Cell_x1_ok qs qlevel h4) ?_
  refine cE hF (fun h5 hF => ?_) fun h5 hF => ?_
  · refine awp_true (by kernel_rfl) h5 ?_
    refine awp_seq ?_
    refine awp_region ?_
    refine aR 2 ?_
    refine aE ?_
    refine awp_ret ?_
    exact oF hF [] []
  · refine awp_false (by kernel_rfl) h5 ?_
    refine awp_skip ?_
    refine awp_seq ?_
    refine awp_region ?_
    refine aR 1 ?_
    refine aE ?_
    refine awp_seq ?_
    refine aD ?_
    refine dR 9 ?_
    refine dE ?_
    refine awp_seq ?_
    refine awp_seq ?_
    refine awp_region ?_
    refine aR 2 ?_
    refine aE ?_
    refine awp_block ?_
    refine awp_to (st' := place_Cell_x2_H qs qlevel ([], 32768, 0)) (oT [] [0]) ?_
    refine bE hF fun vout1_1 h9 hF => ?_
    refine awp_sub (awp_loop' (place_Cell_x2_H qs qlevel) place_Cell_x2_k (place_Cell_x2_S qs qlevel) (by intro x; exact fun h => nomatch h) h9 (place_Cell_x2_ok qs qlevel)) ?_
    refine awp_seq ?_
    refine awp_region ?_
    refine aR 1 ?_
    refine aSt (xs := vout1_1) rfl rfl ?_
    refine aR 2 ?_
    refine aE ?_
    refine awp_ret ?_
    exact oF hF [] []

/-! ### beaconfleet/fleetlaw2.placed -/
def fleetlaw2_placed_x1_k : Bool → AEx
  | _ => .normal

def fleetlaw2_placed_x1_S (vr1 : List UInt8) (vr3 : Int) : Bool → St
  | vx => Mem.st ⟨[], []⟩ (tl [(0, .v (.one (.d (.bool vx))))]) 0

def fleetlaw2_placed_x1_I (vr1 : List UInt8) (vr3 : Int) : St := Mem.st ⟨[], []⟩ (tl [(1, .v (.one (.d (.str vr1)))), (2, .v (.one (.d (.int .i64 vr3))))]) 0

theorem fleetlaw2_placed_x1_ok (vr1 : List UInt8) (vr3 : Int) {r} (hF : fleetlaw2_placed_x1 vr1 vr3 = some r) : Awp prog 0 14 (cL (cR (cR (cB f17)))) (Out 0 fleetlaw2_placed_x1_k (fleetlaw2_placed_x1_S vr1 vr3) r) (fleetlaw2_placed_x1_I vr1 vr3) := by
  unfold fleetlaw2_placed_x1 at hF
  refine cE hF (fun h2 hF => ?_) fun h2 hF => ?_
  · refine awp_region ?_
    refine aR 1 ?_
    refine aB h2 ?_
    refine aR 5 ?_
    refine aE ?_
    exact oO hF [] [] rfl
  · refine awp_region ?_
    refine aR 1 ?_
    refine aB h2 ?_
    refine aR 5 ?_
    refine aE ?_
    exact oO hF [] [] rfl

def fleetlaw2_placed_R (r : Bool) : TV × Mem := (.v (.one (.d (.bool r))), ⟨[], []⟩)

theorem fleetlaw2_placed_ok {r} (hF : fleetlaw2_placed = some r) : Holds prog 17 [] ⟨[], []⟩ (Is (fleetlaw2_placed_R  r)) := by
  unfold fleetlaw2_placed at hF
  refine holds_of_awp hΓ (fn := f17) (c := cB f17) (A := 0) (nx := 0) (by kernel_rfl) (by kernel_rfl) (by kernel_rfl) (by kernel_rfl) (by kernel_rfl) (by kernel_rfl) (lowc_of (by kernel_rfl)) ?_
  show Awp prog 0 14 (cB f17) _ _
  refine awp_seq ?_
  refine awp_region ?_
  refine aR 1 ?_
  refine aE ?_
  refine awp_seq ?_
  refine bE hF fun x h1 hF => ?_
  obtain ⟨vr1, vr3⟩ := x
  refine awp_region ?_
  refine aR 1 ?_
  refine aC (place_Cell_ok h1) [] [] [] ?_
  refine aR 5 ?_
  refine aE ?_
  refine awp_seq ?_
  refine awp_to (st' := fleetlaw2_placed_x1_I vr1 vr3) (oT [] []) ?_
  refine bE hF fun vx1 h3 hF => ?_
  refine awp_sub (fleetlaw2_placed_x1_ok vr1 vr3 h3) ?_
  refine awp_ret ?_
  exact oF hF [] []

/-! ### beaconfleet/fleetlaw2.FencesMeet -/
def fleetlaw2_FencesMeet_x1_k : (List api_Spot) → AEx
  | _ => .exit 0

def fleetlaw2_FencesMeet_x1_S (vr4 : api_Fence) (vs2_1 : fleetmake_Stream) (vr4_1 : api_Fence) (vr : Int) (vr1 : Int) (vr2 : List api_Spot) : (List api_Spot) → St
  | vx2 => Mem.st ⟨[(3, ⟨32, 2, List.map api_Spot.enc vx2⟩)], [(0, [.d (.lst (List.map (encI .i64) vs2_1.L)), .d (.int .i64 (IntKind.wrap .i64 ((IntKind.wrap .i64 (vs2_1.at_ + 1)) + 1)))]), (1, [.d (.str vr4.Key), .d (.lst (List.map api_Spot.enc vr4.Corners))]), (2, [.d (.str vr4_1.Key), .own 3 none])]⟩ (tl [(3, .v (.one (.box 0 0))), (4, .v (.one (.box 1 0))), (5, .v (.one (.box 2 0)))]) 4

def fleetlaw2_FencesMeet_x1_H (vr4 : api_Fence) (vs2_1 : fleetmake_Stream) (vr4_1 : api_Fence) (vr : Int) (vr1 : Int) (vr2 : List api_Spot) : (List api_Spot) × Int → St
  | (vx, vx1) => Mem.st ⟨[(3, ⟨32, 2, List.map api_Spot.enc vx⟩)], [(0, [.d (.lst (List.map (encI .i64) vs2_1.L)), .d (.int .i64 (IntKind.wrap .i64 ((IntKind.wrap .i64 (vs2_1.at_ + 1)) + 1)))]), (1, [.d (.str vr4.Key), .d (.lst (List.map api_Spot.enc vr4.Corners))]), (2, [.d (.str vr4_1.Key), .own 3 none]), (4, [.d (.int .i64 vr), .d (.int .i64 vr1)])]⟩ (tl [(3, .v (.one (.box 0 0))), (4, .v (.one (.box 1 0))), (5, .v (.one (.box 2 0))), (6, .v (.one (.box 4 0))), (38, .v (.one (.d (.int .i64 (vr2.length : Int))))), (39, .v (.one (.d (.int .i64 vx1))))]) 5

theorem fleetlaw2_FencesMeet_x1_ok (vr4 : api_Fence) (vs2_1 : fleetmake_Stream) (vr4_1 : api_Fence) (vr : Int) (vr1 : Int) (vr2 : List api_Spot) (s : (List api_Spot) × Int) (r : ((List api_Spot) × Int) ⊕ ((List api_Spot))) (hF : fleetlaw2_FencesMeet_x1 vr vr1 vr2 s = some r) : Awp prog 0 137 (cL (cL (cR (cL (cR (cR (cR (cR (cR (cB f3)))))))))) (Out 0 (kk fleetlaw2_FencesMeet_x1_k) (SS (fleetlaw2_FencesMeet_x1_H vr4 vs2_1 vr4_1 vr vr1 vr2) (fleetlaw2_FencesMeet_x1_S vr4 vs2_1 vr4_1 vr vr1 vr2)) r) (fleetlaw2_FencesMeet_x1_H vr4 vs2_1 vr4_1 vr vr1 vr2 s) := by
  obtain ⟨vx, vx1⟩ := s
  unfold fleetlaw2_FencesMeet_x1 at hF
  refine awp_seq ?_
  refine awp_region ?_
  refine aR 1 ?_
  refine aE ?_
  refine awp_seq ?_
  refine cE hF (fun h6 hF => ?_) fun h6 hF => ?_
  · refine awp_true (by kernel_rfl) h6 ?_
    refine awp_skip ?_
    refine awp_seq ?_
    refine awp_block ?_
    refine awp_seq ?_
    refine awp_region ?_
    refine aR 2 ?_
    refine aE ?_
    refine awp_seq ?_
    refine bE hF fun vy2 h7 hF => ?_
    refine aDw [3] ?_
    refine dR 3 ?_
    refine dI api_Spot.enc 3 h7 rfl ?_
    refine dR 1 ?_
    refine dX (x_ldE api_Spot.enc h7) ?_
    refine dR 3 ?_
    refine dI api_Spot.enc 3 h7 rfl ?_
    refine dR 1 ?_
    refine dW api_Spot.enc (api_Spot.mk (IntKind.wrap .i64 (vy2.X + vr)) vy2.Y) h7 rfl ?_
    refine dE ?_
    refine bE hF fun vy3 h8 hF => ?_
    refine aDw [3] ?_
    refine dR 3 ?_
    refine dI api_Spot.enc 3 h8 rfl ?_
    refine dR 1 ?_
    refine dX (x_ldE api_Spot.enc h8) ?_
    refine dR 3 ?_
    refine dI api_Spot.enc 3 h8 rfl ?_
    refine dR 1 ?_
    refine dW api_Spot.enc (api_Spot.mk vy3.X (IntKind.wrap .i64 (vy3.Y + vr1))) h8 rfl ?_
    refine dE ?_
    refine awp_region ?_
    refine aR 2 ?_
    refine aE ?_
    exact oO hF [] [] rfl
  · refine awp_false (by kernel_rfl) h6 ?_
    refine awp_exit ?_
    exact oO hF [] [] rfl

def fleetlaw2_FencesMeet_x2_k : (List api_Spot) → AEx
  | _ => .exit 2

def fleetlaw2_FencesMeet_x2_S (vr4 : api_Fence) (vr4_1 : api_Fence) (vx2_1 : List api_Spot) (vr3 : Int) : (List api_Spot) → St
  | vx6 => Mem.st ⟨[(2, ⟨32, 2, List.map api_Spot.enc vx2_1⟩), (3, ⟨32, 2, List.map api_Spot.enc vx6⟩)], [(0, [.d (.str vr4.Key), .d (.lst (List.map api_Spot.enc vr4.Corners))]), (1, [.d (.str vr4_1.Key), .own 2 none])]⟩ (tl [(4, .v (.one (.box 0 0))), (5, .v (.one (.box 1 0))), (8, .v (.one (.own 3 none)))]) 4

def fleetlaw2_FencesMeet_x2_H (vr4 : api_Fence) (vr4_1 : api_Fence) (vx2_1 : List api_Spot) (vr3 : Int) : fleetmake_Stream × (List api_Spot) × Int → St
  | (vx3, vx4, vx5) => Mem.st ⟨[(3, ⟨32, 2, List.map api_Spot.enc vx2_1⟩), (4, ⟨32, 2, List.map api_Spot.enc vx4⟩)], [(0, [.d (.lst (List.map (encI .i64) vx3.L)), .d (.int .i64 vx3.at_)]), (1, [.d (.str vr4.Key), .d (.lst (List.map api_Spot.enc vr4.Corners))]), (2, [.d (.str vr4_1.Key), .own 3 none])]⟩ (tl [(3, .v (.one (.box 0 0))), (4, .v (.one (.box 1 0))), (5, .v (.one (.box 2 0))), (8, .v (.one (.own 4 none))), (66, .v (.one (.d (.int .i64 vr3)))), (67, .v (.one (.d (.int .i64 vx5))))]) 5

theorem fleetlaw2_FencesMeet_x2_ok (vr4 : api_Fence) (vr4_1 : api_Fence) (vx2_1 : List api_Spot) (vr3 : Int) (s : fleetmake_Stream × (List api_Spot) × Int) (r : (fleetmake_Stream × (List api_Spot) × Int) ⊕ ((List api_Spot))) (hF : fleetlaw2_FencesMeet_x2 vr3 s = some r) : Awp prog 0 137 (cL (cL (cR (cL (cR (cR (cR (cR (cR (cR (cR (cB f3)))))))))))) (Out 0 (kk fleetlaw2_FencesMeet_x2_k) (SS (fleetlaw2_FencesMeet_x2_H vr4 vr4_1 vx2_1 vr3) (fleetlaw2_FencesMeet_x2_S vr4 vr4_1 vx2_1 vr3)) r) (fleetlaw2_FencesMeet_x2_H vr4 vr4_1 vx2_1 vr3 s) := by
  obtain ⟨vx3, vx4, vx5⟩ := s
  unfold fleetlaw2_FencesMeet_x2 at hF
  refine awp_seq ?_
  refine awp_region ?_
  refine aR 1 ?_
  refine aE ?_
  refine awp_seq ?_
  refine cE hF (fun h11 hF => ?_) fun h11 hF => ?_
  · refine awp_true (by kernel_rfl) h11 ?_
    refine awp_skip ?_
    refine awp_seq ?_
    refine awp_block ?_
    refine bE hF fun x h12 hF => ?_
    obtain ⟨vs3_1, vr1_2⟩ := x
    refine gE hF fun h13 hF => ?_
    refine awp_region ?_
    refine aR 2 ?_
    refine aC (fleetmake_Stream_Spot_ok h12) [] [] [] ?_
    refine aR 1 ?_
    refine aX (x_app api_Spot.enc 4 h13) ?_
    refine aR 1 ?_
    refine aE ?_
    refine awp_region ?_
    refine aR 2 ?_
    refine aE ?_
    exact oO hF [(4, 5005)] [] rfl
  · refine awp_false (by kernel_rfl) h11 ?_
    refine awp_exit ?_
    exact oO hF [(0, 1), (1, 2), (2, 3), (3, 4)] [] rfl

def fleetlaw2_FencesMeet_x3_k : Int → AEx
  | _ => .exit 4

def fleetlaw2_FencesMeet_x3_S (vr4 : api_Fence) (vr4_1 : api_Fence) (vx2_1 : List api_Spot) (vx6_1 : List api_Spot) (vr2_1 : Bool) (vr4_2 : Int) (vr5 : List api_Spot) (vr6 : Int) (vr9 : Int) : Int → St
  | vx9 => Mem.st ⟨[(2, ⟨32, 2, List.map api_Spot.enc vx2_1⟩)], [(0, [.d (.str vr4.Key), .d (.lst (List.map api_Spot.enc vr4.Corners))]), (1, [.d (.str vr4_1.Key), .own 2 none])]⟩ (tl [(4, .v (.one (.box 0 0))), (5, .v (.one (.box 1 0))), (8, .v (.one (.d (.lst (List.map api_Spot.enc vx6_1))))), (9, .v (.one (.d (.bool vr2_1)))), (10, .v (.one (.d (.int .i64 vr4_2)))), (11, .v (.one (.d (.lst (List.map api_Spot.enc vr5))))), (12, .v (.one (.d (.int .i64 vr6)))), (13, .v (.one (.d (.int .i64 vr9)))), (14, .v (.one (.d (.int .i64 vx9))))]) 3

def fleetlaw2_FencesMeet_x3_H (vr4 : api_Fence) (vr4_1 : api_Fence) (vx2_1 : List api_Spot) (vx6_1 : List api_Spot) (vr2_1 : Bool) (vr4_2 : Int) (vr5 : List api_Spot) (vr6 : Int) (vr9 : Int) : Int × Int → St
  | (vx7, vx8) => Mem.st ⟨[(2, ⟨32, 2, List.map api_Spot.enc vx2_1⟩)], [(0, [.d (.str vr4.Key), .d (.lst (List.map api_Spot.enc vr4.Corners))]), (1, [.d (.str vr4_1.Key), .own 2 none])]⟩ (tl [(4, .v (.one (.box 0 0))), (5, .v (.one (.box 1 0))), (8, .v (.one (.d (.lst (List.map api_Spot.enc vx6_1))))), (9, .v (.one (.d (.bool vr2_1)))), (10, .v (.one (.d (.int .i64 vr4_2)))), (11, .v (.one (.d (.lst (List.map api_Spot.enc vr5))))), (12, .v (.one (.d (.int .i64 vr6)))), (13, .v (.one (.d (.int .i64 vr9)))), (14, .v (.one (.d (.int .i64 vx7)))), (92, .v (.one (.d (.lst (List.map api_Spot.enc vx6_1))))), (93, .v (.one (.d (.int .i64 (vx6_1.length : Int))))), (94, .v (.one (.d (.int .i64 vx8))))]) 3

theorem fleetlaw2_FencesMeet_x3_ok (vr4 : api_Fence) (vr4_1 : api_Fence) (vx2_1 : List api_Spot) (vx6_1 : List api_Spot) (vr2_1 : Bool) (vr4_2 : Int) (vr5 : List api_Spot) (vr6 : Int) (vr9 : Int) (s : Int × Int) (r : (Int × Int) ⊕ (Int)) (hF : fleetlaw2_FencesMeet_x3 vx6_1 s = some r) : Awp prog 0 137 (cL (cL (cR (cL (cR (cR (cR (cR (cR (cR (cR (cR (cR (cR (cR (cR (cB f3))))))))))))))))) (Out 0 (kk fleetlaw2_FencesMeet_x3_k) (SS (fleetlaw2_FencesMeet_x3_H vr4 vr4_1 vx2_1 vx6_1 vr2_1 vr4_2 vr5 vr6 vr9) (fleetlaw2_FencesMeet_x3_S vr4 vr4_1 vx2_1 vx6_1 vr2_1 vr4_2 vr5 vr6 vr9)) r) (fleetlaw2_FencesMeet_x3_H vr4 vr4_1 vx2_1 vx6_1 vr2_1 vr4_2 vr5 vr6 vr9 s) := by
  obtain ⟨vx7, vx8⟩ := s
  unfold fleetlaw2_FencesMeet_x3 at hF
  refine awp_seq ?_
  refine awp_region ?_
  refine aR 1 ?_
  refine aE ?_
  refine awp_seq ?_
  refine cE hF (fun h20 hF => ?_) fun h20 hF => ?_
  · refine awp_true (by kernel_rfl) h20 ?_
    refine awp_skip ?_
    refine awp_seq ?_
    refine awp_block ?_
    refine awp_seq ?_
    refine bE hF fun vy5 h21 hF => ?_
    refine awp_region ?_
    refine aX (x_idx api_Spot.enc h21) ?_
    refine aR 3 ?_
    refine aE ?_
    refine bE hF fun vr2_3 h22 hF => ?_
    refine bE hF fun vr11 h23 hF => ?_
    refine awp_region ?_
    refine aR 2 ?_
    refine aC (fleetref2_SpotFault_ok h22) [] [] [] ?_
    refine aR 1 ?_
    refine aC (fleetlaw2_errs_ok h23) [] [] [8003] ?_
    refine aR 1 ?_
    refine aE ?_
    refine awp_region ?_
    refine aR 2 ?_
    refine aE ?_
    exact oO hF [] [] rfl
  · refine awp_false (by kernel_rfl) h20 ?_
    refine awp_exit ?_
    exact oO hF [] [] rfl

def fleetlaw2_FencesMeet_x4_k : (List api_Spot) → AEx
  | _ => .normal

def fleetlaw2_FencesMeet_x4_S (vr4 : api_Fence) (vr4_1 : api_Fence) (vx2_1 : List api_Spot) (vx6_1 : List api_Spot) (vr2_1 : Bool) (vr4_2 : Int) (vr5 : List api_Spot) (vr6 : Int) (vr9 : Int) (vx9_1 : Int) : (List api_Spot) → St
  | vx10 => Mem.st ⟨[(2, ⟨32, 2, List.map api_Spot.enc vx2_1⟩)], [(0, [.d (.str vr4.Key), .d (.lst (List.map api_Spot.enc vr4.Corners))]), (1, [.d (.str vr4_1.Key), .own 2 none])]⟩ (tl [(4, .v (.one (.box 0 0))), (5, .v (.one (.box 1 0))), (9, .v (.one (.d (.bool vr2_1)))), (10, .v (.one (.d (.int .i64 vr4_2)))), (11, .v (.one (.d (.lst (List.map api_Spot.enc vr5))))), (12, .v (.one (.d (.int .i64 vr6)))), (13, .v (.one (.d (.int .i64 vr9)))), (14, .v (.one (.d (.int .i64 vx9_1)))), (17, .v (.one (.d (.lst (List.map api_Spot.enc vx10)))))]) 3

def fleetlaw2_FencesMeet_x4_I (vr4 : api_Fence) (vr4_1 : api_Fence) (vx2_1 : List api_Spot) (vx6_1 : List api_Spot) (vr2_1 : Bool) (vr4_2 : Int) (vr5 : List api_Spot) (vr6 : Int) (vr9 : Int) (vx9_1 : Int) : St := Mem.st ⟨[(2, ⟨32, 2, List.map api_Spot.enc vx2_1⟩)], [(0, [.d (.str vr4.Key), .d (.lst (List.map api_Spot.enc vr4.Corners))]), (1, [.d (.str vr4_1.Key), .own 2 none])]⟩ (tl [(4, .v (.one (.box 0 0))), (5, .v (.one (.box 1 0))), (8, .v (.one (.d (.lst (List.map api_Spot.enc vx6_1))))), (9, .v (.one (.d (.bool vr2_1)))), (10, .v (.one (.d (.int .i64 vr4_2)))), (11, .v (.one (.d (.lst (List.map api_Spot.enc vr5))))), (12, .v (.one (.d (.int .i64 vr6)))), (13, .v (.one (.d (.int .i64 vr9)))), (14, .v (.one (.d (.int .i64 vx9_1)))), (17, .v (.one (.nil)))]) 3

theorem fleetlaw2_FencesMeet_x4_ok (vr4 : api_Fence) (vr4_1 : api_Fence) (vx2_1 : List api_Spot) (vx6_1 : List api_Spot) (vr2_1 : Bool) (vr4_2 : Int) (vr5 : List api_Spot) (vr6 : Int) (vr9 : Int) (vx9_1 : Int) {r} (hF : fleetlaw2_FencesMeet_x4 vx6_1 vx9_1 = some r) : Awp prog 0 137 (cL (cR (cR (cR (cR (cR (cR (cR (cR (cR (cR (cR (cR (cR (cR (cB f3)))))))))))))))) (Out 0 fleetlaw2_FencesMeet_x4_k (fleetlaw2_FencesMeet_x4_S vr4 vr4_1 vx2_1 vx6_1 vr2_1 vr4_2 vr5 vr6 vr9 vx9_1) r) (fleetlaw2_FencesMeet_x4_I vr4 vr4_1 vx2_1 vx6_1 vr2_1 vr4_2 vr5 vr6 vr9 vx9_1) := by
  unfold fleetlaw2_FencesMeet_x4 at hF
  refine awp_seq ?_
  refine awp_region ?_
  refine aR 2 ?_
  refine aE ?_
  refine cE hF (fun h25 hF => ?_) fun h25 hF => ?_
  · refine awp_true (by kernel_rfl) h25 ?_
    refine bE hF fun vr3_1 h26 hF => ?_
    refine awp_region ?_
    refine aR 1 ?_
    refine aC (fleetref2_HullOf_ok h26) [] [] [] ?_
    refine aR 1 ?_
    refine aE ?_
    exact oO hF [] [] rfl
  · refine awp_false (by kernel_rfl) h25 ?_
    refine awp_skip ?_
    exact oO hF [] [] rfl

def fleetlaw2_FencesMeet_x5_k : Bool → AEx
  | _ => .normal

def fleetlaw2_FencesMeet_x5_S (vr4 : api_Fence) (vr4_1 : api_Fence) (vx2_1 : List api_Spot) (vr2_1 : Bool) (vr4_2 : Int) (vr5 : List api_Spot) (vr6 : Int) (vr9 : Int) (vx9_1 : Int) (vx10_1 : List api_Spot) : Bool → St
  | vx11 => Mem.st ⟨[], []⟩ (tl [(2, .v (.one (.d (.bool vx11))))]) 0

def fleetlaw2_FencesMeet_x5_I (vr4 : api_Fence) (vr4_1 : api_Fence) (vx2_1 : List api_Spot) (vr2_1 : Bool) (vr4_2 : Int) (vr5 : List api_Spot) (vr6 : Int) (vr9 : Int) (vx9_1 : Int) (vx10_1 : List api_Spot) : St := Mem.st ⟨[(2, ⟨32, 2, List.map api_Spot.enc vx2_1⟩)], [(0, [.d (.str vr4.Key), .d (.lst (List.map api_Spot.enc vr4.Corners))]), (1, [.d (.str vr4_1.Key), .own 2 none])]⟩ (tl [(4, .v (.one (.box 0 0))), (5, .v (.one (.box 1 0))), (9, .v (.one (.d (.bool vr2_1)))), (10, .v (.one (.d (.int .i64 vr4_2)))), (11, .v (.one (.d (.lst (List.map api_Spot.enc vr5))))), (12, .v (.one (.d (.int .i64 vr6)))), (13, .v (.one (.d (.int .i64 vr9)))), (14, .v (.one (.d (.int .i64 vx9_1)))), (17, .v (.one (.d (.lst (List.map api_Spot.enc vx10_1)))))]) 3

theorem fleetlaw2_FencesMeet_x5_ok (vr4 : api_Fence) (vr4_1 : api_Fence) (vx2_1 : List api_Spot) (vr2_1 : Bool) (vr4_2 : Int) (vr5 : List api_Spot) (vr6 : Int) (vr9 : Int) (vx9_1 : Int) (vx10_1 : List api_Spot) {r} (hF : fleetlaw2_FencesMeet_x5 vr4 vx2_1 vr2_1 vr4_2 vr5 vr6 vr9 vx9_1 vx10_1 = some r) : Awp prog 0 137 (cL (cR (cR (cR (cR (cR (cR (cR (cR (cR (cR (cR (cR (cR (cR (cR (cB f3))))))))))))))))) (Out 0 fleetlaw2_FencesMeet_x5_k (fleetlaw2_FencesMeet_x5_S vr4 vr4_1 vx2_1 vr2_1 vr4_2 vr5 vr6 vr9 vx9_1 vx10_1) r) (fleetlaw2_FencesMeet_x5_I vr4 vr4_1 vx2_1 vr2_1 vr4_2 vr5 vr6 vr9 vx9_1 vx10_1) := by
  unfold fleetlaw2_FencesMeet_x5 at hF
  refine cE hF (fun h28 hF => ?_) fun h28 hF => ?_
  · refine cE hF (fun h29 hF => ?_) fun h29 hF => ?_
    · refine bE hF fun vr8_1 h30 hF => ?_
      refine cE hF (fun h31 hF => ?_) fun h31 hF => ?_
      · refine cE hF (fun h32 hF => ?_) fun h32 hF => ?_
        · refine bE hF fun vr12 h33 hF => ?_
          refine cE hF (fun h34 hF => ?_) fun h34 hF => ?_
          · refine bE hF fun vr13 h35 hF => ?_
            refine awp_region ?_
            refine aR 2 ?_
            refine aB h28 ?_
            refine aR 3 ?_
            refine aB h29 ?_
            refine aR 5 ?_
            refine aC (fleetref2_MeetOf_ok h30) [] [] [2] ?_
            refine aR 1 ?_
            refine aB h31 ?_
            refine aR 4 ?_
            refine aB h32 ?_
            refine aR 4 ?_
            refine aCb (slices_Equal_api_Spot_api_Spot_ok h33) [] [] [] h34 ?_
            refine aR 2 ?_
            refine aC (fleetlaw2_placed_ok h35) [] [] [] ?_
            refine aR 2 ?_
            refine aE ?_
            exact oO hF [] [] rfl
          · refine awp_region ?_
            refine aR 2 ?_
            refine aB h28 ?_
            refine aR 3 ?_
            refine aB h29 ?_
            refine aR 5 ?_
            refine aC (fleetref2_MeetOf_ok h30) [] [] [2] ?_
            refine aR 1 ?_
            refine aB h31 ?_
            refine aR 4 ?_
            refine aB h32 ?_
            refine aR 4 ?_
            refine aCb (slices_Equal_api_Spot_api_Spot_ok h33) [] [] [] h34 ?_
            refine aR 5 ?_
            refine aE ?_
            exact oO hF [] [] rfl
        · refine awp_region ?_
          refine aR 2 ?_
          refine aB h28 ?_
          refine aR 3 ?_
          refine aB h29 ?_
          refine aR 5 ?_
          refine aC (fleetref2_MeetOf_ok h30) [] [] [2] ?_
          refine aR 1 ?_
          refine aB h31 ?_
          refine aR 4 ?_
          refine aB h32 ?_
          refine aR 10 ?_
          refine aE ?_
          exact oO hF [] [] rfl
      · refine awp_region ?_
        refine aR 2 ?_
        refine aB h28 ?_
        refine aR 3 ?_
        refine aB h29 ?_
        refine aR 5 ?_
        refine aC (fleetref2_MeetOf_ok h30) [] [] [2] ?_
        refine aR 1 ?_
        refine aB h31 ?_
        refine aR 15 ?_
        refine aE ?_
        exact oO hF [] [] rfl
    · refine cE hF (fun h36 hF => ?_) fun h36 hF => ?_
      · refine cE hF (fun h37 hF => ?_) fun h37 hF => ?_
        · refine bE hF fun vr14 h38 hF => ?_
          refine cE hF (fun h39 hF => ?_) fun h39 hF => ?_
          · refine bE hF fun vr15 h40 hF => ?_
            refine awp_region ?_
            refine aR 2 ?_
            refine aB h28 ?_
            refine aR 3 ?_
            refine aB h29 ?_
            refine aR 7 ?_
            refine aB h36 ?_
            refine aR 4 ?_
            refine aB h37 ?_
            refine aR 4 ?_
            refine aCb (slices_Equal_api_Spot_api_Spot_ok h38) [] [] [] h39 ?_
            refine aR 2 ?_
            refine aC (fleetlaw2_placed_ok h40) [] [] [] ?_
            refine aR 2 ?_
            refine aE ?_
            exact oO hF [] [] rfl
          · refine awp_region ?_
            refine aR 2 ?_
            refine aB h28 ?_
            refine aR 3 ?_
            refine aB h29 ?_
            refine aR 7 ?_
            refine aB h36 ?_
            refine aR 4 ?_
            refine aB h37 ?_
            refine aR 4 ?_
            refine aCb (slices_Equal_api_Spot_api_Spot_ok h38) [] [] [] h39 ?_
            refine aR 5 ?_
            refine aE ?_
            exact oO hF [] [] rfl
        · refine awp_region ?_
          refine aR 2 ?_
          refine aB h28 ?_
          refine aR 3 ?_
          refine aB h29 ?_
          refine aR 7 ?_
          refine aB h36 ?_
          refine aR 4 ?_
          refine aB h37 ?_
          refine aR 10 ?_
          refine aE ?_
          exact oO hF [] [] rfl
      · refine awp_region ?_
        refine aR 2 ?_
        refine aB h28 ?_
        refine aR 3 ?_
        refine aB h29 ?_
        refine aR 7 ?_
        refine aB h36 ?_
        refine aR 15 ?_
        refine aE ?_
        exact oO hF [] [] rfl
  · refine awp_region ?_
    refine aR 2 ?_
    refine aB h28 ?_
    refine aR 27 ?_
    refine aE ?_
    exact oO hF [] [] rfl

def fleetlaw2_FencesMeet_R (qx : List Int) (r : Bool) : TV × Mem := (.v (.one (.d (.bool r))), ⟨[], []⟩)

theorem fleetlaw2_FencesMeet_ok {qx : List Int} {r} (hF : fleetlaw2_FencesMeet qx = some r) : Holds prog 3 [.v (.one (.d (.lst (List.map (encI .i64) qx))))] ⟨[], []⟩ (Is (fleetlaw2_FencesMeet_R qx r)) := by
  unfold fleetlaw2_FencesMeet at hF
  refine holds_of_awp hΓ (fn := f3) (c := cB f3) (A := 0) (nx := 0) (by kernel_rfl) (by kernel_rfl) (by kernel_rfl) (by kernel_rfl) (by kernel_rfl) (by kernel_rfl) (lowc_of (by kernel_rfl)) ?_
  show Awp prog 0 137 (cB f3) _ _
  refine awp_seq ?_
  refine awp_region ?_
  refine aR 1 ?_
  refine aE ?_
  refine awp_seq ?_
  refine awp_region ?_
  refine aR 4 ?_
  refine aE ?_
  refine awp_seq ?_
  refine bE hF fun x h1 hF => ?_
  obtain ⟨vs2, vr4⟩ := x
  refine bE hF fun x h2 hF => ?_
  obtain ⟨vs2_1, vr4_1⟩ := x
  refine awp_region ?_
  refine aR 1 ?_
  refine aC (fleetmake_Stream_Fence_ok h1) [(0, 3000)] [] [] ?_
  refine aR 1 ?_
  refine aC (fleetmake_Stream_Fence_ok h2) [(0, 3000)] [] [] ?_
  refine aR 4 ?_
  refine aE ?_
  refine awp_seq ?_
  refine bE hF fun vr h3 hF => ?_
  refine bE hF fun vr1 h4 hF => ?_
  refine awp_region ?_
  refine aR 2 ?_
  refine aC (fleetmake_Stream_Pick_o1_ok h3) [(0, 3000), (1, 14000)] [] [] ?_
  refine aR 2 ?_
  refine aC (fleetmake_Stream_Pick_o1_ok h4) [(0, 3000), (1, 17000)] [] [] ?_
  refine aR 3 ?_
  refine aE ?_
  refine awp_seq ?_
  refine bE hF fun vr2 h5 hF => ?_
  refine awp_region ?_
  refine aR 2 ?_
  refine aC (slices_Clone_api_Spot_api_Spot_ok h5) [] [] [] ?_
  refine aR 2 ?_
  refine aE ?_
  refine awp_seq ?_
  refine awp_seq ?_
  refine awp_region ?_
  refine aR 2 ?_
  refine aL api_Spot.enc vr2 ?_
  refine aR 1 ?_
  refine aE ?_
  refine awp_block ?_
  refine awp_to (st' := fleetlaw2_FencesMeet_x1_H vr4 vs2_1 vr4_1 vr vr1 vr2 (vr2, 0)) (oT [(0, 3000), (1, 9000), (2, 10000), (3, 24000), (4, 20000)] []) ?_
  refine bE hF fun vx2_1 h9 hF => ?_
  refine awp_sub (awp_loop' (fleetlaw2_FencesMeet_x1_H vr4 vs2_1 vr4_1 vr vr1 vr2) fleetlaw2_FencesMeet_x1_k (fleetlaw2_FencesMeet_x1_S vr4 vs2_1 vr4_1 vr vr1 vr2) (by intro x; exact fun h => nomatch h) h9 (fleetlaw2_FencesMeet_x1_ok vr4 vs2_1 vr4_1 vr vr1 vr2)) ?_
  refine awp_seq ?_
  refine awp_region ?_
  refine aR 1 ?_
  refine aE ?_
  refine awp_seq ?_
  refine awp_seq ?_
  refine bE hF fun x h10 hF => ?_
  obtain ⟨vs, vr3⟩ := x
  refine awp_region ?_
  refine aR 1 ?_
  refine aC (fleetmake_Stream_Range_ok h10) [] [] [] ?_
  refine aR 1 ?_
  refine aE ?_
  refine awp_block ?_
  refine awp_to (st' := fleetlaw2_FencesMeet_x2_H vr4 vr4_1 vx2_1 vr3 (vs, [], 0)) (oT [] [4]) ?_
  refine bE hF fun vx6_1 h14 hF => ?_
  refine awp_sub (awp_loop' (fleetlaw2_FencesMeet_x2_H vr4 vr4_1 vx2_1 vr3) fleetlaw2_FencesMeet_x2_k (fleetlaw2_FencesMeet_x2_S vr4 vr4_1 vx2_1 vr3) (by intro x; exact fun h => nomatch h) h14 (fleetlaw2_FencesMeet_x2_ok vr4 vr4_1 vx2_1 vr3)) ?_
  refine awp_seq ?_
  refine bE hF fun x h15 hF => ?_
  obtain ⟨vr2_1, vr4_2⟩ := x
  refine awp_region ?_
  refine aR 2 ?_
  refine aC (place_Meet_ok h15) [] [] [2] ?_
  refine aR 5 ?_
  refine aE ?_
  refine awp_seq ?_
  refine bE hF fun x h16 hF => ?_
  obtain ⟨vr5, vr6⟩ := x
  refine awp_to (oT (m := ⟨[(2, ⟨32, 2, List.map api_Spot.enc vx2_1⟩)], [(0, [.d (.str vr4.Key), .d (.lst (List.map api_Spot.enc vr4.Corners))]), (1, [.d (.str vr4_1.Key), .own 2 none])]⟩) (ts := [(4, .v (.one (.box 0 0))), (5, .v (.one (.box 1 0))), (8, .v (.one (.d (.lst (List.map api_Spot.enc vx6_1))))), (9, .v (.one (.d (.bool vr2_1)))), (10, .v (.one (.d (.int .i64 vr4_2))))]) (nx := 8004) [] []) ?_
  refine awp_region ?_
  refine aR 1 ?_
  refine aC (place_Hull_ok h16) [] [] [] ?_
  refine aR 5 ?_
  refine aE ?_
  refine awp_to (oT (m := ⟨[(2, ⟨32, 2, List.map api_Spot.enc vx2_1⟩)], [(0, [.d (.str vr4.Key), .d (.lst (List.map api_Spot.enc vr4.Corners))]), (1, [.d (.str vr4_1.Key), .own 2 none])]⟩) (ts := [(4, .v (.one (.box 0 0))), (5, .v (.one (.box 1 0))), (8, .v (.one (.d (.lst (List.map api_Spot.enc vx6_1))))), (9, .v (.one (.d (.bool vr2_1)))), (10, .v (.one (.d (.int .i64 vr4_2)))), (11, .v (.one (.d (.lst (List.map api_Spot.enc vr5))))), (12, .v (.one (.d (.int .i64 vr6))))]) (nx := 3) [] []) ?_
  refine awp_seq ?_
  refine bE hF fun vr7 h17 hF => ?_
  refine bE hF fun vr8 h18 hF => ?_
  refine bE hF fun vr9 h19 hF => ?_
  refine aD ?_
  refine dR 1 ?_
  refine dC (fleetref2_FenceFault_ok h17) [] [] [] ?_
  refine dR 1 ?_
  refine dC (fleetref2_FenceFault_ok h18) [] [] [2] ?_
  refine dR 1 ?_
  refine dC (fleetlaw2_errs_ok h19) [] [] [4003] ?_
  refine dR 1 ?_
  refine dE ?_
  refine awp_seq ?_
  refine awp_region ?_
  refine aR 1 ?_
  refine aE ?_
  refine awp_seq ?_
  refine awp_seq ?_
  refine awp_region ?_
  refine aR 1 ?_
  refine aL api_Spot.enc vx6_1 ?_
  refine aR 1 ?_
  refine aE ?_
  refine awp_block ?_
  refine awp_to (st' := fleetlaw2_FencesMeet_x3_H vr4 vr4_1 vx2_1 vx6_1 vr2_1 vr4_2 vr5 vr6 vr9 (0, 0)) (oT [] []) ?_
  refine bE hF fun vx9_1 h24 hF => ?_
  refine awp_sub (awp_loop' (fleetlaw2_FencesMeet_x3_H vr4 vr4_1 vx2_1 vx6_1 vr2_1 vr4_2 vr5 vr6 vr9) fleetlaw2_FencesMeet_x3_k (fleetlaw2_FencesMeet_x3_S vr4 vr4_1 vx2_1 vx6_1 vr2_1 vr4_2 vr5 vr6 vr9) (by intro x; exact fun h => nomatch h) h24 (fleetlaw2_FencesMeet_x3_ok vr4 vr4_1 vx2_1 vx6_1 vr2_1 vr4_2 vr5 vr6 vr9)) ?_
  refine awp_seq ?_
  refine awp_region ?_
  refine aR 1 ?_
  refine aE ?_
  refine awp_seq ?_
  refine awp_to (st' := fleetlaw2_FencesMeet_x4_I vr4 vr4_1 vx2_1 vx6_1 vr2_1 vr4_2 vr5 vr6 vr9 vx9_1) (oT [] []) ?_
  refine bE hF fun vx10_1 h27 hF => ?_
  refine awp_sub (fleetlaw2_FencesMeet_x4_ok vr4 vr4_1 vx2_1 vx6_1 vr2_1 vr4_2 vr5 vr6 vr9 vx9_1 h27) ?_
  refine awp_seq ?_
  refine awp_to (st' := fleetlaw2_FencesMeet_x5_I vr4 vr4_1 vx2_1 vr2_1 vr4_2 vr5 vr6 vr9 vx9_1 vx10_1) (oT [] []) ?_
  refine bE hF fun vx11_1 h41 hF => ?_
  refine awp_sub (fleetlaw2_FencesMeet_x5_ok vr4 vr4_1 vx2_1 vr2_1 vr4_2 vr5 vr6 vr9 vx9_1 vx10_1 h41) ?_
  refine awp_ret ?_
  exact oF hF [] []

end Go.Eng
