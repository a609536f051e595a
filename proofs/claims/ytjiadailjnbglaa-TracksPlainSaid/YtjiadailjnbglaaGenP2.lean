/-
The code of the Go functions that the law TracksPlain reaches does what the plain functions say, part 2.
-/
import Derived.Test.YtjiadailjnbglaaGenP1

namespace Go.Eng

open Go Go.Proofs.Try

set_option linter.unusedVariables false

set_option maxRecDepth 20000

set_option maxHeartbeats 0

/-! ### beaconfleet/place.Cell -/
def place_Cell_x1_k : Bool → AEx
  | _ => .normal

def place_Cell_x1_S (qs : api_Spot) (qlevel : Int) : Bool → St
  | vx => Mem.st ⟨[], [(0, [.d (.int .i64 qs.X), .d (.int .i64 qs.Y)])]⟩ (tl [(1, .v (.one (.d (.int .i64 qlevel)))), (2, .v (.one (.box 0 0))), (16, .v (.one (.d (.bool vx))))]) 1

def place_Cell_x1_I (qs : api_Spot) (qlevel : Int) : St := Mem.st ⟨[], [(0, [.d (.int .i64 qs.X), .d (.int .i64 qs.Y)])]⟩ (tl [(1, .v (.one (.d (.int .i64 qlevel)))), (2, .v (.one (.box 0 0)))]) 1

theorem place_Cell_x1_ok (qs : api_Spot) (qlevel : Int) {r} (hF : place_Cell_x1 qs qlevel = some r) : Awp prog 0 47 (cL (cL (cR (cB f37)))) (Out 0 place_Cell_x1_k (place_Cell_x1_S qs qlevel) r) (place_Cell_x1_I qs qlevel) := by
  unfold place_Cell_x1 at hF
  refine bE hF fun vr2 h1 hF => ?_
  refine cE hF (fun h2 hF => ?_) fun h2 hF => ?_
  · refine awp_region ?_
    refine aR 1 ?_
    refine aC (place_isSpot_ok h1) [] [] [] ?_
    refine aB h2 ?_
    refine aR 4 ?_
    refine aE ?_
    exact oO hF [] [] rfl
  · refine bE hF fun vr h3 hF => ?_
    refine awp_region ?_
    refine aR 1 ?_
    refine aC (place_isSpot_ok h1) [] [] [] ?_
    refine aB h2 ?_
    refine aR 2 ?_
    refine aC (base_Out_ok h3) [] [] [] ?_
    refine aR 1 ?_
    refine aE ?_
    exact oO hF [] [] rfl

def place_Cell_x2_k : (List Int) → AEx
  | _ => .exit 0

def place_Cell_x2_S (qs : api_Spot) (qlevel : Int) : (List Int) → St
  | vout1 => Mem.st ⟨[(0, ⟨5, 1, List.map (encI .u8) vout1⟩)], []⟩ (tl [(6, .v (.one (.own 0 none)))]) 1

def place_Cell_x2_H (qs : api_Spot) (qlevel : Int) : (List Int) × Int × Int → St
  | (vout, vlong, vx2) => Mem.st ⟨[(0, ⟨5, 1, List.map (encI .u8) vout⟩)], []⟩ (tl [(6, .v (.one (.own 0 none))), (7, .v (.one (.d (.int .i64 (IntKind.wrap .i64 (qs.X - (-16384))))))), (8, .v (.one (.d (.int .i64 (IntKind.wrap .i64 (qs.Y - (-16384))))))), (9, .v (.one (.d (.int .i64 vlong)))), (23, .v (.one (.d (.int .i64 qlevel)))), (24, .v (.one (.d (.int .i64 vx2))))]) 1

theorem place_Cell_x2_ok (qs : api_Spot) (qlevel : Int) (s : (List Int) × Int × Int) (r : ((List Int) × Int × Int) ⊕ ((List Int))) (hF : place_Cell_x2 qs qlevel s = some r) : Awp prog 0 47 (cL (cL (cR (cL (cR (cR (cR (cR (cB f37))))))))) (Out 0 (kk place_Cell_x2_k) (SS (place_Cell_x2_H qs qlevel) (place_Cell_x2_S qs qlevel)) r) (place_Cell_x2_H qs qlevel s) := by
  obtain ⟨vout, vlong, vx2⟩ := s
  unfold place_Cell_x2 at hF
  refine awp_seq ?_
  refine awp_region ?_
  refine aR 1 ?_
  refine aE ?_
  refine awp_seq ?_
  refine cE hF (fun h6 hF => ?_) fun h6 hF => ?_
  · refine awp_true (by kernel_rfl) h6 ?_
    refine awp_skip ?_
    refine awp_seq ?_
    refine awp_block ?_
    refine awp_seq ?_
    refine awp_region ?_
    refine aR 3 ?_
    refine aE ?_
    refine gE hF fun h7 hF => ?_
    refine gE hF fun h8 hF => ?_
    refine aD ?_
    refine dR 3 ?_
    refine dX (x_quo h7) ?_
    refine dR 5 ?_
    refine dX (x_quo h7) ?_
    refine dR 5 ?_
    refine dX (x_app (encI .u8) 0 h8) ?_
    refine dR 1 ?_
    refine dE ?_
    refine awp_region ?_
    refine aR 2 ?_
    refine aE ?_
    exact oO hF [(0, 19001)] [] rfl
  · refine awp_false (by kernel_rfl) h6 ?_
    refine awp_exit ?_
    exact oO hF [] [] rfl

def place_Cell_R (qs : api_Spot) (qlevel : Int) (r : (List UInt8) × Int) : TV × Mem := (.tup [.one (.d (.str r.1)), .one (.d (.int .i64 r.2))], ⟨[], []⟩)

theorem place_Cell_ok {qs : api_Spot} {qlevel : Int} {r} (hF : place_Cell qs qlevel = some r) : Holds prog 37 [.v (.agg [.d (.int .i64 qs.X), .d (.int .i64 qs.Y)]), .v (.one (.d (.int .i64 qlevel)))] ⟨[], []⟩ (Is (place_Cell_R qs qlevel r)) := by
  unfold place_Cell at hF
  refine holds_of_awp hΓ (fn := f37) (c := cB f37) (A := 0) (nx := 0) (by kernel_rfl) (by kernel_rfl) (by kernel_rfl) (by kernel_rfl) (by kernel_rfl) (by kernel_rfl) (lowc_of (by kernel_rfl)) ?_
  show Awp prog 0 47 (cB f37) _ _
  refine awp_seq ?_
  refine awp_region ?_
  refine aR 3 ?_
  refine aE ?_
  refine awp_seq ?_
  refine awp_seq ?_
  refine awp_to (st' := place_Cell_x1_I qs qlevel) (oT [] []) ?_
  refine bE hF fun vx1 h4 hF => ?_
  refine awp_sub (place_Cell_x1_ok qs qlevel h4) ?_
  refine cE hF (fun h5 hF => ?_) fun h5 hF => ?_
  · refine awp_true (by kernel_rfl) h5 ?_
    refine awp_seq ?_
    refine awp_region ?_
    refine aR 2 ?_
    refine aE ?_
    refine awp_ret ?_
    exact oF hF [] []
  · refine awp_false (by kernel_rfl) h5 ?_
    refine awp_skip ?_
    refine awp_seq ?_
    refine awp_region ?_
    refine aR 1 ?_
    refine aE ?_
    refine awp_seq ?_
    refine aD ?_
    refine dR 9 ?_
    refine dE ?_
    refine awp_seq ?_
    refine awp_seq ?_
    refine awp_region ?_
    refine aR 2 ?_
    refine aE ?_
    refine awp_block ?_
    refine awp_to (st' := place_Cell_x2_H qs qlevel ([], 32768, 0)) (oT [] [0]) ?_
    refine bE hF fun vout1_1 h9 hF => ?_
    refine awp_sub (awp_loop' (place_Cell_x2_H qs qlevel) place_Cell_x2_k (place_Cell_x2_S qs qlevel) (by intro x; exact fun h => nomatch h) h9 (place_Cell_x2_ok qs qlevel)) ?_
    refine awp_seq ?_
    refine awp_region ?_
    refine aR 1 ?_
    refine aSt (xs := vout1_1) rfl rfl ?_
    refine aR 2 ?_
    refine aE ?_
    refine awp_ret ?_
    exact oF hF [] []

/-! ### beaconfleet/fleetlaw2.placed -/
def fleetlaw2_placed_x1_k : Bool → AEx
  | _ => .normal

def fleetlaw2_placed_x1_S (vr1 : List UInt8) (vr3 : Int) : Bool → St
  | vx => Mem.st ⟨[], []⟩ (tl [(0, .v (.one (.d (.bool vx))))]) 0

def fleetlaw2_placed_x1_I (vr1 : List UInt8) (vr3 : Int) : St := Mem.st ⟨[], []⟩ (tl [(1, .v (.one (.d (.str vr1)))), (2, .v (.one (.d (.int .i64 vr3))))]) 0

theorem fleetlaw2_placed_x1_ok (vr1 : List UInt8) (vr3 : Int) {r} (hF : fleetlaw2_placed_x1 vr1 vr3 = some r) : Awp prog 0 14 (cL (cR (cR (cB f15)))) (Out 0 fleetlaw2_placed_x1_k (fleetlaw2_placed_x1_S vr1 vr3) r) (fleetlaw2_placed_x1_I vr1 vr3) := by
  unfold fleetlaw2_placed_x1 at hF
  refine cE hF (fun h2 hF => ?_) fun h2 hF => ?_
  · refine awp_region ?_
    refine aR 1 ?_
    refine aB h2 ?_
    refine aR 5 ?_
    refine aE ?_
    exact oO hF [] [] rfl
  · refine awp_region ?_
    refine aR 1 ?_
    refine aB h2 ?_
    refine aR 5 ?_
    refine aE ?_
    exact oO hF [] [] rfl

def fleetlaw2_placed_R (r : Bool) : TV × Mem := (.v (.one (.d (.bool r))), ⟨[], []⟩)

theorem fleetlaw2_placed_ok {r} (hF : fleetlaw2_placed = some r) : Holds prog 15 [] ⟨[], []⟩ (Is (fleetlaw2_placed_R  r)) := by
  unfold fleetlaw2_placed at hF
  refine holds_of_awp hΓ (fn := f15) (c := cB f15) (A := 0) (nx := 0) (by kernel_rfl) (by kernel_rfl) (by kernel_rfl) (by kernel_rfl) (by kernel_rfl) (by kernel_rfl) (lowc_of (by kernel_rfl)) ?_
  show Awp prog 0 14 (cB f15) _ _
  refine awp_seq ?_
  refine awp_region ?_
  refine aR 1 ?_
  refine aE ?_
  refine awp_seq ?_
  refine bE hF fun x h1 hF => ?_
  obtain ⟨vr1, vr3⟩ := x
  refine awp_region ?_
  refine aR 1 ?_
  refine aC (place_Cell_ok h1) [] [] [] ?_
  refine aR 5 ?_
  refine aE ?_
  refine awp_seq ?_
  refine awp_to (st' := fleetlaw2_placed_x1_I vr1 vr3) (oT [] []) ?_
  refine bE hF fun vx1 h3 hF => ?_
  refine awp_sub (fleetlaw2_placed_x1_ok vr1 vr3 h3) ?_
  refine awp_ret ?_
  exact oF hF [] []

/-! ### beaconfleet/fleetlaw2.TracksPlain -/
def fleetlaw2_TracksPlain_x2_k : Bool → AEx
  | _ => .normal

def fleetlaw2_TracksPlain_x2_S (vs3 : fleetmake_Stream) (vr2 : List api_Fix) (vr : Int) (vr1 : Int) : Bool → St
  | vx => Mem.st ⟨[(0, ⟨31, 5, List.map api_Fix.enc vr2⟩)], []⟩ (tl [(4, .v (.one (.own 0 none))), (5, .v (.one (.d (.int .i64 vr)))), (6, .v (.one (.d (.int .i64 vr1)))), (33, .v (.one (.d (.bool vx))))]) 1

def fleetlaw2_TracksPlain_x2_I (vs3 : fleetmake_Stream) (vr2 : List api_Fix) (vr : Int) (vr1 : Int) : St := Mem.st ⟨[(1, ⟨31, 5, List.map api_Fix.enc vr2⟩)], [(0, [.d (.lst (List.map (encI .i64) vs3.L)), .d (.int .i64 (IntKind.wrap .i64 ((IntKind.wrap .i64 (vs3.at_ + 1)) + 1)))])]⟩ (tl [(3, .v (.one (.box 0 0))), (4, .v (.one (.own 1 none))), (5, .v (.one (.d (.int .i64 vr)))), (6, .v (.one (.d (.int .i64 vr1))))]) 2

theorem fleetlaw2_TracksPlain_x2_ok (vs3 : fleetmake_Stream) (vr2 : List api_Fix) (vr : Int) (vr1 : Int) {r} (hF : fleetlaw2_TracksPlain_x2 vs3 vr2 = some r) : Awp prog 0 105 (cL (cL (cR (cR (cR (cB f3)))))) (Out 0 fleetlaw2_TracksPlain_x2_k (fleetlaw2_TracksPlain_x2_S vs3 vr2 vr vr1) r) (fleetlaw2_TracksPlain_x2_I vs3 vr2 vr vr1) := by
  unfold fleetlaw2_TracksPlain_x2 at hF
  refine cE hF (fun h4 hF => ?_) fun h4 hF => ?_
  · refine bE hF fun vr3 h5 hF => ?_
    refine awp_region ?_
    refine aR 1 ?_
    refine aL api_Fix.enc vr2 ?_
    refine aB h4 ?_
    refine aR 2 ?_
    refine aC (fleetmake_Stream_Flip_ok h5) [] [] [] ?_
    refine aR 1 ?_
    refine aE ?_
    exact oO hF [(0, 1)] [] rfl
  · refine awp_region ?_
    refine aR 1 ?_
    refine aL api_Fix.enc vr2 ?_
    refine aB h4 ?_
    refine aR 4 ?_
    refine aE ?_
    exact oO hF [(0, 1)] [] rfl

def fleetlaw2_TracksPlain_x1_k : (List api_Fix) → AEx
  | _ => .normal

def fleetlaw2_TracksPlain_x1_S (vs3 : fleetmake_Stream) (vr2 : List api_Fix) (vr : Int) (vr1 : Int) : (List api_Fix) → St
  | vx2 => Mem.st ⟨[(0, ⟨31, 5, List.map api_Fix.enc vx2⟩)], []⟩ (tl [(4, .v (.one (.own 0 none))), (5, .v (.one (.d (.int .i64 vr)))), (6, .v (.one (.d (.int .i64 vr1))))]) 1

def fleetlaw2_TracksPlain_x1_I (vs3 : fleetmake_Stream) (vr2 : List api_Fix) (vr : Int) (vr1 : Int) : St := Mem.st ⟨[(1, ⟨31, 5, List.map api_Fix.enc vr2⟩)], [(0, [.d (.lst (List.map (encI .i64) vs3.L)), .d (.int .i64 (IntKind.wrap .i64 ((IntKind.wrap .i64 (vs3.at_ + 1)) + 1)))])]⟩ (tl [(3, .v (.one (.box 0 0))), (4, .v (.one (.own 1 none))), (5, .v (.one (.d (.int .i64 vr)))), (6, .v (.one (.d (.int .i64 vr1))))]) 2

theorem fleetlaw2_TracksPlain_x1_ok (vs3 : fleetmake_Stream) (vr2 : List api_Fix) (vr : Int) (vr1 : Int) {r} (hF : fleetlaw2_TracksPlain_x1 vs3 vr2 = some r) : Awp prog 0 105 (cL (cR (cR (cR (cB f3))))) (Out 0 fleetlaw2_TracksPlain_x1_k (fleetlaw2_TracksPlain_x1_S vs3 vr2 vr vr1) r) (fleetlaw2_TracksPlain_x1_I vs3 vr2 vr vr1) := by
  unfold fleetlaw2_TracksPlain_x1 at hF
  refine awp_seq ?_
  refine awp_to (st' := fleetlaw2_TracksPlain_x2_I vs3 vr2 vr vr1) (oT [] []) ?_
  refine bE hF fun vx1 h6 hF => ?_
  refine awp_sub (fleetlaw2_TracksPlain_x2_ok vs3 vr2 vr vr1 h6) ?_
  refine cE hF (fun h7 hF => ?_) fun h7 hF => ?_
  · refine awp_true (by kernel_rfl) h7 ?_
    refine bE hF fun vy h8 hF => ?_
    refine awp_region ?_
    refine aR 2 ?_
    refine aL api_Fix.enc vr2 ?_
    refine aR 1 ?_
    refine aX (x_idxO api_Fix.enc 0 h8) ?_
    refine aR 1 ?_
    refine aX (x_stE api_Fix.enc (api_Fix.mk vy.Device 345686399999 vy.X vy.Y vy.Error) h8) ?_
    refine aE ?_
    exact oO hF [] [] rfl
  · refine awp_false (by kernel_rfl) h7 ?_
    refine awp_skip ?_
    exact oO hF [] [] rfl

def fleetlaw2_TracksPlain_x3_k : Int → AEx
  | _ => .normal

def fleetlaw2_TracksPlain_x3_S (vr : Int) (vr1 : Int) (vx2_1 : List api_Fix) (vr4 : List Int) (vr5 : Int) (vr2_1 : List Int) (vr3_1 : Int) (vr1_1 : Int) : Int → St
  | vx3 => Mem.st ⟨[(0, ⟨31, 5, List.map api_Fix.enc vx2_1⟩)], []⟩ (tl [(4, .v (.one (.own 0 none))), (5, .v (.one (.d (.int .i64 vr)))), (6, .v (.one (.d (.int .i64 vr1)))), (7, .v (.one (.d (.lst (List.map (encI .i64) vr4))))), (8, .v (.one (.d (.int .i64 vr5)))), (9, .v (.one (.d (.lst (List.map (encI .i64) vr2_1))))), (10, .v (.one (.d (.int .i64 vr3_1)))), (11, .v (.one (.d (.int .i64 vr1_1)))), (12, .v (.one (.d (.int .i64 vx3))))]) 1

def fleetlaw2_TracksPlain_x3_I (vr : Int) (vr1 : Int) (vx2_1 : List api_Fix) (vr4 : List Int) (vr5 : Int) (vr2_1 : List Int) (vr3_1 : Int) (vr1_1 : Int) : St := Mem.st ⟨[(0, ⟨31, 5, List.map api_Fix.enc vx2_1⟩)], []⟩ (tl [(4, .v (.one (.own 0 none))), (5, .v (.one (.d (.int .i64 vr)))), (6, .v (.one (.d (.int .i64 vr1)))), (7, .v (.one (.d (.lst (List.map (encI .i64) vr4))))), (8, .v (.one (.d (.int .i64 vr5)))), (9, .v (.one (.d (.lst (List.map (encI .i64) vr2_1))))), (10, .v (.one (.d (.int .i64 vr3_1)))), (11, .v (.one (.d (.int .i64 vr1_1))))]) 1

theorem fleetlaw2_TracksPlain_x3_ok (vr : Int) (vr1 : Int) (vx2_1 : List api_Fix) (vr4 : List Int) (vr5 : Int) (vr2_1 : List Int) (vr3_1 : Int) (vr1_1 : Int) {r} (hF : fleetlaw2_TracksPlain_x3 vr vr1_1 = some r) : Awp prog 0 105 (cL (cR (cR (cR (cR (cR (cR (cR (cB f3))))))))) (Out 0 fleetlaw2_TracksPlain_x3_k (fleetlaw2_TracksPlain_x3_S vr vr1 vx2_1 vr4 vr5 vr2_1 vr3_1 vr1_1) r) (fleetlaw2_TracksPlain_x3_I vr vr1 vx2_1 vr4 vr5 vr2_1 vr3_1 vr1_1) := by
  unfold fleetlaw2_TracksPlain_x3 at hF
  refine cE hF (fun h13 hF => ?_) fun h13 hF => ?_
  · refine bE hF fun vr6 h14 hF => ?_
    refine bE hF fun vr7 h15 hF => ?_
    refine awp_region ?_
    refine aR 2 ?_
    refine aB h13 ?_
    refine aR 4 ?_
    refine aC (fleetlaw2_when_ok h14) [] [] [] ?_
    refine aR 1 ?_
    refine aC (fleetlaw2_errs_ok h15) [] [] [8001] ?_
    refine aR 1 ?_
    refine aE ?_
    exact oO hF [] [] rfl
  · refine bE hF fun vr8 h16 hF => ?_
    refine bE hF fun vr9 h17 hF => ?_
    refine awp_region ?_
    refine aR 2 ?_
    refine aB h13 ?_
    refine aR 4 ?_
    refine aC (fleetlaw2_when_ok h16) [] [] [] ?_
    refine aR 1 ?_
    refine aC (fleetlaw2_errs_ok h17) [] [] [8001] ?_
    refine aR 1 ?_
    refine aE ?_
    exact oO hF [] [] rfl

def fleetlaw2_TracksPlain_x4_k : Int → AEx
  | _ => .normal

def fleetlaw2_TracksPlain_x4_S (vr : Int) (vr1 : Int) (vx2_1 : List api_Fix) (vr4 : List Int) (vr5 : Int) (vr2_1 : List Int) (vr3_1 : Int) (vr1_1 : Int) (vx3_1 : Int) : Int → St
  | vx4 => Mem.st ⟨[(0, ⟨31, 5, List.map api_Fix.enc vx2_1⟩)], []⟩ (tl [(4, .v (.one (.own 0 none))), (5, .v (.one (.d (.int .i64 vr)))), (6, .v (.one (.d (.int .i64 vr1)))), (7, .v (.one (.d (.lst (List.map (encI .i64) vr4))))), (8, .v (.one (.d (.int .i64 vr5)))), (9, .v (.one (.d (.lst (List.map (encI .i64) vr2_1))))), (10, .v (.one (.d (.int .i64 vr3_1)))), (12, .v (.one (.d (.int .i64 vx3_1)))), (13, .v (.one (.d (.int .i64 vx4))))]) 1

def fleetlaw2_TracksPlain_x4_I (vr : Int) (vr1 : Int) (vx2_1 : List api_Fix) (vr4 : List Int) (vr5 : Int) (vr2_1 : List Int) (vr3_1 : Int) (vr1_1 : Int) (vx3_1 : Int) : St := Mem.st ⟨[(0, ⟨31, 5, List.map api_Fix.enc vx2_1⟩)], []⟩ (tl [(4, .v (.one (.own 0 none))), (5, .v (.one (.d (.int .i64 vr)))), (6, .v (.one (.d (.int .i64 vr1)))), (7, .v (.one (.d (.lst (List.map (encI .i64) vr4))))), (8, .v (.one (.d (.int .i64 vr5)))), (9, .v (.one (.d (.lst (List.map (encI .i64) vr2_1))))), (10, .v (.one (.d (.int .i64 vr3_1)))), (11, .v (.one (.d (.int .i64 vr1_1)))), (12, .v (.one (.d (.int .i64 vx3_1))))]) 1

theorem fleetlaw2_TracksPlain_x4_ok (vr : Int) (vr1 : Int) (vx2_1 : List api_Fix) (vr4 : List Int) (vr5 : Int) (vr2_1 : List Int) (vr3_1 : Int) (vr1_1 : Int) (vx3_1 : Int) {r} (hF : fleetlaw2_TracksPlain_x4 vr1 vr1_1 = some r) : Awp prog 0 105 (cL (cR (cR (cR (cR (cR (cR (cR (cR (cB f3)))))))))) (Out 0 fleetlaw2_TracksPlain_x4_k (fleetlaw2_TracksPlain_x4_S vr vr1 vx2_1 vr4 vr5 vr2_1 vr3_1 vr1_1 vx3_1) r) (fleetlaw2_TracksPlain_x4_I vr vr1 vx2_1 vr4 vr5 vr2_1 vr3_1 vr1_1 vx3_1) := by
  unfold fleetlaw2_TracksPlain_x4 at hF
  refine cE hF (fun h19 hF => ?_) fun h19 hF => ?_
  · refine bE hF fun vr10 h20 hF => ?_
    refine bE hF fun vr11 h21 hF => ?_
    refine awp_region ?_
    refine aR 2 ?_
    refine aB h19 ?_
    refine aR 4 ?_
    refine aC (fleetlaw2_when_ok h20) [] [] [] ?_
    refine aR 1 ?_
    refine aC (fleetlaw2_errs_ok h21) [] [] [8001] ?_
    refine aR 1 ?_
    refine aE ?_
    exact oO hF [] [] rfl
  · refine bE hF fun vr12 h22 hF => ?_
    refine bE hF fun vr13 h23 hF => ?_
    refine awp_region ?_
    refine aR 2 ?_
    refine aB h19 ?_
    refine aR 4 ?_
    refine aC (fleetlaw2_when_ok h22) [] [] [] ?_
    refine aR 1 ?_
    refine aC (fleetlaw2_errs_ok h23) [] [] [8001] ?_
    refine aR 1 ?_
    refine aE ?_
    exact oO hF [] [] rfl

def fleetlaw2_TracksPlain_x5_k : (List Int) → AEx
  | _ => .normal

def fleetlaw2_TracksPlain_x5_S (vr : Int) (vr1 : Int) (vx2_1 : List api_Fix) (vr4 : List Int) (vr5 : Int) (vr2_1 : List Int) (vr3_1 : Int) (vx3_1 : Int) (vx4_1 : Int) : (List Int) → St
  | vx5 => Mem.st ⟨[(0, ⟨31, 5, List.map api_Fix.enc vx2_1⟩)], []⟩ (tl [(4, .v (.one (.own 0 none))), (6, .v (.one (.d (.int .i64 vr1)))), (7, .v (.one (.d (.lst (List.map (encI .i64) vr4))))), (8, .v (.one (.d (.int .i64 vr5)))), (9, .v (.one (.d (.lst (List.map (encI .i64) vr2_1))))), (10, .v (.one (.d (.int .i64 vr3_1)))), (12, .v (.one (.d (.int .i64 vx3_1)))), (13, .v (.one (.d (.int .i64 vx4_1)))), (14, .v (.one (.d (.lst (List.map (encI .i64) vx5))))), (15, .v (.one (.nil)))]) 1

def fleetlaw2_TracksPlain_x5_I (vr : Int) (vr1 : Int) (vx2_1 : List api_Fix) (vr4 : List Int) (vr5 : Int) (vr2_1 : List Int) (vr3_1 : Int) (vx3_1 : Int) (vx4_1 : Int) : St := Mem.st ⟨[(0, ⟨31, 5, List.map api_Fix.enc vx2_1⟩)], []⟩ (tl [(4, .v (.one (.own 0 none))), (5, .v (.one (.d (.int .i64 vr)))), (6, .v (.one (.d (.int .i64 vr1)))), (7, .v (.one (.d (.lst (List.map (encI .i64) vr4))))), (8, .v (.one (.d (.int .i64 vr5)))), (9, .v (.one (.d (.lst (List.map (encI .i64) vr2_1))))), (10, .v (.one (.d (.int .i64 vr3_1)))), (12, .v (.one (.d (.int .i64 vx3_1)))), (13, .v (.one (.d (.int .i64 vx4_1)))), (14, .v (.one (.nil))), (15, .v (.one (.nil)))]) 1

theorem fleetlaw2_TracksPlain_x5_ok (vr : Int) (vr1 : Int) (vx2_1 : List api_Fix) (vr4 : List Int) (vr5 : Int) (vr2_1 : List Int) (vr3_1 : Int) (vx3_1 : Int) (vx4_1 : Int) {r} (hF : fleetlaw2_TracksPlain_x5 vr vx2_1 vx3_1 = some r) : Awp prog 0 105 (cL (cR (cR (cR (cR (cR (cR (cR (cR (cR (cR (cB f3)))))))))))) (Out 0 fleetlaw2_TracksPlain_x5_k (fleetlaw2_TracksPlain_x5_S vr vr1 vx2_1 vr4 vr5 vr2_1 vr3_1 vx3_1 vx4_1) r) (fleetlaw2_TracksPlain_x5_I vr vr1 vx2_1 vr4 vr5 vr2_1 vr3_1 vx3_1 vx4_1) := by
  unfold fleetlaw2_TracksPlain_x5 at hF
  refine awp_seq ?_
  refine awp_region ?_
  refine aR 2 ?_
  refine aE ?_
  refine cE hF (fun h25 hF => ?_) fun h25 hF => ?_
  · refine awp_true (by kernel_rfl) h25 ?_
    refine bE hF fun vr14 h26 hF => ?_
    refine awp_region ?_
    refine aR 2 ?_
    refine aCf (fleetref2_JumpsOf_ok h26) (plainO_one (f := (encI .i64)) fun _ => by kernel_rfl) [] [] [0] ?_
    refine aR 1 ?_
    refine aE ?_
    exact oO hF [] [] rfl
  · refine awp_false (by kernel_rfl) h25 ?_
    refine awp_skip ?_
    exact oO hF [] [] rfl

def fleetlaw2_TracksPlain_x6_k : (List Int) → AEx
  | _ => .normal

def fleetlaw2_TracksPlain_x6_S (vr1 : Int) (vx2_1 : List api_Fix) (vr4 : List Int) (vr5 : Int) (vr2_1 : List Int) (vr3_1 : Int) (vx3_1 : Int) (vx4_1 : Int) (vx5_1 : List Int) : (List Int) → St
  | vx6 => Mem.st ⟨[], []⟩ (tl [(7, .v (.one (.d (.lst (List.map (encI .i64) vr4))))), (8, .v (.one (.d (.int .i64 vr5)))), (9, .v (.one (.d (.lst (List.map (encI .i64) vr2_1))))), (10, .v (.one (.d (.int .i64 vr3_1)))), (12, .v (.one (.d (.int .i64 vx3_1)))), (13, .v (.one (.d (.int .i64 vx4_1)))), (14, .v (.one (.d (.lst (List.map (encI .i64) vx5_1))))), (15, .v (.one (.d (.lst (List.map (encI .i64) vx6)))))]) 0

def fleetlaw2_TracksPlain_x6_I (vr1 : Int) (vx2_1 : List api_Fix) (vr4 : List Int) (vr5 : Int) (vr2_1 : List Int) (vr3_1 : Int) (vx3_1 : Int) (vx4_1 : Int) (vx5_1 : List Int) : St := Mem.st ⟨[(0, ⟨31, 5, List.map api_Fix.enc vx2_1⟩)], []⟩ (tl [(4, .v (.one (.own 0 none))), (6, .v (.one (.d (.int .i64 vr1)))), (7, .v (.one (.d (.lst (List.map (encI .i64) vr4))))), (8, .v (.one (.d (.int .i64 vr5)))), (9, .v (.one (.d (.lst (List.map (encI .i64) vr2_1))))), (10, .v (.one (.d (.int .i64 vr3_1)))), (12, .v (.one (.d (.int .i64 vx3_1)))), (13, .v (.one (.d (.int .i64 vx4_1)))), (14, .v (.one (.d (.lst (List.map (encI .i64) vx5_1))))), (15, .v (.one (.nil)))]) 1

theorem fleetlaw2_TracksPlain_x6_ok (vr1 : Int) (vx2_1 : List api_Fix) (vr4 : List Int) (vr5 : Int) (vr2_1 : List Int) (vr3_1 : Int) (vx3_1 : Int) (vx4_1 : Int) (vx5_1 : List Int) {r} (hF : fleetlaw2_TracksPlain_x6 vr1 vx2_1 vx4_1 = some r) : Awp prog 0 105 (cL (cR (cR (cR (cR (cR (cR (cR (cR (cR (cR (cR (cB f3))))))))))))) (Out 0 fleetlaw2_TracksPlain_x6_k (fleetlaw2_TracksPlain_x6_S vr1 vx2_1 vr4 vr5 vr2_1 vr3_1 vx3_1 vx4_1 vx5_1) r) (fleetlaw2_TracksPlain_x6_I vr1 vx2_1 vr4 vr5 vr2_1 vr3_1 vx3_1 vx4_1 vx5_1) := by
  unfold fleetlaw2_TracksPlain_x6 at hF
  refine awp_seq ?_
  refine awp_region ?_
  refine aR 2 ?_
  refine aE ?_
  refine cE hF (fun h28 hF => ?_) fun h28 hF => ?_
  · refine awp_true (by kernel_rfl) h28 ?_
    refine bE hF fun vr15 h29 hF => ?_
    refine awp_region ?_
    refine aR 2 ?_
    refine aC (fleetref2_PlainOf_o0_ok h29) [] [] [] ?_
    refine aR 1 ?_
    refine aE ?_
    exact oO hF [] [] rfl
  · refine awp_false (by kernel_rfl) h28 ?_
    refine awp_skip ?_
    exact oO hF [] [] rfl

def fleetlaw2_TracksPlain_x7_k : Bool → AEx
  | _ => .normal

def fleetlaw2_TracksPlain_x7_S (vr4 : List Int) (vr5 : Int) (vr2_1 : List Int) (vr3_1 : Int) (vx3_1 : Int) (vx4_1 : Int) (vx5_1 : List Int) (vx6_1 : List Int) : Bool → St
  | vx7 => Mem.st ⟨[], []⟩ (tl [(2, .v (.one (.d (.bool vx7))))]) 0

def fleetlaw2_TracksPlain_x7_I (vr4 : List Int) (vr5 : Int) (vr2_1 : List Int) (vr3_1 : Int) (vx3_1 : Int) (vx4_1 : Int) (vx5_1 : List Int) (vx6_1 : List Int) : St := Mem.st ⟨[], []⟩ (tl [(7, .v (.one (.d (.lst (List.map (encI .i64) vr4))))), (8, .v (.one (.d (.int .i64 vr5)))), (9, .v (.one (.d (.lst (List.map (encI .i64) vr2_1))))), (10, .v (.one (.d (.int .i64 vr3_1)))), (12, .v (.one (.d (.int .i64 vx3_1)))), (13, .v (.one (.d (.int .i64 vx4_1)))), (14, .v (.one (.d (.lst (List.map (encI .i64) vx5_1))))), (15, .v (.one (.d (.lst (List.map (encI .i64) vx6_1)))))]) 0

theorem fleetlaw2_TracksPlain_x7_ok (vr4 : List Int) (vr5 : Int) (vr2_1 : List Int) (vr3_1 : Int) (vx3_1 : Int) (vx4_1 : Int) (vx5_1 : List Int) (vx6_1 : List Int) {r} (hF : fleetlaw2_TracksPlain_x7 vr4 vr5 vr2_1 vr3_1 vx3_1 vx4_1 vx5_1 vx6_1 = some r) : Awp prog 0 105 (cL (cR (cR (cR (cR (cR (cR (cR (cR (cR (cR (cR (cR (cB f3)))))))))))))) (Out 0 fleetlaw2_TracksPlain_x7_k (fleetlaw2_TracksPlain_x7_S vr4 vr5 vr2_1 vr3_1 vx3_1 vx4_1 vx5_1 vx6_1) r) (fleetlaw2_TracksPlain_x7_I vr4 vr5 vr2_1 vr3_1 vx3_1 vx4_1 vx5_1 vx6_1) := by
  unfold fleetlaw2_TracksPlain_x7 at hF
  refine cE hF (fun h31 hF => ?_) fun h31 hF => ?_
  · refine bE hF fun vr16 h32 hF => ?_
    refine cE hF (fun h33 hF => ?_) fun h33 hF => ?_
    · refine cE hF (fun h34 hF => ?_) fun h34 hF => ?_
      · refine bE hF fun vr17 h35 hF => ?_
        refine cE hF (fun h36 hF => ?_) fun h36 hF => ?_
        · refine bE hF fun vr18 h37 hF => ?_
          refine awp_region ?_
          refine aR 2 ?_
          refine aB h31 ?_
          refine aR 3 ?_
          refine aCb (slices_Equal_int_int_ok h32) [] [] [] h33 ?_
          refine aR 4 ?_
          refine aB h34 ?_
          refine aR 4 ?_
          refine aCb (slices_Equal_int_int_ok h35) [] [] [] h36 ?_
          refine aR 2 ?_
          refine aC (fleetlaw2_placed_ok h37) [] [] [] ?_
          refine aR 2 ?_
          refine aE ?_
          exact oO hF [] [] rfl
        · refine awp_region ?_
          refine aR 2 ?_
          refine aB h31 ?_
          refine aR 3 ?_
          refine aCb (slices_Equal_int_int_ok h32) [] [] [] h33 ?_
          refine aR 4 ?_
          refine aB h34 ?_
          refine aR 4 ?_
          refine aCb (slices_Equal_int_int_ok h35) [] [] [] h36 ?_
          refine aR 5 ?_
          refine aE ?_
          exact oO hF [] [] rfl
      · refine awp_region ?_
        refine aR 2 ?_
        refine aB h31 ?_
        refine aR 3 ?_
        refine aCb (slices_Equal_int_int_ok h32) [] [] [] h33 ?_
        refine aR 4 ?_
        refine aB h34 ?_
        refine aR 10 ?_
        refine aE ?_
        exact oO hF [] [] rfl
    · refine awp_region ?_
      refine aR 2 ?_
      refine aB h31 ?_
      refine aR 3 ?_
      refine aCb (slices_Equal_int_int_ok h32) [] [] [] h33 ?_
      refine aR 15 ?_
      refine aE ?_
      exact oO hF [] [] rfl
  · refine awp_region ?_
    refine aR 2 ?_
    refine aB h31 ?_
    refine aR 19 ?_
    refine aE ?_
    exact oO hF [] [] rfl

def fleetlaw2_TracksPlain_R (qx : List Int) (r : Bool) : TV × Mem := (.v (.one (.d (.bool r))), ⟨[], []⟩)

theorem fleetlaw2_TracksPlain_ok {qx : List Int} {r} (hF : fleetlaw2_TracksPlain qx = some r) : Holds prog 3 [.v (.one (.d (.lst (List.map (encI .i64) qx))))] ⟨[], []⟩ (Is (fleetlaw2_TracksPlain_R qx r)) := by
  unfold fleetlaw2_TracksPlain at hF
  refine holds_of_awp hΓ (fn := f3) (c := cB f3) (A := 0) (nx := 0) (by kernel_rfl) (by kernel_rfl) (by kernel_rfl) (by kernel_rfl) (by kernel_rfl) (by kernel_rfl) (lowc_of (by kernel_rfl)) ?_
  show Awp prog 0 105 (cB f3) _ _
  refine awp_seq ?_
  refine awp_region ?_
  refine aR 1 ?_
  refine aE ?_
  refine awp_seq ?_
  refine awp_region ?_
  refine aR 4 ?_
  refine aE ?_
  refine awp_seq ?_
  refine bE hF fun x h1 hF => ?_
  obtain ⟨vs3, vr2⟩ := x
  refine bE hF fun vr h2 hF => ?_
  refine bE hF fun vr1 h3 hF => ?_
  refine awp_region ?_
  refine aR 1 ?_
  refine aC (fleetmake_Stream_Track_ok h1) [(0, 3000)] [] [] ?_
  refine aR 2 ?_
  refine aC (fleetmake_Stream_Pick_o1_ok h2) [(0, 3000), (1, 8000)] [] [] ?_
  refine aR 2 ?_
  refine aC (fleetmake_Stream_Pick_o1_ok h3) [(0, 3000), (1, 11000)] [] [] ?_
  refine aR 3 ?_
  refine aE ?_
  refine awp_seq ?_
  refine awp_to (st' := fleetlaw2_TracksPlain_x1_I vs3 vr2 vr vr1) (oT [(0, 3000), (1, 6001)] []) ?_
  refine bE hF fun vx2_1 h9 hF => ?_
  refine awp_sub (fleetlaw2_TracksPlain_x1_ok vs3 vr2 vr vr1 h9) ?_
  refine awp_seq ?_
  refine bE hF fun x h10 hF => ?_
  obtain ⟨vr4, vr5⟩ := x
  refine awp_region ?_
  refine aR 2 ?_
  refine aCf (place_Jumps_ok h10) (plainO_one (f := (encI .i64)) fun _ => by kernel_rfl) [] [] [0] ?_
  refine aR 5 ?_
  refine aE ?_
  refine awp_to (oT (m := ⟨[(0, ⟨31, 5, List.map api_Fix.enc vx2_1⟩)], []⟩) (ts := [(4, .v (.one (.own 0 none))), (5, .v (.one (.d (.int .i64 vr)))), (6, .v (.one (.d (.int .i64 vr1)))), (7, .v (.one (.d (.lst (List.map (encI .i64) vr4))))), (8, .v (.one (.d (.int .i64 vr5))))]) (nx := 1) [] []) ?_
  refine awp_seq ?_
  refine bE hF fun x h11 hF => ?_
  obtain ⟨vr2_1, vr3_1⟩ := x
  refine awp_region ?_
  refine aR 2 ?_
  refine aCf (place_Plain_ok h11) (plainO_one (f := (encI .i64)) fun _ => by kernel_rfl) [] [] [0] ?_
  refine aR 5 ?_
  refine aE ?_
  refine awp_to (oT (m := ⟨[(0, ⟨31, 5, List.map api_Fix.enc vx2_1⟩)], []⟩) (ts := [(4, .v (.one (.own 0 none))), (5, .v (.one (.d (.int .i64 vr)))), (6, .v (.one (.d (.int .i64 vr1)))), (7, .v (.one (.d (.lst (List.map (encI .i64) vr4))))), (8, .v (.one (.d (.int .i64 vr5)))), (9, .v (.one (.d (.lst (List.map (encI .i64) vr2_1))))), (10, .v (.one (.d (.int .i64 vr3_1))))]) (nx := 1) [] []) ?_
  refine awp_seq ?_
  refine bE hF fun vr1_1 h12 hF => ?_
  refine awp_region ?_
  refine aR 1 ?_
  refine aC (fleetref2_TrackFault_ok h12) [] [] [0] ?_
  refine aR 1 ?_
  refine aE ?_
  refine awp_seq ?_
  refine awp_to (st' := fleetlaw2_TracksPlain_x3_I vr vr1 vx2_1 vr4 vr5 vr2_1 vr3_1 vr1_1) (oT [] []) ?_
  refine bE hF fun vx3_1 h18 hF => ?_
  refine awp_sub (fleetlaw2_TracksPlain_x3_ok vr vr1 vx2_1 vr4 vr5 vr2_1 vr3_1 vr1_1 h18) ?_
  refine awp_seq ?_
  refine awp_to (st' := fleetlaw2_TracksPlain_x4_I vr vr1 vx2_1 vr4 vr5 vr2_1 vr3_1 vr1_1 vx3_1) (oT [] []) ?_
  refine bE hF fun vx4_1 h24 hF => ?_
  refine awp_sub (fleetlaw2_TracksPlain_x4_ok vr vr1 vx2_1 vr4 vr5 vr2_1 vr3_1 vr1_1 vx3_1 h24) ?_
  refine awp_seq ?_
  refine awp_region ?_
  refine aR 2 ?_
  refine aE ?_
  refine awp_seq ?_
  refine awp_to (st' := fleetlaw2_TracksPlain_x5_I vr vr1 vx2_1 vr4 vr5 vr2_1 vr3_1 vx3_1 vx4_1) (oT [] []) ?_
  refine bE hF fun vx5_1 h27 hF => ?_
  refine awp_sub (fleetlaw2_TracksPlain_x5_ok vr vr1 vx2_1 vr4 vr5 vr2_1 vr3_1 vx3_1 vx4_1 h27) ?_
  refine awp_seq ?_
  refine awp_to (st' := fleetlaw2_TracksPlain_x6_I vr1 vx2_1 vr4 vr5 vr2_1 vr3_1 vx3_1 vx4_1 vx5_1) (oT [] []) ?_
  refine bE hF fun vx6_1 h30 hF => ?_
  refine awp_sub (fleetlaw2_TracksPlain_x6_ok vr1 vx2_1 vr4 vr5 vr2_1 vr3_1 vx3_1 vx4_1 vx5_1 h30) ?_
  refine awp_seq ?_
  refine awp_to (st' := fleetlaw2_TracksPlain_x7_I vr4 vr5 vr2_1 vr3_1 vx3_1 vx4_1 vx5_1 vx6_1) (oT [] []) ?_
  refine bE hF fun vx7_1 h38 hF => ?_
  refine awp_sub (fleetlaw2_TracksPlain_x7_ok vr4 vr5 vr2_1 vr3_1 vx3_1 vx4_1 vx5_1 vx6_1 h38) ?_
  refine awp_ret ?_
  exact oF hF [] []

end Go.Eng
