/-
The code of the Go functions that the law TracksPlain reaches does what the plain functions say, part 1.
-/
import Derived.Test.YtjiadailjnbglaaGenF

import Derived.Test.YtjiadailjnbglaaEng9

import Derived.Test.YtjiadailjnbglaaProg

import Derived.KernelRfl

namespace Go.Eng

open Go Go.Proofs.Try

set_option linter.unusedVariables false

set_option maxRecDepth 20000

set_option maxHeartbeats 0

def ti3 : TI := ⟨1, 8, [.d (.int .i64 0)], false, .int .i64⟩

def ti4 : TI := ⟨1, 1, [.d (.bool false)], false, .bool⟩

def ti5 : TI := ⟨1, 1, [.d (.int .u8 0)], false, .int .u8⟩

def ti9 : TI := ⟨1, 16, [.d (.str [])], false, .str⟩

def ti22 : TI := ⟨1, 24, [.nil], false, .slice 3⟩

def ti25 : TI := ⟨2, 32, [.nil, .d (.int .i64 0)], true, .struct [(0, 22), (1, 3)]⟩

def ti26 : TI := ⟨1, 24, [.nil], false, .slice 31⟩

def ti31 : TI := ⟨5, 48, [.d (.str []), .d (.int .i64 0), .d (.int .i64 0), .d (.int .i64 0), .d (.int .i64 0)], true, .struct [(0, 9), (1, 3), (2, 3), (3, 3), (4, 3)]⟩

def ti32 : TI := ⟨1, 8, [.d (.int .i64 0)], false, .int .i64⟩

def ti47 : TI := ⟨1, 8, [.d (.int .u64 0)], false, .int .u64⟩

def ti49 : TI := ⟨2, 16, [.d (.int .u64 0), .d (.int .u64 0)], true, .struct [(0, 47), (1, 47)]⟩

def ti53 : TI := ⟨2, 16, [.d (.int .i64 0), .d (.int .i64 0)], true, .struct [(0, 3), (1, 3)]⟩

def ti56 : TI := ⟨1, 24, [.nil], false, .slice 4⟩

def ti57 : TI := ⟨1, 8, [.nilf], false, .other⟩

def ti59 : TI := ⟨2, 16, [.d (.int .i64 0), .d (.int .i64 0)], true, .struct [(0, 3), (1, 3)]⟩

def ti64 : TI := ⟨1, 24, [.nil], false, .slice 32⟩

def ti70 : TI := ⟨1, 24, [.nil], false, .slice 9⟩

def ti82 : TI := ⟨1, 8, [.d (.int .u64 0)], false, .int .u64⟩

def ti84 : TI := ⟨1, 24, [.nil], false, .slice 5⟩

def Γ : Types := [(3, ti3), (4, ti4), (5, ti5), (9, ti9), (22, ti22), (25, ti25), (26, ti26), (31, ti31), (32, ti32), (47, ti47), (49, ti49), (53, ti53), (56, ti56), (57, ti57), (59, ti59), (64, ti64), (70, ti70), (82, ti82), (84, ti84)]

theorem hΓ : TypesOk prog Γ := typesOk_of (by kernel_rfl)

instance : TOk prog Γ := ⟨hΓ⟩

theorem hm : prog.follows .mixedOrders = true := by kernel_rfl

instance : Mixed prog := ⟨hm⟩

/-! ### beaconfleet/fleetmake.Below -/
def fleetmake_Below_x1_k : Int → AEx
  | _ => .normal

def fleetmake_Below_x1_S (qx : Int) (qn : Int) : Int → St
  | vx => Mem.st ⟨[], []⟩ (tl [(0, .v (.one (.d (.int .i64 vx))))]) 0

def fleetmake_Below_x1_I (qx : Int) (qn : Int) : St := Mem.st ⟨[], []⟩ (tl [(0, .v (.one (.d (.int .i64 (qx.tmod qn))))), (1, .v (.one (.d (.int .i64 qn))))]) 0

theorem fleetmake_Below_x1_ok (qx : Int) (qn : Int) {r} (hF : fleetmake_Below_x1 qx qn = some r) : Awp prog 0 16 (cL (cR (cR (cR (cB f40))))) (Out 0 fleetmake_Below_x1_k (fleetmake_Below_x1_S qx qn) r) (fleetmake_Below_x1_I qx qn) := by
  unfold fleetmake_Below_x1 at hF
  refine awp_seq ?_
  refine awp_region ?_
  refine aR 2 ?_
  refine aE ?_
  refine cE hF (fun h3 hF => ?_) fun h3 hF => ?_
  · refine awp_true (by kernel_rfl) h3 ?_
    refine awp_region ?_
    refine aR 4 ?_
    refine aE ?_
    exact oO hF [] [] rfl
  · refine awp_false (by kernel_rfl) h3 ?_
    refine awp_skip ?_
    exact oO hF [] [] rfl

def fleetmake_Below_R (qx : Int) (qn : Int) (r : Int) : TV × Mem := (.v (.one (.d (.int .i64 r))), ⟨[], []⟩)

theorem fleetmake_Below_ok {qx : Int} {qn : Int} {r} (hF : fleetmake_Below qx qn = some r) : Holds prog 40 [.v (.one (.d (.int .i64 qx))), .v (.one (.d (.int .i64 qn)))] ⟨[], []⟩ (Is (fleetmake_Below_R qx qn r)) := by
  unfold fleetmake_Below at hF
  refine holds_of_awp hΓ (fn := f40) (c := cB f40) (A := 0) (nx := 0) (by kernel_rfl) (by kernel_rfl) (by kernel_rfl) (by kernel_rfl) (by kernel_rfl) (by kernel_rfl) (lowc_of (by kernel_rfl)) ?_
  show Awp prog 0 16 (cB f40) _ _
  refine awp_seq ?_
  refine awp_region ?_
  refine aR 1 ?_
  refine aE ?_
  refine awp_seq ?_
  refine awp_seq ?_
  refine awp_region ?_
  refine aR 2 ?_
  refine aE ?_
  refine cE hF (fun h1 hF => ?_) fun h1 hF => ?_
  · refine awp_true (by kernel_rfl) h1 ?_
    refine awp_seq ?_
    refine awp_region ?_
    refine aR 1 ?_
    refine aE ?_
    refine awp_ret ?_
    exact oF hF [] []
  · refine awp_false (by kernel_rfl) h1 ?_
    refine awp_skip ?_
    refine awp_seq ?_
    refine gE hF fun h2 hF => ?_
    refine awp_region ?_
    refine aR 2 ?_
    refine aX (x_rem h2) ?_
    refine aR 1 ?_
    refine aE ?_
    refine awp_seq ?_
    refine awp_to (st' := fleetmake_Below_x1_I qx qn) (oT [] []) ?_
    refine bE hF fun vx1 h4 hF => ?_
    refine awp_sub (fleetmake_Below_x1_ok qx qn h4) ?_
    refine awp_seq ?_
    refine awp_region ?_
    refine aR 2 ?_
    refine aE ?_
    refine awp_ret ?_
    exact oF hF [] []

/-! ### (*beaconfleet/fleetmake.Stream).Next -/
def fleetmake_Stream_Next_R (qs : fleetmake_Stream) (qn : Int) (r : Int) : TV × Mem := (.v (.one (.d (.int .i64 r))), ⟨[], [(0, [.d (.lst (List.map (encI .i64) qs.L)), .d (.int .i64 (IntKind.wrap .i64 (qs.at_ + 1)))])]⟩)

theorem fleetmake_Stream_Next_ok {qs : fleetmake_Stream} {qn : Int} {r} (hF : fleetmake_Stream_Next qs qn = some r) : Holds prog 17 [.v (.one (.box 0 0)), .v (.one (.d (.int .i64 qn)))] ⟨[], [(0, [.d (.lst (List.map (encI .i64) qs.L)), .d (.int .i64 qs.at_)])]⟩ (Is (fleetmake_Stream_Next_R qs qn r)) := by
  unfold fleetmake_Stream_Next at hF
  refine holds_of_awp hΓ (fn := f17) (c := cB f17) (A := 1) (nx := 1) (by kernel_rfl) (by kernel_rfl) (by kernel_rfl) (by kernel_rfl) (by kernel_rfl) (by kernel_rfl) (lowc_of (by kernel_rfl)) ?_
  show Awp prog 1 64 (cB f17) _ _
  refine awp_seq ?_
  refine awp_region ?_
  refine aR 1 ?_
  refine aE ?_
  refine awp_seq ?_
  refine awp_region ?_
  refine aR 8 ?_
  refine aE ?_
  refine awp_seq ?_
  refine awp_seq ?_
  refine awp_region ?_
  refine aR 4 ?_
  refine aL (encI .i64) qs.L ?_
  refine aR 1 ?_
  refine aE ?_
  refine cE hF (fun h1 hF => ?_) fun h1 hF => ?_
  · refine awp_true (by kernel_rfl) h1 ?_
    refine awp_seq ?_
    refine bE hF fun vr h2 hF => ?_
    refine awp_region ?_
    refine aR 6 ?_
    refine aC (fleetmake_Below_ok h2) [] [] [] ?_
    refine aR 1 ?_
    refine aE ?_
    refine awp_ret ?_
    exact oF hF [] []
  · refine awp_false (by kernel_rfl) h1 ?_
    refine awp_skip ?_
    refine awp_seq ?_
    refine gE hF fun h3 hF => ?_
    refine aD ?_
    refine dR 9 ?_
    refine dL (encI .i64) qs.L ?_
    refine dX (x_rem h3) ?_
    refine dR 1 ?_
    refine dE ?_
    refine awp_seq ?_
    refine aD ?_
    refine dR 9 ?_
    refine dL (encI .i64) qs.L ?_
    refine dX (x_quo h3) ?_
    refine dR 1 ?_
    refine dE ?_
    refine awp_seq ?_
    refine bE hF fun vy h4 hF => ?_
    refine bE hF fun vr1 h5 hF => ?_
    refine bE hF fun vr2 h6 hF => ?_
    refine awp_region ?_
    refine aR 5 ?_
    refine aX (x_idx (encI .i64) h4) ?_
    refine aR 1 ?_
    refine aC (fleetmake_Below_ok h5) [] [] [] ?_
    refine aR 6 ?_
    refine aC (fleetmake_Below_ok h6) [] [] [] ?_
    refine aR 1 ?_
    refine aE ?_
    refine awp_ret ?_
    exact oF hF [] []

/-! ### (*beaconfleet/fleetmake.Stream).Pick -/
def fleetmake_Stream_Pick_o1_R (qs : fleetmake_Stream) (ql : List Int) (r : Int) : TV × Mem := (.v (.one (.d (.int .i64 r))), ⟨[], [(0, [.d (.lst (List.map (encI .i64) qs.L)), .d (.int .i64 (IntKind.wrap .i64 (qs.at_ + 1)))])]⟩)

theorem fleetmake_Stream_Pick_o1_ok {qs : fleetmake_Stream} {ql : List Int} {r} (hF : fleetmake_Stream_Pick_o1 qs ql = some r) : Holds prog 5 [.v (.one (.box 0 0)), .v (.one (.own 1 none))] ⟨[(1, ⟨3, 1, List.map (encI .i64) ql⟩)], [(0, [.d (.lst (List.map (encI .i64) qs.L)), .d (.int .i64 qs.at_)])]⟩ (Is (fleetmake_Stream_Pick_o1_R qs ql r)) := by
  unfold fleetmake_Stream_Pick_o1 at hF
  refine holds_of_awp hΓ (fn := f5) (c := cB f5) (A := 2) (nx := 2) (by kernel_rfl) (by kernel_rfl) (by kernel_rfl) (by kernel_rfl) (by kernel_rfl) (by kernel_rfl) (lowc_of (by kernel_rfl)) ?_
  show Awp prog 2 12 (cB f5) _ _
  refine awp_seq ?_
  refine awp_region ?_
  refine aR 1 ?_
  refine aE ?_
  refine awp_to (oT (m := ⟨[], [(0, [.d (.lst (List.map (encI .i64) qs.L)), .d (.int .i64 qs.at_)])]⟩) (ts := [(0, .v (.one (.box 0 0))), (1, .v (.one (.d (.lst (List.map (encI .i64) ql)))))]) (nx := 2) [] []) ?_
  refine awp_seq ?_
  refine bE hF fun vr3 h1 hF => ?_
  refine bE hF fun vy h2 hF => ?_
  refine awp_region ?_
  refine aR 3 ?_
  refine aL (encI .i64) ql ?_
  refine aC (fleetmake_Stream_Next_ok h1) [] [] [] ?_
  refine aX (x_idx (encI .i64) h2) ?_
  refine aR 2 ?_
  refine aE ?_
  refine awp_ret ?_
  exact oF hF [] []

/-! ### (*beaconfleet/fleetmake.Stream).Place -/
def fleetmake_Stream_Place_R (qs : fleetmake_Stream) (r : api_Spot) : TV × Mem := (.v (.agg [.d (.int .i64 r.X), .d (.int .i64 r.Y)]), ⟨[], [(0, [.d (.lst (List.map (encI .i64) qs.L)), .d (.int .i64 (IntKind.wrap .i64 ((IntKind.wrap .i64 (qs.at_ + 1)) + 1)))])]⟩)

theorem fleetmake_Stream_Place_ok {qs : fleetmake_Stream} {r} (hF : fleetmake_Stream_Place qs = some r) : Holds prog 38 [.v (.one (.box 0 0))] ⟨[], [(0, [.d (.lst (List.map (encI .i64) qs.L)), .d (.int .i64 qs.at_)])]⟩ (Is (fleetmake_Stream_Place_R qs r)) := by
  unfold fleetmake_Stream_Place at hF
  refine holds_of_awp hΓ (fn := f38) (c := cB f38) (A := 1) (nx := 1) (by kernel_rfl) (by kernel_rfl) (by kernel_rfl) (by kernel_rfl) (by kernel_rfl) (by kernel_rfl) (lowc_of (by kernel_rfl)) ?_
  show Awp prog 1 10 (cB f38) _ _
  refine awp_seq ?_
  refine awp_region ?_
  refine aR 1 ?_
  refine aE ?_
  refine awp_seq ?_
  refine bE hF fun vr h1 hF => ?_
  refine bE hF fun vr1 h2 hF => ?_
  refine awp_region ?_
  refine aR 2 ?_
  refine aC (fleetmake_Stream_Pick_o1_ok h1) [(1, 2001)] [] [] ?_
  refine aR 2 ?_
  refine aC (fleetmake_Stream_Pick_o1_ok h2) [(1, 5001)] [] [] ?_
  refine aR 2 ?_
  refine aE ?_
  refine awp_ret ?_
  exact oF hF [] []

/-! ### (*beaconfleet/fleetmake.Stream).Range -/
def fleetmake_Stream_Range_R (qs : fleetmake_Stream) (qlow : Int) (qhigh : Int) (r : fleetmake_Stream × Int) : TV × Mem := (.v (.one (.d (.int .i64 r.2))), ⟨[], [(0, [.d (.lst (List.map (encI .i64) r.1.L)), .d (.int .i64 r.1.at_)])]⟩)

theorem fleetmake_Stream_Range_ok {qs : fleetmake_Stream} {qlow : Int} {qhigh : Int} {r} (hF : fleetmake_Stream_Range qs qlow qhigh = some r) : Holds prog 39 [.v (.one (.box 0 0)), .v (.one (.d (.int .i64 qlow))), .v (.one (.d (.int .i64 qhigh)))] ⟨[], [(0, [.d (.lst (List.map (encI .i64) qs.L)), .d (.int .i64 qs.at_)])]⟩ (Is (fleetmake_Stream_Range_R qs qlow qhigh r)) := by
  unfold fleetmake_Stream_Range at hF
  refine holds_of_awp hΓ (fn := f39) (c := cB f39) (A := 1) (nx := 1) (by kernel_rfl) (by kernel_rfl) (by kernel_rfl) (by kernel_rfl) (by kernel_rfl) (by kernel_rfl) (lowc_of (by kernel_rfl)) ?_
  show Awp prog 1 19 (cB f39) _ _
  refine awp_seq ?_
  refine awp_region ?_
  refine aR 1 ?_
  refine aE ?_
  refine awp_seq ?_
  refine awp_seq ?_
  refine awp_region ?_
  refine aR 3 ?_
  refine aE ?_
  refine cE hF (fun h1 hF => ?_) fun h1 hF => ?_
  · refine awp_true (by kernel_rfl) h1 ?_
    refine awp_seq ?_
    refine awp_region ?_
    refine aR 2 ?_
    refine aE ?_
    refine awp_ret ?_
    exact oF hF [] []
  · refine awp_false (by kernel_rfl) h1 ?_
    refine awp_skip ?_
    refine awp_seq ?_
    refine bE hF fun vr3 h2 hF => ?_
    refine awp_region ?_
    refine aR 6 ?_
    refine aC (fleetmake_Stream_Next_ok h2) [] [] [] ?_
    refine aR 2 ?_
    refine aE ?_
    refine awp_ret ?_
    exact oF hF [] []

/-! ### (*beaconfleet/fleetmake.Stream).Flip -/
def fleetmake_Stream_Flip_R (qs : fleetmake_Stream) (qn : Int) (r : Bool) : TV × Mem := (.v (.one (.d (.bool r))), ⟨[], [(0, [.d (.lst (List.map (encI .i64) qs.L)), .d (.int .i64 (IntKind.wrap .i64 (qs.at_ + 1)))])]⟩)

theorem fleetmake_Stream_Flip_ok {qs : fleetmake_Stream} {qn : Int} {r} (hF : fleetmake_Stream_Flip qs qn = some r) : Holds prog 6 [.v (.one (.box 0 0)), .v (.one (.d (.int .i64 qn)))] ⟨[], [(0, [.d (.lst (List.map (encI .i64) qs.L)), .d (.int .i64 qs.at_)])]⟩ (Is (fleetmake_Stream_Flip_R qs qn r)) := by
  unfold fleetmake_Stream_Flip at hF
  refine holds_of_awp hΓ (fn := f6) (c := cB f6) (A := 1) (nx := 1) (by kernel_rfl) (by kernel_rfl) (by kernel_rfl) (by kernel_rfl) (by kernel_rfl) (by kernel_rfl) (lowc_of (by kernel_rfl)) ?_
  show Awp prog 1 9 (cB f6) _ _
  refine awp_seq ?_
  refine awp_region ?_
  refine aR 1 ?_
  refine aE ?_
  refine awp_seq ?_
  refine bE hF fun vr3 h1 hF => ?_
  refine awp_region ?_
  refine aR 2 ?_
  refine aC (fleetmake_Stream_Next_ok h1) [] [] [] ?_
  refine aR 2 ?_
  refine aE ?_
  refine awp_ret ?_
  exact oF hF [] []

/-! ### (*beaconfleet/fleetmake.Stream).RightTrack -/
def fleetmake_Stream_RightTrack_x2_k : (fleetmake_Stream × api_Spot) → AEx
  | _ => .normal

def fleetmake_Stream_RightTrack_x2_S (vr : Int) (vs1 : fleetmake_Stream) (vp : api_Spot) (vout : List api_Fix) (vat : Int) (vx : Int) (vr9 : Int) : (fleetmake_Stream × api_Spot) → St
  | (vs8, vp2) => Mem.st ⟨[(2, ⟨31, 5, List.map api_Fix.enc vout⟩)], [(0, [.d (.lst (List.map (encI .i64) vs8.L)), .d (.int .i64 vs8.at_)]), (1, [.d (.int .i64 vp2.X), .d (.int .i64 vp2.Y)])]⟩ (tl [(0, .v (.one (.box 0 0))), (5, .v (.one (.own 2 none))), (6, .v (.one (.d (.int .i64 (IntKind.wrap .i64 (vat + vr9)))))), (7, .v (.one (.box 1 0))), (13, .v (.one (.d (.int .i64 vr)))), (14, .v (.one (.d (.int .i64 vx))))]) 3

def fleetmake_Stream_RightTrack_x2_I (vr : Int) (vs1 : fleetmake_Stream) (vp : api_Spot) (vout : List api_Fix) (vat : Int) (vx : Int) (vr9 : Int) : St := Mem.st ⟨[(2, ⟨31, 5, List.map api_Fix.enc vout⟩)], [(0, [.d (.lst (List.map (encI .i64) vs1.L)), .d (.int .i64 (IntKind.wrap .i64 (vs1.at_ + 1)))]), (1, [.d (.int .i64 vp.X), .d (.int .i64 vp.Y)])]⟩ (tl [(0, .v (.one (.box 0 0))), (5, .v (.one (.own 2 none))), (6, .v (.one (.d (.int .i64 (IntKind.wrap .i64 (vat + vr9)))))), (7, .v (.one (.box 1 0))), (13, .v (.one (.d (.int .i64 vr)))), (14, .v (.one (.d (.int .i64 vx))))]) 3

theorem fleetmake_Stream_RightTrack_x2_ok (vr : Int) (vs1 : fleetmake_Stream) (vp : api_Spot) (vout : List api_Fix) (vat : Int) (vx : Int) (vr9 : Int) {r} (hF : fleetmake_Stream_RightTrack_x2 vs1 vp = some r) : Awp prog 1 57 (cL (cR (cL (cL (cR (cR (cL (cL (cR (cL (cR (cR (cR (cR (cB f16))))))))))))))) (Out 1 fleetmake_Stream_RightTrack_x2_k (fleetmake_Stream_RightTrack_x2_S vr vs1 vp vout vat vx vr9) r) (fleetmake_Stream_RightTrack_x2_I vr vs1 vp vout vat vx vr9) := by
  unfold fleetmake_Stream_RightTrack_x2 at hF
  refine awp_seq ?_
  refine bE hF fun vr10 h5 hF => ?_
  refine awp_region ?_
  refine aR 1 ?_
  refine aC (fleetmake_Stream_Flip_ok h5) [] [] [] ?_
  refine aE ?_
  refine cE hF (fun h6 hF => ?_) fun h6 hF => ?_
  · refine awp_true (by kernel_rfl) h6 ?_
    refine bE hF fun vr2_2 h7 hF => ?_
    refine awp_region ?_
    refine aR 1 ?_
    refine aC (fleetmake_Stream_Place_ok h7) [] [] [] ?_
    refine aR 1 ?_
    refine aE ?_
    exact oO hF [] [] rfl
  · refine awp_false (by kernel_rfl) h6 ?_
    refine bE hF fun x h8 hF => ?_
    obtain ⟨vs6, vr11⟩ := x
    refine bE hF fun x h9 hF => ?_
    obtain ⟨vs7, vr12⟩ := x
    refine aD ?_
    refine dR 3 ?_
    refine dC (fleetmake_Stream_Range_ok h8) [] [] [] ?_
    refine dR 4 ?_
    refine dC (fleetmake_Stream_Range_ok h9) [] [] [] ?_
    refine dR 3 ?_
    refine dE ?_
    exact oO hF [] [] rfl

def fleetmake_Stream_RightTrack_x3_k : (fleetmake_Stream × api_Fix) → AEx
  | _ => .normal

def fleetmake_Stream_RightTrack_x3_S (vr : Int) (vout : List api_Fix) (vat : Int) (vx : Int) (vr9 : Int) (vs8_1 : fleetmake_Stream) (vp2_1 : api_Spot) (vr13 : Int) : (fleetmake_Stream × api_Fix) → St
  | (vs9, vx2) => Mem.st ⟨[(3, ⟨31, 5, List.map api_Fix.enc vout⟩)], [(0, [.d (.lst (List.map (encI .i64) vs9.L)), .d (.int .i64 vs9.at_)]), (1, [.d (.int .i64 vp2_1.X), .d (.int .i64 vp2_1.Y)]), (2, [.d (.str vx2.Device), .d (.int .i64 vx2.At), .d (.int .i64 vx2.X), .d (.int .i64 vx2.Y), .d (.int .i64 vx2.Error)])]⟩ (tl [(0, .v (.one (.box 0 0))), (5, .v (.one (.own 3 none))), (6, .v (.one (.d (.int .i64 (IntKind.wrap .i64 (vat + vr9)))))), (7, .v (.one (.box 1 0))), (8, .v (.one (.box 2 0))), (13, .v (.one (.d (.int .i64 vr)))), (14, .v (.one (.d (.int .i64 vx))))]) 4

def fleetmake_Stream_RightTrack_x3_I (vr : Int) (vout : List api_Fix) (vat : Int) (vx : Int) (vr9 : Int) (vs8_1 : fleetmake_Stream) (vp2_1 : api_Spot) (vr13 : Int) : St := Mem.st ⟨[(3, ⟨31, 5, List.map api_Fix.enc vout⟩)], [(0, [.d (.lst (List.map (encI .i64) vs8_1.L)), .d (.int .i64 (IntKind.wrap .i64 (vs8_1.at_ + 1)))]), (1, [.d (.int .i64 vp2_1.X), .d (.int .i64 vp2_1.Y)]), (2, [.d (.str ([100] : List UInt8)), .d (.int .i64 (IntKind.wrap .i64 (vat + vr9))), .d (.int .i64 vp2_1.X), .d (.int .i64 vp2_1.Y), .d (.int .i64 vr13)])]⟩ (tl [(0, .v (.one (.box 0 0))), (5, .v (.one (.own 3 none))), (6, .v (.one (.d (.int .i64 (IntKind.wrap .i64 (vat + vr9)))))), (7, .v (.one (.box 1 0))), (8, .v (.one (.box 2 0))), (13, .v (.one (.d (.int .i64 vr)))), (14, .v (.one (.d (.int .i64 vx))))]) 4

theorem fleetmake_Stream_RightTrack_x3_ok (vr : Int) (vout : List api_Fix) (vat : Int) (vx : Int) (vr9 : Int) (vs8_1 : fleetmake_Stream) (vp2_1 : api_Spot) (vr13 : Int) {r} (hF : fleetmake_Stream_RightTrack_x3 vat vr9 vs8_1 vp2_1 vr13 = some r) : Awp prog 1 57 (cL (cR (cR (cR (cL (cL (cR (cR (cL (cL (cR (cL (cR (cR (cR (cR (cB f16))))))))))))))))) (Out 1 fleetmake_Stream_RightTrack_x3_k (fleetmake_Stream_RightTrack_x3_S vr vout vat vx vr9 vs8_1 vp2_1 vr13) r) (fleetmake_Stream_RightTrack_x3_I vr vout vat vx vr9 vs8_1 vp2_1 vr13) := by
  unfold fleetmake_Stream_RightTrack_x3 at hF
  refine awp_seq ?_
  refine bE hF fun vr14 h12 hF => ?_
  refine awp_region ?_
  refine aR 1 ?_
  refine aC (fleetmake_Stream_Flip_ok h12) [] [] [] ?_
  refine aE ?_
  refine cE hF (fun h13 hF => ?_) fun h13 hF => ?_
  · refine awp_true (by kernel_rfl) h13 ?_
    refine bE hF fun vr15 h14 hF => ?_
    refine awp_region ?_
    refine aR 2 ?_
    refine aC (fleetmake_Stream_Pick_o1_ok h14) [(1, 3004)] [] [] ?_
    refine aR 2 ?_
    refine aE ?_
    exact oO hF [] [] rfl
  · refine awp_false (by kernel_rfl) h13 ?_
    refine awp_skip ?_
    exact oO hF [] [] rfl

def fleetmake_Stream_RightTrack_x1_k : (fleetmake_Stream × (List api_Fix)) → AEx
  | _ => .exit 0

def fleetmake_Stream_RightTrack_x1_S (vr : Int) : (fleetmake_Stream × (List api_Fix)) → St
  | (vs10, vout1) => Mem.st ⟨[(1, ⟨31, 5, List.map api_Fix.enc vout1⟩)], [(0, [.d (.lst (List.map (encI .i64) vs10.L)), .d (.int .i64 vs10.at_)])]⟩ (tl [(5, .v (.one (.own 1 none)))]) 2

def fleetmake_Stream_RightTrack_x1_H (vr : Int) : fleetmake_Stream × api_Spot × (List api_Fix) × Int × Int → St
  | (vs1, vp, vout, vat, vx) => Mem.st ⟨[(2, ⟨31, 5, List.map api_Fix.enc vout⟩)], [(0, [.d (.lst (List.map (encI .i64) vs1.L)), .d (.int .i64 vs1.at_)]), (1, [.d (.int .i64 vp.X), .d (.int .i64 vp.Y)])]⟩ (tl [(0, .v (.one (.box 0 0))), (5, .v (.one (.own 2 none))), (6, .v (.one (.d (.int .i64 vat)))), (7, .v (.one (.box 1 0))), (13, .v (.one (.d (.int .i64 vr)))), (14, .v (.one (.d (.int .i64 vx))))]) 3

theorem fleetmake_Stream_RightTrack_x1_ok (vr : Int) (s : fleetmake_Stream × api_Spot × (List api_Fix) × Int × Int) (r : (fleetmake_Stream × api_Spot × (List api_Fix) × Int × Int) ⊕ ((fleetmake_Stream × (List api_Fix)))) (hF : fleetmake_Stream_RightTrack_x1 vr s = some r) : Awp prog 1 57 (cL (cL (cR (cL (cR (cR (cR (cR (cB f16))))))))) (Out 1 (kk fleetmake_Stream_RightTrack_x1_k) (SS (fleetmake_Stream_RightTrack_x1_H vr) (fleetmake_Stream_RightTrack_x1_S vr)) r) (fleetmake_Stream_RightTrack_x1_H vr s) := by
  obtain ⟨vs1, vp, vout, vat, vx⟩ := s
  unfold fleetmake_Stream_RightTrack_x1 at hF
  refine awp_seq ?_
  refine awp_region ?_
  refine aR 1 ?_
  refine aE ?_
  refine awp_seq ?_
  refine cE hF (fun h3 hF => ?_) fun h3 hF => ?_
  · refine awp_true (by kernel_rfl) h3 ?_
    refine awp_skip ?_
    refine awp_seq ?_
    refine awp_block ?_
    refine awp_seq ?_
    refine bE hF fun vr9 h4 hF => ?_
    refine awp_region ?_
    refine aR 3 ?_
    refine aC (fleetmake_Stream_Pick_o1_ok h4) [(1, 3003)] [] [] ?_
    refine aR 2 ?_
    refine aE ?_
    refine awp_seq ?_
    refine awp_to (st' := fleetmake_Stream_RightTrack_x2_I vr vs1 vp vout vat vx vr9) (oT [] []) ?_
    refine bE hF fun x h10 hF => ?_
    obtain ⟨vs8_1, vp2_1⟩ := x
    refine awp_sub (fleetmake_Stream_RightTrack_x2_ok vr vs1 vp vout vat vx vr9 h10) ?_
    refine awp_seq ?_
    refine bE hF fun vr13 h11 hF => ?_
    refine aD ?_
    refine dR 7 ?_
    refine dC (fleetmake_Stream_Pick_o1_ok h11) [(1, 6003)] [] [] ?_
    refine dR 3 ?_
    refine dE ?_
    refine awp_seq ?_
    refine awp_to (st' := fleetmake_Stream_RightTrack_x3_I vr vout vat vx vr9 vs8_1 vp2_1 vr13) (oT [(2, 9003), (3, 2)] []) ?_
    refine bE hF fun x h15 hF => ?_
    obtain ⟨vs9_1, vx2_1⟩ := x
    refine awp_sub (fleetmake_Stream_RightTrack_x3_ok vr vout vat vx vr9 vs8_1 vp2_1 vr13 h15) ?_
    refine gE hF fun h16 hF => ?_
    refine awp_region ?_
    refine aR 3 ?_
    refine aX (x_app api_Fix.enc 3 h16) ?_
    refine aR 1 ?_
    refine aE ?_
    refine awp_region ?_
    refine aR 2 ?_
    refine aE ?_
    exact oO hF [(2, 3004)] [] rfl
  · refine awp_false (by kernel_rfl) h3 ?_
    refine awp_exit ?_
    exact oO hF [(1, 2)] [] rfl

def fleetmake_Stream_RightTrack_R (qs : fleetmake_Stream) (qmost : Int) (r : fleetmake_Stream × (List api_Fix)) : TV × Mem := (.v (.one (.own 1 none)), ⟨[(1, ⟨31, 5, List.map api_Fix.enc r.2⟩)], [(0, [.d (.lst (List.map (encI .i64) r.1.L)), .d (.int .i64 r.1.at_)])]⟩)

theorem fleetmake_Stream_RightTrack_ok {qs : fleetmake_Stream} {qmost : Int} {r} (hF : fleetmake_Stream_RightTrack qs qmost = some r) : Holds prog 16 [.v (.one (.box 0 0)), .v (.one (.d (.int .i64 qmost)))] ⟨[], [(0, [.d (.lst (List.map (encI .i64) qs.L)), .d (.int .i64 qs.at_)])]⟩ (Is (fleetmake_Stream_RightTrack_R qs qmost r)) := by
  unfold fleetmake_Stream_RightTrack at hF
  refine holds_of_awp hΓ (fn := f16) (c := cB f16) (A := 1) (nx := 1) (by kernel_rfl) (by kernel_rfl) (by kernel_rfl) (by kernel_rfl) (by kernel_rfl) (by kernel_rfl) (lowc_of (by kernel_rfl)) ?_
  show Awp prog 1 57 (cB f16) _ _
  refine awp_seq ?_
  refine awp_region ?_
  refine aR 1 ?_
  refine aE ?_
  refine awp_seq ?_
  refine awp_region ?_
  refine aR 1 ?_
  refine aE ?_
  refine awp_seq ?_
  refine awp_region ?_
  refine aR 1 ?_
  refine aE ?_
  refine awp_seq ?_
  refine bE hF fun vr2 h1 hF => ?_
  refine awp_region ?_
  refine aR 1 ?_
  refine aC (fleetmake_Stream_Place_ok h1) [] [] [] ?_
  refine aR 2 ?_
  refine aE ?_
  refine awp_seq ?_
  refine awp_seq ?_
  refine bE hF fun x h2 hF => ?_
  obtain ⟨vs, vr⟩ := x
  refine awp_region ?_
  refine aR 2 ?_
  refine aC (fleetmake_Stream_Range_ok h2) [] [] [] ?_
  refine aR 1 ?_
  refine aE ?_
  refine awp_block ?_
  refine awp_to (st' := fleetmake_Stream_RightTrack_x1_H vr (vs, vr2, [], 0, 0)) (oT [(1, 5001)] [2]) ?_
  refine bE hF fun x h17 hF => ?_
  obtain ⟨vs10_1, vout1_1⟩ := x
  refine awp_sub (awp_loop' (fleetmake_Stream_RightTrack_x1_H vr) fleetmake_Stream_RightTrack_x1_k (fleetmake_Stream_RightTrack_x1_S vr) (by intro x; exact fun h => nomatch h) h17 (fleetmake_Stream_RightTrack_x1_ok vr)) ?_
  refine awp_seq ?_
  refine awp_region ?_
  refine aR 2 ?_
  refine aE ?_
  refine awp_ret ?_
  exact oF hF [] []

/-! ### (*beaconfleet/fleetmake.Stream).Some -/
def fleetmake_Stream_Some_o1_R (qs : fleetmake_Stream) (ql : List (List UInt8)) (r : (List UInt8)) : TV × Mem := (.v (.one (.d (.str r))), ⟨[], [(0, [.d (.lst (List.map (encI .i64) qs.L)), .d (.int .i64 (IntKind.wrap .i64 (qs.at_ + 1)))])]⟩)

theorem fleetmake_Stream_Some_o1_ok {qs : fleetmake_Stream} {ql : List (List UInt8)} {r} (hF : fleetmake_Stream_Some_o1 qs ql = some r) : Holds prog 18 [.v (.one (.box 0 0)), .v (.one (.own 1 none))] ⟨[(1, ⟨9, 1, List.map encS ql⟩)], [(0, [.d (.lst (List.map (encI .i64) qs.L)), .d (.int .i64 qs.at_)])]⟩ (Is (fleetmake_Stream_Some_o1_R qs ql r)) := by
  unfold fleetmake_Stream_Some_o1 at hF
  refine holds_of_awp hΓ (fn := f18) (c := cB f18) (A := 2) (nx := 2) (by kernel_rfl) (by kernel_rfl) (by kernel_rfl) (by kernel_rfl) (by kernel_rfl) (by kernel_rfl) (lowc_of (by kernel_rfl)) ?_
  show Awp prog 2 12 (cB f18) _ _
  refine awp_seq ?_
  refine awp_region ?_
  refine aR 1 ?_
  refine aE ?_
  refine awp_to (oT (m := ⟨[], [(0, [.d (.lst (List.map (encI .i64) qs.L)), .d (.int .i64 qs.at_)])]⟩) (ts := [(0, .v (.one (.box 0 0))), (1, .v (.one (.d (.lst (List.map encS ql)))))]) (nx := 2) [] []) ?_
  refine awp_seq ?_
  refine bE hF fun vr3 h1 hF => ?_
  refine bE hF fun vy h2 hF => ?_
  refine awp_region ?_
  refine aR 3 ?_
  refine aL encS ql ?_
  refine aC (fleetmake_Stream_Next_ok h1) [] [] [] ?_
  refine aX (x_idx encS h2) ?_
  refine aR 2 ?_
  refine aE ?_
  refine awp_ret ?_
  exact oF hF [] []

/-! ### (*beaconfleet/fleetmake.Stream).Odd -/
def fleetmake_Stream_Odd_R (qs : fleetmake_Stream) (qlow : Int) (qhigh : Int) (r : fleetmake_Stream × Int) : TV × Mem := (.v (.one (.d (.int .i64 r.2))), ⟨[], [(0, [.d (.lst (List.map (encI .i64) r.1.L)), .d (.int .i64 r.1.at_)])]⟩)

theorem fleetmake_Stream_Odd_ok {qs : fleetmake_Stream} {qlow : Int} {qhigh : Int} {r} (hF : fleetmake_Stream_Odd qs qlow qhigh = some r) : Holds prog 19 [.v (.one (.box 0 0)), .v (.one (.d (.int .i64 qlow))), .v (.one (.d (.int .i64 qhigh)))] ⟨[], [(0, [.d (.lst (List.map (encI .i64) qs.L)), .d (.int .i64 qs.at_)])]⟩ (Is (fleetmake_Stream_Odd_R qs qlow qhigh r)) := by
  unfold fleetmake_Stream_Odd at hF
  refine holds_of_awp hΓ (fn := f19) (c := cB f19) (A := 1) (nx := 1) (by kernel_rfl) (by kernel_rfl) (by kernel_rfl) (by kernel_rfl) (by kernel_rfl) (by kernel_rfl) (lowc_of (by kernel_rfl)) ?_
  show Awp prog 1 22 (cB f19) _ _
  refine awp_seq ?_
  refine awp_region ?_
  refine aR 1 ?_
  refine aE ?_
  refine awp_seq ?_
  refine awp_seq ?_
  refine bE hF fun vr h1 hF => ?_
  refine awp_region ?_
  refine aR 1 ?_
  refine aC (fleetmake_Stream_Flip_ok h1) [] [] [] ?_
  refine aE ?_
  refine cE hF (fun h2 hF => ?_) fun h2 hF => ?_
  · refine awp_true (by kernel_rfl) h2 ?_
    refine awp_seq ?_
    refine bE hF fun vr1 h3 hF => ?_
    refine awp_region ?_
    refine aR 8 ?_
    refine aC (fleetmake_Stream_Pick_o1_ok h3) [(1, 10001)] [] [] ?_
    refine aR 1 ?_
    refine aE ?_
    refine awp_ret ?_
    exact oF hF [] []
  · refine awp_false (by kernel_rfl) h2 ?_
    refine awp_skip ?_
    refine awp_seq ?_
    refine bE hF fun x h4 hF => ?_
    obtain ⟨vs, vr2⟩ := x
    refine awp_region ?_
    refine aR 3 ?_
    refine aC (fleetmake_Stream_Range_ok h4) [] [] [] ?_
    refine aR 1 ?_
    refine aE ?_
    refine awp_ret ?_
    exact oF hF [] []

/-! ### (*beaconfleet/fleetmake.Stream).Track -/
def fleetmake_Stream_Track_x2_k : (fleetmake_Stream × Bool) → AEx
  | _ => .normal

def fleetmake_Stream_Track_x2_S (vs11 : fleetmake_Stream) (vr16 : List api_Fix) : (fleetmake_Stream × Bool) → St
  | (vs, vx) => Mem.st ⟨[(1, ⟨31, 5, List.map api_Fix.enc vr16⟩)], [(0, [.d (.lst (List.map (encI .i64) vs.L)), .d (.int .i64 vs.at_)])]⟩ (tl [(0, .v (.one (.box 0 0))), (5, .v (.one (.own 1 none))), (16, .v (.one (.d (.bool vx))))]) 2

def fleetmake_Stream_Track_x2_I (vs11 : fleetmake_Stream) (vr16 : List api_Fix) : St := Mem.st ⟨[(1, ⟨31, 5, List.map api_Fix.enc vr16⟩)], [(0, [.d (.lst (List.map (encI .i64) vs11.L)), .d (.int .i64 vs11.at_)])]⟩ (tl [(0, .v (.one (.box 0 0))), (5, .v (.one (.own 1 none)))]) 2

theorem fleetmake_Stream_Track_x2_ok (vs11 : fleetmake_Stream) (vr16 : List api_Fix) {r} (hF : fleetmake_Stream_Track_x2 vs11 vr16 = some r) : Awp prog 1 53 (cL (cL (cR (cR (cB f4))))) (Out 1 fleetmake_Stream_Track_x2_k (fleetmake_Stream_Track_x2_S vs11 vr16) r) (fleetmake_Stream_Track_x2_I vs11 vr16) := by
  unfold fleetmake_Stream_Track_x2 at hF
  refine cE hF (fun h2 hF => ?_) fun h2 hF => ?_
  · refine bE hF fun vr h3 hF => ?_
    refine awp_region ?_
    refine aR 1 ?_
    refine aL api_Fix.enc vr16 ?_
    refine aB h2 ?_
    refine aR 2 ?_
    refine aC (fleetmake_Stream_Flip_ok h3) [] [] [] ?_
    refine aR 1 ?_
    refine aE ?_
    exact oO hF [] [] rfl
  · refine awp_region ?_
    refine aR 1 ?_
    refine aL api_Fix.enc vr16 ?_
    refine aB h2 ?_
    refine aR 4 ?_
    refine aE ?_
    exact oO hF [] [] rfl

def fleetmake_Stream_Track_x1_k : (fleetmake_Stream × (List api_Fix)) → AEx
  | _ => .normal

def fleetmake_Stream_Track_x1_S (vs11 : fleetmake_Stream) (vr16 : List api_Fix) : (fleetmake_Stream × (List api_Fix)) → St
  | (vs2, vout) => Mem.st ⟨[(1, ⟨31, 5, List.map api_Fix.enc vout⟩)], [(0, [.d (.lst (List.map (encI .i64) vs2.L)), .d (.int .i64 vs2.at_)])]⟩ (tl [(5, .v (.one (.own 1 none)))]) 2

def fleetmake_Stream_Track_x1_I (vs11 : fleetmake_Stream) (vr16 : List api_Fix) : St := Mem.st ⟨[(1, ⟨31, 5, List.map api_Fix.enc vr16⟩)], [(0, [.d (.lst (List.map (encI .i64) vs11.L)), .d (.int .i64 vs11.at_)])]⟩ (tl [(0, .v (.one (.box 0 0))), (5, .v (.one (.own 1 none)))]) 2

theorem fleetmake_Stream_Track_x1_ok (vs11 : fleetmake_Stream) (vr16 : List api_Fix) {r} (hF : fleetmake_Stream_Track_x1 vs11 vr16 = some r) : Awp prog 1 53 (cL (cR (cR (cB f4)))) (Out 1 fleetmake_Stream_Track_x1_k (fleetmake_Stream_Track_x1_S vs11 vr16) r) (fleetmake_Stream_Track_x1_I vs11 vr16) := by
  unfold fleetmake_Stream_Track_x1 at hF
  refine awp_seq ?_
  refine awp_to (st' := fleetmake_Stream_Track_x2_I vs11 vr16) (oT [] []) ?_
  refine bE hF fun x h4 hF => ?_
  obtain ⟨vs1, vx1⟩ := x
  refine awp_sub (fleetmake_Stream_Track_x2_ok vs11 vr16 h4) ?_
  refine cE hF (fun h5 hF => ?_) fun h5 hF => ?_
  · refine awp_true (by kernel_rfl) h5 ?_
    refine awp_seq ?_
    refine bE hF fun vr3 h6 hF => ?_
    refine bE hF fun vy h7 hF => ?_
    refine awp_region ?_
    refine aR 3 ?_
    refine aL api_Fix.enc vr16 ?_
    refine aC (fleetmake_Stream_Next_ok h6) [] [] [] ?_
    refine aX (x_idxO api_Fix.enc 1 h7) ?_
    refine aR 1 ?_
    refine aE ?_
    refine awp_seq ?_
    refine bE hF fun vr3_1 h8 hF => ?_
    refine awp_region ?_
    refine aR 1 ?_
    refine aC (fleetmake_Stream_Next_ok h8) [] [] [] ?_
    refine aE ?_
    refine awp_block ?_
    refine awp_seq ?_
    refine awp_region ?_
    refine aR 2 ?_
    refine aE ?_
    refine cE hF (fun h9 hF => ?_) fun h9 hF => ?_
    · refine awp_true (by kernel_rfl) h9 ?_
      refine bE hF fun vr1 h10 hF => ?_
      refine awp_region ?_
      refine aR 3 ?_
      refine aC (fleetmake_Stream_Some_o1_ok h10) [(1, 13002)] [] [] ?_
      refine aR 2 ?_
      refine aX (x_stE api_Fix.enc (api_Fix.mk vr1 vy.At vy.X vy.Y vy.Error) h7) ?_
      refine aE ?_
      exact oO hF [] [] rfl
    · refine awp_false (by kernel_rfl) h9 ?_
      refine awp_seq ?_
      refine awp_region ?_
      refine aR 2 ?_
      refine aE ?_
      refine cE hF (fun h11 hF => ?_) fun h11 hF => ?_
      · refine awp_true (by kernel_rfl) h11 ?_
        refine bE hF fun x h12 hF => ?_
        obtain ⟨vs1_1, vr3_2⟩ := x
        refine awp_region ?_
        refine aR 2 ?_
        refine aC (fleetmake_Stream_Odd_ok h12) [] [] [] ?_
        refine aR 2 ?_
        refine aX (x_stE api_Fix.enc (api_Fix.mk vy.Device vr3_2 vy.X vy.Y vy.Error) h7) ?_
        refine aE ?_
        exact oO hF [] [] rfl
      · refine awp_false (by kernel_rfl) h11 ?_
        refine awp_seq ?_
        refine awp_region ?_
        refine aR 2 ?_
        refine aE ?_
        refine cE hF (fun h13 hF => ?_) fun h13 hF => ?_
        · refine awp_true (by kernel_rfl) h13 ?_
          refine bE hF fun x h14 hF => ?_
          obtain ⟨vs1_2, vr3_3⟩ := x
          refine awp_region ?_
          refine aR 2 ?_
          refine aC (fleetmake_Stream_Odd_ok h14) [] [] [] ?_
          refine aR 2 ?_
          refine aX (x_stE api_Fix.enc (api_Fix.mk vy.Device vy.At vr3_3 vy.Y vy.Error) h7) ?_
          refine aE ?_
          exact oO hF [] [] rfl
        · refine awp_false (by kernel_rfl) h13 ?_
          refine bE hF fun x h15 hF => ?_
          obtain ⟨vs1_3, vr3_4⟩ := x
          refine awp_region ?_
          refine aR 2 ?_
          refine aC (fleetmake_Stream_Odd_ok h15) [] [] [] ?_
          refine aR 2 ?_
          refine aX (x_stE api_Fix.enc (api_Fix.mk vy.Device vy.At vy.X vy.Y vr3_4) h7) ?_
          refine aE ?_
          exact oO hF [] [] rfl
  · refine awp_false (by kernel_rfl) h5 ?_
    refine awp_skip ?_
    exact oO hF [] [] rfl

def fleetmake_Stream_Track_R (qs : fleetmake_Stream) (qmost : Int) (r : fleetmake_Stream × (List api_Fix)) : TV × Mem := (.v (.one (.own 1 none)), ⟨[(1, ⟨31, 5, List.map api_Fix.enc r.2⟩)], [(0, [.d (.lst (List.map (encI .i64) r.1.L)), .d (.int .i64 r.1.at_)])]⟩)

theorem fleetmake_Stream_Track_ok {qs : fleetmake_Stream} {qmost : Int} {r} (hF : fleetmake_Stream_Track qs qmost = some r) : Holds prog 4 [.v (.one (.box 0 0)), .v (.one (.d (.int .i64 qmost)))] ⟨[], [(0, [.d (.lst (List.map (encI .i64) qs.L)), .d (.int .i64 qs.at_)])]⟩ (Is (fleetmake_Stream_Track_R qs qmost r)) := by
  unfold fleetmake_Stream_Track at hF
  refine holds_of_awp hΓ (fn := f4) (c := cB f4) (A := 1) (nx := 1) (by kernel_rfl) (by kernel_rfl) (by kernel_rfl) (by kernel_rfl) (by kernel_rfl) (by kernel_rfl) (lowc_of (by kernel_rfl)) ?_
  show Awp prog 1 53 (cB f4) _ _
  refine awp_seq ?_
  refine awp_region ?_
  refine aR 1 ?_
  refine aE ?_
  refine awp_seq ?_
  refine bE hF fun x h1 hF => ?_
  obtain ⟨vs11, vr16⟩ := x
  refine awp_region ?_
  refine aR 2 ?_
  refine aC (fleetmake_Stream_RightTrack_ok h1) [] [] [] ?_
  refine aR 1 ?_
  refine aE ?_
  refine awp_seq ?_
  refine awp_to (st' := fleetmake_Stream_Track_x1_I vs11 vr16) (oT [(1, 3002)] []) ?_
  refine bE hF fun x h16 hF => ?_
  obtain ⟨vs2_1, vout1⟩ := x
  refine awp_sub (fleetmake_Stream_Track_x1_ok vs11 vr16 h16) ?_
  refine awp_seq ?_
  refine awp_region ?_
  refine aR 2 ?_
  refine aE ?_
  refine awp_ret ?_
  exact oF hF [] []

/-! ### beaconfleet/base.Key -/
def base_Key_x1_k : Bool → AEx
  | _ => .normal

def base_Key_x1_S (qs : List UInt8) : Bool → St
  | vx => Mem.st ⟨[], []⟩ (tl [(0, .v (.one (.d (.str qs)))), (21, .v (.one (.d (.bool vx))))]) 0

def base_Key_x1_I (qs : List UInt8) : St := Mem.st ⟨[], []⟩ (tl [(0, .v (.one (.d (.str qs))))]) 0

theorem base_Key_x1_ok (qs : List UInt8) {r} (hF : base_Key_x1 qs = some r) : Awp prog 0 54 (cL (cL (cR (cB f61)))) (Out 0 base_Key_x1_k (base_Key_x1_S qs) r) (base_Key_x1_I qs) := by
  unfold base_Key_x1 at hF
  refine cE hF (fun h1 hF => ?_) fun h1 hF => ?_
  · refine awp_region ?_
    refine aR 1 ?_
    refine aB h1 ?_
    refine aR 15 ?_
    refine aE ?_
    exact oO hF [] [] rfl
  · refine cE hF (fun h2 hF => ?_) fun h2 hF => ?_
    · refine awp_region ?_
      refine aR 1 ?_
      refine aB h1 ?_
      refine aR 3 ?_
      refine aB h2 ?_
      refine aR 11 ?_
      refine aE ?_
      exact oO hF [] [] rfl
    · refine bE hF fun vc h3 hF => ?_
      refine cE hF (fun h4 hF => ?_) fun h4 hF => ?_
      · refine awp_region ?_
        refine aR 1 ?_
        refine aB h1 ?_
        refine aR 3 ?_
        refine aB h2 ?_
        refine aR 3 ?_
        refine aX (x_idxS h3) ?_
        refine aB h4 ?_
        refine aR 6 ?_
        refine aE ?_
        exact oO hF [] [] rfl
      · refine awp_region ?_
        refine aR 1 ?_
        refine aB h1 ?_
        refine aR 3 ?_
        refine aB h2 ?_
        refine aR 3 ?_
        refine aX (x_idxS h3) ?_
        refine aB h4 ?_
        refine aR 3 ?_
        refine aX (x_idxS h3) ?_
        refine aR 2 ?_
        refine aE ?_
        exact oO hF [] [] rfl

def base_Key_x3_k : Bool → AEx
  | _ => .normal

def base_Key_x3_S (qs : List UInt8) (vx2 : Int) (vc2 : UInt8) : Bool → St
  | vx4 => Mem.st ⟨[], []⟩ (tl [(0, .v (.one (.d (.str qs)))), (23, .v (.one (.d (.int .i64 (qs.length : Int))))), (24, .v (.one (.d (.int .i64 vx2)))), (52, .v (.one (.d (.bool vx4))))]) 0

def base_Key_x3_I (qs : List UInt8) (vx2 : Int) (vc2 : UInt8) : St := Mem.st ⟨[], []⟩ (tl [(0, .v (.one (.d (.str qs)))), (4, .v (.one (.d (.int .u8 (vc2.toNat : Int))))), (23, .v (.one (.d (.int .i64 (qs.length : Int))))), (24, .v (.one (.d (.int .i64 vx2))))]) 0

theorem base_Key_x3_ok (qs : List UInt8) (vx2 : Int) (vc2 : UInt8) {r} (hF : base_Key_x3 vc2 = some r) : Awp prog 0 54 (cL (cR (cR (cL (cL (cR (cR (cL (cL (cR (cL (cR (cR (cB f61)))))))))))))) (Out 0 base_Key_x3_k (base_Key_x3_S qs vx2 vc2) r) (base_Key_x3_I qs vx2 vc2) := by
  unfold base_Key_x3 at hF
  refine cE hF (fun h9 hF => ?_) fun h9 hF => ?_
  · refine cE hF (fun h10 hF => ?_) fun h10 hF => ?_
    · refine awp_region ?_
      refine aR 1 ?_
      refine aB h9 ?_
      refine aR 2 ?_
      refine aB h10 ?_
      refine aR 18 ?_
      refine aE ?_
      exact oO hF [] [] rfl
    · refine cE hF (fun h11 hF => ?_) fun h11 hF => ?_
      · refine cE hF (fun h12 hF => ?_) fun h12 hF => ?_
        · refine awp_region ?_
          refine aR 1 ?_
          refine aB h9 ?_
          refine aR 2 ?_
          refine aB h10 ?_
          refine aR 3 ?_
          refine aB h11 ?_
          refine aR 2 ?_
          refine aB h12 ?_
          refine aR 11 ?_
          refine aE ?_
          exact oO hF [] [] rfl
        · refine cE hF (fun h13 hF => ?_) fun h13 hF => ?_
          · refine awp_region ?_
            refine aR 1 ?_
            refine aB h9 ?_
            refine aR 2 ?_
            refine aB h10 ?_
            refine aR 3 ?_
            refine aB h11 ?_
            refine aR 2 ?_
            refine aB h12 ?_
            refine aR 4 ?_
            refine aB h13 ?_
            refine aR 6 ?_
            refine aE ?_
            exact oO hF [] [] rfl
          · refine awp_region ?_
            refine aR 1 ?_
            refine aB h9 ?_
            refine aR 2 ?_
            refine aB h10 ?_
            refine aR 3 ?_
            refine aB h11 ?_
            refine aR 2 ?_
            refine aB h12 ?_
            refine aR 4 ?_
            refine aB h13 ?_
            refine aR 6 ?_
            refine aE ?_
            exact oO hF [] [] rfl
      · refine cE hF (fun h14 hF => ?_) fun h14 hF => ?_
        · refine awp_region ?_
          refine aR 1 ?_
          refine aB h9 ?_
          refine aR 2 ?_
          refine aB h10 ?_
          refine aR 3 ?_
          refine aB h11 ?_
          refine aR 7 ?_
          refine aB h14 ?_
          refine aR 6 ?_
          refine aE ?_
          exact oO hF [] [] rfl
        · refine awp_region ?_
          refine aR 1 ?_
          refine aB h9 ?_
          refine aR 2 ?_
          refine aB h10 ?_
          refine aR 3 ?_
          refine aB h11 ?_
          refine aR 7 ?_
          refine aB h14 ?_
          refine aR 6 ?_
          refine aE ?_
          exact oO hF [] [] rfl
  · refine cE hF (fun h15 hF => ?_) fun h15 hF => ?_
    · refine cE hF (fun h16 hF => ?_) fun h16 hF => ?_
      · refine awp_region ?_
        refine aR 1 ?_
        refine aB h9 ?_
        refine aR 6 ?_
        refine aB h15 ?_
        refine aR 2 ?_
        refine aB h16 ?_
        refine aR 11 ?_
        refine aE ?_
        exact oO hF [] [] rfl
      · refine cE hF (fun h17 hF => ?_) fun h17 hF => ?_
        · refine awp_region ?_
          refine aR 1 ?_
          refine aB h9 ?_
          refine aR 6 ?_
          refine aB h15 ?_
          refine aR 2 ?_
          refine aB h16 ?_
          refine aR 4 ?_
          refine aB h17 ?_
          refine aR 6 ?_
          refine aE ?_
          exact oO hF [] [] rfl
        · refine awp_region ?_
          refine aR 1 ?_
          refine aB h9 ?_
          refine aR 6 ?_
          refine aB h15 ?_
          refine aR 2 ?_
          refine aB h16 ?_
          refine aR 4 ?_
          refine aB h17 ?_
          refine aR 6 ?_
          refine aE ?_
          exact oO hF [] [] rfl
    · refine cE hF (fun h18 hF => ?_) fun h18 hF => ?_
      · refine awp_region ?_
        refine aR 1 ?_
        refine aB h9 ?_
        refine aR 6 ?_
        refine aB h15 ?_
        refine aR 7 ?_
        refine aB h18 ?_
        refine aR 6 ?_
        refine aE ?_
        exact oO hF [] [] rfl
      · refine awp_region ?_
        refine aR 1 ?_
        refine aB h9 ?_
        refine aR 6 ?_
        refine aB h15 ?_
        refine aR 7 ?_
        refine aB h18 ?_
        refine aR 6 ?_
        refine aE ?_
        exact oO hF [] [] rfl

def base_Key_x2_k : Unit ⊕ Unit → AEx
  | .inl _ => .exit 0
  | .inr _ => .ret

def base_Key_x2_S (qs : List UInt8) : Unit ⊕ Unit → St
  | .inl _ => Mem.st ⟨[], []⟩ (tl []) 0
  | .inr _ => Mem.st ⟨[], []⟩ (tl [(2, .v (.one (.d (.bool false))))]) 0

def base_Key_x2_H (qs : List UInt8) : Int → St
  | vx2 => Mem.st ⟨[], []⟩ (tl [(0, .v (.one (.d (.str qs)))), (23, .v (.one (.d (.int .i64 (qs.length : Int))))), (24, .v (.one (.d (.int .i64 vx2))))]) 0

theorem base_Key_x2_ok (qs : List UInt8) (vx2 : Int) (r : (Int) ⊕ (Unit ⊕ Unit)) (hF : base_Key_x2 qs vx2 = some r) : Awp prog 0 54 (cL (cL (cR (cL (cR (cR (cB f61))))))) (Out 0 (kk base_Key_x2_k) (SS (base_Key_x2_H qs) (base_Key_x2_S qs)) r) (base_Key_x2_H qs vx2) := by
  unfold base_Key_x2 at hF
  refine awp_seq ?_
  refine awp_region ?_
  refine aR 1 ?_
  refine aE ?_
  refine awp_seq ?_
  refine cE hF (fun h7 hF => ?_) fun h7 hF => ?_
  · refine awp_true (by kernel_rfl) h7 ?_
    refine awp_skip ?_
    refine awp_seq ?_
    refine awp_block ?_
    refine awp_seq ?_
    refine awp_region ?_
    refine aR 2 ?_
    refine aE ?_
    refine awp_seq ?_
    refine bE hF fun vc2 h8 hF => ?_
    refine awp_region ?_
    refine aR 2 ?_
    refine aX (x_idxS h8) ?_
    refine aR 1 ?_
    refine aE ?_
    refine awp_seq ?_
    refine awp_to (st' := base_Key_x3_I qs vx2 vc2) (oT [] []) ?_
    refine bE hF fun vx4_1 h19 hF => ?_
    refine awp_sub (base_Key_x3_ok qs vx2 vc2 h19) ?_
    refine cE hF (fun h20 hF => ?_) fun h20 hF => ?_
    · refine awp_true (by kernel_rfl) h20 ?_
      refine awp_seq ?_
      refine awp_region ?_
      refine aR 1 ?_
      refine aE ?_
      refine awp_ret ?_
      exact oO hF [] [] rfl
    · refine awp_false (by kernel_rfl) h20 ?_
      refine awp_skip ?_
      refine awp_region ?_
      refine aR 2 ?_
      refine aE ?_
      exact oO hF [] [] rfl
  · refine awp_false (by kernel_rfl) h7 ?_
    refine awp_exit ?_
    exact oO hF [] [] rfl

def base_Key_R (qs : List UInt8) (r : Bool) : TV × Mem := (.v (.one (.d (.bool r))), ⟨[], []⟩)

theorem base_Key_ok {qs : List UInt8} {r} (hF : base_Key qs = some r) : Holds prog 61 [.v (.one (.d (.str qs)))] ⟨[], []⟩ (Is (base_Key_R qs r)) := by
  unfold base_Key at hF
  refine holds_of_awp hΓ (fn := f61) (c := cB f61) (A := 0) (nx := 0) (by kernel_rfl) (by kernel_rfl) (by kernel_rfl) (by kernel_rfl) (by kernel_rfl) (by kernel_rfl) (lowc_of (by kernel_rfl)) ?_
  show Awp prog 0 54 (cB f61) _ _
  refine awp_seq ?_
  refine awp_region ?_
  refine aR 1 ?_
  refine aE ?_
  refine awp_seq ?_
  refine awp_seq ?_
  refine awp_to (st' := base_Key_x1_I qs) (oT [] []) ?_
  refine bE hF fun vx1 h5 hF => ?_
  refine awp_sub (base_Key_x1_ok qs h5) ?_
  refine cE hF (fun h6 hF => ?_) fun h6 hF => ?_
  · refine awp_true (by kernel_rfl) h6 ?_
    refine awp_seq ?_
    refine awp_region ?_
    refine aR 1 ?_
    refine aE ?_
    refine awp_ret ?_
    exact oF hF [] []
  · refine awp_false (by kernel_rfl) h6 ?_
    refine awp_skip ?_
    refine awp_seq ?_
    refine awp_seq ?_
    refine awp_region ?_
    refine aR 3 ?_
    refine aE ?_
    refine awp_block ?_
    refine awp_to (st' := base_Key_x2_H qs 0) (oT [] []) ?_
    refine bE hF fun x h21 hF => ?_
    rcases x with _ | _
    · refine awp_sub (awp_loop' (base_Key_x2_H qs) base_Key_x2_k (base_Key_x2_S qs) (by intro x; rcases x with x | x <;> exact fun h => nomatch h) h21 (base_Key_x2_ok qs)) ?_
      refine awp_seq ?_
      refine awp_region ?_
      refine aR 1 ?_
      refine aE ?_
      refine awp_ret ?_
      exact oF hF [] []
    · refine awp_sub (awp_loop' (base_Key_x2_H qs) base_Key_x2_k (base_Key_x2_S qs) (by intro x; rcases x with x | x <;> exact fun h => nomatch h) h21 (base_Key_x2_ok qs)) ?_
      exact oF hF [] []

/-! ### beaconfleet/base.Out -/
def base_Out_x1_k : Bool → AEx
  | _ => .normal

def base_Out_x1_S (qn : Int) (qlow : Int) (qhigh : Int) : Bool → St
  | vx => Mem.st ⟨[], []⟩ (tl [(6, .v (.one (.d (.bool vx))))]) 0

def base_Out_x1_I (qn : Int) (qlow : Int) (qhigh : Int) : St := Mem.st ⟨[], []⟩ (tl [(0, .v (.one (.d (.int .i64 qn)))), (1, .v (.one (.d (.int .i64 qlow)))), (2, .v (.one (.d (.int .i64 qhigh))))]) 0

theorem base_Out_x1_ok (qn : Int) (qlow : Int) (qhigh : Int) {r} (hF : base_Out_x1 qn qlow qhigh = some r) : Awp prog 0 15 (cL (cR (cB f21))) (Out 0 base_Out_x1_k (base_Out_x1_S qn qlow qhigh) r) (base_Out_x1_I qn qlow qhigh) := by
  unfold base_Out_x1 at hF
  refine cE hF (fun h1 hF => ?_) fun h1 hF => ?_
  · refine awp_region ?_
    refine aR 2 ?_
    refine aB h1 ?_
    refine aR 6 ?_
    refine aE ?_
    exact oO hF [] [] rfl
  · refine awp_region ?_
    refine aR 2 ?_
    refine aB h1 ?_
    refine aR 6 ?_
    refine aE ?_
    exact oO hF [] [] rfl

def base_Out_R (qn : Int) (qlow : Int) (qhigh : Int) (r : Bool) : TV × Mem := (.v (.one (.d (.bool r))), ⟨[], []⟩)

theorem base_Out_ok {qn : Int} {qlow : Int} {qhigh : Int} {r} (hF : base_Out qn qlow qhigh = some r) : Holds prog 21 [.v (.one (.d (.int .i64 qn))), .v (.one (.d (.int .i64 qlow))), .v (.one (.d (.int .i64 qhigh)))] ⟨[], []⟩ (Is (base_Out_R qn qlow qhigh r)) := by
  unfold base_Out at hF
  refine holds_of_awp hΓ (fn := f21) (c := cB f21) (A := 0) (nx := 0) (by kernel_rfl) (by kernel_rfl) (by kernel_rfl) (by kernel_rfl) (by kernel_rfl) (by kernel_rfl) (lowc_of (by kernel_rfl)) ?_
  show Awp prog 0 15 (cB f21) _ _
  refine awp_seq ?_
  refine awp_region ?_
  refine aR 1 ?_
  refine aE ?_
  refine awp_seq ?_
  refine awp_to (st' := base_Out_x1_I qn qlow qhigh) (oT [] []) ?_
  refine bE hF fun vx1 h2 hF => ?_
  refine awp_sub (base_Out_x1_ok qn qlow qhigh h2) ?_
  refine awp_ret ?_
  exact oF hF [] []

/-! ### beaconfleet/base.Moment -/
def base_Moment_R (qn : Int) (r : Bool) : TV × Mem := (.v (.one (.d (.bool r))), ⟨[], []⟩)

theorem base_Moment_ok {qn : Int} {r} (hF : base_Moment qn = some r) : Holds prog 62 [.v (.one (.d (.int .i64 qn)))] ⟨[], []⟩ (Is (base_Moment_R qn r)) := by
  unfold base_Moment at hF
  refine holds_of_awp hΓ (fn := f62) (c := cB f62) (A := 0) (nx := 0) (by kernel_rfl) (by kernel_rfl) (by kernel_rfl) (by kernel_rfl) (by kernel_rfl) (by kernel_rfl) (lowc_of (by kernel_rfl)) ?_
  show Awp prog 0 6 (cB f62) _ _
  refine awp_seq ?_
  refine awp_region ?_
  refine aR 1 ?_
  refine aE ?_
  refine awp_seq ?_
  refine bE hF fun vr h1 hF => ?_
  refine awp_region ?_
  refine aR 1 ?_
  refine aC (base_Out_ok h1) [] [] [] ?_
  refine aR 2 ?_
  refine aE ?_
  refine awp_ret ?_
  exact oF hF [] []

/-! ### beaconfleet/place.spot -/
def place_spot_R (qx : api_Fix) (r : Unit) : TV × Mem := (.v (.agg [.d (.int .i64 qx.X), .d (.int .i64 qx.Y)]), ⟨[], []⟩)

theorem place_spot_ok {qx : api_Fix} {r} (hF : place_spot qx = some r) : Holds prog 24 [.v (.agg [.d (.str qx.Device), .d (.int .i64 qx.At), .d (.int .i64 qx.X), .d (.int .i64 qx.Y), .d (.int .i64 qx.Error)])] ⟨[], []⟩ (Is (place_spot_R qx r)) := by
  unfold place_spot at hF
  refine holds_of_awp hΓ (fn := f24) (c := cB f24) (A := 0) (nx := 0) (by kernel_rfl) (by kernel_rfl) (by kernel_rfl) (by kernel_rfl) (by kernel_rfl) (by kernel_rfl) (lowc_of (by kernel_rfl)) ?_
  show Awp prog 0 8 (cB f24) _ _
  refine awp_seq ?_
  refine awp_region ?_
  refine aR 2 ?_
  refine aE ?_
  refine awp_seq ?_
  refine awp_region ?_
  refine aR 6 ?_
  refine aE ?_
  refine awp_ret ?_
  exact oF hF [] []

/-! ### beaconfleet/place.isSpot -/
def place_isSpot_x1_k : Bool → AEx
  | _ => .normal

def place_isSpot_x1_S (qs : api_Spot) : Bool → St
  | vx => Mem.st ⟨[], []⟩ (tl [(2, .v (.one (.d (.bool vx))))]) 0

def place_isSpot_x1_I (qs : api_Spot) : St := Mem.st ⟨[], [(0, [.d (.int .i64 qs.X), .d (.int .i64 qs.Y)])]⟩ (tl [(1, .v (.one (.box 0 0)))]) 1

theorem place_isSpot_x1_ok (qs : api_Spot) {r} (hF : place_isSpot_x1 qs = some r) : Awp prog 0 13 (cL (cR (cB f60))) (Out 0 place_isSpot_x1_k (place_isSpot_x1_S qs) r) (place_isSpot_x1_I qs) := by
  unfold place_isSpot_x1 at hF
  refine bE hF fun vr h1 hF => ?_
  refine cE hF (fun h2 hF => ?_) fun h2 hF => ?_
  · refine bE hF fun vr1 h3 hF => ?_
    refine awp_region ?_
    refine aR 2 ?_
    refine aC (base_Out_ok h1) [] [] [] ?_
    refine aB h2 ?_
    refine aR 3 ?_
    refine aC (base_Out_ok h3) [] [] [] ?_
    refine aR 3 ?_
    refine aE ?_
    exact oO hF [] [] rfl
  · refine awp_region ?_
    refine aR 2 ?_
    refine aC (base_Out_ok h1) [] [] [] ?_
    refine aB h2 ?_
    refine aR 7 ?_
    refine aE ?_
    exact oO hF [] [] rfl

def place_isSpot_R (qs : api_Spot) (r : Bool) : TV × Mem := (.v (.one (.d (.bool r))), ⟨[], []⟩)

theorem place_isSpot_ok {qs : api_Spot} {r} (hF : place_isSpot qs = some r) : Holds prog 60 [.v (.agg [.d (.int .i64 qs.X), .d (.int .i64 qs.Y)])] ⟨[], []⟩ (Is (place_isSpot_R qs r)) := by
  unfold place_isSpot at hF
  refine holds_of_awp hΓ (fn := f60) (c := cB f60) (A := 0) (nx := 0) (by kernel_rfl) (by kernel_rfl) (by kernel_rfl) (by kernel_rfl) (by kernel_rfl) (by kernel_rfl) (lowc_of (by kernel_rfl)) ?_
  show Awp prog 0 13 (cB f60) _ _
  refine awp_seq ?_
  refine awp_region ?_
  refine aR 2 ?_
  refine aE ?_
  refine awp_seq ?_
  refine awp_to (st' := place_isSpot_x1_I qs) (oT [] []) ?_
  refine bE hF fun vx1 h4 hF => ?_
  refine awp_sub (place_isSpot_x1_ok qs h4) ?_
  refine awp_ret ?_
  exact oF hF [] []

/-! ### internal/bytealg.CompareString -/
def bytealg_CompareString_R (qa : List UInt8) (qb : List UInt8) (r : Unit) : TV × Mem := (.v (.one (.d (.int .i64 (Lib.compareBytes qa qb)))), ⟨[], []⟩)

theorem bytealg_CompareString_ok {qa : List UInt8} {qb : List UInt8} {r} (hF : bytealg_CompareString qa qb = some r) : Holds prog 82 [.v (.one (.d (.str qa))), .v (.one (.d (.str qb)))] ⟨[], []⟩ (Is (bytealg_CompareString_R qa qb r)) := by
  unfold bytealg_CompareString at hF
  refine holds_of_awp hΓ (fn := f82) (c := cB f82) (A := 0) (nx := 0) (by kernel_rfl) (by kernel_rfl) (by kernel_rfl) (by kernel_rfl) (by kernel_rfl) (by kernel_rfl) (lowc_of (by kernel_rfl)) ?_
  show Awp prog 0 8 (cB f82) _ _
  refine awp_seq ?_
  refine awp_region ?_
  refine aR 1 ?_
  refine aE ?_
  refine awp_seq ?_
  refine awp_region ?_
  refine aR 2 ?_
  refine aS (does_cmpstring (g := 90) (fn := f90) (a := qa) (b := qb) rfl (by kernel_rfl) (by kernel_rfl) (by kernel_rfl) (by kernel_rfl) (by kernel_rfl) (by kernel_rfl)) ?_
  refine aR 1 ?_
  refine aE ?_
  refine awp_ret ?_
  exact oF hF [] []

/-! ### strings.Compare -/
def strings_Compare_R (qa : List UInt8) (qb : List UInt8) (r : Unit) : TV × Mem := (.v (.one (.d (.int .i64 (Lib.compareBytes qa qb)))), ⟨[], []⟩)

theorem strings_Compare_ok {qa : List UInt8} {qb : List UInt8} {r} (hF : strings_Compare qa qb = some r) : Holds prog 66 [.v (.one (.d (.str qa))), .v (.one (.d (.str qb)))] ⟨[], []⟩ (Is (strings_Compare_R qa qb r)) := by
  unfold strings_Compare at hF
  refine holds_of_awp hΓ (fn := f66) (c := cB f66) (A := 0) (nx := 0) (by kernel_rfl) (by kernel_rfl) (by kernel_rfl) (by kernel_rfl) (by kernel_rfl) (by kernel_rfl) (lowc_of (by kernel_rfl)) ?_
  show Awp prog 0 8 (cB f66) _ _
  refine awp_seq ?_
  refine awp_region ?_
  refine aR 1 ?_
  refine aE ?_
  refine awp_seq ?_
  refine bE hF fun _ h1 hF => ?_
  refine awp_region ?_
  refine aR 2 ?_
  refine aC (bytealg_CompareString_ok h1) [] [] [] ?_
  refine aR 1 ?_
  refine aE ?_
  refine awp_ret ?_
  exact oF hF [] []

/-! ### cmp.isNaN[int] -/
def cmp_isNaN_int_R (qx : Int) (r : Unit) : TV × Mem := (.v (.one (.d (.bool (!decide (qx = qx))))), ⟨[], []⟩)

theorem cmp_isNaN_int_ok {qx : Int} {r} (hF : cmp_isNaN_int qx = some r) : Holds prog 88 [.v (.one (.d (.int .i64 qx)))] ⟨[], []⟩ (Is (cmp_isNaN_int_R qx r)) := by
  unfold cmp_isNaN_int at hF
  refine holds_of_awp hΓ (fn := f88) (c := cB f88) (A := 0) (nx := 0) (by kernel_rfl) (by kernel_rfl) (by kernel_rfl) (by kernel_rfl) (by kernel_rfl) (by kernel_rfl) (lowc_of (by kernel_rfl)) ?_
  show Awp prog 0 6 (cB f88) _ _
  refine awp_seq ?_
  refine awp_region ?_
  refine aR 1 ?_
  refine aE ?_
  refine awp_seq ?_
  refine awp_region ?_
  refine aR 4 ?_
  refine aE ?_
  refine awp_ret ?_
  exact oF hF [] []

/-! ### cmp.Compare[int] -/
def cmp_Compare_int_R (qx : Int) (qy : Int) (r : Int) : TV × Mem := (.v (.one (.d (.int .i64 r))), ⟨[], []⟩)

theorem cmp_Compare_int_ok {qx : Int} {qy : Int} {r} (hF : cmp_Compare_int qx qy = some r) : Holds prog 80 [.v (.one (.d (.int .i64 qx))), .v (.one (.d (.int .i64 qy)))] ⟨[], []⟩ (Is (cmp_Compare_int_R qx qy r)) := by
  unfold cmp_Compare_int at hF
  refine holds_of_awp hΓ (fn := f80) (c := cB f80) (A := 0) (nx := 0) (by kernel_rfl) (by kernel_rfl) (by kernel_rfl) (by kernel_rfl) (by kernel_rfl) (by kernel_rfl) (lowc_of (by kernel_rfl)) ?_
  show Awp prog 0 20 (cB f80) _ _
  refine awp_seq ?_
  refine awp_region ?_
  refine aR 1 ?_
  refine aE ?_
  refine awp_seq ?_
  refine bE hF fun _ h1 hF => ?_
  refine awp_region ?_
  refine aR 1 ?_
  refine aC (cmp_isNaN_int_ok h1) [] [] [] ?_
  refine aR 1 ?_
  refine aE ?_
  refine awp_seq ?_
  refine bE hF fun _ h2 hF => ?_
  refine awp_region ?_
  refine aR 1 ?_
  refine aC (cmp_isNaN_int_ok h2) [] [] [] ?_
  refine aR 1 ?_
  refine aE ?_
  refine awp_seq ?_
  refine awp_seq ?_
  refine awp_region ?_
  refine aR 1 ?_
  refine aE ?_
  refine cE hF (fun h3 hF => ?_) fun h3 hF => ?_
  · refine awp_true (by kernel_rfl) h3 ?_
    refine awp_seq ?_
    refine awp_seq ?_
    refine awp_region ?_
    refine aR 1 ?_
    refine aE ?_
    refine cE hF (fun h4 hF => ?_) fun h4 hF => ?_
    · refine awp_true (by kernel_rfl) h4 ?_
      refine awp_seq ?_
      refine awp_region ?_
      refine aR 1 ?_
      refine aE ?_
      refine awp_ret ?_
      exact oF hF [] []
    · refine awp_false (by kernel_rfl) h4 ?_
      refine awp_skip ?_
      refine awp_seq ?_
      refine awp_region ?_
      refine aR 1 ?_
      refine aE ?_
      refine awp_ret ?_
      exact oF hF [] []
  · refine awp_false (by kernel_rfl) h3 ?_
    refine awp_skip ?_
    refine awp_seq ?_
    refine awp_seq ?_
    refine awp_region ?_
    refine aR 1 ?_
    refine aE ?_
    refine cE hF (fun h5 hF => ?_) fun h5 hF => ?_
    · refine awp_true (by kernel_rfl) h5 ?_
      refine awp_seq ?_
      refine awp_region ?_
      refine aR 1 ?_
      refine aE ?_
      refine awp_ret ?_
      exact oF hF [] []
    · refine awp_false (by kernel_rfl) h5 ?_
      refine awp_skip ?_
      refine awp_seq ?_
      refine awp_seq ?_
      refine awp_region ?_
      refine aR 3 ?_
      refine aE ?_
      refine cE hF (fun h6 hF => ?_) fun h6 hF => ?_
      · refine awp_true (by kernel_rfl) h6 ?_
        refine awp_seq ?_
        refine awp_region ?_
        refine aR 1 ?_
        refine aE ?_
        refine awp_ret ?_
        exact oF hF [] []
      · refine awp_false (by kernel_rfl) h6 ?_
        refine awp_skip ?_
        refine awp_seq ?_
        refine awp_seq ?_
        refine awp_region ?_
        refine aR 3 ?_
        refine aE ?_
        refine cE hF (fun h7 hF => ?_) fun h7 hF => ?_
        · refine awp_true (by kernel_rfl) h7 ?_
          refine awp_seq ?_
          refine awp_region ?_
          refine aR 1 ?_
          refine aE ?_
          refine awp_ret ?_
          exact oF hF [] []
        · refine awp_false (by kernel_rfl) h7 ?_
          refine awp_skip ?_
          refine awp_seq ?_
          refine awp_region ?_
          refine aR 1 ?_
          refine aE ?_
          refine awp_ret ?_
          exact oF hF [] []

/-! ### cmp.Or[int] -/
def cmp_Or_int_x1_k : Unit ⊕ Int → AEx
  | .inl _ => .exit 0
  | .inr _ => .ret

def cmp_Or_int_x1_S (qvals : List Int) : Unit ⊕ Int → St
  | .inl _ => Mem.st ⟨[], []⟩ (tl [(3, .v (.one (.d (.int .i64 0))))]) 0
  | .inr vx1 => Mem.st ⟨[], []⟩ (tl [(2, .v (.one (.d (.int .i64 vx1))))]) 0

def cmp_Or_int_x1_H (qvals : List Int) : Int → St
  | vx => Mem.st ⟨[], []⟩ (tl [(3, .v (.one (.d (.int .i64 0)))), (6, .v (.one (.d (.lst (List.map (encI .i64) qvals))))), (7, .v (.one (.d (.int .i64 (qvals.length : Int))))), (8, .v (.one (.d (.int .i64 vx))))]) 0

theorem cmp_Or_int_x1_ok (qvals : List Int) (vx : Int) (r : (Int) ⊕ (Unit ⊕ Int)) (hF : cmp_Or_int_x1 qvals vx = some r) : Awp prog 0 18 (cL (cL (cR (cL (cR (cR (cB f79))))))) (Out 0 (kk cmp_Or_int_x1_k) (SS (cmp_Or_int_x1_H qvals) (cmp_Or_int_x1_S qvals)) r) (cmp_Or_int_x1_H qvals vx) := by
  unfold cmp_Or_int_x1 at hF
  refine awp_seq ?_
  refine awp_region ?_
  refine aR 1 ?_
  refine aE ?_
  refine awp_seq ?_
  refine cE hF (fun h1 hF => ?_) fun h1 hF => ?_
  · refine awp_true (by kernel_rfl) h1 ?_
    refine awp_skip ?_
    refine awp_seq ?_
    refine awp_block ?_
    refine awp_seq ?_
    refine bE hF fun vy1 h2 hF => ?_
    refine awp_region ?_
    refine aX (x_idx (encI .i64) h2) ?_
    refine aR 2 ?_
    refine aE ?_
    refine awp_seq ?_
    refine awp_region ?_
    refine aR 3 ?_
    refine aE ?_
    refine cE hF (fun h3 hF => ?_) fun h3 hF => ?_
    · refine awp_true (by kernel_rfl) h3 ?_
      refine awp_seq ?_
      refine awp_region ?_
      refine aR 2 ?_
      refine aE ?_
      refine awp_ret ?_
      exact oO hF [] [] rfl
    · refine awp_false (by kernel_rfl) h3 ?_
      refine awp_skip ?_
      refine awp_region ?_
      refine aR 2 ?_
      refine aE ?_
      exact oO hF [] [] rfl
  · refine awp_false (by kernel_rfl) h1 ?_
    refine awp_exit ?_
    exact oO hF [] [] rfl

def cmp_Or_int_R (qvals : List Int) (r : Int) : TV × Mem := (.v (.one (.d (.int .i64 r))), ⟨[], []⟩)

theorem cmp_Or_int_ok {qvals : List Int} {r} (hF : cmp_Or_int qvals = some r) : Holds prog 79 [.v (.one (.d (.lst (List.map (encI .i64) qvals))))] ⟨[], []⟩ (Is (cmp_Or_int_R qvals r)) := by
  unfold cmp_Or_int at hF
  refine holds_of_awp hΓ (fn := f79) (c := cB f79) (A := 0) (nx := 0) (by kernel_rfl) (by kernel_rfl) (by kernel_rfl) (by kernel_rfl) (by kernel_rfl) (by kernel_rfl) (lowc_of (by kernel_rfl)) ?_
  show Awp prog 0 18 (cB f79) _ _
  refine awp_seq ?_
  refine awp_region ?_
  refine aR 1 ?_
  refine aE ?_
  refine awp_seq ?_
  refine awp_region ?_
  refine aR 1 ?_
  refine aE ?_
  refine awp_seq ?_
  refine awp_seq ?_
  refine awp_region ?_
  refine aR 1 ?_
  refine aL (encI .i64) qvals ?_
  refine aR 1 ?_
  refine aE ?_
  refine awp_block ?_
  refine awp_to (st' := cmp_Or_int_x1_H qvals 0) (oT [] []) ?_
  refine bE hF fun x h4 hF => ?_
  rcases x with _ | vx1_1
  · refine awp_sub (awp_loop' (cmp_Or_int_x1_H qvals) cmp_Or_int_x1_k (cmp_Or_int_x1_S qvals) (by intro x; rcases x with x | x <;> exact fun h => nomatch h) h4 (cmp_Or_int_x1_ok qvals)) ?_
    refine awp_seq ?_
    refine awp_region ?_
    refine aR 2 ?_
    refine aE ?_
    refine awp_ret ?_
    exact oF hF [] []
  · refine awp_sub (awp_loop' (cmp_Or_int_x1_H qvals) cmp_Or_int_x1_k (cmp_Or_int_x1_S qvals) (by intro x; rcases x with x | x <;> exact fun h => nomatch h) h4 (cmp_Or_int_x1_ok qvals)) ?_
    exact oF hF [] []

/-! ### beaconfleet/place.byDevice -/
def place_byDevice_R (qa : api_Fix) (qb : api_Fix) (r : Int) : TV × Mem := (.v (.one (.d (.int .i64 r))), ⟨[], []⟩)

theorem place_byDevice_ok {qa : api_Fix} {qb : api_Fix} {r} (hF : place_byDevice qa qb = some r) : Holds prog 63 [.v (.agg [.d (.str qa.Device), .d (.int .i64 qa.At), .d (.int .i64 qa.X), .d (.int .i64 qa.Y), .d (.int .i64 qa.Error)]), .v (.agg [.d (.str qb.Device), .d (.int .i64 qb.At), .d (.int .i64 qb.X), .d (.int .i64 qb.Y), .d (.int .i64 qb.Error)])] ⟨[], []⟩ (Is (place_byDevice_R qa qb r)) := by
  unfold place_byDevice at hF
  refine holds_of_awp hΓ (fn := f63) (c := cB f63) (A := 0) (nx := 0) (by kernel_rfl) (by kernel_rfl) (by kernel_rfl) (by kernel_rfl) (by kernel_rfl) (by kernel_rfl) (lowc_of (by kernel_rfl)) ?_
  show Awp prog 0 17 (cB f63) _ _
  refine awp_seq ?_
  refine awp_region ?_
  refine aR 3 ?_
  refine aE ?_
  refine awp_seq ?_
  refine bE hF fun _ h1 hF => ?_
  refine bE hF fun vr h2 hF => ?_
  refine bE hF fun vr1 h3 hF => ?_
  refine aD ?_
  refine dR 4 ?_
  refine dC (strings_Compare_ok h1) [] [] [] ?_
  refine dR 4 ?_
  refine dC (cmp_Compare_int_ok h2) [] [] [] ?_
  refine dR 1 ?_
  refine dC (cmp_Or_int_ok h3) [] [] [13000] ?_
  refine dR 1 ?_
  refine dE ?_
  refine awp_ret ?_
  exact oF hF [] []

/-! ### beaconfleet/place.CheckFixes -/
def place_CheckFixes_x2_k : Bool → AEx
  | _ => .normal

def place_CheckFixes_x2_S (ql : List api_Fix) (vx : Int) (vy2 : api_Fix) : Bool → St
  | vx3 => Mem.st ⟨[], [(0, [.d (.str vy2.Device), .d (.int .i64 vy2.At), .d (.int .i64 vy2.X), .d (.int .i64 vy2.Y), .d (.int .i64 vy2.Error)])]⟩ (tl [(0, .v (.one (.d (.lst (List.map api_Fix.enc ql))))), (3, .v (.one (.d (.int .i64 vx)))), (4, .v (.one (.box 0 0))), (8, .v (.one (.d (.lst (List.map api_Fix.enc ql))))), (9, .v (.one (.d (.int .i64 (ql.length : Int))))), (10, .v (.one (.d (.int .i64 vx)))), (20, .v (.one (.d (.bool vx3))))]) 1

def place_CheckFixes_x2_I (ql : List api_Fix) (vx : Int) (vy2 : api_Fix) : St := Mem.st ⟨[], [(0, [.d (.str vy2.Device), .d (.int .i64 vy2.At), .d (.int .i64 vy2.X), .d (.int .i64 vy2.Y), .d (.int .i64 vy2.Error)])]⟩ (tl [(0, .v (.one (.d (.lst (List.map api_Fix.enc ql))))), (3, .v (.one (.d (.int .i64 vx)))), (4, .v (.one (.box 0 0))), (8, .v (.one (.d (.lst (List.map api_Fix.enc ql))))), (9, .v (.one (.d (.int .i64 (ql.length : Int))))), (10, .v (.one (.d (.int .i64 vx))))]) 1

theorem place_CheckFixes_x2_ok (ql : List api_Fix) (vx : Int) (vy2 : api_Fix) {r} (hF : place_CheckFixes_x2 vy2 = some r) : Awp prog 0 50 (cL (cR (cR (cL (cR (cL (cL (cR (cR (cL (cL (cR (cL (cR (cR (cB f41)))))))))))))))) (Out 0 place_CheckFixes_x2_k (place_CheckFixes_x2_S ql vx vy2) r) (place_CheckFixes_x2_I ql vx vy2) := by
  unfold place_CheckFixes_x2 at hF
  refine bE hF fun vr1_1 h6 hF => ?_
  refine cE hF (fun h7 hF => ?_) fun h7 hF => ?_
  · refine awp_region ?_
    refine aR 2 ?_
    refine aC (base_Moment_ok h6) [] [] [] ?_
    refine aB h7 ?_
    refine aR 12 ?_
    refine aE ?_
    exact oO hF [] [] rfl
  · refine bE hF fun _ h8 hF => ?_
    refine bE hF fun vr2_2 h9 hF => ?_
    refine cE hF (fun h10 hF => ?_) fun h10 hF => ?_
    · refine awp_region ?_
      refine aR 2 ?_
      refine aC (base_Moment_ok h6) [] [] [] ?_
      refine aB h7 ?_
      refine aR 2 ?_
      refine aC (place_spot_ok h8) [] [] [] ?_
      refine aC (place_isSpot_ok h9) [] [] [] ?_
      refine aB h10 ?_
      refine aR 7 ?_
      refine aE ?_
      exact oO hF [] [] rfl
    · refine bE hF fun vr5 h11 hF => ?_
      refine awp_region ?_
      refine aR 2 ?_
      refine aC (base_Moment_ok h6) [] [] [] ?_
      refine aB h7 ?_
      refine aR 2 ?_
      refine aC (place_spot_ok h8) [] [] [] ?_
      refine aC (place_isSpot_ok h9) [] [] [] ?_
      refine aB h10 ?_
      refine aR 4 ?_
      refine aC (base_Out_ok h11) [] [] [] ?_
      refine aR 2 ?_
      refine aE ?_
      exact oO hF [] [] rfl

def place_CheckFixes_x3_k : Bool → AEx
  | _ => .normal

def place_CheckFixes_x3_S (ql : List api_Fix) (vx : Int) (vy2 : api_Fix) : Bool → St
  | vx4 => Mem.st ⟨[], []⟩ (tl [(0, .v (.one (.d (.lst (List.map api_Fix.enc ql))))), (8, .v (.one (.d (.lst (List.map api_Fix.enc ql))))), (9, .v (.one (.d (.int .i64 (ql.length : Int))))), (10, .v (.one (.d (.int .i64 vx)))), (36, .v (.one (.d (.bool vx4))))]) 0

def place_CheckFixes_x3_I (ql : List api_Fix) (vx : Int) (vy2 : api_Fix) : St := Mem.st ⟨[], [(0, [.d (.str vy2.Device), .d (.int .i64 vy2.At), .d (.int .i64 vy2.X), .d (.int .i64 vy2.Y), .d (.int .i64 vy2.Error)])]⟩ (tl [(0, .v (.one (.d (.lst (List.map api_Fix.enc ql))))), (3, .v (.one (.d (.int .i64 vx)))), (4, .v (.one (.box 0 0))), (8, .v (.one (.d (.lst (List.map api_Fix.enc ql))))), (9, .v (.one (.d (.int .i64 (ql.length : Int))))), (10, .v (.one (.d (.int .i64 vx))))]) 1

theorem place_CheckFixes_x3_ok (ql : List api_Fix) (vx : Int) (vy2 : api_Fix) {r} (hF : place_CheckFixes_x3 ql vx vy2 = some r) : Awp prog 0 50 (cL (cR (cR (cR (cR (cL (cR (cL (cL (cR (cR (cL (cL (cR (cL (cR (cR (cB f41)))))))))))))))))) (Out 0 place_CheckFixes_x3_k (place_CheckFixes_x3_S ql vx vy2) r) (place_CheckFixes_x3_I ql vx vy2) := by
  unfold place_CheckFixes_x3 at hF
  refine cE hF (fun h14 hF => ?_) fun h14 hF => ?_
  · refine bE hF fun vy3 h15 hF => ?_
    refine bE hF fun vr2_3 h16 hF => ?_
    refine aD ?_
    refine dR 1 ?_
    refine dB h14 ?_
    refine dR 5 ?_
    refine dX (x_idx api_Fix.enc h15) ?_
    refine dR 1 ?_
    refine dC (place_byDevice_ok h16) [] [] [] ?_
    refine dR 3 ?_
    refine dE ?_
    exact oO hF [] [] rfl
  · refine aD ?_
    refine dR 1 ?_
    refine dB h14 ?_
    refine dR 11 ?_
    refine dE ?_
    exact oO hF [] [] rfl

def place_CheckFixes_x1_k : Unit ⊕ Int → AEx
  | .inl _ => .exit 0
  | .inr _ => .ret

def place_CheckFixes_x1_S (ql : List api_Fix) : Unit ⊕ Int → St
  | .inl _ => Mem.st ⟨[], []⟩ (tl []) 0
  | .inr vx5 => Mem.st ⟨[], []⟩ (tl [(2, .v (.one (.d (.int .i64 vx5))))]) 0

def place_CheckFixes_x1_H (ql : List api_Fix) : Int → St
  | vx => Mem.st ⟨[], []⟩ (tl [(0, .v (.one (.d (.lst (List.map api_Fix.enc ql))))), (8, .v (.one (.d (.lst (List.map api_Fix.enc ql))))), (9, .v (.one (.d (.int .i64 (ql.length : Int))))), (10, .v (.one (.d (.int .i64 vx))))]) 0

theorem place_CheckFixes_x1_ok (ql : List api_Fix) (vx : Int) (r : (Int) ⊕ (Unit ⊕ Int)) (hF : place_CheckFixes_x1 ql vx = some r) : Awp prog 0 50 (cL (cL (cR (cL (cR (cR (cB f41))))))) (Out 0 (kk place_CheckFixes_x1_k) (SS (place_CheckFixes_x1_H ql) (place_CheckFixes_x1_S ql)) r) (place_CheckFixes_x1_H ql vx) := by
  unfold place_CheckFixes_x1 at hF
  refine awp_seq ?_
  refine awp_region ?_
  refine aR 1 ?_
  refine aE ?_
  refine awp_seq ?_
  refine cE hF (fun h2 hF => ?_) fun h2 hF => ?_
  · refine awp_true (by kernel_rfl) h2 ?_
    refine awp_skip ?_
    refine awp_seq ?_
    refine awp_block ?_
    refine awp_seq ?_
    refine bE hF fun vy2 h3 hF => ?_
    refine awp_region ?_
    refine aR 1 ?_
    refine aX (x_idx api_Fix.enc h3) ?_
    refine aR 4 ?_
    refine aE ?_
    refine awp_block ?_
    refine awp_seq ?_
    refine bE hF fun vr4 h4 hF => ?_
    refine awp_region ?_
    refine aR 2 ?_
    refine aC (base_Key_ok h4) [] [] [] ?_
    refine aR 2 ?_
    refine aE ?_
    refine cE hF (fun h5 hF => ?_) fun h5 hF => ?_
    · refine awp_true (by kernel_rfl) h5 ?_
      refine awp_seq ?_
      refine awp_region ?_
      refine aR 1 ?_
      refine aE ?_
      refine awp_ret ?_
      exact oO hF [] [] rfl
    · refine awp_false (by kernel_rfl) h5 ?_
      refine awp_seq ?_
      refine awp_to (st' := place_CheckFixes_x2_I ql vx vy2) (oT [(0, 4000)] []) ?_
      refine bE hF fun vx3_1 h12 hF => ?_
      refine awp_sub (place_CheckFixes_x2_ok ql vx vy2 h12) ?_
      refine cE hF (fun h13 hF => ?_) fun h13 hF => ?_
      · refine awp_true (by kernel_rfl) h13 ?_
        refine awp_seq ?_
        refine awp_region ?_
        refine aR 1 ?_
        refine aE ?_
        refine awp_ret ?_
        exact oO hF [] [] rfl
      · refine awp_false (by kernel_rfl) h13 ?_
        refine awp_seq ?_
        refine awp_to (st' := place_CheckFixes_x3_I ql vx vy2) (oT [] []) ?_
        refine bE hF fun vx4_1 h17 hF => ?_
        refine awp_sub (place_CheckFixes_x3_ok ql vx vy2 h17) ?_
        refine cE hF (fun h18 hF => ?_) fun h18 hF => ?_
        · refine awp_true (by kernel_rfl) h18 ?_
          refine awp_seq ?_
          refine awp_region ?_
          refine aR 1 ?_
          refine aE ?_
          refine awp_ret ?_
          exact oO hF [] [] rfl
        · refine awp_false (by kernel_rfl) h18 ?_
          refine awp_skip ?_
          refine awp_region ?_
          refine aR 2 ?_
          refine aE ?_
          exact oO hF [] [] rfl
  · refine awp_false (by kernel_rfl) h2 ?_
    refine awp_exit ?_
    exact oO hF [] [] rfl

def place_CheckFixes_R (ql : List api_Fix) (r : Int) : TV × Mem := (.v (.one (.d (.int .i64 r))), ⟨[], []⟩)

theorem place_CheckFixes_ok {ql : List api_Fix} {r} (hF : place_CheckFixes ql = some r) : Holds prog 41 [.v (.one (.d (.lst (List.map api_Fix.enc ql))))] ⟨[], []⟩ (Is (place_CheckFixes_R ql r)) := by
  unfold place_CheckFixes at hF
  refine holds_of_awp hΓ (fn := f41) (c := cB f41) (A := 0) (nx := 0) (by kernel_rfl) (by kernel_rfl) (by kernel_rfl) (by kernel_rfl) (by kernel_rfl) (by kernel_rfl) (lowc_of (by kernel_rfl)) ?_
  show Awp prog 0 50 (cB f41) _ _
  refine awp_seq ?_
  refine awp_region ?_
  refine aR 1 ?_
  refine aE ?_
  refine awp_seq ?_
  refine awp_seq ?_
  refine awp_region ?_
  refine aR 1 ?_
  refine aL api_Fix.enc ql ?_
  refine aR 1 ?_
  refine aE ?_
  refine cE hF (fun h1 hF => ?_) fun h1 hF => ?_
  · refine awp_true (by kernel_rfl) h1 ?_
    refine awp_seq ?_
    refine awp_region ?_
    refine aR 1 ?_
    refine aE ?_
    refine awp_ret ?_
    exact oF hF [] []
  · refine awp_false (by kernel_rfl) h1 ?_
    refine awp_skip ?_
    refine awp_seq ?_
    refine awp_seq ?_
    refine awp_region ?_
    refine aR 1 ?_
    refine aL api_Fix.enc ql ?_
    refine aR 1 ?_
    refine aE ?_
    refine awp_block ?_
    refine awp_to (st' := place_CheckFixes_x1_H ql 0) (oT [] []) ?_
    refine bE hF fun x h19 hF => ?_
    rcases x with _ | vx5_1
    · refine awp_sub (awp_loop' (place_CheckFixes_x1_H ql) place_CheckFixes_x1_k (place_CheckFixes_x1_S ql) (by intro x; rcases x with x | x <;> exact fun h => nomatch h) h19 (place_CheckFixes_x1_ok ql)) ?_
      refine awp_seq ?_
      refine awp_region ?_
      refine aR 1 ?_
      refine aE ?_
      refine awp_ret ?_
      exact oF hF [] []
    · refine awp_sub (awp_loop' (place_CheckFixes_x1_H ql) place_CheckFixes_x1_k (place_CheckFixes_x1_S ql) (by intro x; rcases x with x | x <;> exact fun h => nomatch h) h19 (place_CheckFixes_x1_ok ql)) ?_
      exact oF hF [] []

/-! ### beaconfleet/place.trackFault$1 -/
def place_trackFault_1_R (qx : api_Fix) (qx1 : List api_Fix) (r : Bool) : TV × Mem := (.v (.one (.d (.bool r))), ⟨[], [(0, [.d (.lst (List.map api_Fix.enc qx1))])]⟩)

theorem place_trackFault_1_ok {qx : api_Fix} {qx1 : List api_Fix} {r} (hF : place_trackFault_1 qx qx1 = some r) : Holds prog 42 [.v (.agg [.d (.str qx.Device), .d (.int .i64 qx.At), .d (.int .i64 qx.X), .d (.int .i64 qx.Y), .d (.int .i64 qx.Error)]), .v (.one (.box 0 0))] ⟨[], [(0, [.d (.lst (List.map api_Fix.enc qx1))])]⟩ (Is (place_trackFault_1_R qx qx1 r)) := by
  unfold place_trackFault_1 at hF
  refine holds_of_awp hΓ (fn := f42) (c := cB f42) (A := 1) (nx := 1) (by kernel_rfl) (by kernel_rfl) (by kernel_rfl) (by kernel_rfl) (by kernel_rfl) (by kernel_rfl) (lowc_of (by kernel_rfl)) ?_
  show Awp prog 1 11 (cB f42) _ _
  refine awp_seq ?_
  refine awp_region ?_
  refine aR 2 ?_
  refine aE ?_
  refine awp_seq ?_
  refine bE hF fun vy h1 hF => ?_
  refine aD ?_
  refine dR 3 ?_
  refine dX (x_idx api_Fix.enc h1) ?_
  refine dR 4 ?_
  refine dE ?_
  refine awp_ret ?_
  exact oF hF [] []

/-! ### slices.IndexFunc[[]beaconfleet/api.Fix,beaconfleet/api.Fix] -/
def slices_IndexFunc_api_Fix_api_Fix_f1_place_trackFault_1_x1_k : Unit ⊕ Int → AEx
  | .inl _ => .exit 0
  | .inr _ => .ret

def slices_IndexFunc_api_Fix_api_Fix_f1_place_trackFault_1_x1_S (qs : List api_Fix) : Unit ⊕ Int → St
  | .inl _ => Mem.st ⟨[], [(0, [.d (.lst (List.map api_Fix.enc qs))])]⟩ (tl []) 1
  | .inr vx1 => Mem.st ⟨[], [(0, [.d (.lst (List.map api_Fix.enc qs))])]⟩ (tl [(4, .v (.one (.d (.int .i64 vx1))))]) 1

def slices_IndexFunc_api_Fix_api_Fix_f1_place_trackFault_1_x1_H (qs : List api_Fix) : Int → St
  | vx => Mem.st ⟨[], [(0, [.d (.lst (List.map api_Fix.enc qs))])]⟩ (tl [(0, .v (.one (.d (.lst (List.map api_Fix.enc qs))))), (1, .v (.one (.fn 42 [0]))), (7, .v (.one (.d (.int .i64 (qs.length : Int))))), (8, .v (.one (.d (.int .i64 vx))))]) 1

theorem slices_IndexFunc_api_Fix_api_Fix_f1_place_trackFault_1_x1_ok (qs : List api_Fix) (vx : Int) (r : (Int) ⊕ (Unit ⊕ Int)) (hF : slices_IndexFunc_api_Fix_api_Fix_f1_place_trackFault_1_x1 qs vx = some r) : Awp prog 1 19 (cL (cL (cR (cL (cR (cB f52)))))) (Out 1 (kk slices_IndexFunc_api_Fix_api_Fix_f1_place_trackFault_1_x1_k) (SS (slices_IndexFunc_api_Fix_api_Fix_f1_place_trackFault_1_x1_H qs) (slices_IndexFunc_api_Fix_api_Fix_f1_place_trackFault_1_x1_S qs)) r) (slices_IndexFunc_api_Fix_api_Fix_f1_place_trackFault_1_x1_H qs vx) := by
  unfold slices_IndexFunc_api_Fix_api_Fix_f1_place_trackFault_1_x1 at hF
  refine awp_seq ?_
  refine awp_region ?_
  refine aR 1 ?_
  refine aE ?_
  refine awp_seq ?_
  refine cE hF (fun h1 hF => ?_) fun h1 hF => ?_
  · refine awp_true (by kernel_rfl) h1 ?_
    refine awp_skip ?_
    refine awp_seq ?_
    refine awp_block ?_
    refine awp_seq ?_
    refine awp_region ?_
    refine aR 2 ?_
    refine aE ?_
    refine awp_seq ?_
    refine bE hF fun vy1 h2 hF => ?_
    refine bE hF fun vr1 h3 hF => ?_
    refine awp_region ?_
    refine aR 3 ?_
    refine aX (x_idx api_Fix.enc h2) ?_
    refine aR 1 ?_
    refine aC (place_trackFault_1_ok h3) [] [] [] ?_
    refine aE ?_
    refine cE hF (fun h4 hF => ?_) fun h4 hF => ?_
    · refine awp_true (by kernel_rfl) h4 ?_
      refine awp_seq ?_
      refine awp_region ?_
      refine aR 2 ?_
      refine aE ?_
      refine awp_ret ?_
      exact oO hF [] [] rfl
    · refine awp_false (by kernel_rfl) h4 ?_
      refine awp_skip ?_
      refine awp_region ?_
      refine aR 2 ?_
      refine aE ?_
      exact oO hF [] [] rfl
  · refine awp_false (by kernel_rfl) h1 ?_
    refine awp_exit ?_
    exact oO hF [] [] rfl

def slices_IndexFunc_api_Fix_api_Fix_f1_place_trackFault_1_R (qs : List api_Fix) (r : Int) : TV × Mem := (.v (.one (.d (.int .i64 r))), ⟨[], [(0, [.d (.lst (List.map api_Fix.enc qs))])]⟩)

theorem slices_IndexFunc_api_Fix_api_Fix_f1_place_trackFault_1_ok {qs : List api_Fix} {r} (hF : slices_IndexFunc_api_Fix_api_Fix_f1_place_trackFault_1 qs = some r) : Holds prog 52 [.v (.one (.d (.lst (List.map api_Fix.enc qs)))), .v (.one (.fn 42 [0]))] ⟨[], [(0, [.d (.lst (List.map api_Fix.enc qs))])]⟩ (Is (slices_IndexFunc_api_Fix_api_Fix_f1_place_trackFault_1_R qs r)) := by
  unfold slices_IndexFunc_api_Fix_api_Fix_f1_place_trackFault_1 at hF
  refine holds_of_awp hΓ (fn := f52) (c := cB f52) (A := 1) (nx := 1) (by kernel_rfl) (by kernel_rfl) (by kernel_rfl) (by kernel_rfl) (by kernel_rfl) (by kernel_rfl) (lowc_of (by kernel_rfl)) ?_
  show Awp prog 1 19 (cB f52) _ _
  refine awp_seq ?_
  refine awp_region ?_
  refine aR 1 ?_
  refine aE ?_
  refine awp_seq ?_
  refine awp_seq ?_
  refine awp_region ?_
  refine aR 1 ?_
  refine aL api_Fix.enc qs ?_
  refine aR 1 ?_
  refine aE ?_
  refine awp_block ?_
  refine awp_to (st' := slices_IndexFunc_api_Fix_api_Fix_f1_place_trackFault_1_x1_H qs 0) (oT [] []) ?_
  refine bE hF fun x h5 hF => ?_
  rcases x with _ | vx1_1
  · refine awp_sub (awp_loop' (slices_IndexFunc_api_Fix_api_Fix_f1_place_trackFault_1_x1_H qs) slices_IndexFunc_api_Fix_api_Fix_f1_place_trackFault_1_x1_k (slices_IndexFunc_api_Fix_api_Fix_f1_place_trackFault_1_x1_S qs) (by intro x; rcases x with x | x <;> exact fun h => nomatch h) h5 (slices_IndexFunc_api_Fix_api_Fix_f1_place_trackFault_1_x1_ok qs)) ?_
    refine awp_seq ?_
    refine awp_region ?_
    refine aR 1 ?_
    refine aE ?_
    refine awp_ret ?_
    exact oF hF [] []
  · refine awp_sub (awp_loop' (slices_IndexFunc_api_Fix_api_Fix_f1_place_trackFault_1_x1_H qs) slices_IndexFunc_api_Fix_api_Fix_f1_place_trackFault_1_x1_k (slices_IndexFunc_api_Fix_api_Fix_f1_place_trackFault_1_x1_S qs) (by intro x; rcases x with x | x <;> exact fun h => nomatch h) h5 (slices_IndexFunc_api_Fix_api_Fix_f1_place_trackFault_1_x1_ok qs)) ?_
    exact oF hF [] []

/-! ### slices.ContainsFunc[[]beaconfleet/api.Fix,beaconfleet/api.Fix] -/
def slices_ContainsFunc_api_Fix_api_Fix_f1_place_trackFault_1_R (qs : List api_Fix) (r : Bool) : TV × Mem := (.v (.one (.d (.bool r))), ⟨[], [(0, [.d (.lst (List.map api_Fix.enc qs))])]⟩)

theorem slices_ContainsFunc_api_Fix_api_Fix_f1_place_trackFault_1_ok {qs : List api_Fix} {r} (hF : slices_ContainsFunc_api_Fix_api_Fix_f1_place_trackFault_1 qs = some r) : Holds prog 30 [.v (.one (.d (.lst (List.map api_Fix.enc qs)))), .v (.one (.fn 42 [0]))] ⟨[], [(0, [.d (.lst (List.map api_Fix.enc qs))])]⟩ (Is (slices_ContainsFunc_api_Fix_api_Fix_f1_place_trackFault_1_R qs r)) := by
  unfold slices_ContainsFunc_api_Fix_api_Fix_f1_place_trackFault_1 at hF
  refine holds_of_awp hΓ (fn := f30) (c := cB f30) (A := 1) (nx := 1) (by kernel_rfl) (by kernel_rfl) (by kernel_rfl) (by kernel_rfl) (by kernel_rfl) (by kernel_rfl) (lowc_of (by kernel_rfl)) ?_
  show Awp prog 1 9 (cB f30) _ _
  refine awp_seq ?_
  refine awp_region ?_
  refine aR 1 ?_
  refine aE ?_
  refine awp_seq ?_
  refine bE hF fun vr2 h1 hF => ?_
  refine awp_region ?_
  refine aR 2 ?_
  refine aC (slices_IndexFunc_api_Fix_api_Fix_f1_place_trackFault_1_ok h1) [] [] [] ?_
  refine aR 2 ?_
  refine aE ?_
  refine awp_ret ?_
  exact oF hF [] []

/-! ### beaconfleet/place.trackFault -/
def place_trackFault_R (ql : List api_Fix) (r : Int) : TV × Mem := (.v (.one (.d (.int .i64 r))), ⟨[], []⟩)

theorem place_trackFault_ok {ql : List api_Fix} {r} (hF : place_trackFault ql = some r) : Holds prog 20 [.v (.one (.d (.lst (List.map api_Fix.enc ql))))] ⟨[], []⟩ (Is (place_trackFault_R ql r)) := by
  unfold place_trackFault at hF
  refine holds_of_awp hΓ (fn := f20) (c := cB f20) (A := 0) (nx := 0) (by kernel_rfl) (by kernel_rfl) (by kernel_rfl) (by kernel_rfl) (by kernel_rfl) (by kernel_rfl) (lowc_of (by kernel_rfl)) ?_
  show Awp prog 0 12 (cB f20) _ _
  refine awp_seq ?_
  refine awp_region ?_
  refine aR 2 ?_
  refine aE ?_
  refine awp_seq ?_
  refine awp_seq ?_
  refine bE hF fun vr6 h1 hF => ?_
  refine awp_region ?_
  refine aR 1 ?_
  refine aC (place_CheckFixes_ok h1) [] [] [] ?_
  refine aR 1 ?_
  refine aE ?_
  refine awp_seq ?_
  refine awp_region ?_
  refine aR 2 ?_
  refine aE ?_
  refine cE hF (fun h2 hF => ?_) fun h2 hF => ?_
  · refine awp_true (by kernel_rfl) h2 ?_
    refine awp_seq ?_
    refine awp_region ?_
    refine aR 2 ?_
    refine aE ?_
    refine awp_ret ?_
    exact oF hF [] []
  · refine awp_false (by kernel_rfl) h2 ?_
    refine awp_skip ?_
    refine awp_seq ?_
    refine awp_seq ?_
    refine bE hF fun vr h3 hF => ?_
    refine awp_region ?_
    refine aR 2 ?_
    refine aC (slices_ContainsFunc_api_Fix_api_Fix_f1_place_trackFault_1_ok h3) [] [] [] ?_
    refine aE ?_
    refine cE hF (fun h4 hF => ?_) fun h4 hF => ?_
    · refine awp_true (by kernel_rfl) h4 ?_
      refine awp_seq ?_
      refine awp_region ?_
      refine aR 1 ?_
      refine aE ?_
      refine awp_ret ?_
      exact oF hF [] []
    · refine awp_false (by kernel_rfl) h4 ?_
      refine awp_skip ?_
      refine awp_seq ?_
      refine awp_region ?_
      refine aR 1 ?_
      refine aE ?_
      refine awp_ret ?_
      exact oF hF [] []

/-! ### beaconfleet/place.square -/
def place_square_R (qa : api_Spot) (qb : api_Spot) (r : Unit) : TV × Mem := (.v (.one (.d (.int .i64 (IntKind.wrap .i64 ((IntKind.wrap .i64 ((IntKind.wrap .i64 (qa.X - qb.X)) * (IntKind.wrap .i64 (qa.X - qb.X)))) + (IntKind.wrap .i64 ((IntKind.wrap .i64 (qa.Y - qb.Y)) * (IntKind.wrap .i64 (qa.Y - qb.Y))))))))), ⟨[], []⟩)

theorem place_square_ok {qa : api_Spot} {qb : api_Spot} {r} (hF : place_square qa qb = some r) : Holds prog 23 [.v (.agg [.d (.int .i64 qa.X), .d (.int .i64 qa.Y)]), .v (.agg [.d (.int .i64 qb.X), .d (.int .i64 qb.Y)])] ⟨[], []⟩ (Is (place_square_R qa qb r)) := by
  unfold place_square at hF
  refine holds_of_awp hΓ (fn := f23) (c := cB f23) (A := 0) (nx := 0) (by kernel_rfl) (by kernel_rfl) (by kernel_rfl) (by kernel_rfl) (by kernel_rfl) (by kernel_rfl) (lowc_of (by kernel_rfl)) ?_
  show Awp prog 0 28 (cB f23) _ _
  refine awp_seq ?_
  refine awp_region ?_
  refine aR 3 ?_
  refine aE ?_
  refine awp_seq ?_
  refine awp_region ?_
  refine aR 24 ?_
  refine aE ?_
  refine awp_ret ?_
  exact oF hF [] []

/-! ### math/bits.Mul64 -/
def bits_Mul64_R (qx : Int) (qy : Int) (r : Unit) : TV × Mem := (.tup [.one (.d (.int .u64 (IntKind.wrap .u64 ((IntKind.wrap .u64 ((IntKind.wrap .u64 ((ishr .u64 qx 32) * (ishr .u64 qy 32))) + (ishr .u64 (IntKind.wrap .u64 ((IntKind.wrap .u64 ((ishr .u64 qx 32) * (ibits .and .u64 qy 4294967295))) + (ishr .u64 (IntKind.wrap .u64 ((ibits .and .u64 qx 4294967295) * (ibits .and .u64 qy 4294967295))) 32))) 32))) + (ishr .u64 (IntKind.wrap .u64 ((ibits .and .u64 (IntKind.wrap .u64 ((IntKind.wrap .u64 ((ishr .u64 qx 32) * (ibits .and .u64 qy 4294967295))) + (ishr .u64 (IntKind.wrap .u64 ((ibits .and .u64 qx 4294967295) * (ibits .and .u64 qy 4294967295))) 32))) 4294967295) + (IntKind.wrap .u64 ((ibits .and .u64 qx 4294967295) * (ishr .u64 qy 32))))) 32))))), .one (.d (.int .u64 (IntKind.wrap .u64 (qx * qy))))], ⟨[], []⟩)

theorem bits_Mul64_ok {qx : Int} {qy : Int} {r} (hF : bits_Mul64 qx qy = some r) : Holds prog 43 [.v (.one (.d (.int .u64 qx))), .v (.one (.d (.int .u64 qy)))] ⟨[], []⟩ (Is (bits_Mul64_R qx qy r)) := by
  unfold bits_Mul64 at hF
  refine holds_of_awp hΓ (fn := f43) (c := cB f43) (A := 0) (nx := 0) (by kernel_rfl) (by kernel_rfl) (by kernel_rfl) (by kernel_rfl) (by kernel_rfl) (by kernel_rfl) (lowc_of (by kernel_rfl)) ?_
  show Awp prog 0 51 (cB f43) _ _
  refine awp_seq ?_
  refine awp_region ?_
  refine aR 2 ?_
  refine aE ?_
  refine awp_seq ?_
  refine awp_region ?_
  refine aR 3 ?_
  refine aE ?_
  refine awp_seq ?_
  refine awp_region ?_
  refine aR 3 ?_
  refine aE ?_
  refine awp_seq ?_
  refine awp_region ?_
  refine aR 3 ?_
  refine aE ?_
  refine awp_seq ?_
  refine awp_region ?_
  refine aR 3 ?_
  refine aE ?_
  refine awp_seq ?_
  refine awp_region ?_
  refine aR 4 ?_
  refine aE ?_
  refine awp_seq ?_
  refine awp_region ?_
  refine aR 7 ?_
  refine aE ?_
  refine awp_seq ?_
  refine awp_region ?_
  refine aR 3 ?_
  refine aE ?_
  refine awp_seq ?_
  refine awp_region ?_
  refine aR 3 ?_
  refine aE ?_
  refine awp_seq ?_
  refine awp_region ?_
  refine aR 6 ?_
  refine aE ?_
  refine awp_seq ?_
  refine awp_region ?_
  refine aR 9 ?_
  refine aE ?_
  refine awp_seq ?_
  refine awp_region ?_
  refine aR 4 ?_
  refine aE ?_
  refine awp_ret ?_
  exact oF hF [] []

/-! ### beaconfleet/place.product -/
def place_product_R (qa : Int) (qb : Int) (r : Unit) : TV × Mem := (.v (.agg [.d (.int .u64 (IntKind.wrap .u64 ((IntKind.wrap .u64 ((IntKind.wrap .u64 ((ishr .u64 (IntKind.wrap .u64 (qa)) 32) * (ishr .u64 (IntKind.wrap .u64 (qb)) 32))) + (ishr .u64 (IntKind.wrap .u64 ((IntKind.wrap .u64 ((ishr .u64 (IntKind.wrap .u64 (qa)) 32) * (ibits .and .u64 (IntKind.wrap .u64 (qb)) 4294967295))) + (ishr .u64 (IntKind.wrap .u64 ((ibits .and .u64 (IntKind.wrap .u64 (qa)) 4294967295) * (ibits .and .u64 (IntKind.wrap .u64 (qb)) 4294967295))) 32))) 32))) + (ishr .u64 (IntKind.wrap .u64 ((ibits .and .u64 (IntKind.wrap .u64 ((IntKind.wrap .u64 ((ishr .u64 (IntKind.wrap .u64 (qa)) 32) * (ibits .and .u64 (IntKind.wrap .u64 (qb)) 4294967295))) + (ishr .u64 (IntKind.wrap .u64 ((ibits .and .u64 (IntKind.wrap .u64 (qa)) 4294967295) * (ibits .and .u64 (IntKind.wrap .u64 (qb)) 4294967295))) 32))) 4294967295) + (IntKind.wrap .u64 ((ibits .and .u64 (IntKind.wrap .u64 (qa)) 4294967295) * (ishr .u64 (IntKind.wrap .u64 (qb)) 32))))) 32)))), .d (.int .u64 (IntKind.wrap .u64 ((IntKind.wrap .u64 (qa)) * (IntKind.wrap .u64 (qb)))))]), ⟨[], []⟩)

theorem place_product_ok {qa : Int} {qb : Int} {r} (hF : place_product qa qb = some r) : Holds prog 22 [.v (.one (.d (.int .i64 qa))), .v (.one (.d (.int .i64 qb)))] ⟨[], []⟩ (Is (place_product_R qa qb r)) := by
  unfold place_product at hF
  refine holds_of_awp hΓ (fn := f22) (c := cB f22) (A := 0) (nx := 0) (by kernel_rfl) (by kernel_rfl) (by kernel_rfl) (by kernel_rfl) (by kernel_rfl) (by kernel_rfl) (lowc_of (by kernel_rfl)) ?_
  show Awp prog 0 18 (cB f22) _ _
  refine awp_seq ?_
  refine awp_region ?_
  refine aR 1 ?_
  refine aE ?_
  refine awp_seq ?_
  refine bE hF fun _ h1 hF => ?_
  refine awp_region ?_
  refine aR 4 ?_
  refine aC (bits_Mul64_ok h1) [] [] [] ?_
  refine aR 5 ?_
  refine aE ?_
  refine awp_seq ?_
  refine awp_region ?_
  refine aR 4 ?_
  refine aE ?_
  refine awp_ret ?_
  exact oF hF [] []

/-! ### math/bits.Mul64 -/
def bits_Mul64_2_R (qx : Int) (r : Unit) : TV × Mem := (.tup [.one (.d (.int .u64 (IntKind.wrap .u64 ((IntKind.wrap .u64 ((IntKind.wrap .u64 ((ishr .u64 qx 32) * (ishr .u64 qx 32))) + (ishr .u64 (IntKind.wrap .u64 ((IntKind.wrap .u64 ((ishr .u64 qx 32) * (ibits .and .u64 qx 4294967295))) + (ishr .u64 (IntKind.wrap .u64 ((ibits .and .u64 qx 4294967295) * (ibits .and .u64 qx 4294967295))) 32))) 32))) + (ishr .u64 (IntKind.wrap .u64 ((ibits .and .u64 (IntKind.wrap .u64 ((IntKind.wrap .u64 ((ishr .u64 qx 32) * (ibits .and .u64 qx 4294967295))) + (ishr .u64 (IntKind.wrap .u64 ((ibits .and .u64 qx 4294967295) * (ibits .and .u64 qx 4294967295))) 32))) 4294967295) + (IntKind.wrap .u64 ((ibits .and .u64 qx 4294967295) * (ishr .u64 qx 32))))) 32))))), .one (.d (.int .u64 (IntKind.wrap .u64 (qx * qx))))], ⟨[], []⟩)

theorem bits_Mul64_2_ok {qx : Int} {r} (hF : bits_Mul64_2 qx = some r) : Holds prog 43 [.v (.one (.d (.int .u64 qx))), .v (.one (.d (.int .u64 qx)))] ⟨[], []⟩ (Is (bits_Mul64_2_R qx r)) := by
  unfold bits_Mul64_2 at hF
  refine holds_of_awp hΓ (fn := f43) (c := cB f43) (A := 0) (nx := 0) (by kernel_rfl) (by kernel_rfl) (by kernel_rfl) (by kernel_rfl) (by kernel_rfl) (by kernel_rfl) (lowc_of (by kernel_rfl)) ?_
  show Awp prog 0 51 (cB f43) _ _
  refine awp_seq ?_
  refine awp_region ?_
  refine aR 2 ?_
  refine aE ?_
  refine awp_seq ?_
  refine awp_region ?_
  refine aR 3 ?_
  refine aE ?_
  refine awp_seq ?_
  refine awp_region ?_
  refine aR 3 ?_
  refine aE ?_
  refine awp_seq ?_
  refine awp_region ?_
  refine aR 3 ?_
  refine aE ?_
  refine awp_seq ?_
  refine awp_region ?_
  refine aR 3 ?_
  refine aE ?_
  refine awp_seq ?_
  refine awp_region ?_
  refine aR 4 ?_
  refine aE ?_
  refine awp_seq ?_
  refine awp_region ?_
  refine aR 7 ?_
  refine aE ?_
  refine awp_seq ?_
  refine awp_region ?_
  refine aR 3 ?_
  refine aE ?_
  refine awp_seq ?_
  refine awp_region ?_
  refine aR 3 ?_
  refine aE ?_
  refine awp_seq ?_
  refine awp_region ?_
  refine aR 6 ?_
  refine aE ?_
  refine awp_seq ?_
  refine awp_region ?_
  refine aR 9 ?_
  refine aE ?_
  refine awp_seq ?_
  refine awp_region ?_
  refine aR 4 ?_
  refine aE ?_
  refine awp_ret ?_
  exact oF hF [] []

/-! ### beaconfleet/place.product -/
def place_product_2_R (qa : Int) (r : Unit) : TV × Mem := (.v (.agg [.d (.int .u64 (IntKind.wrap .u64 ((IntKind.wrap .u64 ((IntKind.wrap .u64 ((ishr .u64 (IntKind.wrap .u64 (qa)) 32) * (ishr .u64 (IntKind.wrap .u64 (qa)) 32))) + (ishr .u64 (IntKind.wrap .u64 ((IntKind.wrap .u64 ((ishr .u64 (IntKind.wrap .u64 (qa)) 32) * (ibits .and .u64 (IntKind.wrap .u64 (qa)) 4294967295))) + (ishr .u64 (IntKind.wrap .u64 ((ibits .and .u64 (IntKind.wrap .u64 (qa)) 4294967295) * (ibits .and .u64 (IntKind.wrap .u64 (qa)) 4294967295))) 32))) 32))) + (ishr .u64 (IntKind.wrap .u64 ((ibits .and .u64 (IntKind.wrap .u64 ((IntKind.wrap .u64 ((ishr .u64 (IntKind.wrap .u64 (qa)) 32) * (ibits .and .u64 (IntKind.wrap .u64 (qa)) 4294967295))) + (ishr .u64 (IntKind.wrap .u64 ((ibits .and .u64 (IntKind.wrap .u64 (qa)) 4294967295) * (ibits .and .u64 (IntKind.wrap .u64 (qa)) 4294967295))) 32))) 4294967295) + (IntKind.wrap .u64 ((ibits .and .u64 (IntKind.wrap .u64 (qa)) 4294967295) * (ishr .u64 (IntKind.wrap .u64 (qa)) 32))))) 32)))), .d (.int .u64 (IntKind.wrap .u64 ((IntKind.wrap .u64 (qa)) * (IntKind.wrap .u64 (qa)))))]), ⟨[], []⟩)

theorem place_product_2_ok {qa : Int} {r} (hF : place_product_2 qa = some r) : Holds prog 22 [.v (.one (.d (.int .i64 qa))), .v (.one (.d (.int .i64 qa)))] ⟨[], []⟩ (Is (place_product_2_R qa r)) := by
  unfold place_product_2 at hF
  refine holds_of_awp hΓ (fn := f22) (c := cB f22) (A := 0) (nx := 0) (by kernel_rfl) (by kernel_rfl) (by kernel_rfl) (by kernel_rfl) (by kernel_rfl) (by kernel_rfl) (lowc_of (by kernel_rfl)) ?_
  show Awp prog 0 18 (cB f22) _ _
  refine awp_seq ?_
  refine awp_region ?_
  refine aR 1 ?_
  refine aE ?_
  refine awp_seq ?_
  refine bE hF fun _ h1 hF => ?_
  refine awp_region ?_
  refine aR 4 ?_
  refine aC (bits_Mul64_2_ok h1) [] [] [] ?_
  refine aR 5 ?_
  refine aE ?_
  refine awp_seq ?_
  refine awp_region ?_
  refine aR 4 ?_
  refine aE ?_
  refine awp_ret ?_
  exact oF hF [] []

/-! ### (beaconfleet/place.wide).over -/
def place_wide_over_x1_k : Bool → AEx
  | _ => .normal

def place_wide_over_x1_S (qw : place_wide) (qx : place_wide) : Bool → St
  | vx => Mem.st ⟨[], []⟩ (tl [(4, .v (.one (.d (.bool vx))))]) 0

def place_wide_over_x1_I (qw : place_wide) (qx : place_wide) : St := Mem.st ⟨[], [(0, [.d (.int .u64 qw.high_), .d (.int .u64 qw.low_)]), (1, [.d (.int .u64 qx.high_), .d (.int .u64 qx.low_)])]⟩ (tl [(2, .v (.one (.box 0 0))), (3, .v (.one (.box 1 0)))]) 2

theorem place_wide_over_x1_ok (qw : place_wide) (qx : place_wide) {r} (hF : place_wide_over_x1 qw qx = some r) : Awp prog 0 24 (cL (cR (cB f25))) (Out 0 place_wide_over_x1_k (place_wide_over_x1_S qw qx) r) (place_wide_over_x1_I qw qx) := by
  unfold place_wide_over_x1 at hF
  refine cE hF (fun h1 hF => ?_) fun h1 hF => ?_
  · refine awp_region ?_
    refine aR 4 ?_
    refine aB h1 ?_
    refine aR 15 ?_
    refine aE ?_
    exact oO hF [] [] rfl
  · refine cE hF (fun h2 hF => ?_) fun h2 hF => ?_
    · refine awp_region ?_
      refine aR 4 ?_
      refine aB h1 ?_
      refine aR 5 ?_
      refine aB h2 ?_
      refine aR 9 ?_
      refine aE ?_
      exact oO hF [] [] rfl
    · refine awp_region ?_
      refine aR 4 ?_
      refine aB h1 ?_
      refine aR 5 ?_
      refine aB h2 ?_
      refine aR 9 ?_
      refine aE ?_
      exact oO hF [] [] rfl

def place_wide_over_R (qw : place_wide) (qx : place_wide) (r : Bool) : TV × Mem := (.v (.one (.d (.bool r))), ⟨[], []⟩)

theorem place_wide_over_ok {qw : place_wide} {qx : place_wide} {r} (hF : place_wide_over qw qx = some r) : Holds prog 25 [.v (.agg [.d (.int .u64 qw.high_), .d (.int .u64 qw.low_)]), .v (.agg [.d (.int .u64 qx.high_), .d (.int .u64 qx.low_)])] ⟨[], []⟩ (Is (place_wide_over_R qw qx r)) := by
  unfold place_wide_over at hF
  refine holds_of_awp hΓ (fn := f25) (c := cB f25) (A := 0) (nx := 0) (by kernel_rfl) (by kernel_rfl) (by kernel_rfl) (by kernel_rfl) (by kernel_rfl) (by kernel_rfl) (lowc_of (by kernel_rfl)) ?_
  show Awp prog 0 24 (cB f25) _ _
  refine awp_seq ?_
  refine awp_region ?_
  refine aR 3 ?_
  refine aE ?_
  refine awp_seq ?_
  refine awp_to (st' := place_wide_over_x1_I qw qx) (oT [(1, 1000)] []) ?_
  refine bE hF fun vx1 h3 hF => ?_
  refine awp_sub (place_wide_over_x1_ok qw qx h3) ?_
  refine awp_ret ?_
  exact oF hF [] []

/-! ### beaconfleet/place.Jumps -/
def place_Jumps_x3_k : Bool → AEx
  | _ => .normal

def place_Jumps_x3_S (qx : List api_Fix) (qx1 : Int) (vx : List Int) (vx1 : Int) (vx2 : Int) (vx3 : Int) (vy4 : api_Fix) (vy5 : api_Fix) : Bool → St
  | vx8 => Mem.st ⟨[(0, ⟨3, 1, List.map (encI .i64) vx⟩)], []⟩ (tl [(0, .v (.one (.d (.lst (List.map api_Fix.enc qx))))), (1, .v (.one (.d (.int .i64 qx1)))), (7, .v (.one (.own 0 none))), (8, .v (.one (.d (.int .i64 vx1)))), (9, .v (.one (.d (.int .i64 vx2)))), (10, .v (.one (.d (.int .i64 vx3)))), (57, .v (.one (.d (.bool vx8))))]) 1

def place_Jumps_x3_I (qx : List api_Fix) (qx1 : Int) (vx : List Int) (vx1 : Int) (vx2 : Int) (vx3 : Int) (vy4 : api_Fix) (vy5 : api_Fix) : St := Mem.st ⟨[(0, ⟨3, 1, List.map (encI .i64) vx⟩)], []⟩ (tl [(0, .v (.one (.d (.lst (List.map api_Fix.enc qx))))), (1, .v (.one (.d (.int .i64 qx1)))), (7, .v (.one (.own 0 none))), (8, .v (.one (.d (.int .i64 vx1)))), (9, .v (.one (.d (.int .i64 vx2)))), (10, .v (.one (.d (.int .i64 vx3)))), (11, .v (.one (.d (.int .i64 (IntKind.wrap .i64 (qx1 * (IntKind.wrap .i64 (vy4.At - vy5.At))))))))]) 1

theorem place_Jumps_x3_ok (qx : List api_Fix) (qx1 : Int) (vx : List Int) (vx1 : Int) (vx2 : Int) (vx3 : Int) (vy4 : api_Fix) (vy5 : api_Fix) {r} (hF : place_Jumps_x3 qx qx1 vx1 vx2 vx3 vy4 vy5 = some r) : Awp prog 0 66 (cL (cL (cR (cL (cL (cR (cL (cL (cR (cL (cR (cR (cR (cR (cR (cB f7)))))))))))))))) (Out 0 place_Jumps_x3_k (place_Jumps_x3_S qx qx1 vx vx1 vx2 vx3 vy4 vy5) r) (place_Jumps_x3_I qx qx1 vx vx1 vx2 vx3 vy4 vy5) := by
  unfold place_Jumps_x3 at hF
  refine bE hF fun vy6 h8 hF => ?_
  refine bE hF fun _ h9 hF => ?_
  refine bE hF fun vy7 h10 hF => ?_
  refine bE hF fun _ h11 hF => ?_
  refine bE hF fun _ h12 hF => ?_
  refine bE hF fun _ h13 hF => ?_
  refine bE hF fun _ h14 hF => ?_
  refine bE hF fun vr3 h15 hF => ?_
  refine cE hF (fun h16 hF => ?_) fun h16 hF => ?_
  · refine aD ?_
    refine dR 2 ?_
    refine dX (x_idx api_Fix.enc h8) ?_
    refine dR 1 ?_
    refine dC (place_spot_ok h9) [] [] [] ?_
    refine dR 2 ?_
    refine dX (x_idx api_Fix.enc h10) ?_
    refine dR 1 ?_
    refine dC (place_spot_ok h11) [] [] [] ?_
    refine dC (place_square_ok h12) [] [] [] ?_
    refine dC (place_product_ok h13) [] [] [] ?_
    refine dR 2 ?_
    refine dC (place_product_2_ok h14) [] [] [] ?_
    refine dCb (place_wide_over_ok h15) [] [] [] h16 ?_
    refine dR 4 ?_
    refine dE ?_
    exact oO hF [] [] rfl
  · refine aD ?_
    refine dR 2 ?_
    refine dX (x_idx api_Fix.enc h8) ?_
    refine dR 1 ?_
    refine dC (place_spot_ok h9) [] [] [] ?_
    refine dR 2 ?_
    refine dX (x_idx api_Fix.enc h10) ?_
    refine dR 1 ?_
    refine dC (place_spot_ok h11) [] [] [] ?_
    refine dC (place_square_ok h12) [] [] [] ?_
    refine dC (place_product_ok h13) [] [] [] ?_
    refine dR 2 ?_
    refine dC (place_product_2_ok h14) [] [] [] ?_
    refine dCb (place_wide_over_ok h15) [] [] [] h16 ?_
    refine dR 4 ?_
    refine dE ?_
    exact oO hF [] [] rfl

def place_Jumps_x2_k : ((List Int) × Int × Int) → AEx
  | _ => .normal

def place_Jumps_x2_S (qx : List api_Fix) (qx1 : Int) (vx : List Int) (vx1 : Int) (vx2 : Int) (vx3 : Int) : ((List Int) × Int × Int) → St
  | (vx9, vx10, vx11) => Mem.st ⟨[(0, ⟨3, 1, List.map (encI .i64) vx9⟩)], []⟩ (tl [(0, .v (.one (.d (.lst (List.map api_Fix.enc qx))))), (1, .v (.one (.d (.int .i64 qx1)))), (7, .v (.one (.own 0 none))), (8, .v (.one (.d (.int .i64 vx10)))), (9, .v (.one (.d (.int .i64 vx11)))), (10, .v (.one (.d (.int .i64 vx3))))]) 1

def place_Jumps_x2_I (qx : List api_Fix) (qx1 : Int) (vx : List Int) (vx1 : Int) (vx2 : Int) (vx3 : Int) : St := Mem.st ⟨[(0, ⟨3, 1, List.map (encI .i64) vx⟩)], []⟩ (tl [(0, .v (.one (.d (.lst (List.map api_Fix.enc qx))))), (1, .v (.one (.d (.int .i64 qx1)))), (7, .v (.one (.own 0 none))), (8, .v (.one (.d (.int .i64 vx1)))), (9, .v (.one (.d (.int .i64 vx2)))), (10, .v (.one (.d (.int .i64 vx3))))]) 1

theorem place_Jumps_x2_ok (qx : List api_Fix) (qx1 : Int) (vx : List Int) (vx1 : Int) (vx2 : Int) (vx3 : Int) {r} (hF : place_Jumps_x2 qx qx1 vx vx1 vx2 vx3 = some r) : Awp prog 0 66 (cL (cR (cL (cL (cR (cL (cR (cR (cR (cR (cR (cB f7)))))))))))) (Out 0 place_Jumps_x2_k (place_Jumps_x2_S qx qx1 vx vx1 vx2 vx3) r) (place_Jumps_x2_I qx qx1 vx vx1 vx2 vx3) := by
  unfold place_Jumps_x2 at hF
  refine awp_block ?_
  refine awp_seq ?_
  refine bE hF fun vy4 h6 hF => ?_
  refine bE hF fun vy5 h7 hF => ?_
  refine aD ?_
  refine dR 3 ?_
  refine dX (x_idx api_Fix.enc h6) ?_
  refine dR 4 ?_
  refine dX (x_idx api_Fix.enc h7) ?_
  refine dR 5 ?_
  refine dE ?_
  refine awp_seq ?_
  refine awp_seq ?_
  refine awp_to (st' := place_Jumps_x3_I qx qx1 vx vx1 vx2 vx3 vy4 vy5) (oT [] []) ?_
  refine bE hF fun vx8_1 h17 hF => ?_
  refine awp_sub (place_Jumps_x3_ok qx qx1 vx vx1 vx2 vx3 vy4 vy5 h17) ?_
  refine cE hF (fun h18 hF => ?_) fun h18 hF => ?_
  · refine awp_true (by kernel_rfl) h18 ?_
    refine awp_seq ?_
    refine gE hF fun h19 hF => ?_
    refine awp_region ?_
    refine aR 3 ?_
    refine aX (x_app (encI .i64) 0 h19) ?_
    refine aR 1 ?_
    refine aE ?_
    refine awp_seq ?_
    refine awp_region ?_
    refine aR 3 ?_
    refine aE ?_
    refine awp_exit ?_
    exact oO hF [(0, 3001)] [] rfl
  · refine awp_false (by kernel_rfl) h18 ?_
    refine awp_skip ?_
    refine awp_region ?_
    refine aR 3 ?_
    refine aE ?_
    exact oO hF [] [] rfl

def place_Jumps_x1_k : (List Int) → AEx
  | _ => .exit 0

def place_Jumps_x1_S (qx : List api_Fix) (qx1 : Int) : (List Int) → St
  | vx12 => Mem.st ⟨[(0, ⟨3, 1, List.map (encI .i64) vx12⟩)], []⟩ (tl [(7, .v (.one (.own 0 none)))]) 1

def place_Jumps_x1_H (qx : List api_Fix) (qx1 : Int) : (List Int) × Int × Int × Int → St
  | (vx, vx1, vx2, vx3) => Mem.st ⟨[(0, ⟨3, 1, List.map (encI .i64) vx⟩)], []⟩ (tl [(0, .v (.one (.d (.lst (List.map api_Fix.enc qx))))), (1, .v (.one (.d (.int .i64 qx1)))), (7, .v (.one (.own 0 none))), (8, .v (.one (.d (.int .i64 vx1)))), (9, .v (.one (.d (.int .i64 vx2)))), (10, .v (.one (.d (.int .i64 vx3))))]) 1

theorem place_Jumps_x1_ok (qx : List api_Fix) (qx1 : Int) (s : (List Int) × Int × Int × Int) (r : ((List Int) × Int × Int × Int) ⊕ ((List Int))) (hF : place_Jumps_x1 qx qx1 s = some r) : Awp prog 0 66 (cL (cL (cR (cL (cR (cR (cR (cR (cR (cB f7)))))))))) (Out 0 (kk place_Jumps_x1_k) (SS (place_Jumps_x1_H qx qx1) (place_Jumps_x1_S qx qx1)) r) (place_Jumps_x1_H qx qx1 s) := by
  obtain ⟨vx, vx1, vx2, vx3⟩ := s
  unfold place_Jumps_x1 at hF
  refine awp_seq ?_
  refine awp_seq ?_
  refine awp_region ?_
  refine aR 2 ?_
  refine aL api_Fix.enc qx ?_
  refine aR 1 ?_
  refine aE ?_
  refine cE hF (fun h5 hF => ?_) fun h5 hF => ?_
  · refine awp_true (by kernel_rfl) h5 ?_
    refine awp_skip ?_
    refine awp_seq ?_
    refine awp_to (st' := place_Jumps_x2_I qx qx1 vx vx1 vx2 vx3) (oT [] []) ?_
    refine bE hF fun x h20 hF => ?_
    obtain ⟨vx9_1, vx10_1, vx11_1⟩ := x
    refine awp_sub (place_Jumps_x2_ok qx qx1 vx vx1 vx2 vx3 h20) ?_
    refine awp_region ?_
    refine aR 3 ?_
    refine aE ?_
    exact oO hF [] [] rfl
  · refine awp_false (by kernel_rfl) h5 ?_
    refine awp_exit ?_
    exact oO hF [] [] rfl

def place_Jumps_R (qx : List api_Fix) (qx1 : Int) (r : (List Int) × Int) : TV × Mem := (.tup [.one (.own 0 none), .one (.d (.int .i64 r.2))], ⟨[(0, ⟨3, 1, List.map (encI .i64) r.1⟩)], []⟩)

theorem place_Jumps_ok {qx : List api_Fix} {qx1 : Int} {r} (hF : place_Jumps qx qx1 = some r) : Holds prog 7 [.v (.one (.d (.lst (List.map api_Fix.enc qx)))), .v (.one (.d (.int .i64 qx1)))] ⟨[], []⟩ (Is (place_Jumps_R qx qx1 r)) := by
  unfold place_Jumps at hF
  refine holds_of_awp hΓ (fn := f7) (c := cB f7) (A := 0) (nx := 0) (by kernel_rfl) (by kernel_rfl) (by kernel_rfl) (by kernel_rfl) (by kernel_rfl) (by kernel_rfl) (lowc_of (by kernel_rfl)) ?_
  show Awp prog 0 66 (cB f7) _ _
  refine awp_seq ?_
  refine awp_region ?_
  refine aR 2 ?_
  refine aE ?_
  refine awp_seq ?_
  refine awp_seq ?_
  refine bE hF fun vr1 h1 hF => ?_
  refine awp_region ?_
  refine aR 1 ?_
  refine aC (place_trackFault_ok h1) [] [] [] ?_
  refine aR 1 ?_
  refine aE ?_
  refine awp_seq ?_
  refine awp_region ?_
  refine aR 2 ?_
  refine aE ?_
  refine cE hF (fun h2 hF => ?_) fun h2 hF => ?_
  · refine awp_true (by kernel_rfl) h2 ?_
    refine awp_seq ?_
    refine awp_region ?_
    refine aR 3 ?_
    refine aE ?_
    refine awp_ret ?_
    exact oF hF [] [0]
  · refine awp_false (by kernel_rfl) h2 ?_
    refine awp_skip ?_
    refine awp_seq ?_
    refine awp_seq ?_
    refine bE hF fun vr h3 hF => ?_
    refine awp_region ?_
    refine aR 1 ?_
    refine aC (base_Out_ok h3) [] [] [] ?_
    refine aE ?_
    refine cE hF (fun h4 hF => ?_) fun h4 hF => ?_
    · refine awp_true (by kernel_rfl) h4 ?_
      refine awp_seq ?_
      refine awp_region ?_
      refine aR 2 ?_
      refine aE ?_
      refine awp_ret ?_
      exact oF hF [] [0]
    · refine awp_false (by kernel_rfl) h4 ?_
      refine awp_skip ?_
      refine awp_seq ?_
      refine awp_region ?_
      refine aR 1 ?_
      refine aE ?_
      refine awp_seq ?_
      refine awp_region ?_
      refine aR 2 ?_
      refine aE ?_
      refine awp_seq ?_
      refine awp_seq ?_
      refine awp_region ?_
      refine aR 1 ?_
      refine aE ?_
      refine awp_block ?_
      refine awp_to (st' := place_Jumps_x1_H qx qx1 ([], 0, 0, 1)) (oT [] [0]) ?_
      refine bE hF fun vx12_1 h21 hF => ?_
      refine awp_sub (awp_loop' (place_Jumps_x1_H qx qx1) place_Jumps_x1_k (place_Jumps_x1_S qx qx1) (by intro x; exact fun h => nomatch h) h21 (place_Jumps_x1_ok qx qx1)) ?_
      refine awp_seq ?_
      refine awp_region ?_
      refine aR 3 ?_
      refine aE ?_
      refine awp_ret ?_
      exact oF hF [] []

/-! ### beaconfleet/place.side -/
def place_side_R (qa : api_Spot) (qb : api_Spot) (qs : api_Spot) (r : Unit) : TV × Mem := (.v (.one (.d (.int .i64 (IntKind.wrap .i64 ((IntKind.wrap .i64 ((IntKind.wrap .i64 (qb.X - qa.X)) * (IntKind.wrap .i64 (qs.Y - qa.Y)))) - (IntKind.wrap .i64 ((IntKind.wrap .i64 (qb.Y - qa.Y)) * (IntKind.wrap .i64 (qs.X - qa.X))))))))), ⟨[], []⟩)

theorem place_side_ok {qa : api_Spot} {qb : api_Spot} {qs : api_Spot} {r} (hF : place_side qa qb qs = some r) : Holds prog 44 [.v (.agg [.d (.int .i64 qa.X), .d (.int .i64 qa.Y)]), .v (.agg [.d (.int .i64 qb.X), .d (.int .i64 qb.Y)]), .v (.agg [.d (.int .i64 qs.X), .d (.int .i64 qs.Y)])] ⟨[], []⟩ (Is (place_side_R qa qb qs r)) := by
  unfold place_side at hF
  refine holds_of_awp hΓ (fn := f44) (c := cB f44) (A := 0) (nx := 0) (by kernel_rfl) (by kernel_rfl) (by kernel_rfl) (by kernel_rfl) (by kernel_rfl) (by kernel_rfl) (lowc_of (by kernel_rfl)) ?_
  show Awp prog 0 30 (cB f44) _ _
  refine awp_seq ?_
  refine awp_region ?_
  refine aR 4 ?_
  refine aE ?_
  refine awp_seq ?_
  refine awp_region ?_
  refine aR 24 ?_
  refine aE ?_
  refine awp_ret ?_
  exact oF hF [] []

/-! ### beaconfleet/base.Gcd -/
def base_Gcd_x1_k : Int → AEx
  | _ => .exit 0

def base_Gcd_x1_S : Int → St
  | va1 => Mem.st ⟨[], []⟩ (tl [(0, .v (.one (.d (.int .i64 va1))))]) 0

def base_Gcd_x1_H : Int × Int → St
  | (va, vb) => Mem.st ⟨[], []⟩ (tl [(0, .v (.one (.d (.int .i64 va)))), (1, .v (.one (.d (.int .i64 vb))))]) 0

theorem base_Gcd_x1_ok (s : Int × Int) (r : (Int × Int) ⊕ (Int)) (hF : base_Gcd_x1  s = some r) : Awp prog 0 12 (cL (cL (cL (cR (cB f64))))) (Out 0 (kk base_Gcd_x1_k) (SS (base_Gcd_x1_H ) (base_Gcd_x1_S )) r) (base_Gcd_x1_H  s) := by
  obtain ⟨va, vb⟩ := s
  unfold base_Gcd_x1 at hF
  refine awp_seq ?_
  refine awp_seq ?_
  refine awp_region ?_
  refine aR 2 ?_
  refine aE ?_
  refine cE hF (fun h1 hF => ?_) fun h1 hF => ?_
  · refine awp_true (by kernel_rfl) h1 ?_
    refine awp_skip ?_
    refine awp_block ?_
    refine gE hF fun h2 hF => ?_
    refine aD ?_
    refine dR 3 ?_
    refine dX (x_rem h2) ?_
    refine dR 2 ?_
    refine dE ?_
    exact oO hF [] [] rfl
  · refine awp_false (by kernel_rfl) h1 ?_
    refine awp_exit ?_
    exact oO hF [] [] rfl

def base_Gcd_R (qa : Int) (qb : Int) (r : Int) : TV × Mem := (.v (.one (.d (.int .i64 r))), ⟨[], []⟩)

theorem base_Gcd_ok {qa : Int} {qb : Int} {r} (hF : base_Gcd qa qb = some r) : Holds prog 64 [.v (.one (.d (.int .i64 qa))), .v (.one (.d (.int .i64 qb)))] ⟨[], []⟩ (Is (base_Gcd_R qa qb r)) := by
  unfold base_Gcd at hF
  refine holds_of_awp hΓ (fn := f64) (c := cB f64) (A := 0) (nx := 0) (by kernel_rfl) (by kernel_rfl) (by kernel_rfl) (by kernel_rfl) (by kernel_rfl) (by kernel_rfl) (lowc_of (by kernel_rfl)) ?_
  show Awp prog 0 12 (cB f64) _ _
  refine awp_seq ?_
  refine awp_region ?_
  refine aR 1 ?_
  refine aE ?_
  refine awp_seq ?_
  refine awp_block ?_
  refine awp_to (st' := base_Gcd_x1_H  (qa, qb)) (oT [] []) ?_
  refine bE hF fun va1_1 h3 hF => ?_
  refine awp_sub (awp_loop' (base_Gcd_x1_H ) base_Gcd_x1_k (base_Gcd_x1_S ) (by intro x; exact fun h => nomatch h) h3 (base_Gcd_x1_ok )) ?_
  refine awp_seq ?_
  refine awp_region ?_
  refine aR 2 ?_
  refine aE ?_
  refine awp_ret ?_
  exact oF hF [] []

/-! ### beaconfleet/base.Fraction -/
def base_Fraction_R (qnum : Int) (qden : Int) (r : api_Fraction) : TV × Mem := (.v (.agg [.d (.int .i64 r.Num), .d (.int .i64 r.Den)]), ⟨[], []⟩)

theorem base_Fraction_ok {qnum : Int} {qden : Int} {r} (hF : base_Fraction qnum qden = some r) : Holds prog 45 [.v (.one (.d (.int .i64 qnum))), .v (.one (.d (.int .i64 qden)))] ⟨[], []⟩ (Is (base_Fraction_R qnum qden r)) := by
  unfold base_Fraction at hF
  refine holds_of_awp hΓ (fn := f45) (c := cB f45) (A := 0) (nx := 0) (by kernel_rfl) (by kernel_rfl) (by kernel_rfl) (by kernel_rfl) (by kernel_rfl) (by kernel_rfl) (lowc_of (by kernel_rfl)) ?_
  show Awp prog 0 19 (cB f45) _ _
  refine awp_seq ?_
  refine awp_region ?_
  refine aR 1 ?_
  refine aE ?_
  refine awp_seq ?_
  refine bE hF fun vr h1 hF => ?_
  refine awp_region ?_
  refine aR 5 ?_
  refine aC (base_Gcd_ok h1) [] [] [] ?_
  refine aR 1 ?_
  refine aE ?_
  refine awp_seq ?_
  refine gE hF fun h2 hF => ?_
  refine aD ?_
  refine dR 2 ?_
  refine dX (x_quo h2) ?_
  refine dR 2 ?_
  refine dX (x_quo h2) ?_
  refine dR 2 ?_
  refine dE ?_
  refine awp_ret ?_
  exact oF hF [] []

/-! ### beaconfleet/place.far -/
def place_far_R (qa : api_Spot) (qb : api_Spot) (qs : api_Spot) (r : api_Fraction) : TV × Mem := (.v (.agg [.d (.int .i64 r.Num), .d (.int .i64 r.Den)]), ⟨[], []⟩)

theorem place_far_ok {qa : api_Spot} {qb : api_Spot} {qs : api_Spot} {r} (hF : place_far qa qb qs = some r) : Holds prog 27 [.v (.agg [.d (.int .i64 qa.X), .d (.int .i64 qa.Y)]), .v (.agg [.d (.int .i64 qb.X), .d (.int .i64 qb.Y)]), .v (.agg [.d (.int .i64 qs.X), .d (.int .i64 qs.Y)])] ⟨[], []⟩ (Is (place_far_R qa qb qs r)) := by
  unfold place_far at hF
  refine holds_of_awp hΓ (fn := f27) (c := cB f27) (A := 0) (nx := 0) (by kernel_rfl) (by kernel_rfl) (by kernel_rfl) (by kernel_rfl) (by kernel_rfl) (by kernel_rfl) (lowc_of (by kernel_rfl)) ?_
  show Awp prog 0 60 (cB f27) _ _
  refine awp_seq ?_
  refine awp_region ?_
  refine aR 4 ?_
  refine aE ?_
  refine awp_seq ?_
  refine bE hF fun _ h1 hF => ?_
  refine awp_region ?_
  refine aR 2 ?_
  refine aC (place_square_ok h1) [] [] [] ?_
  refine aR 1 ?_
  refine aE ?_
  refine awp_seq ?_
  refine awp_region ?_
  refine aR 24 ?_
  refine aE ?_
  refine awp_seq ?_
  refine awp_block ?_
  refine awp_seq ?_
  refine awp_region ?_
  refine aR 3 ?_
  refine aE ?_
  refine cE hF (fun h2 hF => ?_) fun h2 hF => ?_
  · refine awp_true (by kernel_rfl) h2 ?_
    refine awp_seq ?_
    refine bE hF fun _ h3 hF => ?_
    refine awp_region ?_
    refine aR 2 ?_
    refine aC (place_square_ok h3) [] [] [] ?_
    refine aR 2 ?_
    refine aE ?_
    refine awp_ret ?_
    exact oF hF [] []
  · refine awp_false (by kernel_rfl) h2 ?_
    refine awp_seq ?_
    refine awp_region ?_
    refine aR 4 ?_
    refine aE ?_
    refine cE hF (fun h4 hF => ?_) fun h4 hF => ?_
    · refine awp_true (by kernel_rfl) h4 ?_
      refine awp_seq ?_
      refine bE hF fun _ h5 hF => ?_
      refine awp_region ?_
      refine aR 2 ?_
      refine aC (place_square_ok h5) [] [] [] ?_
      refine aR 2 ?_
      refine aE ?_
      refine awp_ret ?_
      exact oF hF [] []
    · refine awp_false (by kernel_rfl) h4 ?_
      refine awp_skip ?_
      refine awp_seq ?_
      refine bE hF fun _ h6 hF => ?_
      refine awp_region ?_
      refine aR 3 ?_
      refine aC (place_side_ok h6) [] [] [] ?_
      refine aR 1 ?_
      refine aE ?_
      refine awp_seq ?_
      refine bE hF fun vr1 h7 hF => ?_
      refine awp_region ?_
      refine aR 4 ?_
      refine aC (base_Fraction_ok h7) [] [] [] ?_
      refine aR 1 ?_
      refine aE ?_
      refine awp_ret ?_
      exact oF hF [] []

/-! ### beaconfleet/base.CompareProducts -/
def base_CompareProducts_x2_k : Bool → AEx
  | _ => .normal

def base_CompareProducts_x2_S (qa : Int) (qb : Int) (qc : Int) (qd : Int) : Bool → St
  | vx => Mem.st ⟨[], []⟩ (tl [(9, .v (.one (.d (.int .u64 (IntKind.wrap .u64 ((IntKind.wrap .u64 ((IntKind.wrap .u64 ((ishr .u64 (IntKind.wrap .u64 (qa)) 32) * (ishr .u64 (IntKind.wrap .u64 (qb)) 32))) + (ishr .u64 (IntKind.wrap .u64 ((IntKind.wrap .u64 ((ishr .u64 (IntKind.wrap .u64 (qa)) 32) * (ibits .and .u64 (IntKind.wrap .u64 (qb)) 4294967295))) + (ishr .u64 (IntKind.wrap .u64 ((ibits .and .u64 (IntKind.wrap .u64 (qa)) 4294967295) * (ibits .and .u64 (IntKind.wrap .u64 (qb)) 4294967295))) 32))) 32))) + (ishr .u64 (IntKind.wrap .u64 ((ibits .and .u64 (IntKind.wrap .u64 ((IntKind.wrap .u64 ((ishr .u64 (IntKind.wrap .u64 (qa)) 32) * (ibits .and .u64 (IntKind.wrap .u64 (qb)) 4294967295))) + (ishr .u64 (IntKind.wrap .u64 ((ibits .and .u64 (IntKind.wrap .u64 (qa)) 4294967295) * (ibits .and .u64 (IntKind.wrap .u64 (qb)) 4294967295))) 32))) 4294967295) + (IntKind.wrap .u64 ((ibits .and .u64 (IntKind.wrap .u64 (qa)) 4294967295) * (ishr .u64 (IntKind.wrap .u64 (qb)) 32))))) 32))))))), (10, .v (.one (.d (.int .u64 (IntKind.wrap .u64 ((IntKind.wrap .u64 (qa)) * (IntKind.wrap .u64 (qb)))))))), (11, .v (.one (.d (.int .u64 (IntKind.wrap .u64 ((IntKind.wrap .u64 ((IntKind.wrap .u64 ((ishr .u64 (IntKind.wrap .u64 (qc)) 32) * (ishr .u64 (IntKind.wrap .u64 (qd)) 32))) + (ishr .u64 (IntKind.wrap .u64 ((IntKind.wrap .u64 ((ishr .u64 (IntKind.wrap .u64 (qc)) 32) * (ibits .and .u64 (IntKind.wrap .u64 (qd)) 4294967295))) + (ishr .u64 (IntKind.wrap .u64 ((ibits .and .u64 (IntKind.wrap .u64 (qc)) 4294967295) * (ibits .and .u64 (IntKind.wrap .u64 (qd)) 4294967295))) 32))) 32))) + (ishr .u64 (IntKind.wrap .u64 ((ibits .and .u64 (IntKind.wrap .u64 ((IntKind.wrap .u64 ((ishr .u64 (IntKind.wrap .u64 (qc)) 32) * (ibits .and .u64 (IntKind.wrap .u64 (qd)) 4294967295))) + (ishr .u64 (IntKind.wrap .u64 ((ibits .and .u64 (IntKind.wrap .u64 (qc)) 4294967295) * (ibits .and .u64 (IntKind.wrap .u64 (qd)) 4294967295))) 32))) 4294967295) + (IntKind.wrap .u64 ((ibits .and .u64 (IntKind.wrap .u64 (qc)) 4294967295) * (ishr .u64 (IntKind.wrap .u64 (qd)) 32))))) 32))))))), (12, .v (.one (.d (.int .u64 (IntKind.wrap .u64 ((IntKind.wrap .u64 (qc)) * (IntKind.wrap .u64 (qd)))))))), (29, .v (.one (.d (.bool vx))))]) 0

def base_CompareProducts_x2_I (qa : Int) (qb : Int) (qc : Int) (qd : Int) : St := Mem.st ⟨[], []⟩ (tl [(9, .v (.one (.d (.int .u64 (IntKind.wrap .u64 ((IntKind.wrap .u64 ((IntKind.wrap .u64 ((ishr .u64 (IntKind.wrap .u64 (qa)) 32) * (ishr .u64 (IntKind.wrap .u64 (qb)) 32))) + (ishr .u64 (IntKind.wrap .u64 ((IntKind.wrap .u64 ((ishr .u64 (IntKind.wrap .u64 (qa)) 32) * (ibits .and .u64 (IntKind.wrap .u64 (qb)) 4294967295))) + (ishr .u64 (IntKind.wrap .u64 ((ibits .and .u64 (IntKind.wrap .u64 (qa)) 4294967295) * (ibits .and .u64 (IntKind.wrap .u64 (qb)) 4294967295))) 32))) 32))) + (ishr .u64 (IntKind.wrap .u64 ((ibits .and .u64 (IntKind.wrap .u64 ((IntKind.wrap .u64 ((ishr .u64 (IntKind.wrap .u64 (qa)) 32) * (ibits .and .u64 (IntKind.wrap .u64 (qb)) 4294967295))) + (ishr .u64 (IntKind.wrap .u64 ((ibits .and .u64 (IntKind.wrap .u64 (qa)) 4294967295) * (ibits .and .u64 (IntKind.wrap .u64 (qb)) 4294967295))) 32))) 4294967295) + (IntKind.wrap .u64 ((ibits .and .u64 (IntKind.wrap .u64 (qa)) 4294967295) * (ishr .u64 (IntKind.wrap .u64 (qb)) 32))))) 32))))))), (10, .v (.one (.d (.int .u64 (IntKind.wrap .u64 ((IntKind.wrap .u64 (qa)) * (IntKind.wrap .u64 (qb)))))))), (11, .v (.one (.d (.int .u64 (IntKind.wrap .u64 ((IntKind.wrap .u64 ((IntKind.wrap .u64 ((ishr .u64 (IntKind.wrap .u64 (qc)) 32) * (ishr .u64 (IntKind.wrap .u64 (qd)) 32))) + (ishr .u64 (IntKind.wrap .u64 ((IntKind.wrap .u64 ((ishr .u64 (IntKind.wrap .u64 (qc)) 32) * (ibits .and .u64 (IntKind.wrap .u64 (qd)) 4294967295))) + (ishr .u64 (IntKind.wrap .u64 ((ibits .and .u64 (IntKind.wrap .u64 (qc)) 4294967295) * (ibits .and .u64 (IntKind.wrap .u64 (qd)) 4294967295))) 32))) 32))) + (ishr .u64 (IntKind.wrap .u64 ((ibits .and .u64 (IntKind.wrap .u64 ((IntKind.wrap .u64 ((ishr .u64 (IntKind.wrap .u64 (qc)) 32) * (ibits .and .u64 (IntKind.wrap .u64 (qd)) 4294967295))) + (ishr .u64 (IntKind.wrap .u64 ((ibits .and .u64 (IntKind.wrap .u64 (qc)) 4294967295) * (ibits .and .u64 (IntKind.wrap .u64 (qd)) 4294967295))) 32))) 4294967295) + (IntKind.wrap .u64 ((ibits .and .u64 (IntKind.wrap .u64 (qc)) 4294967295) * (ishr .u64 (IntKind.wrap .u64 (qd)) 32))))) 32))))))), (12, .v (.one (.d (.int .u64 (IntKind.wrap .u64 ((IntKind.wrap .u64 (qc)) * (IntKind.wrap .u64 (qd))))))))]) 0

theorem base_CompareProducts_x2_ok (qa : Int) (qb : Int) (qc : Int) (qd : Int) {r} (hF : base_CompareProducts_x2 qa qb qc qd = some r) : Awp prog 0 55 (cL (cL (cL (cL (cR (cR (cR (cB f46)))))))) (Out 0 base_CompareProducts_x2_k (base_CompareProducts_x2_S qa qb qc qd) r) (base_CompareProducts_x2_I qa qb qc qd) := by
  unfold base_CompareProducts_x2 at hF
  refine cE hF (fun h3 hF => ?_) fun h3 hF => ?_
  · refine awp_region ?_
    refine aR 2 ?_
    refine aB h3 ?_
    refine aR 6 ?_
    refine aE ?_
    exact oO hF [] [] rfl
  · refine awp_region ?_
    refine aR 2 ?_
    refine aB h3 ?_
    refine aR 6 ?_
    refine aE ?_
    exact oO hF [] [] rfl

def base_CompareProducts_x1_k : Bool → AEx
  | _ => .normal

def base_CompareProducts_x1_S (qa : Int) (qb : Int) (qc : Int) (qd : Int) : Bool → St
  | vx2 => Mem.st ⟨[], []⟩ (tl [(9, .v (.one (.d (.int .u64 (IntKind.wrap .u64 ((IntKind.wrap .u64 ((IntKind.wrap .u64 ((ishr .u64 (IntKind.wrap .u64 (qa)) 32) * (ishr .u64 (IntKind.wrap .u64 (qb)) 32))) + (ishr .u64 (IntKind.wrap .u64 ((IntKind.wrap .u64 ((ishr .u64 (IntKind.wrap .u64 (qa)) 32) * (ibits .and .u64 (IntKind.wrap .u64 (qb)) 4294967295))) + (ishr .u64 (IntKind.wrap .u64 ((ibits .and .u64 (IntKind.wrap .u64 (qa)) 4294967295) * (ibits .and .u64 (IntKind.wrap .u64 (qb)) 4294967295))) 32))) 32))) + (ishr .u64 (IntKind.wrap .u64 ((ibits .and .u64 (IntKind.wrap .u64 ((IntKind.wrap .u64 ((ishr .u64 (IntKind.wrap .u64 (qa)) 32) * (ibits .and .u64 (IntKind.wrap .u64 (qb)) 4294967295))) + (ishr .u64 (IntKind.wrap .u64 ((ibits .and .u64 (IntKind.wrap .u64 (qa)) 4294967295) * (ibits .and .u64 (IntKind.wrap .u64 (qb)) 4294967295))) 32))) 4294967295) + (IntKind.wrap .u64 ((ibits .and .u64 (IntKind.wrap .u64 (qa)) 4294967295) * (ishr .u64 (IntKind.wrap .u64 (qb)) 32))))) 32))))))), (10, .v (.one (.d (.int .u64 (IntKind.wrap .u64 ((IntKind.wrap .u64 (qa)) * (IntKind.wrap .u64 (qb)))))))), (11, .v (.one (.d (.int .u64 (IntKind.wrap .u64 ((IntKind.wrap .u64 ((IntKind.wrap .u64 ((ishr .u64 (IntKind.wrap .u64 (qc)) 32) * (ishr .u64 (IntKind.wrap .u64 (qd)) 32))) + (ishr .u64 (IntKind.wrap .u64 ((IntKind.wrap .u64 ((ishr .u64 (IntKind.wrap .u64 (qc)) 32) * (ibits .and .u64 (IntKind.wrap .u64 (qd)) 4294967295))) + (ishr .u64 (IntKind.wrap .u64 ((ibits .and .u64 (IntKind.wrap .u64 (qc)) 4294967295) * (ibits .and .u64 (IntKind.wrap .u64 (qd)) 4294967295))) 32))) 32))) + (ishr .u64 (IntKind.wrap .u64 ((ibits .and .u64 (IntKind.wrap .u64 ((IntKind.wrap .u64 ((ishr .u64 (IntKind.wrap .u64 (qc)) 32) * (ibits .and .u64 (IntKind.wrap .u64 (qd)) 4294967295))) + (ishr .u64 (IntKind.wrap .u64 ((ibits .and .u64 (IntKind.wrap .u64 (qc)) 4294967295) * (ibits .and .u64 (IntKind.wrap .u64 (qd)) 4294967295))) 32))) 4294967295) + (IntKind.wrap .u64 ((ibits .and .u64 (IntKind.wrap .u64 (qc)) 4294967295) * (ishr .u64 (IntKind.wrap .u64 (qd)) 32))))) 32))))))), (12, .v (.one (.d (.int .u64 (IntKind.wrap .u64 ((IntKind.wrap .u64 (qc)) * (IntKind.wrap .u64 (qd)))))))), (29, .v (.one (.d (.bool vx2))))]) 0

def base_CompareProducts_x1_I (qa : Int) (qb : Int) (qc : Int) (qd : Int) : St := Mem.st ⟨[], []⟩ (tl [(9, .v (.one (.d (.int .u64 (IntKind.wrap .u64 ((IntKind.wrap .u64 ((IntKind.wrap .u64 ((ishr .u64 (IntKind.wrap .u64 (qa)) 32) * (ishr .u64 (IntKind.wrap .u64 (qb)) 32))) + (ishr .u64 (IntKind.wrap .u64 ((IntKind.wrap .u64 ((ishr .u64 (IntKind.wrap .u64 (qa)) 32) * (ibits .and .u64 (IntKind.wrap .u64 (qb)) 4294967295))) + (ishr .u64 (IntKind.wrap .u64 ((ibits .and .u64 (IntKind.wrap .u64 (qa)) 4294967295) * (ibits .and .u64 (IntKind.wrap .u64 (qb)) 4294967295))) 32))) 32))) + (ishr .u64 (IntKind.wrap .u64 ((ibits .and .u64 (IntKind.wrap .u64 ((IntKind.wrap .u64 ((ishr .u64 (IntKind.wrap .u64 (qa)) 32) * (ibits .and .u64 (IntKind.wrap .u64 (qb)) 4294967295))) + (ishr .u64 (IntKind.wrap .u64 ((ibits .and .u64 (IntKind.wrap .u64 (qa)) 4294967295) * (ibits .and .u64 (IntKind.wrap .u64 (qb)) 4294967295))) 32))) 4294967295) + (IntKind.wrap .u64 ((ibits .and .u64 (IntKind.wrap .u64 (qa)) 4294967295) * (ishr .u64 (IntKind.wrap .u64 (qb)) 32))))) 32))))))), (10, .v (.one (.d (.int .u64 (IntKind.wrap .u64 ((IntKind.wrap .u64 (qa)) * (IntKind.wrap .u64 (qb)))))))), (11, .v (.one (.d (.int .u64 (IntKind.wrap .u64 ((IntKind.wrap .u64 ((IntKind.wrap .u64 ((ishr .u64 (IntKind.wrap .u64 (qc)) 32) * (ishr .u64 (IntKind.wrap .u64 (qd)) 32))) + (ishr .u64 (IntKind.wrap .u64 ((IntKind.wrap .u64 ((ishr .u64 (IntKind.wrap .u64 (qc)) 32) * (ibits .and .u64 (IntKind.wrap .u64 (qd)) 4294967295))) + (ishr .u64 (IntKind.wrap .u64 ((ibits .and .u64 (IntKind.wrap .u64 (qc)) 4294967295) * (ibits .and .u64 (IntKind.wrap .u64 (qd)) 4294967295))) 32))) 32))) + (ishr .u64 (IntKind.wrap .u64 ((ibits .and .u64 (IntKind.wrap .u64 ((IntKind.wrap .u64 ((ishr .u64 (IntKind.wrap .u64 (qc)) 32) * (ibits .and .u64 (IntKind.wrap .u64 (qd)) 4294967295))) + (ishr .u64 (IntKind.wrap .u64 ((ibits .and .u64 (IntKind.wrap .u64 (qc)) 4294967295) * (ibits .and .u64 (IntKind.wrap .u64 (qd)) 4294967295))) 32))) 4294967295) + (IntKind.wrap .u64 ((ibits .and .u64 (IntKind.wrap .u64 (qc)) 4294967295) * (ishr .u64 (IntKind.wrap .u64 (qd)) 32))))) 32))))))), (12, .v (.one (.d (.int .u64 (IntKind.wrap .u64 ((IntKind.wrap .u64 (qc)) * (IntKind.wrap .u64 (qd))))))))]) 0

theorem base_CompareProducts_x1_ok (qa : Int) (qb : Int) (qc : Int) (qd : Int) {r} (hF : base_CompareProducts_x1 qa qb qc qd = some r) : Awp prog 0 55 (cL (cL (cL (cR (cR (cR (cB f46))))))) (Out 0 base_CompareProducts_x1_k (base_CompareProducts_x1_S qa qb qc qd) r) (base_CompareProducts_x1_I qa qb qc qd) := by
  unfold base_CompareProducts_x1 at hF
  refine awp_seq ?_
  refine awp_to (st' := base_CompareProducts_x2_I qa qb qc qd) (oT [] []) ?_
  refine bE hF fun vx1 h4 hF => ?_
  refine awp_sub (base_CompareProducts_x2_ok qa qb qc qd h4) ?_
  refine cE hF (fun h5 hF => ?_) fun h5 hF => ?_
  · refine awp_true (by kernel_rfl) h5 ?_
    refine awp_skip ?_
    exact oO hF [] [] rfl
  · refine awp_false (by kernel_rfl) h5 ?_
    refine cE hF (fun h6 hF => ?_) fun h6 hF => ?_
    · refine awp_region ?_
      refine aR 2 ?_
      refine aB h6 ?_
      refine aR 6 ?_
      refine aE ?_
      exact oO hF [] [] rfl
    · refine awp_region ?_
      refine aR 2 ?_
      refine aB h6 ?_
      refine aR 6 ?_
      refine aE ?_
      exact oO hF [] [] rfl

def base_CompareProducts_x3_k : Bool → AEx
  | _ => .normal

def base_CompareProducts_x3_S (qa : Int) (qb : Int) (qc : Int) (qd : Int) : Bool → St
  | vx3 => Mem.st ⟨[], []⟩ (tl [(46, .v (.one (.d (.bool vx3))))]) 0

def base_CompareProducts_x3_I (qa : Int) (qb : Int) (qc : Int) (qd : Int) : St := Mem.st ⟨[], []⟩ (tl [(9, .v (.one (.d (.int .u64 (IntKind.wrap .u64 ((IntKind.wrap .u64 ((IntKind.wrap .u64 ((ishr .u64 (IntKind.wrap .u64 (qa)) 32) * (ishr .u64 (IntKind.wrap .u64 (qb)) 32))) + (ishr .u64 (IntKind.wrap .u64 ((IntKind.wrap .u64 ((ishr .u64 (IntKind.wrap .u64 (qa)) 32) * (ibits .and .u64 (IntKind.wrap .u64 (qb)) 4294967295))) + (ishr .u64 (IntKind.wrap .u64 ((ibits .and .u64 (IntKind.wrap .u64 (qa)) 4294967295) * (ibits .and .u64 (IntKind.wrap .u64 (qb)) 4294967295))) 32))) 32))) + (ishr .u64 (IntKind.wrap .u64 ((ibits .and .u64 (IntKind.wrap .u64 ((IntKind.wrap .u64 ((ishr .u64 (IntKind.wrap .u64 (qa)) 32) * (ibits .and .u64 (IntKind.wrap .u64 (qb)) 4294967295))) + (ishr .u64 (IntKind.wrap .u64 ((ibits .and .u64 (IntKind.wrap .u64 (qa)) 4294967295) * (ibits .and .u64 (IntKind.wrap .u64 (qb)) 4294967295))) 32))) 4294967295) + (IntKind.wrap .u64 ((ibits .and .u64 (IntKind.wrap .u64 (qa)) 4294967295) * (ishr .u64 (IntKind.wrap .u64 (qb)) 32))))) 32))))))), (10, .v (.one (.d (.int .u64 (IntKind.wrap .u64 ((IntKind.wrap .u64 (qa)) * (IntKind.wrap .u64 (qb)))))))), (11, .v (.one (.d (.int .u64 (IntKind.wrap .u64 ((IntKind.wrap .u64 ((IntKind.wrap .u64 ((ishr .u64 (IntKind.wrap .u64 (qc)) 32) * (ishr .u64 (IntKind.wrap .u64 (qd)) 32))) + (ishr .u64 (IntKind.wrap .u64 ((IntKind.wrap .u64 ((ishr .u64 (IntKind.wrap .u64 (qc)) 32) * (ibits .and .u64 (IntKind.wrap .u64 (qd)) 4294967295))) + (ishr .u64 (IntKind.wrap .u64 ((ibits .and .u64 (IntKind.wrap .u64 (qc)) 4294967295) * (ibits .and .u64 (IntKind.wrap .u64 (qd)) 4294967295))) 32))) 32))) + (ishr .u64 (IntKind.wrap .u64 ((ibits .and .u64 (IntKind.wrap .u64 ((IntKind.wrap .u64 ((ishr .u64 (IntKind.wrap .u64 (qc)) 32) * (ibits .and .u64 (IntKind.wrap .u64 (qd)) 4294967295))) + (ishr .u64 (IntKind.wrap .u64 ((ibits .and .u64 (IntKind.wrap .u64 (qc)) 4294967295) * (ibits .and .u64 (IntKind.wrap .u64 (qd)) 4294967295))) 32))) 4294967295) + (IntKind.wrap .u64 ((ibits .and .u64 (IntKind.wrap .u64 (qc)) 4294967295) * (ishr .u64 (IntKind.wrap .u64 (qd)) 32))))) 32))))))), (12, .v (.one (.d (.int .u64 (IntKind.wrap .u64 ((IntKind.wrap .u64 (qc)) * (IntKind.wrap .u64 (qd))))))))]) 0

theorem base_CompareProducts_x3_ok (qa : Int) (qb : Int) (qc : Int) (qd : Int) {r} (hF : base_CompareProducts_x3 qa qb qc qd = some r) : Awp prog 0 55 (cL (cR (cR (cL (cL (cR (cR (cR (cB f46))))))))) (Out 0 base_CompareProducts_x3_k (base_CompareProducts_x3_S qa qb qc qd) r) (base_CompareProducts_x3_I qa qb qc qd) := by
  unfold base_CompareProducts_x3 at hF
  refine cE hF (fun h9 hF => ?_) fun h9 hF => ?_
  · refine awp_region ?_
    refine aR 2 ?_
    refine aB h9 ?_
    refine aR 6 ?_
    refine aE ?_
    exact oO hF [] [] rfl
  · refine awp_region ?_
    refine aR 2 ?_
    refine aB h9 ?_
    refine aR 6 ?_
    refine aE ?_
    exact oO hF [] [] rfl

def base_CompareProducts_R (qa : Int) (qb : Int) (qc : Int) (qd : Int) (r : Int) : TV × Mem := (.v (.one (.d (.int .i64 r))), ⟨[], []⟩)

theorem base_CompareProducts_ok {qa : Int} {qb : Int} {qc : Int} {qd : Int} {r} (hF : base_CompareProducts qa qb qc qd = some r) : Holds prog 46 [.v (.one (.d (.int .i64 qa))), .v (.one (.d (.int .i64 qb))), .v (.one (.d (.int .i64 qc))), .v (.one (.d (.int .i64 qd)))] ⟨[], []⟩ (Is (base_CompareProducts_R qa qb qc qd r)) := by
  unfold base_CompareProducts at hF
  refine holds_of_awp hΓ (fn := f46) (c := cB f46) (A := 0) (nx := 0) (by kernel_rfl) (by kernel_rfl) (by kernel_rfl) (by kernel_rfl) (by kernel_rfl) (by kernel_rfl) (lowc_of (by kernel_rfl)) ?_
  show Awp prog 0 55 (cB f46) _ _
  refine awp_seq ?_
  refine awp_region ?_
  refine aR 1 ?_
  refine aE ?_
  refine awp_seq ?_
  refine bE hF fun _ h1 hF => ?_
  refine awp_region ?_
  refine aR 4 ?_
  refine aC (bits_Mul64_ok h1) [] [] [] ?_
  refine aR 5 ?_
  refine aE ?_
  refine awp_seq ?_
  refine bE hF fun _ h2 hF => ?_
  refine awp_region ?_
  refine aR 4 ?_
  refine aC (bits_Mul64_ok h2) [] [] [] ?_
  refine aR 5 ?_
  refine aE ?_
  refine awp_seq ?_
  refine awp_block ?_
  refine awp_seq ?_
  refine awp_to (st' := base_CompareProducts_x1_I qa qb qc qd) (oT [] []) ?_
  refine bE hF fun vx2_1 h7 hF => ?_
  refine awp_sub (base_CompareProducts_x1_ok qa qb qc qd h7) ?_
  refine cE hF (fun h8 hF => ?_) fun h8 hF => ?_
  · refine awp_true (by kernel_rfl) h8 ?_
    refine awp_seq ?_
    refine awp_region ?_
    refine aR 1 ?_
    refine aE ?_
    refine awp_ret ?_
    exact oF hF [] []
  · refine awp_false (by kernel_rfl) h8 ?_
    refine awp_seq ?_
    refine awp_to (st' := base_CompareProducts_x3_I qa qb qc qd) (oT [] []) ?_
    refine bE hF fun vx3_1 h10 hF => ?_
    refine awp_sub (base_CompareProducts_x3_ok qa qb qc qd h10) ?_
    refine cE hF (fun h11 hF => ?_) fun h11 hF => ?_
    · refine awp_true (by kernel_rfl) h11 ?_
      refine awp_seq ?_
      refine awp_region ?_
      refine aR 1 ?_
      refine aE ?_
      refine awp_ret ?_
      exact oF hF [] []
    · refine awp_false (by kernel_rfl) h11 ?_
      refine awp_skip ?_
      refine awp_seq ?_
      refine awp_region ?_
      refine aR 1 ?_
      refine aE ?_
      refine awp_ret ?_
      exact oF hF [] []

/-! ### beaconfleet/place.less -/
def place_less_R (qa : api_Fraction) (qb : api_Fraction) (r : Bool) : TV × Mem := (.v (.one (.d (.bool r))), ⟨[], []⟩)

theorem place_less_ok {qa : api_Fraction} {qb : api_Fraction} {r} (hF : place_less qa qb = some r) : Holds prog 28 [.v (.agg [.d (.int .i64 qa.Num), .d (.int .i64 qa.Den)]), .v (.agg [.d (.int .i64 qb.Num), .d (.int .i64 qb.Den)])] ⟨[], []⟩ (Is (place_less_R qa qb r)) := by
  unfold place_less at hF
  refine holds_of_awp hΓ (fn := f28) (c := cB f28) (A := 0) (nx := 0) (by kernel_rfl) (by kernel_rfl) (by kernel_rfl) (by kernel_rfl) (by kernel_rfl) (by kernel_rfl) (lowc_of (by kernel_rfl)) ?_
  show Awp prog 0 15 (cB f28) _ _
  refine awp_seq ?_
  refine awp_region ?_
  refine aR 3 ?_
  refine aE ?_
  refine awp_seq ?_
  refine bE hF fun vr h1 hF => ?_
  refine awp_region ?_
  refine aR 8 ?_
  refine aC (base_CompareProducts_ok h1) [] [] [] ?_
  refine aR 2 ?_
  refine aE ?_
  refine awp_ret ?_
  exact oF hF [] []

/-! ### beaconfleet/place.Plain$1 -/
def place_Plain_1_b0o_R (qi : Int) (qk : Int) (qx : List Bool) (qx1 : Int) (qx2 : List api_Fix) (r : (List Bool)) : TV × Mem := (.tup [], ⟨[(5, ⟨4, 1, List.map encB r⟩)], [(0, [.own 5 none]), (1, [.d (.int .i64 qx1)]), (2, [.d (.lst (List.map api_Fix.enc qx2))]), (3, [.fn 26 [0, 1, 2, 3]])]⟩)

def place_Plain_1_b0o_x2_k : (api_Fraction × Int) → AEx
  | _ => .normal

def place_Plain_1_b0o_x2_S (qi : Int) (qk : Int) (qx : List Bool) (qx1 : Int) (qx2 : List api_Fix) (vaway : api_Fraction) (vbest : Int) (vm : Int) : (api_Fraction × Int) → St
  | (vaway2, vbest2) => Mem.st ⟨[(5, ⟨4, 1, List.map encB ((qx.set qi.toNat true).set qk.toNat true)⟩)], [(0, [.own 5 none]), (1, [.d (.int .i64 qx1)]), (2, [.d (.lst (List.map api_Fix.enc qx2))]), (3, [.fn 26 [0, 1, 2, 3]]), (6, [.d (.int .i64 vaway2.Num), .d (.int .i64 vaway2.Den)])]⟩ (tl [(0, .v (.one (.d (.int .i64 qi)))), (1, .v (.one (.d (.int .i64 qk)))), (4, .v (.one (.box 2 0))), (5, .v (.one (.box 3 0))), (8, .v (.one (.d (.int .i64 vbest2)))), (9, .v (.one (.box 6 0))), (10, .v (.one (.d (.int .i64 vm))))]) 7

def place_Plain_1_b0o_x2_I (qi : Int) (qk : Int) (qx : List Bool) (qx1 : Int) (qx2 : List api_Fix) (vaway : api_Fraction) (vbest : Int) (vm : Int) : St := Mem.st ⟨[(5, ⟨4, 1, List.map encB ((qx.set qi.toNat true).set qk.toNat true)⟩)], [(0, [.own 5 none]), (1, [.d (.int .i64 qx1)]), (2, [.d (.lst (List.map api_Fix.enc qx2))]), (3, [.fn 26 [0, 1, 2, 3]]), (6, [.d (.int .i64 vaway.Num), .d (.int .i64 vaway.Den)])]⟩ (tl [(0, .v (.one (.d (.int .i64 qi)))), (1, .v (.one (.d (.int .i64 qk)))), (4, .v (.one (.box 2 0))), (5, .v (.one (.box 3 0))), (8, .v (.one (.d (.int .i64 vbest)))), (9, .v (.one (.box 6 0))), (10, .v (.one (.d (.int .i64 vm))))]) 7

theorem place_Plain_1_b0o_x2_ok {recF : Int → Int → (List Bool) → Int → (List api_Fix) → Option ((List Bool))} (ih : ∀ {qi : Int} {qk : Int} {qx : List Bool} {qx1 : Int} {qx2 : List api_Fix} {r}, recF qi qk qx qx1 qx2 = some r → Holds prog 26 [.v (.one (.d (.int .i64 qi))), .v (.one (.d (.int .i64 qk))), .v (.one (.box 0 0)), .v (.one (.box 1 0)), .v (.one (.box 2 0)), .v (.one (.box 3 0))] ⟨[(4, ⟨4, 1, List.map encB qx⟩)], [(0, [.own 4 none]), (1, [.d (.int .i64 qx1)]), (2, [.d (.lst (List.map api_Fix.enc qx2))]), (3, [.fn 26 [0, 1, 2, 3]])]⟩ (Is (place_Plain_1_b0o_R qi qk qx qx1 qx2 r))) (qi : Int) (qk : Int) (qx : List Bool) (qx1 : Int) (qx2 : List api_Fix) (vaway : api_Fraction) (vbest : Int) (vm : Int) {r} (hF : place_Plain_1_b0o_x2 recF qi qk qx2 vaway vbest vm = some r) : Awp prog 5 60 (cL (cR (cL (cL (cR (cL (cR (cR (cB f26))))))))) (Out 5 place_Plain_1_b0o_x2_k (place_Plain_1_b0o_x2_S qi qk qx qx1 qx2 vaway vbest vm) r) (place_Plain_1_b0o_x2_I qi qk qx qx1 qx2 vaway vbest vm) := by
  unfold place_Plain_1_b0o_x2 at hF
  refine awp_block ?_
  refine awp_seq ?_
  refine bE hF fun vy5 h4 hF => ?_
  refine bE hF fun _ h5 hF => ?_
  refine bE hF fun vy6 h6 hF => ?_
  refine bE hF fun _ h7 hF => ?_
  refine bE hF fun vy7 h8 hF => ?_
  refine bE hF fun _ h9 hF => ?_
  refine bE hF fun vr2 h10 hF => ?_
  refine aD ?_
  refine dR 2 ?_
  refine dX (x_idx api_Fix.enc h4) ?_
  refine dR 1 ?_
  refine dC (place_spot_ok h5) [] [] [] ?_
  refine dR 2 ?_
  refine dX (x_idx api_Fix.enc h6) ?_
  refine dR 1 ?_
  refine dC (place_spot_ok h7) [] [] [] ?_
  refine dR 2 ?_
  refine dX (x_idx api_Fix.enc h8) ?_
  refine dR 1 ?_
  refine dC (place_spot_ok h9) [] [] [] ?_
  refine dC (place_far_ok h10) [] [] [] ?_
  refine dR 2 ?_
  refine dE ?_
  refine awp_seq ?_
  refine bE hF fun vr1_1 h11 hF => ?_
  refine awp_region ?_
  refine aR 2 ?_
  refine aC (place_less_ok h11) [] [] [] ?_
  refine aE ?_
  refine cE hF (fun h12 hF => ?_) fun h12 hF => ?_
  · refine awp_true (by kernel_rfl) h12 ?_
    refine aD ?_
    refine dR 4 ?_
    refine dE ?_
    exact oO hF [] [] rfl
  · refine awp_false (by kernel_rfl) h12 ?_
    refine awp_skip ?_
    exact oO hF [] [] rfl

def place_Plain_1_b0o_x1_k : Int → AEx
  | _ => .exit 0

def place_Plain_1_b0o_x1_S (qi : Int) (qk : Int) (qx : List Bool) (qx1 : Int) (qx2 : List api_Fix) : Int → St
  | vbest3 => Mem.st ⟨[(5, ⟨4, 1, List.map encB ((qx.set qi.toNat true).set qk.toNat true)⟩)], [(0, [.own 5 none]), (1, [.d (.int .i64 qx1)]), (2, [.d (.lst (List.map api_Fix.enc qx2))]), (3, [.fn 26 [0, 1, 2, 3]])]⟩ (tl [(0, .v (.one (.d (.int .i64 qi)))), (1, .v (.one (.d (.int .i64 qk)))), (5, .v (.one (.box 3 0))), (8, .v (.one (.d (.int .i64 vbest3))))]) 6

def place_Plain_1_b0o_x1_H (qi : Int) (qk : Int) (qx : List Bool) (qx1 : Int) (qx2 : List api_Fix) : api_Fraction × Int × Int → St
  | (vaway, vbest, vm) => Mem.st ⟨[(5, ⟨4, 1, List.map encB ((qx.set qi.toNat true).set qk.toNat true)⟩)], [(0, [.own 5 none]), (1, [.d (.int .i64 qx1)]), (2, [.d (.lst (List.map api_Fix.enc qx2))]), (3, [.fn 26 [0, 1, 2, 3]]), (6, [.d (.int .i64 vaway.Num), .d (.int .i64 vaway.Den)])]⟩ (tl [(0, .v (.one (.d (.int .i64 qi)))), (1, .v (.one (.d (.int .i64 qk)))), (4, .v (.one (.box 2 0))), (5, .v (.one (.box 3 0))), (8, .v (.one (.d (.int .i64 vbest)))), (9, .v (.one (.box 6 0))), (10, .v (.one (.d (.int .i64 vm))))]) 7

theorem place_Plain_1_b0o_x1_ok {recF : Int → Int → (List Bool) → Int → (List api_Fix) → Option ((List Bool))} (ih : ∀ {qi : Int} {qk : Int} {qx : List Bool} {qx1 : Int} {qx2 : List api_Fix} {r}, recF qi qk qx qx1 qx2 = some r → Holds prog 26 [.v (.one (.d (.int .i64 qi))), .v (.one (.d (.int .i64 qk))), .v (.one (.box 0 0)), .v (.one (.box 1 0)), .v (.one (.box 2 0)), .v (.one (.box 3 0))] ⟨[(4, ⟨4, 1, List.map encB qx⟩)], [(0, [.own 4 none]), (1, [.d (.int .i64 qx1)]), (2, [.d (.lst (List.map api_Fix.enc qx2))]), (3, [.fn 26 [0, 1, 2, 3]])]⟩ (Is (place_Plain_1_b0o_R qi qk qx qx1 qx2 r))) (qi : Int) (qk : Int) (qx : List Bool) (qx1 : Int) (qx2 : List api_Fix) (s : api_Fraction × Int × Int) (r : (api_Fraction × Int × Int) ⊕ (Int)) (hF : place_Plain_1_b0o_x1 recF qi qk qx2 s = some r) : Awp prog 5 60 (cL (cL (cR (cL (cR (cR (cB f26))))))) (Out 5 (kk place_Plain_1_b0o_x1_k) (SS (place_Plain_1_b0o_x1_H qi qk qx qx1 qx2) (place_Plain_1_b0o_x1_S qi qk qx qx1 qx2)) r) (place_Plain_1_b0o_x1_H qi qk qx qx1 qx2 s) := by
  obtain ⟨vaway, vbest, vm⟩ := s
  unfold place_Plain_1_b0o_x1 at hF
  refine awp_seq ?_
  refine awp_seq ?_
  refine awp_region ?_
  refine aR 3 ?_
  refine aE ?_
  refine cE hF (fun h3 hF => ?_) fun h3 hF => ?_
  · refine awp_true (by kernel_rfl) h3 ?_
    refine awp_skip ?_
    refine awp_seq ?_
    refine awp_to (st' := place_Plain_1_b0o_x2_I qi qk qx qx1 qx2 vaway vbest vm) (oT [] []) ?_
    refine bE hF fun x h13 hF => ?_
    obtain ⟨vaway2_1, vbest2_1⟩ := x
    refine awp_sub (place_Plain_1_b0o_x2_ok @ih qi qk qx qx1 qx2 vaway vbest vm h13) ?_
    refine awp_region ?_
    refine aR 3 ?_
    refine aE ?_
    exact oO hF [] [] rfl
  · refine awp_false (by kernel_rfl) h3 ?_
    refine awp_exit ?_
    exact oO hF [] [] rfl

theorem place_Plain_1_b0o_n_ok (n : Nat) : ∀ {qi : Int} {qk : Int} {qx : List Bool} {qx1 : Int} {qx2 : List api_Fix} {r}, place_Plain_1_b0o_n n qi qk qx qx1 qx2 = some r → Holds prog 26 [.v (.one (.d (.int .i64 qi))), .v (.one (.d (.int .i64 qk))), .v (.one (.box 0 0)), .v (.one (.box 1 0)), .v (.one (.box 2 0)), .v (.one (.box 3 0))] ⟨[(4, ⟨4, 1, List.map encB qx⟩)], [(0, [.own 4 none]), (1, [.d (.int .i64 qx1)]), (2, [.d (.lst (List.map api_Fix.enc qx2))]), (3, [.fn 26 [0, 1, 2, 3]])]⟩ (Is (place_Plain_1_b0o_R qi qk qx qx1 qx2 r)) := by
  induction n with
  | zero => intro qi qk qx qx1 qx2 r hF; exact nE hF
  | succ n ih =>
    intro qi qk qx qx1 qx2 r hF
    unfold place_Plain_1_b0o_n at hF
    refine holds_of_awp hΓ (fn := f26) (c := cB f26) (A := 5) (nx := 5) (by kernel_rfl) (by kernel_rfl) (by kernel_rfl) (by kernel_rfl) (by kernel_rfl) (by kernel_rfl) (lowc_of (by kernel_rfl)) ?_
    show Awp prog 5 60 (cB f26) _ _
    refine awp_seq ?_
    refine bE hF fun vy h1 hF => ?_
    refine bE hF fun vy1 h2 hF => ?_
    refine aDw [4] ?_
    refine dR 4 ?_
    refine dI encB 4 h1 rfl ?_
    refine dW encB true h1 rfl ?_
    refine dI encB 4 h2 rfl ?_
    refine dW encB true h2 rfl ?_
    refine dE ?_
    refine awp_seq ?_
    refine aD ?_
    refine dR 7 ?_
    refine dE ?_
    refine awp_seq ?_
    refine awp_seq ?_
    refine awp_region ?_
    refine aR 3 ?_
    refine aE ?_
    refine awp_block ?_
    refine awp_to (st' := place_Plain_1_b0o_x1_H qi qk qx qx1 qx2 (api_Fraction.mk (IntKind.wrap .i64 (qx1 * qx1)) 1, (-1), IntKind.wrap .i64 (qi + 1))) (oT [(5, 4), (6, 12005)] []) ?_
    refine bE hF fun vbest3_1 h14 hF => ?_
    refine awp_sub (awp_loop' (place_Plain_1_b0o_x1_H qi qk qx qx1 qx2) place_Plain_1_b0o_x1_k (place_Plain_1_b0o_x1_S qi qk qx qx1 qx2) (by intro x; exact fun h => nomatch h) h14 (place_Plain_1_b0o_x1_ok @ih qi qk qx qx1 qx2)) ?_
    refine awp_seq ?_
    refine awp_region ?_
    refine aR 2 ?_
    refine aE ?_
    refine cE hF (fun h15 hF => ?_) fun h15 hF => ?_
    · refine awp_true (by kernel_rfl) h15 ?_
      refine awp_seq ?_
      refine bE hF fun vs h16 hF => ?_
      refine awp_region ?_
      refine aR 3 ?_
      refine aC (ih h16) [(4, 5)] [] [] ?_
      refine aE ?_
      refine bE hF fun vs1 h17 hF => ?_
      refine awp_region ?_
      refine aR 3 ?_
      refine aC (ih h17) [(4, 5011)] [] [] ?_
      refine aE ?_
      exact oF hF [(5, 9011)] []
    · refine awp_false (by kernel_rfl) h15 ?_
      refine awp_skip ?_
      exact oF hF [] []

theorem place_Plain_1_b0o_ok {qi : Int} {qk : Int} {qx : List Bool} {qx1 : Int} {qx2 : List api_Fix} {r} (hF : place_Plain_1_b0o qi qk qx qx1 qx2 = some r) : Holds prog 26 [.v (.one (.d (.int .i64 qi))), .v (.one (.d (.int .i64 qk))), .v (.one (.box 0 0)), .v (.one (.box 1 0)), .v (.one (.box 2 0)), .v (.one (.box 3 0))] ⟨[(4, ⟨4, 1, List.map encB qx⟩)], [(0, [.own 4 none]), (1, [.d (.int .i64 qx1)]), (2, [.d (.lst (List.map api_Fix.enc qx2))]), (3, [.fn 26 [0, 1, 2, 3]])]⟩ (Is (place_Plain_1_b0o_R qi qk qx qx1 qx2 r)) :=
  let ⟨n, h⟩ := fixO_some hF
  place_Plain_1_b0o_n_ok n h

/-! ### beaconfleet/place.Plain -/
def place_Plain_x1_k : (List Bool) → AEx
  | _ => .normal

def place_Plain_x1_S (ql : List api_Fix) (qmost : Int) : (List Bool) → St
  | vkeep => Mem.st ⟨[(1, ⟨4, 1, List.map encB vkeep⟩)], [(0, [.own 1 none])]⟩ (tl [(7, .v (.one (.box 0 0)))]) 2

def place_Plain_x1_I (ql : List api_Fix) (qmost : Int) : St := Mem.st ⟨[(2, ⟨4, 1, List.map encB (List.replicate (ql.length : Int).toNat false)⟩)], [(0, [.d (.lst (List.map api_Fix.enc ql))]), (1, [.own 2 none]), (3, [.fn 26 [1, 4, 0, 3]]), (4, [.d (.int .i64 qmost)])]⟩ (tl [(2, .v (.one (.box 0 0))), (7, .v (.one (.box 1 0))), (8, .v (.one (.box 3 0)))]) 5

theorem place_Plain_x1_ok (ql : List api_Fix) (qmost : Int) {r} (hF : place_Plain_x1 ql qmost = some r) : Awp prog 0 45 (cL (cR (cR (cR (cR (cR (cR (cB f8)))))))) (Out 0 place_Plain_x1_k (place_Plain_x1_S ql qmost) r) (place_Plain_x1_I ql qmost) := by
  unfold place_Plain_x1 at hF
  refine awp_seq ?_
  refine awp_region ?_
  refine aR 1 ?_
  refine aL api_Fix.enc ql ?_
  refine aR 1 ?_
  refine aE ?_
  refine cE hF (fun h6 hF => ?_) fun h6 hF => ?_
  · refine awp_true (by kernel_rfl) h6 ?_
    refine bE hF fun vs2 h7 hF => ?_
    refine awp_region ?_
    refine aR 2 ?_
    refine aL api_Fix.enc ql ?_
    refine aR 1 ?_
    refine aC (place_Plain_1_b0o_ok h7) [(0, 1), (1, 4), (2, 0), (4, 2)] [] [] ?_
    refine aE ?_
    exact oO hF [(0, 1), (1, 7010)] [] rfl
  · refine awp_false (by kernel_rfl) h6 ?_
    refine awp_skip ?_
    exact oO hF [(0, 1), (1, 2)] [] rfl

def place_Plain_x3_k : (List Int) → AEx
  | _ => .normal

def place_Plain_x3_S (vkeep1 : List Bool) (vout : List Int) (vx : Int) : (List Int) → St
  | vout2 => Mem.st ⟨[(0, ⟨3, 1, List.map (encI .i64) vout2⟩)], []⟩ (tl [(9, .v (.one (.own 0 none))), (31, .v (.one (.d (.lst (List.map encB vkeep1))))), (32, .v (.one (.d (.int .i64 (vkeep1.length : Int))))), (33, .v (.one (.d (.int .i64 vx))))]) 1

def place_Plain_x3_I (vkeep1 : List Bool) (vout : List Int) (vx : Int) : St := Mem.st ⟨[(0, ⟨3, 1, List.map (encI .i64) vout⟩)], []⟩ (tl [(9, .v (.one (.own 0 none))), (31, .v (.one (.d (.lst (List.map encB vkeep1))))), (32, .v (.one (.d (.int .i64 (vkeep1.length : Int))))), (33, .v (.one (.d (.int .i64 vx))))]) 1

theorem place_Plain_x3_ok (vkeep1 : List Bool) (vout : List Int) (vx : Int) {r} (hF : place_Plain_x3 vkeep1 vout vx = some r) : Awp prog 0 45 (cL (cR (cR (cL (cL (cR (cL (cR (cR (cR (cR (cR (cR (cR (cR (cB f8)))))))))))))))) (Out 0 place_Plain_x3_k (place_Plain_x3_S vkeep1 vout vx) r) (place_Plain_x3_I vkeep1 vout vx) := by
  unfold place_Plain_x3 at hF
  refine awp_block ?_
  refine awp_seq ?_
  refine bE hF fun vy1 h10 hF => ?_
  refine awp_region ?_
  refine aR 1 ?_
  refine aX (x_idx encB h10) ?_
  refine aR 3 ?_
  refine aE ?_
  refine awp_seq ?_
  refine awp_region ?_
  refine aR 1 ?_
  refine aE ?_
  refine cE hF (fun h11 hF => ?_) fun h11 hF => ?_
  · refine awp_true (by kernel_rfl) h11 ?_
    refine gE hF fun h12 hF => ?_
    refine awp_region ?_
    refine aR 3 ?_
    refine aX (x_app (encI .i64) 0 h12) ?_
    refine aR 1 ?_
    refine aE ?_
    exact oO hF [(0, 9001)] [] rfl
  · refine awp_false (by kernel_rfl) h11 ?_
    refine awp_skip ?_
    exact oO hF [] [] rfl

def place_Plain_x2_k : (List Int) → AEx
  | _ => .exit 0

def place_Plain_x2_S (vkeep1 : List Bool) : (List Int) → St
  | vout3 => Mem.st ⟨[(0, ⟨3, 1, List.map (encI .i64) vout3⟩)], []⟩ (tl [(9, .v (.one (.own 0 none)))]) 1

def place_Plain_x2_H (vkeep1 : List Bool) : (List Int) × Int → St
  | (vout, vx) => Mem.st ⟨[(0, ⟨3, 1, List.map (encI .i64) vout⟩)], []⟩ (tl [(9, .v (.one (.own 0 none))), (31, .v (.one (.d (.lst (List.map encB vkeep1))))), (32, .v (.one (.d (.int .i64 (vkeep1.length : Int))))), (33, .v (.one (.d (.int .i64 vx))))]) 1

theorem place_Plain_x2_ok (vkeep1 : List Bool) (s : (List Int) × Int) (r : ((List Int) × Int) ⊕ ((List Int))) (hF : place_Plain_x2 vkeep1 s = some r) : Awp prog 0 45 (cL (cL (cR (cL (cR (cR (cR (cR (cR (cR (cR (cR (cB f8))))))))))))) (Out 0 (kk place_Plain_x2_k) (SS (place_Plain_x2_H vkeep1) (place_Plain_x2_S vkeep1)) r) (place_Plain_x2_H vkeep1 s) := by
  obtain ⟨vout, vx⟩ := s
  unfold place_Plain_x2 at hF
  refine awp_seq ?_
  refine awp_region ?_
  refine aR 1 ?_
  refine aE ?_
  refine awp_seq ?_
  refine cE hF (fun h9 hF => ?_) fun h9 hF => ?_
  · refine awp_true (by kernel_rfl) h9 ?_
    refine awp_skip ?_
    refine awp_seq ?_
    refine awp_to (st' := place_Plain_x3_I vkeep1 vout vx) (oT [] []) ?_
    refine bE hF fun vout2_1 h13 hF => ?_
    refine awp_sub (place_Plain_x3_ok vkeep1 vout vx h13) ?_
    refine awp_region ?_
    refine aR 2 ?_
    refine aE ?_
    exact oO hF [] [] rfl
  · refine awp_false (by kernel_rfl) h9 ?_
    refine awp_exit ?_
    exact oO hF [] [] rfl

def place_Plain_R (ql : List api_Fix) (qmost : Int) (r : (List Int) × Int) : TV × Mem := (.tup [.one (.own 0 none), .one (.d (.int .i64 r.2))], ⟨[(0, ⟨3, 1, List.map (encI .i64) r.1⟩)], []⟩)

theorem place_Plain_ok {ql : List api_Fix} {qmost : Int} {r} (hF : place_Plain ql qmost = some r) : Holds prog 8 [.v (.one (.d (.lst (List.map api_Fix.enc ql)))), .v (.one (.d (.int .i64 qmost)))] ⟨[], []⟩ (Is (place_Plain_R ql qmost r)) := by
  unfold place_Plain at hF
  refine holds_of_awp hΓ (fn := f8) (c := cB f8) (A := 0) (nx := 0) (by kernel_rfl) (by kernel_rfl) (by kernel_rfl) (by kernel_rfl) (by kernel_rfl) (by kernel_rfl) (lowc_of (by kernel_rfl)) ?_
  show Awp prog 0 45 (cB f8) _ _
  refine awp_seq ?_
  refine awp_region ?_
  refine aR 4 ?_
  refine aE ?_
  refine awp_seq ?_
  refine awp_seq ?_
  refine bE hF fun vr1 h1 hF => ?_
  refine awp_region ?_
  refine aR 1 ?_
  refine aC (place_trackFault_ok h1) [] [] [] ?_
  refine aR 1 ?_
  refine aE ?_
  refine awp_seq ?_
  refine awp_region ?_
  refine aR 2 ?_
  refine aE ?_
  refine cE hF (fun h2 hF => ?_) fun h2 hF => ?_
  · refine awp_true (by kernel_rfl) h2 ?_
    refine awp_seq ?_
    refine awp_region ?_
    refine aR 3 ?_
    refine aE ?_
    refine awp_ret ?_
    exact oF hF [] [0]
  · refine awp_false (by kernel_rfl) h2 ?_
    refine awp_skip ?_
    refine awp_seq ?_
    refine awp_seq ?_
    refine bE hF fun vr h3 hF => ?_
    refine awp_region ?_
    refine aR 1 ?_
    refine aC (base_Out_ok h3) [] [] [] ?_
    refine aE ?_
    refine cE hF (fun h4 hF => ?_) fun h4 hF => ?_
    · refine awp_true (by kernel_rfl) h4 ?_
      refine awp_seq ?_
      refine awp_region ?_
      refine aR 2 ?_
      refine aE ?_
      refine awp_ret ?_
      exact oF hF [] [0]
    · refine awp_false (by kernel_rfl) h4 ?_
      refine awp_skip ?_
      refine awp_seq ?_
      refine gE hF fun h5 hF => ?_
      refine awp_region ?_
      refine aR 1 ?_
      refine aL api_Fix.enc ql ?_
      refine aX (x_mk encB false h5) ?_
      refine aR 2 ?_
      refine aE ?_
      refine awp_seq ?_
      refine awp_region ?_
      refine aR 1 ?_
      refine aE ?_
      refine awp_seq ?_
      refine awp_region ?_
      refine aR 2 ?_
      refine aE ?_
      refine awp_seq ?_
      refine awp_to (st' := place_Plain_x1_I ql qmost) (oT [(1, 14000), (2, 13000), (3, 16000), (4, 1000)] []) ?_
      refine bE hF fun vkeep1 h8 hF => ?_
      refine awp_sub (place_Plain_x1_ok ql qmost h8) ?_
      refine awp_seq ?_
      refine awp_region ?_
      refine aR 1 ?_
      refine aE ?_
      refine awp_seq ?_
      refine awp_seq ?_
      refine awp_region ?_
      refine aR 1 ?_
      refine aL encB vkeep1 ?_
      refine aR 1 ?_
      refine aE ?_
      refine awp_to (oT (m := ⟨[], []⟩) (ts := [(9, .v (.one (.nil))), (31, .v (.one (.d (.lst (List.map encB vkeep1))))), (32, .v (.one (.d (.int .i64 (vkeep1.length : Int))))), (33, .v (.one (.d (.int .i64 0))))]) (nx := 0) [] []) ?_
      refine awp_block ?_
      refine awp_to (st' := place_Plain_x2_H vkeep1 ([], 0)) (oT [] [0]) ?_
      refine bE hF fun vout3_1 h14 hF => ?_
      refine awp_sub (awp_loop' (place_Plain_x2_H vkeep1) place_Plain_x2_k (place_Plain_x2_S vkeep1) (by intro x; exact fun h => nomatch h) h14 (place_Plain_x2_ok vkeep1)) ?_
      refine awp_seq ?_
      refine awp_region ?_
      refine aR 3 ?_
      refine aE ?_
      refine awp_ret ?_
      exact oF hF [] []

/-! ### beaconfleet/fleetref2.in -/
def fleetref2_in_x1_k : Bool → AEx
  | _ => .normal

def fleetref2_in_x1_S (qn : Int) (qlow : Int) (qhigh : Int) : Bool → St
  | vx => Mem.st ⟨[], []⟩ (tl [(6, .v (.one (.d (.bool vx))))]) 0

def fleetref2_in_x1_I (qn : Int) (qlow : Int) (qhigh : Int) : St := Mem.st ⟨[], []⟩ (tl [(0, .v (.one (.d (.int .i64 qn)))), (1, .v (.one (.d (.int .i64 qlow)))), (2, .v (.one (.d (.int .i64 qhigh))))]) 0

theorem fleetref2_in_x1_ok (qn : Int) (qlow : Int) (qhigh : Int) {r} (hF : fleetref2_in_x1 qn qlow qhigh = some r) : Awp prog 0 15 (cL (cR (cB f50))) (Out 0 fleetref2_in_x1_k (fleetref2_in_x1_S qn qlow qhigh) r) (fleetref2_in_x1_I qn qlow qhigh) := by
  unfold fleetref2_in_x1 at hF
  refine cE hF (fun h1 hF => ?_) fun h1 hF => ?_
  · refine awp_region ?_
    refine aR 2 ?_
    refine aB h1 ?_
    refine aR 6 ?_
    refine aE ?_
    exact oO hF [] [] rfl
  · refine awp_region ?_
    refine aR 2 ?_
    refine aB h1 ?_
    refine aR 6 ?_
    refine aE ?_
    exact oO hF [] [] rfl

def fleetref2_in_R (qn : Int) (qlow : Int) (qhigh : Int) (r : Bool) : TV × Mem := (.v (.one (.d (.bool r))), ⟨[], []⟩)

theorem fleetref2_in_ok {qn : Int} {qlow : Int} {qhigh : Int} {r} (hF : fleetref2_in qn qlow qhigh = some r) : Holds prog 50 [.v (.one (.d (.int .i64 qn))), .v (.one (.d (.int .i64 qlow))), .v (.one (.d (.int .i64 qhigh)))] ⟨[], []⟩ (Is (fleetref2_in_R qn qlow qhigh r)) := by
  unfold fleetref2_in at hF
  refine holds_of_awp hΓ (fn := f50) (c := cB f50) (A := 0) (nx := 0) (by kernel_rfl) (by kernel_rfl) (by kernel_rfl) (by kernel_rfl) (by kernel_rfl) (by kernel_rfl) (lowc_of (by kernel_rfl)) ?_
  show Awp prog 0 15 (cB f50) _ _
  refine awp_seq ?_
  refine awp_region ?_
  refine aR 1 ?_
  refine aE ?_
  refine awp_seq ?_
  refine awp_to (st' := fleetref2_in_x1_I qn qlow qhigh) (oT [] []) ?_
  refine bE hF fun vx1 h2 hF => ?_
  refine awp_sub (fleetref2_in_x1_ok qn qlow qhigh h2) ?_
  refine awp_ret ?_
  exact oF hF [] []

/-! ### internal/stringslite.IndexByte -/
def stringslite_IndexByte_R (qs : List UInt8) (qc : Int) (r : Unit) : TV × Mem := (.v (.one (.d (.int .i64 (Lib.indexByte qs qc.toNat.toUInt8)))), ⟨[], []⟩)

theorem stringslite_IndexByte_ok {qs : List UInt8} {qc : Int} {r} (hF : stringslite_IndexByte qs qc = some r) : Holds prog 89 [.v (.one (.d (.str qs))), .v (.one (.d (.int .u8 qc)))] ⟨[], []⟩ (Is (stringslite_IndexByte_R qs qc r)) := by
  unfold stringslite_IndexByte at hF
  refine holds_of_awp hΓ (fn := f89) (c := cB f89) (A := 0) (nx := 0) (by kernel_rfl) (by kernel_rfl) (by kernel_rfl) (by kernel_rfl) (by kernel_rfl) (by kernel_rfl) (lowc_of (by kernel_rfl)) ?_
  show Awp prog 0 8 (cB f89) _ _
  refine awp_seq ?_
  refine awp_region ?_
  refine aR 1 ?_
  refine aE ?_
  refine awp_seq ?_
  refine awp_region ?_
  refine aR 2 ?_
  refine aS (does_indexByte (g := 92) (fn := f92) (a := qs) (c := qc) rfl (by kernel_rfl) (by kernel_rfl) (by kernel_rfl) (by kernel_rfl) (by kernel_rfl) (by kernel_rfl)) ?_
  refine aR 1 ?_
  refine aE ?_
  refine awp_ret ?_
  exact oF hF [] []

/-! ### strings.IndexByte -/
def strings_IndexByte_R (qs : List UInt8) (qc : Int) (r : Unit) : TV × Mem := (.v (.one (.d (.int .i64 (Lib.indexByte qs qc.toNat.toUInt8)))), ⟨[], []⟩)

theorem strings_IndexByte_ok {qs : List UInt8} {qc : Int} {r} (hF : strings_IndexByte qs qc = some r) : Holds prog 81 [.v (.one (.d (.str qs))), .v (.one (.d (.int .u8 qc)))] ⟨[], []⟩ (Is (strings_IndexByte_R qs qc r)) := by
  unfold strings_IndexByte at hF
  refine holds_of_awp hΓ (fn := f81) (c := cB f81) (A := 0) (nx := 0) (by kernel_rfl) (by kernel_rfl) (by kernel_rfl) (by kernel_rfl) (by kernel_rfl) (by kernel_rfl) (lowc_of (by kernel_rfl)) ?_
  show Awp prog 0 8 (cB f81) _ _
  refine awp_seq ?_
  refine awp_region ?_
  refine aR 1 ?_
  refine aE ?_
  refine awp_seq ?_
  refine bE hF fun _ h1 hF => ?_
  refine awp_region ?_
  refine aR 2 ?_
  refine aC (stringslite_IndexByte_ok h1) [] [] [] ?_
  refine aR 1 ?_
  refine aE ?_
  refine awp_ret ?_
  exact oF hF [] []

/-! ### beaconfleet/fleetref2.only -/
def fleetref2_only_x1_k : Unit ⊕ Unit → AEx
  | .inl _ => .exit 0
  | .inr _ => .ret

def fleetref2_only_x1_S (qs : List UInt8) (qsome : List UInt8) : Unit ⊕ Unit → St
  | .inl _ => Mem.st ⟨[], []⟩ (tl []) 0
  | .inr _ => Mem.st ⟨[], []⟩ (tl [(4, .v (.one (.d (.bool false))))]) 0

def fleetref2_only_x1_H (qs : List UInt8) (qsome : List UInt8) : Int → St
  | vx => Mem.st ⟨[], []⟩ (tl [(0, .v (.one (.d (.str qs)))), (1, .v (.one (.d (.str qsome)))), (7, .v (.one (.d (.int .i64 (qs.length : Int))))), (8, .v (.one (.d (.int .i64 vx))))]) 0

theorem fleetref2_only_x1_ok (qs : List UInt8) (qsome : List UInt8) (vx : Int) (r : (Int) ⊕ (Unit ⊕ Unit)) (hF : fleetref2_only_x1 qs qsome vx = some r) : Awp prog 0 18 (cL (cL (cR (cL (cR (cB f65)))))) (Out 0 (kk fleetref2_only_x1_k) (SS (fleetref2_only_x1_H qs qsome) (fleetref2_only_x1_S qs qsome)) r) (fleetref2_only_x1_H qs qsome vx) := by
  unfold fleetref2_only_x1 at hF
  refine awp_seq ?_
  refine awp_region ?_
  refine aR 1 ?_
  refine aE ?_
  refine awp_seq ?_
  refine cE hF (fun h1 hF => ?_) fun h1 hF => ?_
  · refine awp_true (by kernel_rfl) h1 ?_
    refine awp_skip ?_
    refine awp_seq ?_
    refine awp_block ?_
    refine awp_seq ?_
    refine awp_region ?_
    refine aR 2 ?_
    refine aE ?_
    refine awp_seq ?_
    refine bE hF fun vc1 h2 hF => ?_
    refine bE hF fun _ h3 hF => ?_
    refine awp_region ?_
    refine aR 3 ?_
    refine aX (x_idxS h2) ?_
    refine aC (strings_IndexByte_ok h3) [] [] [] ?_
    refine aR 1 ?_
    refine aE ?_
    refine cE hF (fun h4 hF => ?_) fun h4 hF => ?_
    · refine awp_true (by kernel_rfl) h4 ?_
      refine awp_seq ?_
      refine awp_region ?_
      refine aR 1 ?_
      refine aE ?_
      refine awp_ret ?_
      exact oO hF [] [] rfl
    · refine awp_false (by kernel_rfl) h4 ?_
      refine awp_skip ?_
      refine awp_region ?_
      refine aR 2 ?_
      refine aE ?_
      exact oO hF [] [] rfl
  · refine awp_false (by kernel_rfl) h1 ?_
    refine awp_exit ?_
    exact oO hF [] [] rfl

def fleetref2_only_R (qs : List UInt8) (qsome : List UInt8) (r : Bool) : TV × Mem := (.v (.one (.d (.bool r))), ⟨[], []⟩)

theorem fleetref2_only_ok {qs : List UInt8} {qsome : List UInt8} {r} (hF : fleetref2_only qs qsome = some r) : Holds prog 65 [.v (.one (.d (.str qs))), .v (.one (.d (.str qsome)))] ⟨[], []⟩ (Is (fleetref2_only_R qs qsome r)) := by
  unfold fleetref2_only at hF
  refine holds_of_awp hΓ (fn := f65) (c := cB f65) (A := 0) (nx := 0) (by kernel_rfl) (by kernel_rfl) (by kernel_rfl) (by kernel_rfl) (by kernel_rfl) (by kernel_rfl) (lowc_of (by kernel_rfl)) ?_
  show Awp prog 0 18 (cB f65) _ _
  refine awp_seq ?_
  refine awp_region ?_
  refine aR 1 ?_
  refine aE ?_
  refine awp_seq ?_
  refine awp_seq ?_
  refine awp_region ?_
  refine aR 3 ?_
  refine aE ?_
  refine awp_block ?_
  refine awp_to (st' := fleetref2_only_x1_H qs qsome 0) (oT [] []) ?_
  refine bE hF fun x h5 hF => ?_
  rcases x with _ | _
  · refine awp_sub (awp_loop' (fleetref2_only_x1_H qs qsome) fleetref2_only_x1_k (fleetref2_only_x1_S qs qsome) (by intro x; rcases x with x | x <;> exact fun h => nomatch h) h5 (fleetref2_only_x1_ok qs qsome)) ?_
    refine awp_seq ?_
    refine awp_region ?_
    refine aR 1 ?_
    refine aE ?_
    refine awp_ret ?_
    exact oF hF [] []
  · refine awp_sub (awp_loop' (fleetref2_only_x1_H qs qsome) fleetref2_only_x1_k (fleetref2_only_x1_S qs qsome) (by intro x; rcases x with x | x <;> exact fun h => nomatch h) h5 (fleetref2_only_x1_ok qs qsome)) ?_
    exact oF hF [] []

/-! ### beaconfleet/fleetref2.Key -/
def fleetref2_Key_x1_k : Bool → AEx
  | _ => .normal

def fleetref2_Key_x1_S (qs : List UInt8) : Bool → St
  | vx => Mem.st ⟨[], []⟩ (tl [(2, .v (.one (.d (.bool vx))))]) 0

def fleetref2_Key_x1_I (qs : List UInt8) : St := Mem.st ⟨[], []⟩ (tl [(0, .v (.one (.d (.str qs))))]) 0

theorem fleetref2_Key_x1_ok (qs : List UInt8) {r} (hF : fleetref2_Key_x1 qs = some r) : Awp prog 0 15 (cL (cR (cB f47))) (Out 0 fleetref2_Key_x1_k (fleetref2_Key_x1_S qs) r) (fleetref2_Key_x1_I qs) := by
  unfold fleetref2_Key_x1 at hF
  refine bE hF fun vr h1 hF => ?_
  refine cE hF (fun h2 hF => ?_) fun h2 hF => ?_
  · refine bE hF fun vs h3 hF => ?_
    refine bE hF fun vr1 h4 hF => ?_
    refine cE hF (fun h5 hF => ?_) fun h5 hF => ?_
    · refine bE hF fun vr2 h6 hF => ?_
      refine awp_region ?_
      refine aR 2 ?_
      refine aCb (fleetref2_in_ok h1) [] [] [] h2 ?_
      refine aR 2 ?_
      refine aX (x_sliceS h3) ?_
      refine aCb (fleetref2_only_ok h4) [] [] [] h5 ?_
      refine aR 3 ?_
      refine aC (fleetref2_only_ok h6) [] [] [] ?_
      refine aR 2 ?_
      refine aE ?_
      exact oO hF [] [] rfl
    · refine awp_region ?_
      refine aR 2 ?_
      refine aCb (fleetref2_in_ok h1) [] [] [] h2 ?_
      refine aR 2 ?_
      refine aX (x_sliceS h3) ?_
      refine aCb (fleetref2_only_ok h4) [] [] [] h5 ?_
      refine aR 6 ?_
      refine aE ?_
      exact oO hF [] [] rfl
  · refine awp_region ?_
    refine aR 2 ?_
    refine aCb (fleetref2_in_ok h1) [] [] [] h2 ?_
    refine aR 10 ?_
    refine aE ?_
    exact oO hF [] [] rfl

def fleetref2_Key_R (qs : List UInt8) (r : Bool) : TV × Mem := (.v (.one (.d (.bool r))), ⟨[], []⟩)

theorem fleetref2_Key_ok {qs : List UInt8} {r} (hF : fleetref2_Key qs = some r) : Holds prog 47 [.v (.one (.d (.str qs)))] ⟨[], []⟩ (Is (fleetref2_Key_R qs r)) := by
  unfold fleetref2_Key at hF
  refine holds_of_awp hΓ (fn := f47) (c := cB f47) (A := 0) (nx := 0) (by kernel_rfl) (by kernel_rfl) (by kernel_rfl) (by kernel_rfl) (by kernel_rfl) (by kernel_rfl) (lowc_of (by kernel_rfl)) ?_
  show Awp prog 0 15 (cB f47) _ _
  refine awp_seq ?_
  refine awp_region ?_
  refine aR 1 ?_
  refine aE ?_
  refine awp_seq ?_
  refine awp_to (st' := fleetref2_Key_x1_I qs) (oT [] []) ?_
  refine bE hF fun vx1 h7 hF => ?_
  refine awp_sub (fleetref2_Key_x1_ok qs h7) ?_
  refine awp_ret ?_
  exact oF hF [] []

/-! ### beaconfleet/fleetref2.Moment -/
def fleetref2_Moment_R (qat : Int) (r : Bool) : TV × Mem := (.v (.one (.d (.bool r))), ⟨[], []⟩)

theorem fleetref2_Moment_ok {qat : Int} {r} (hF : fleetref2_Moment qat = some r) : Holds prog 48 [.v (.one (.d (.int .i64 qat)))] ⟨[], []⟩ (Is (fleetref2_Moment_R qat r)) := by
  unfold fleetref2_Moment at hF
  refine holds_of_awp hΓ (fn := f48) (c := cB f48) (A := 0) (nx := 0) (by kernel_rfl) (by kernel_rfl) (by kernel_rfl) (by kernel_rfl) (by kernel_rfl) (by kernel_rfl) (lowc_of (by kernel_rfl)) ?_
  show Awp prog 0 5 (cB f48) _ _
  refine awp_seq ?_
  refine awp_region ?_
  refine aR 1 ?_
  refine aE ?_
  refine awp_seq ?_
  refine bE hF fun vr h1 hF => ?_
  refine awp_region ?_
  refine aR 1 ?_
  refine aC (fleetref2_in_ok h1) [] [] [] ?_
  refine aR 1 ?_
  refine aE ?_
  refine awp_ret ?_
  exact oF hF [] []

/-! ### beaconfleet/fleetref2.spotOf -/
def fleetref2_spotOf_R (qx : api_Fix) (r : Unit) : TV × Mem := (.v (.agg [.d (.int .i64 qx.X), .d (.int .i64 qx.Y)]), ⟨[], []⟩)

theorem fleetref2_spotOf_ok {qx : api_Fix} {r} (hF : fleetref2_spotOf qx = some r) : Holds prog 34 [.v (.agg [.d (.str qx.Device), .d (.int .i64 qx.At), .d (.int .i64 qx.X), .d (.int .i64 qx.Y), .d (.int .i64 qx.Error)])] ⟨[], []⟩ (Is (fleetref2_spotOf_R qx r)) := by
  unfold fleetref2_spotOf at hF
  refine holds_of_awp hΓ (fn := f34) (c := cB f34) (A := 0) (nx := 0) (by kernel_rfl) (by kernel_rfl) (by kernel_rfl) (by kernel_rfl) (by kernel_rfl) (by kernel_rfl) (lowc_of (by kernel_rfl)) ?_
  show Awp prog 0 8 (cB f34) _ _
  refine awp_seq ?_
  refine awp_region ?_
  refine aR 2 ?_
  refine aE ?_
  refine awp_seq ?_
  refine awp_region ?_
  refine aR 6 ?_
  refine aE ?_
  refine awp_ret ?_
  exact oF hF [] []

/-! ### beaconfleet/fleetref2.SpotFault -/
def fleetref2_SpotFault_x1_k : Bool → AEx
  | _ => .normal

def fleetref2_SpotFault_x1_S (qs : api_Spot) : Bool → St
  | vx => Mem.st ⟨[], []⟩ (tl [(12, .v (.one (.d (.bool vx))))]) 0

def fleetref2_SpotFault_x1_I (qs : api_Spot) : St := Mem.st ⟨[], [(0, [.d (.int .i64 qs.X), .d (.int .i64 qs.Y)])]⟩ (tl [(1, .v (.one (.box 0 0)))]) 1

theorem fleetref2_SpotFault_x1_ok (qs : api_Spot) {r} (hF : fleetref2_SpotFault_x1 qs = some r) : Awp prog 0 13 (cL (cL (cR (cB f49)))) (Out 0 fleetref2_SpotFault_x1_k (fleetref2_SpotFault_x1_S qs) r) (fleetref2_SpotFault_x1_I qs) := by
  unfold fleetref2_SpotFault_x1 at hF
  refine bE hF fun vr h1 hF => ?_
  refine cE hF (fun h2 hF => ?_) fun h2 hF => ?_
  · refine awp_region ?_
    refine aR 2 ?_
    refine aC (fleetref2_in_ok h1) [] [] [] ?_
    refine aB h2 ?_
    refine aR 6 ?_
    refine aE ?_
    exact oO hF [] [] rfl
  · refine bE hF fun vr1 h3 hF => ?_
    refine awp_region ?_
    refine aR 2 ?_
    refine aC (fleetref2_in_ok h1) [] [] [] ?_
    refine aB h2 ?_
    refine aR 3 ?_
    refine aC (fleetref2_in_ok h3) [] [] [] ?_
    refine aR 2 ?_
    refine aE ?_
    exact oO hF [] [] rfl

def fleetref2_SpotFault_R (qs : api_Spot) (r : Int) : TV × Mem := (.v (.one (.d (.int .i64 r))), ⟨[], []⟩)

theorem fleetref2_SpotFault_ok {qs : api_Spot} {r} (hF : fleetref2_SpotFault qs = some r) : Holds prog 49 [.v (.agg [.d (.int .i64 qs.X), .d (.int .i64 qs.Y)])] ⟨[], []⟩ (Is (fleetref2_SpotFault_R qs r)) := by
  unfold fleetref2_SpotFault at hF
  refine holds_of_awp hΓ (fn := f49) (c := cB f49) (A := 0) (nx := 0) (by kernel_rfl) (by kernel_rfl) (by kernel_rfl) (by kernel_rfl) (by kernel_rfl) (by kernel_rfl) (lowc_of (by kernel_rfl)) ?_
  show Awp prog 0 13 (cB f49) _ _
  refine awp_seq ?_
  refine awp_region ?_
  refine aR 2 ?_
  refine aE ?_
  refine awp_seq ?_
  refine awp_seq ?_
  refine awp_to (st' := fleetref2_SpotFault_x1_I qs) (oT [] []) ?_
  refine bE hF fun vx1 h4 hF => ?_
  refine awp_sub (fleetref2_SpotFault_x1_ok qs h4) ?_
  refine cE hF (fun h5 hF => ?_) fun h5 hF => ?_
  · refine awp_true (by kernel_rfl) h5 ?_
    refine awp_seq ?_
    refine awp_region ?_
    refine aR 1 ?_
    refine aE ?_
    refine awp_ret ?_
    exact oF hF [] []
  · refine awp_false (by kernel_rfl) h5 ?_
    refine awp_skip ?_
    refine awp_seq ?_
    refine awp_region ?_
    refine aR 1 ?_
    refine aE ?_
    refine awp_ret ?_
    exact oF hF [] []

/-! ### beaconfleet/fleetref2.sign -/
def fleetref2_sign_R (qn : Int) (r : Int) : TV × Mem := (.v (.one (.d (.int .i64 r))), ⟨[], []⟩)

theorem fleetref2_sign_ok {qn : Int} {r} (hF : fleetref2_sign qn = some r) : Holds prog 67 [.v (.one (.d (.int .i64 qn)))] ⟨[], []⟩ (Is (fleetref2_sign_R qn r)) := by
  unfold fleetref2_sign at hF
  refine holds_of_awp hΓ (fn := f67) (c := cB f67) (A := 0) (nx := 0) (by kernel_rfl) (by kernel_rfl) (by kernel_rfl) (by kernel_rfl) (by kernel_rfl) (by kernel_rfl) (lowc_of (by kernel_rfl)) ?_
  show Awp prog 0 9 (cB f67) _ _
  refine awp_seq ?_
  refine awp_region ?_
  refine aR 1 ?_
  refine aE ?_
  refine awp_seq ?_
  refine awp_block ?_
  refine awp_seq ?_
  refine awp_region ?_
  refine aR 3 ?_
  refine aE ?_
  refine cE hF (fun h1 hF => ?_) fun h1 hF => ?_
  · refine awp_true (by kernel_rfl) h1 ?_
    refine awp_seq ?_
    refine awp_region ?_
    refine aR 1 ?_
    refine aE ?_
    refine awp_ret ?_
    exact oF hF [] []
  · refine awp_false (by kernel_rfl) h1 ?_
    refine awp_seq ?_
    refine awp_region ?_
    refine aR 3 ?_
    refine aE ?_
    refine cE hF (fun h2 hF => ?_) fun h2 hF => ?_
    · refine awp_true (by kernel_rfl) h2 ?_
      refine awp_seq ?_
      refine awp_region ?_
      refine aR 1 ?_
      refine aE ?_
      refine awp_ret ?_
      exact oF hF [] []
    · refine awp_false (by kernel_rfl) h2 ?_
      refine awp_skip ?_
      refine awp_seq ?_
      refine awp_region ?_
      refine aR 1 ?_
      refine aE ?_
      refine awp_ret ?_
      exact oF hF [] []

/-! ### beaconfleet/fleetref2.FixOrder -/
def fleetref2_FixOrder_R (qa : api_Fix) (qb : api_Fix) (r : Int) : TV × Mem := (.v (.one (.d (.int .i64 r))), ⟨[], []⟩)

theorem fleetref2_FixOrder_ok {qa : api_Fix} {qb : api_Fix} {r} (hF : fleetref2_FixOrder qa qb = some r) : Holds prog 51 [.v (.agg [.d (.str qa.Device), .d (.int .i64 qa.At), .d (.int .i64 qa.X), .d (.int .i64 qa.Y), .d (.int .i64 qa.Error)]), .v (.agg [.d (.str qb.Device), .d (.int .i64 qb.At), .d (.int .i64 qb.X), .d (.int .i64 qb.Y), .d (.int .i64 qb.Error)])] ⟨[], []⟩ (Is (fleetref2_FixOrder_R qa qb r)) := by
  unfold fleetref2_FixOrder at hF
  refine holds_of_awp hΓ (fn := f51) (c := cB f51) (A := 0) (nx := 0) (by kernel_rfl) (by kernel_rfl) (by kernel_rfl) (by kernel_rfl) (by kernel_rfl) (by kernel_rfl) (lowc_of (by kernel_rfl)) ?_
  show Awp prog 0 21 (cB f51) _ _
  refine awp_seq ?_
  refine awp_region ?_
  refine aR 3 ?_
  refine aE ?_
  refine awp_seq ?_
  refine awp_seq ?_
  refine awp_region ?_
  refine aR 5 ?_
  refine aE ?_
  refine cE hF (fun h1 hF => ?_) fun h1 hF => ?_
  · refine awp_true (by kernel_rfl) h1 ?_
    refine awp_seq ?_
    refine bE hF fun _ h2 hF => ?_
    refine awp_region ?_
    refine aR 4 ?_
    refine aC (strings_Compare_ok h2) [] [] [] ?_
    refine aR 1 ?_
    refine aE ?_
    refine awp_ret ?_
    exact oF hF [] []
  · refine awp_false (by kernel_rfl) h1 ?_
    refine awp_skip ?_
    refine awp_seq ?_
    refine bE hF fun vr h3 hF => ?_
    refine awp_region ?_
    refine aR 5 ?_
    refine aC (fleetref2_sign_ok h3) [] [] [] ?_
    refine aR 1 ?_
    refine aE ?_
    refine awp_ret ?_
    exact oF hF [] []

/-! ### beaconfleet/fleetref2.FixesFault -/
def fleetref2_FixesFault_x2_k : Bool → AEx
  | _ => .normal

def fleetref2_FixesFault_x2_S (ql : List api_Fix) (vx : Int) (vy2 : api_Fix) : Bool → St
  | vx3 => Mem.st ⟨[], [(0, [.d (.str vy2.Device), .d (.int .i64 vy2.At), .d (.int .i64 vy2.X), .d (.int .i64 vy2.Y), .d (.int .i64 vy2.Error)])]⟩ (tl [(0, .v (.one (.d (.lst (List.map api_Fix.enc ql))))), (3, .v (.one (.d (.int .i64 vx)))), (4, .v (.one (.box 0 0))), (8, .v (.one (.d (.lst (List.map api_Fix.enc ql))))), (9, .v (.one (.d (.int .i64 (ql.length : Int))))), (10, .v (.one (.d (.int .i64 vx)))), (20, .v (.one (.d (.bool vx3))))]) 1

def fleetref2_FixesFault_x2_I (ql : List api_Fix) (vx : Int) (vy2 : api_Fix) : St := Mem.st ⟨[], [(0, [.d (.str vy2.Device), .d (.int .i64 vy2.At), .d (.int .i64 vy2.X), .d (.int .i64 vy2.Y), .d (.int .i64 vy2.Error)])]⟩ (tl [(0, .v (.one (.d (.lst (List.map api_Fix.enc ql))))), (3, .v (.one (.d (.int .i64 vx)))), (4, .v (.one (.box 0 0))), (8, .v (.one (.d (.lst (List.map api_Fix.enc ql))))), (9, .v (.one (.d (.int .i64 (ql.length : Int))))), (10, .v (.one (.d (.int .i64 vx))))]) 1

theorem fleetref2_FixesFault_x2_ok (ql : List api_Fix) (vx : Int) (vy2 : api_Fix) {r} (hF : fleetref2_FixesFault_x2 vy2 = some r) : Awp prog 0 51 (cL (cR (cR (cL (cR (cL (cL (cR (cR (cL (cL (cR (cL (cR (cR (cB f29)))))))))))))))) (Out 0 fleetref2_FixesFault_x2_k (fleetref2_FixesFault_x2_S ql vx vy2) r) (fleetref2_FixesFault_x2_I ql vx vy2) := by
  unfold fleetref2_FixesFault_x2 at hF
  refine bE hF fun vr1_2 h6 hF => ?_
  refine cE hF (fun h7 hF => ?_) fun h7 hF => ?_
  · refine awp_region ?_
    refine aR 2 ?_
    refine aC (fleetref2_Moment_ok h6) [] [] [] ?_
    refine aB h7 ?_
    refine aR 13 ?_
    refine aE ?_
    exact oO hF [] [] rfl
  · refine bE hF fun _ h8 hF => ?_
    refine bE hF fun vr2_1 h9 hF => ?_
    refine cE hF (fun h10 hF => ?_) fun h10 hF => ?_
    · refine awp_region ?_
      refine aR 2 ?_
      refine aC (fleetref2_Moment_ok h6) [] [] [] ?_
      refine aB h7 ?_
      refine aR 2 ?_
      refine aC (fleetref2_spotOf_ok h8) [] [] [] ?_
      refine aC (fleetref2_SpotFault_ok h9) [] [] [] ?_
      refine aB h10 ?_
      refine aR 8 ?_
      refine aE ?_
      exact oO hF [] [] rfl
    · refine bE hF fun vr4 h11 hF => ?_
      refine awp_region ?_
      refine aR 2 ?_
      refine aC (fleetref2_Moment_ok h6) [] [] [] ?_
      refine aB h7 ?_
      refine aR 2 ?_
      refine aC (fleetref2_spotOf_ok h8) [] [] [] ?_
      refine aC (fleetref2_SpotFault_ok h9) [] [] [] ?_
      refine aB h10 ?_
      refine aR 4 ?_
      refine aC (fleetref2_in_ok h11) [] [] [] ?_
      refine aR 3 ?_
      refine aE ?_
      exact oO hF [] [] rfl

def fleetref2_FixesFault_x3_k : Bool → AEx
  | _ => .normal

def fleetref2_FixesFault_x3_S (ql : List api_Fix) (vx : Int) (vy2 : api_Fix) : Bool → St
  | vx4 => Mem.st ⟨[], []⟩ (tl [(0, .v (.one (.d (.lst (List.map api_Fix.enc ql))))), (8, .v (.one (.d (.lst (List.map api_Fix.enc ql))))), (9, .v (.one (.d (.int .i64 (ql.length : Int))))), (10, .v (.one (.d (.int .i64 vx)))), (37, .v (.one (.d (.bool vx4))))]) 0

def fleetref2_FixesFault_x3_I (ql : List api_Fix) (vx : Int) (vy2 : api_Fix) : St := Mem.st ⟨[], [(0, [.d (.str vy2.Device), .d (.int .i64 vy2.At), .d (.int .i64 vy2.X), .d (.int .i64 vy2.Y), .d (.int .i64 vy2.Error)])]⟩ (tl [(0, .v (.one (.d (.lst (List.map api_Fix.enc ql))))), (3, .v (.one (.d (.int .i64 vx)))), (4, .v (.one (.box 0 0))), (8, .v (.one (.d (.lst (List.map api_Fix.enc ql))))), (9, .v (.one (.d (.int .i64 (ql.length : Int))))), (10, .v (.one (.d (.int .i64 vx))))]) 1

theorem fleetref2_FixesFault_x3_ok (ql : List api_Fix) (vx : Int) (vy2 : api_Fix) {r} (hF : fleetref2_FixesFault_x3 ql vx vy2 = some r) : Awp prog 0 51 (cL (cR (cR (cR (cR (cL (cR (cL (cL (cR (cR (cL (cL (cR (cL (cR (cR (cB f29)))))))))))))))))) (Out 0 fleetref2_FixesFault_x3_k (fleetref2_FixesFault_x3_S ql vx vy2) r) (fleetref2_FixesFault_x3_I ql vx vy2) := by
  unfold fleetref2_FixesFault_x3 at hF
  refine cE hF (fun h14 hF => ?_) fun h14 hF => ?_
  · refine bE hF fun vy3 h15 hF => ?_
    refine bE hF fun vr1_3 h16 hF => ?_
    refine aD ?_
    refine dR 1 ?_
    refine dB h14 ?_
    refine dR 4 ?_
    refine dX (x_idx api_Fix.enc h15) ?_
    refine dR 2 ?_
    refine dC (fleetref2_FixOrder_ok h16) [] [] [] ?_
    refine dR 3 ?_
    refine dE ?_
    exact oO hF [] [] rfl
  · refine aD ?_
    refine dR 1 ?_
    refine dB h14 ?_
    refine dR 11 ?_
    refine dE ?_
    exact oO hF [] [] rfl

def fleetref2_FixesFault_x1_k : Unit ⊕ Int → AEx
  | .inl _ => .exit 0
  | .inr _ => .ret

def fleetref2_FixesFault_x1_S (ql : List api_Fix) : Unit ⊕ Int → St
  | .inl _ => Mem.st ⟨[], []⟩ (tl []) 0
  | .inr vx5 => Mem.st ⟨[], []⟩ (tl [(2, .v (.one (.d (.int .i64 vx5))))]) 0

def fleetref2_FixesFault_x1_H (ql : List api_Fix) : Int → St
  | vx => Mem.st ⟨[], []⟩ (tl [(0, .v (.one (.d (.lst (List.map api_Fix.enc ql))))), (8, .v (.one (.d (.lst (List.map api_Fix.enc ql))))), (9, .v (.one (.d (.int .i64 (ql.length : Int))))), (10, .v (.one (.d (.int .i64 vx))))]) 0

theorem fleetref2_FixesFault_x1_ok (ql : List api_Fix) (vx : Int) (r : (Int) ⊕ (Unit ⊕ Int)) (hF : fleetref2_FixesFault_x1 ql vx = some r) : Awp prog 0 51 (cL (cL (cR (cL (cR (cR (cB f29))))))) (Out 0 (kk fleetref2_FixesFault_x1_k) (SS (fleetref2_FixesFault_x1_H ql) (fleetref2_FixesFault_x1_S ql)) r) (fleetref2_FixesFault_x1_H ql vx) := by
  unfold fleetref2_FixesFault_x1 at hF
  refine awp_seq ?_
  refine awp_region ?_
  refine aR 1 ?_
  refine aE ?_
  refine awp_seq ?_
  refine cE hF (fun h2 hF => ?_) fun h2 hF => ?_
  · refine awp_true (by kernel_rfl) h2 ?_
    refine awp_skip ?_
    refine awp_seq ?_
    refine awp_block ?_
    refine awp_seq ?_
    refine bE hF fun vy2 h3 hF => ?_
    refine awp_region ?_
    refine aR 1 ?_
    refine aX (x_idx api_Fix.enc h3) ?_
    refine aR 4 ?_
    refine aE ?_
    refine awp_block ?_
    refine awp_seq ?_
    refine bE hF fun vr3_1 h4 hF => ?_
    refine awp_region ?_
    refine aR 2 ?_
    refine aC (fleetref2_Key_ok h4) [] [] [] ?_
    refine aR 2 ?_
    refine aE ?_
    refine cE hF (fun h5 hF => ?_) fun h5 hF => ?_
    · refine awp_true (by kernel_rfl) h5 ?_
      refine awp_seq ?_
      refine awp_region ?_
      refine aR 1 ?_
      refine aE ?_
      refine awp_ret ?_
      exact oO hF [] [] rfl
    · refine awp_false (by kernel_rfl) h5 ?_
      refine awp_seq ?_
      refine awp_to (st' := fleetref2_FixesFault_x2_I ql vx vy2) (oT [(0, 4000)] []) ?_
      refine bE hF fun vx3_1 h12 hF => ?_
      refine awp_sub (fleetref2_FixesFault_x2_ok ql vx vy2 h12) ?_
      refine cE hF (fun h13 hF => ?_) fun h13 hF => ?_
      · refine awp_true (by kernel_rfl) h13 ?_
        refine awp_seq ?_
        refine awp_region ?_
        refine aR 1 ?_
        refine aE ?_
        refine awp_ret ?_
        exact oO hF [] [] rfl
      · refine awp_false (by kernel_rfl) h13 ?_
        refine awp_seq ?_
        refine awp_to (st' := fleetref2_FixesFault_x3_I ql vx vy2) (oT [] []) ?_
        refine bE hF fun vx4_1 h17 hF => ?_
        refine awp_sub (fleetref2_FixesFault_x3_ok ql vx vy2 h17) ?_
        refine cE hF (fun h18 hF => ?_) fun h18 hF => ?_
        · refine awp_true (by kernel_rfl) h18 ?_
          refine awp_seq ?_
          refine awp_region ?_
          refine aR 1 ?_
          refine aE ?_
          refine awp_ret ?_
          exact oO hF [] [] rfl
        · refine awp_false (by kernel_rfl) h18 ?_
          refine awp_skip ?_
          refine awp_region ?_
          refine aR 2 ?_
          refine aE ?_
          exact oO hF [] [] rfl
  · refine awp_false (by kernel_rfl) h2 ?_
    refine awp_exit ?_
    exact oO hF [] [] rfl

def fleetref2_FixesFault_R (ql : List api_Fix) (r : Int) : TV × Mem := (.v (.one (.d (.int .i64 r))), ⟨[], []⟩)

theorem fleetref2_FixesFault_ok {ql : List api_Fix} {r} (hF : fleetref2_FixesFault ql = some r) : Holds prog 29 [.v (.one (.d (.lst (List.map api_Fix.enc ql))))] ⟨[], []⟩ (Is (fleetref2_FixesFault_R ql r)) := by
  unfold fleetref2_FixesFault at hF
  refine holds_of_awp hΓ (fn := f29) (c := cB f29) (A := 0) (nx := 0) (by kernel_rfl) (by kernel_rfl) (by kernel_rfl) (by kernel_rfl) (by kernel_rfl) (by kernel_rfl) (lowc_of (by kernel_rfl)) ?_
  show Awp prog 0 51 (cB f29) _ _
  refine awp_seq ?_
  refine awp_region ?_
  refine aR 1 ?_
  refine aE ?_
  refine awp_seq ?_
  refine awp_seq ?_
  refine awp_region ?_
  refine aR 1 ?_
  refine aL api_Fix.enc ql ?_
  refine aR 1 ?_
  refine aE ?_
  refine cE hF (fun h1 hF => ?_) fun h1 hF => ?_
  · refine awp_true (by kernel_rfl) h1 ?_
    refine awp_seq ?_
    refine awp_region ?_
    refine aR 1 ?_
    refine aE ?_
    refine awp_ret ?_
    exact oF hF [] []
  · refine awp_false (by kernel_rfl) h1 ?_
    refine awp_skip ?_
    refine awp_seq ?_
    refine awp_seq ?_
    refine awp_region ?_
    refine aR 1 ?_
    refine aL api_Fix.enc ql ?_
    refine aR 1 ?_
    refine aE ?_
    refine awp_block ?_
    refine awp_to (st' := fleetref2_FixesFault_x1_H ql 0) (oT [] []) ?_
    refine bE hF fun x h19 hF => ?_
    rcases x with _ | vx5_1
    · refine awp_sub (awp_loop' (fleetref2_FixesFault_x1_H ql) fleetref2_FixesFault_x1_k (fleetref2_FixesFault_x1_S ql) (by intro x; rcases x with x | x <;> exact fun h => nomatch h) h19 (fleetref2_FixesFault_x1_ok ql)) ?_
      refine awp_seq ?_
      refine awp_region ?_
      refine aR 1 ?_
      refine aE ?_
      refine awp_ret ?_
      exact oF hF [] []
    · refine awp_sub (awp_loop' (fleetref2_FixesFault_x1_H ql) fleetref2_FixesFault_x1_k (fleetref2_FixesFault_x1_S ql) (by intro x; rcases x with x | x <;> exact fun h => nomatch h) h19 (fleetref2_FixesFault_x1_ok ql)) ?_
      exact oF hF [] []

/-! ### beaconfleet/fleetref2.TrackFault$1 -/
def fleetref2_TrackFault_1_R (qx : api_Fix) (qx1 : List api_Fix) (r : Bool) : TV × Mem := (.v (.one (.d (.bool r))), ⟨[], [(0, [.d (.lst (List.map api_Fix.enc qx1))])]⟩)

theorem fleetref2_TrackFault_1_ok {qx : api_Fix} {qx1 : List api_Fix} {r} (hF : fleetref2_TrackFault_1 qx qx1 = some r) : Holds prog 31 [.v (.agg [.d (.str qx.Device), .d (.int .i64 qx.At), .d (.int .i64 qx.X), .d (.int .i64 qx.Y), .d (.int .i64 qx.Error)]), .v (.one (.box 0 0))] ⟨[], [(0, [.d (.lst (List.map api_Fix.enc qx1))])]⟩ (Is (fleetref2_TrackFault_1_R qx qx1 r)) := by
  unfold fleetref2_TrackFault_1 at hF
  refine holds_of_awp hΓ (fn := f31) (c := cB f31) (A := 1) (nx := 1) (by kernel_rfl) (by kernel_rfl) (by kernel_rfl) (by kernel_rfl) (by kernel_rfl) (by kernel_rfl) (lowc_of (by kernel_rfl)) ?_
  show Awp prog 1 11 (cB f31) _ _
  refine awp_seq ?_
  refine awp_region ?_
  refine aR 2 ?_
  refine aE ?_
  refine awp_seq ?_
  refine bE hF fun vy h1 hF => ?_
  refine aD ?_
  refine dR 3 ?_
  refine dX (x_idx api_Fix.enc h1) ?_
  refine dR 4 ?_
  refine dE ?_
  refine awp_ret ?_
  exact oF hF [] []

/-! ### slices.IndexFunc[[]beaconfleet/api.Fix,beaconfleet/api.Fix] -/
def slices_IndexFunc_api_Fix_api_Fix_f1_fleetref2_TrackFault_1_x1_k : Unit ⊕ Int → AEx
  | .inl _ => .exit 0
  | .inr _ => .ret

def slices_IndexFunc_api_Fix_api_Fix_f1_fleetref2_TrackFault_1_x1_S (qs : List api_Fix) : Unit ⊕ Int → St
  | .inl _ => Mem.st ⟨[], [(0, [.d (.lst (List.map api_Fix.enc qs))])]⟩ (tl []) 1
  | .inr vx1 => Mem.st ⟨[], [(0, [.d (.lst (List.map api_Fix.enc qs))])]⟩ (tl [(4, .v (.one (.d (.int .i64 vx1))))]) 1

def slices_IndexFunc_api_Fix_api_Fix_f1_fleetref2_TrackFault_1_x1_H (qs : List api_Fix) : Int → St
  | vx => Mem.st ⟨[], [(0, [.d (.lst (List.map api_Fix.enc qs))])]⟩ (tl [(0, .v (.one (.d (.lst (List.map api_Fix.enc qs))))), (1, .v (.one (.fn 31 [0]))), (7, .v (.one (.d (.int .i64 (qs.length : Int))))), (8, .v (.one (.d (.int .i64 vx))))]) 1

theorem slices_IndexFunc_api_Fix_api_Fix_f1_fleetref2_TrackFault_1_x1_ok (qs : List api_Fix) (vx : Int) (r : (Int) ⊕ (Unit ⊕ Int)) (hF : slices_IndexFunc_api_Fix_api_Fix_f1_fleetref2_TrackFault_1_x1 qs vx = some r) : Awp prog 1 19 (cL (cL (cR (cL (cR (cB f52)))))) (Out 1 (kk slices_IndexFunc_api_Fix_api_Fix_f1_fleetref2_TrackFault_1_x1_k) (SS (slices_IndexFunc_api_Fix_api_Fix_f1_fleetref2_TrackFault_1_x1_H qs) (slices_IndexFunc_api_Fix_api_Fix_f1_fleetref2_TrackFault_1_x1_S qs)) r) (slices_IndexFunc_api_Fix_api_Fix_f1_fleetref2_TrackFault_1_x1_H qs vx) := by
  unfold slices_IndexFunc_api_Fix_api_Fix_f1_fleetref2_TrackFault_1_x1 at hF
  refine awp_seq ?_
  refine awp_region ?_
  refine aR 1 ?_
  refine aE ?_
  refine awp_seq ?_
  refine cE hF (fun h1 hF => ?_) fun h1 hF => ?_
  · refine awp_true (by kernel_rfl) h1 ?_
    refine awp_skip ?_
    refine awp_seq ?_
    refine awp_block ?_
    refine awp_seq ?_
    refine awp_region ?_
    refine aR 2 ?_
    refine aE ?_
    refine awp_seq ?_
    refine bE hF fun vy1 h2 hF => ?_
    refine bE hF fun vr1 h3 hF => ?_
    refine awp_region ?_
    refine aR 3 ?_
    refine aX (x_idx api_Fix.enc h2) ?_
    refine aR 1 ?_
    refine aC (fleetref2_TrackFault_1_ok h3) [] [] [] ?_
    refine aE ?_
    refine cE hF (fun h4 hF => ?_) fun h4 hF => ?_
    · refine awp_true (by kernel_rfl) h4 ?_
      refine awp_seq ?_
      refine awp_region ?_
      refine aR 2 ?_
      refine aE ?_
      refine awp_ret ?_
      exact oO hF [] [] rfl
    · refine awp_false (by kernel_rfl) h4 ?_
      refine awp_skip ?_
      refine awp_region ?_
      refine aR 2 ?_
      refine aE ?_
      exact oO hF [] [] rfl
  · refine awp_false (by kernel_rfl) h1 ?_
    refine awp_exit ?_
    exact oO hF [] [] rfl

def slices_IndexFunc_api_Fix_api_Fix_f1_fleetref2_TrackFault_1_R (qs : List api_Fix) (r : Int) : TV × Mem := (.v (.one (.d (.int .i64 r))), ⟨[], [(0, [.d (.lst (List.map api_Fix.enc qs))])]⟩)

theorem slices_IndexFunc_api_Fix_api_Fix_f1_fleetref2_TrackFault_1_ok {qs : List api_Fix} {r} (hF : slices_IndexFunc_api_Fix_api_Fix_f1_fleetref2_TrackFault_1 qs = some r) : Holds prog 52 [.v (.one (.d (.lst (List.map api_Fix.enc qs)))), .v (.one (.fn 31 [0]))] ⟨[], [(0, [.d (.lst (List.map api_Fix.enc qs))])]⟩ (Is (slices_IndexFunc_api_Fix_api_Fix_f1_fleetref2_TrackFault_1_R qs r)) := by
  unfold slices_IndexFunc_api_Fix_api_Fix_f1_fleetref2_TrackFault_1 at hF
  refine holds_of_awp hΓ (fn := f52) (c := cB f52) (A := 1) (nx := 1) (by kernel_rfl) (by kernel_rfl) (by kernel_rfl) (by kernel_rfl) (by kernel_rfl) (by kernel_rfl) (lowc_of (by kernel_rfl)) ?_
  show Awp prog 1 19 (cB f52) _ _
  refine awp_seq ?_
  refine awp_region ?_
  refine aR 1 ?_
  refine aE ?_
  refine awp_seq ?_
  refine awp_seq ?_
  refine awp_region ?_
  refine aR 1 ?_
  refine aL api_Fix.enc qs ?_
  refine aR 1 ?_
  refine aE ?_
  refine awp_block ?_
  refine awp_to (st' := slices_IndexFunc_api_Fix_api_Fix_f1_fleetref2_TrackFault_1_x1_H qs 0) (oT [] []) ?_
  refine bE hF fun x h5 hF => ?_
  rcases x with _ | vx1_1
  · refine awp_sub (awp_loop' (slices_IndexFunc_api_Fix_api_Fix_f1_fleetref2_TrackFault_1_x1_H qs) slices_IndexFunc_api_Fix_api_Fix_f1_fleetref2_TrackFault_1_x1_k (slices_IndexFunc_api_Fix_api_Fix_f1_fleetref2_TrackFault_1_x1_S qs) (by intro x; rcases x with x | x <;> exact fun h => nomatch h) h5 (slices_IndexFunc_api_Fix_api_Fix_f1_fleetref2_TrackFault_1_x1_ok qs)) ?_
    refine awp_seq ?_
    refine awp_region ?_
    refine aR 1 ?_
    refine aE ?_
    refine awp_ret ?_
    exact oF hF [] []
  · refine awp_sub (awp_loop' (slices_IndexFunc_api_Fix_api_Fix_f1_fleetref2_TrackFault_1_x1_H qs) slices_IndexFunc_api_Fix_api_Fix_f1_fleetref2_TrackFault_1_x1_k (slices_IndexFunc_api_Fix_api_Fix_f1_fleetref2_TrackFault_1_x1_S qs) (by intro x; rcases x with x | x <;> exact fun h => nomatch h) h5 (slices_IndexFunc_api_Fix_api_Fix_f1_fleetref2_TrackFault_1_x1_ok qs)) ?_
    exact oF hF [] []

/-! ### slices.ContainsFunc[[]beaconfleet/api.Fix,beaconfleet/api.Fix] -/
def slices_ContainsFunc_api_Fix_api_Fix_f1_fleetref2_TrackFault_1_R (qs : List api_Fix) (r : Bool) : TV × Mem := (.v (.one (.d (.bool r))), ⟨[], [(0, [.d (.lst (List.map api_Fix.enc qs))])]⟩)

theorem slices_ContainsFunc_api_Fix_api_Fix_f1_fleetref2_TrackFault_1_ok {qs : List api_Fix} {r} (hF : slices_ContainsFunc_api_Fix_api_Fix_f1_fleetref2_TrackFault_1 qs = some r) : Holds prog 30 [.v (.one (.d (.lst (List.map api_Fix.enc qs)))), .v (.one (.fn 31 [0]))] ⟨[], [(0, [.d (.lst (List.map api_Fix.enc qs))])]⟩ (Is (slices_ContainsFunc_api_Fix_api_Fix_f1_fleetref2_TrackFault_1_R qs r)) := by
  unfold slices_ContainsFunc_api_Fix_api_Fix_f1_fleetref2_TrackFault_1 at hF
  refine holds_of_awp hΓ (fn := f30) (c := cB f30) (A := 1) (nx := 1) (by kernel_rfl) (by kernel_rfl) (by kernel_rfl) (by kernel_rfl) (by kernel_rfl) (by kernel_rfl) (lowc_of (by kernel_rfl)) ?_
  show Awp prog 1 9 (cB f30) _ _
  refine awp_seq ?_
  refine awp_region ?_
  refine aR 1 ?_
  refine aE ?_
  refine awp_seq ?_
  refine bE hF fun vr2 h1 hF => ?_
  refine awp_region ?_
  refine aR 2 ?_
  refine aC (slices_IndexFunc_api_Fix_api_Fix_f1_fleetref2_TrackFault_1_ok h1) [] [] [] ?_
  refine aR 2 ?_
  refine aE ?_
  refine awp_ret ?_
  exact oF hF [] []

/-! ### beaconfleet/fleetref2.TrackFault -/
def fleetref2_TrackFault_R (ql : List api_Fix) (r : Int) : TV × Mem := (.v (.one (.d (.int .i64 r))), ⟨[], []⟩)

theorem fleetref2_TrackFault_ok {ql : List api_Fix} {r} (hF : fleetref2_TrackFault ql = some r) : Holds prog 9 [.v (.one (.d (.lst (List.map api_Fix.enc ql))))] ⟨[], []⟩ (Is (fleetref2_TrackFault_R ql r)) := by
  unfold fleetref2_TrackFault at hF
  refine holds_of_awp hΓ (fn := f9) (c := cB f9) (A := 0) (nx := 0) (by kernel_rfl) (by kernel_rfl) (by kernel_rfl) (by kernel_rfl) (by kernel_rfl) (by kernel_rfl) (lowc_of (by kernel_rfl)) ?_
  show Awp prog 0 12 (cB f9) _ _
  refine awp_seq ?_
  refine awp_region ?_
  refine aR 2 ?_
  refine aE ?_
  refine awp_seq ?_
  refine awp_seq ?_
  refine bE hF fun vr5 h1 hF => ?_
  refine awp_region ?_
  refine aR 1 ?_
  refine aC (fleetref2_FixesFault_ok h1) [] [] [] ?_
  refine aR 1 ?_
  refine aE ?_
  refine awp_seq ?_
  refine awp_region ?_
  refine aR 2 ?_
  refine aE ?_
  refine cE hF (fun h2 hF => ?_) fun h2 hF => ?_
  · refine awp_true (by kernel_rfl) h2 ?_
    refine awp_seq ?_
    refine awp_region ?_
    refine aR 2 ?_
    refine aE ?_
    refine awp_ret ?_
    exact oF hF [] []
  · refine awp_false (by kernel_rfl) h2 ?_
    refine awp_skip ?_
    refine awp_seq ?_
    refine awp_seq ?_
    refine bE hF fun vr h3 hF => ?_
    refine awp_region ?_
    refine aR 2 ?_
    refine aC (slices_ContainsFunc_api_Fix_api_Fix_f1_fleetref2_TrackFault_1_ok h3) [] [] [] ?_
    refine aE ?_
    refine cE hF (fun h4 hF => ?_) fun h4 hF => ?_
    · refine awp_true (by kernel_rfl) h4 ?_
      refine awp_seq ?_
      refine awp_region ?_
      refine aR 1 ?_
      refine aE ?_
      refine awp_ret ?_
      exact oF hF [] []
    · refine awp_false (by kernel_rfl) h4 ?_
      refine awp_skip ?_
      refine awp_seq ?_
      refine awp_region ?_
      refine aR 1 ?_
      refine aE ?_
      refine awp_ret ?_
      exact oF hF [] []

/-! ### beaconfleet/fleetlaw2.when -/
def fleetlaw2_when_R (qis : Bool) (qe : Int) (r : Int) : TV × Mem := (.v (.one (.d (.int .i64 r))), ⟨[], []⟩)

theorem fleetlaw2_when_ok {qis : Bool} {qe : Int} {r} (hF : fleetlaw2_when qis qe = some r) : Holds prog 11 [.v (.one (.d (.bool qis))), .v (.one (.d (.int .i64 qe)))] ⟨[], []⟩ (Is (fleetlaw2_when_R qis qe r)) := by
  unfold fleetlaw2_when at hF
  refine holds_of_awp hΓ (fn := f11) (c := cB f11) (A := 0) (nx := 0) (by kernel_rfl) (by kernel_rfl) (by kernel_rfl) (by kernel_rfl) (by kernel_rfl) (by kernel_rfl) (lowc_of (by kernel_rfl)) ?_
  show Awp prog 0 7 (cB f11) _ _
  refine awp_seq ?_
  refine awp_region ?_
  refine aR 1 ?_
  refine aE ?_
  refine awp_seq ?_
  refine awp_seq ?_
  refine awp_region ?_
  refine aR 1 ?_
  refine aE ?_
  refine cE hF (fun h1 hF => ?_) fun h1 hF => ?_
  · refine awp_true (by kernel_rfl) h1 ?_
    refine awp_seq ?_
    refine awp_region ?_
    refine aR 2 ?_
    refine aE ?_
    refine awp_ret ?_
    exact oF hF [] []
  · refine awp_false (by kernel_rfl) h1 ?_
    refine awp_skip ?_
    refine awp_seq ?_
    refine awp_region ?_
    refine aR 1 ?_
    refine aE ?_
    refine awp_ret ?_
    exact oF hF [] []

/-! ### beaconfleet/fleetlaw2.errs -/
def fleetlaw2_errs_x1_k : Unit ⊕ Int → AEx
  | .inl _ => .exit 0
  | .inr _ => .ret

def fleetlaw2_errs_x1_S (ql : List Int) : Unit ⊕ Int → St
  | .inl _ => Mem.st ⟨[], []⟩ (tl []) 0
  | .inr vx1 => Mem.st ⟨[], []⟩ (tl [(2, .v (.one (.d (.int .i64 vx1))))]) 0

def fleetlaw2_errs_x1_H (ql : List Int) : Int → St
  | vx => Mem.st ⟨[], []⟩ (tl [(5, .v (.one (.d (.lst (List.map (encI .i64) ql))))), (6, .v (.one (.d (.int .i64 (ql.length : Int))))), (7, .v (.one (.d (.int .i64 vx))))]) 0

theorem fleetlaw2_errs_x1_ok (ql : List Int) (vx : Int) (r : (Int) ⊕ (Unit ⊕ Int)) (hF : fleetlaw2_errs_x1 ql vx = some r) : Awp prog 0 15 (cL (cL (cR (cL (cR (cB f10)))))) (Out 0 (kk fleetlaw2_errs_x1_k) (SS (fleetlaw2_errs_x1_H ql) (fleetlaw2_errs_x1_S ql)) r) (fleetlaw2_errs_x1_H ql vx) := by
  unfold fleetlaw2_errs_x1 at hF
  refine awp_seq ?_
  refine awp_region ?_
  refine aR 1 ?_
  refine aE ?_
  refine awp_seq ?_
  refine cE hF (fun h1 hF => ?_) fun h1 hF => ?_
  · refine awp_true (by kernel_rfl) h1 ?_
    refine awp_skip ?_
    refine awp_seq ?_
    refine awp_block ?_
    refine awp_seq ?_
    refine bE hF fun vy1 h2 hF => ?_
    refine awp_region ?_
    refine aX (x_idx (encI .i64) h2) ?_
    refine aR 2 ?_
    refine aE ?_
    refine awp_seq ?_
    refine awp_region ?_
    refine aR 2 ?_
    refine aE ?_
    refine cE hF (fun h3 hF => ?_) fun h3 hF => ?_
    · refine awp_true (by kernel_rfl) h3 ?_
      refine awp_seq ?_
      refine awp_region ?_
      refine aR 2 ?_
      refine aE ?_
      refine awp_ret ?_
      exact oO hF [] [] rfl
    · refine awp_false (by kernel_rfl) h3 ?_
      refine awp_skip ?_
      refine awp_region ?_
      refine aR 2 ?_
      refine aE ?_
      exact oO hF [] [] rfl
  · refine awp_false (by kernel_rfl) h1 ?_
    refine awp_exit ?_
    exact oO hF [] [] rfl

def fleetlaw2_errs_R (ql : List Int) (r : Int) : TV × Mem := (.v (.one (.d (.int .i64 r))), ⟨[], []⟩)

theorem fleetlaw2_errs_ok {ql : List Int} {r} (hF : fleetlaw2_errs ql = some r) : Holds prog 10 [.v (.one (.d (.lst (List.map (encI .i64) ql))))] ⟨[], []⟩ (Is (fleetlaw2_errs_R ql r)) := by
  unfold fleetlaw2_errs at hF
  refine holds_of_awp hΓ (fn := f10) (c := cB f10) (A := 0) (nx := 0) (by kernel_rfl) (by kernel_rfl) (by kernel_rfl) (by kernel_rfl) (by kernel_rfl) (by kernel_rfl) (lowc_of (by kernel_rfl)) ?_
  show Awp prog 0 15 (cB f10) _ _
  refine awp_seq ?_
  refine awp_region ?_
  refine aR 1 ?_
  refine aE ?_
  refine awp_seq ?_
  refine awp_seq ?_
  refine awp_region ?_
  refine aR 1 ?_
  refine aL (encI .i64) ql ?_
  refine aR 1 ?_
  refine aE ?_
  refine awp_block ?_
  refine awp_to (st' := fleetlaw2_errs_x1_H ql 0) (oT [] []) ?_
  refine bE hF fun x h4 hF => ?_
  rcases x with _ | vx1_1
  · refine awp_sub (awp_loop' (fleetlaw2_errs_x1_H ql) fleetlaw2_errs_x1_k (fleetlaw2_errs_x1_S ql) (by intro x; rcases x with x | x <;> exact fun h => nomatch h) h4 (fleetlaw2_errs_x1_ok ql)) ?_
    refine awp_seq ?_
    refine awp_region ?_
    refine aR 1 ?_
    refine aE ?_
    refine awp_ret ?_
    exact oF hF [] []
  · refine awp_sub (awp_loop' (fleetlaw2_errs_x1_H ql) fleetlaw2_errs_x1_k (fleetlaw2_errs_x1_S ql) (by intro x; rcases x with x | x <;> exact fun h => nomatch h) h4 (fleetlaw2_errs_x1_ok ql)) ?_
    exact oF hF [] []

/-! ### beaconfleet/fleetref2.minus -/
def fleetref2_minus_R (qa : api_Spot) (qb : api_Spot) (r : Unit) : TV × Mem := (.v (.agg [.d (.int .i64 (IntKind.wrap .i64 (qa.X - qb.X))), .d (.int .i64 (IntKind.wrap .i64 (qa.Y - qb.Y)))]), ⟨[], []⟩)

theorem fleetref2_minus_ok {qa : api_Spot} {qb : api_Spot} {r} (hF : fleetref2_minus qa qb = some r) : Holds prog 53 [.v (.agg [.d (.int .i64 qa.X), .d (.int .i64 qa.Y)]), .v (.agg [.d (.int .i64 qb.X), .d (.int .i64 qb.Y)])] ⟨[], []⟩ (Is (fleetref2_minus_R qa qb r)) := by
  unfold fleetref2_minus at hF
  refine holds_of_awp hΓ (fn := f53) (c := cB f53) (A := 0) (nx := 0) (by kernel_rfl) (by kernel_rfl) (by kernel_rfl) (by kernel_rfl) (by kernel_rfl) (by kernel_rfl) (lowc_of (by kernel_rfl)) ?_
  show Awp prog 0 16 (cB f53) _ _
  refine awp_seq ?_
  refine awp_region ?_
  refine aR 3 ?_
  refine aE ?_
  refine awp_seq ?_
  refine awp_region ?_
  refine aR 12 ?_
  refine aE ?_
  refine awp_ret ?_
  exact oF hF [] []

/-! ### beaconfleet/fleetref2.dot -/
def fleetref2_dot_R (qa : api_Spot) (r : Unit) : TV × Mem := (.v (.one (.d (.int .i64 (IntKind.wrap .i64 ((IntKind.wrap .i64 (qa.X * qa.X)) + (IntKind.wrap .i64 (qa.Y * qa.Y))))))), ⟨[], []⟩)

theorem fleetref2_dot_ok {qa : api_Spot} {r} (hF : fleetref2_dot qa = some r) : Holds prog 54 [.v (.agg [.d (.int .i64 qa.X), .d (.int .i64 qa.Y)]), .v (.agg [.d (.int .i64 qa.X), .d (.int .i64 qa.Y)])] ⟨[], []⟩ (Is (fleetref2_dot_R qa r)) := by
  unfold fleetref2_dot at hF
  refine holds_of_awp hΓ (fn := f54) (c := cB f54) (A := 0) (nx := 0) (by kernel_rfl) (by kernel_rfl) (by kernel_rfl) (by kernel_rfl) (by kernel_rfl) (by kernel_rfl) (lowc_of (by kernel_rfl)) ?_
  show Awp prog 0 16 (cB f54) _ _
  refine awp_seq ?_
  refine awp_region ?_
  refine aR 3 ?_
  refine aE ?_
  refine awp_seq ?_
  refine awp_region ?_
  refine aR 12 ?_
  refine aE ?_
  refine awp_ret ?_
  exact oF hF [] []

/-! ### beaconfleet/fleetref2.square -/
def fleetref2_square_R (qa : api_Fix) (qb : api_Fix) (r : Unit) : TV × Mem := (.v (.one (.d (.int .i64 (IntKind.wrap .i64 ((IntKind.wrap .i64 ((IntKind.wrap .i64 (qa.X - qb.X)) * (IntKind.wrap .i64 (qa.X - qb.X)))) + (IntKind.wrap .i64 ((IntKind.wrap .i64 (qa.Y - qb.Y)) * (IntKind.wrap .i64 (qa.Y - qb.Y))))))))), ⟨[], []⟩)

theorem fleetref2_square_ok {qa : api_Fix} {qb : api_Fix} {r} (hF : fleetref2_square qa qb = some r) : Holds prog 32 [.v (.agg [.d (.str qa.Device), .d (.int .i64 qa.At), .d (.int .i64 qa.X), .d (.int .i64 qa.Y), .d (.int .i64 qa.Error)]), .v (.agg [.d (.str qb.Device), .d (.int .i64 qb.At), .d (.int .i64 qb.X), .d (.int .i64 qb.Y), .d (.int .i64 qb.Error)])] ⟨[], []⟩ (Is (fleetref2_square_R qa qb r)) := by
  unfold fleetref2_square at hF
  refine holds_of_awp hΓ (fn := f32) (c := cB f32) (A := 0) (nx := 0) (by kernel_rfl) (by kernel_rfl) (by kernel_rfl) (by kernel_rfl) (by kernel_rfl) (by kernel_rfl) (lowc_of (by kernel_rfl)) ?_
  show Awp prog 0 14 (cB f32) _ _
  refine awp_seq ?_
  refine awp_region ?_
  refine aR 3 ?_
  refine aE ?_
  refine awp_seq ?_
  refine bE hF fun _ h1 hF => ?_
  refine bE hF fun _ h2 hF => ?_
  refine bE hF fun _ h3 hF => ?_
  refine aD ?_
  refine dR 1 ?_
  refine dC (fleetref2_spotOf_ok h1) [] [] [] ?_
  refine dR 1 ?_
  refine dC (fleetref2_spotOf_ok h2) [] [] [] ?_
  refine dC (fleetref2_minus_ok h3) [] [] [] ?_
  refine dR 2 ?_
  refine dE ?_
  refine awp_seq ?_
  refine bE hF fun _ h4 hF => ?_
  refine awp_region ?_
  refine aR 2 ?_
  refine aC (fleetref2_dot_ok h4) [] [] [] ?_
  refine aR 1 ?_
  refine aE ?_
  refine awp_ret ?_
  exact oF hF [] []

/-! ### beaconfleet/fleetref2.JumpsOf -/
def fleetref2_JumpsOf_x3_k : Bool → AEx
  | _ => .normal

def fleetref2_JumpsOf_x3_S (ql : List api_Fix) (qspeed : Int) (vout : List Int) (vlast : Int) (vrow : Int) (vi : Int) (vy4 : api_Fix) (vy5 : api_Fix) : Bool → St
  | vx2 => Mem.st ⟨[(0, ⟨3, 1, List.map (encI .i64) vout⟩)], []⟩ (tl [(0, .v (.one (.d (.lst (List.map api_Fix.enc ql))))), (1, .v (.one (.d (.int .i64 qspeed)))), (5, .v (.one (.own 0 none))), (6, .v (.one (.d (.int .i64 vlast)))), (7, .v (.one (.d (.int .i64 vrow)))), (8, .v (.one (.d (.int .i64 vi)))), (51, .v (.one (.d (.bool vx2))))]) 1

def fleetref2_JumpsOf_x3_I (ql : List api_Fix) (qspeed : Int) (vout : List Int) (vlast : Int) (vrow : Int) (vi : Int) (vy4 : api_Fix) (vy5 : api_Fix) : St := Mem.st ⟨[(0, ⟨3, 1, List.map (encI .i64) vout⟩)], []⟩ (tl [(0, .v (.one (.d (.lst (List.map api_Fix.enc ql))))), (1, .v (.one (.d (.int .i64 qspeed)))), (5, .v (.one (.own 0 none))), (6, .v (.one (.d (.int .i64 vlast)))), (7, .v (.one (.d (.int .i64 vrow)))), (8, .v (.one (.d (.int .i64 vi)))), (9, .v (.one (.d (.int .i64 (IntKind.wrap .i64 (qspeed * (imin (IntKind.wrap .i64 (vy4.At - vy5.At)) 100000000)))))))]) 1

theorem fleetref2_JumpsOf_x3_ok (ql : List api_Fix) (qspeed : Int) (vout : List Int) (vlast : Int) (vrow : Int) (vi : Int) (vy4 : api_Fix) (vy5 : api_Fix) {r} (hF : fleetref2_JumpsOf_x3 ql qspeed vlast vrow vi vy4 vy5 = some r) : Awp prog 0 60 (cL (cL (cR (cL (cL (cR (cL (cL (cR (cL (cR (cR (cR (cB f12)))))))))))))) (Out 0 fleetref2_JumpsOf_x3_k (fleetref2_JumpsOf_x3_S ql qspeed vout vlast vrow vi vy4 vy5) r) (fleetref2_JumpsOf_x3_I ql qspeed vout vlast vrow vi vy4 vy5) := by
  unfold fleetref2_JumpsOf_x3 at hF
  refine cE hF (fun h4 hF => ?_) fun h4 hF => ?_
  · refine aD ?_
    refine dR 1 ?_
    refine dB h4 ?_
    refine dR 20 ?_
    refine dE ?_
    exact oO hF [] [] rfl
  · refine bE hF fun vy6 h5 hF => ?_
    refine bE hF fun vy7 h6 hF => ?_
    refine bE hF fun _ h7 hF => ?_
    refine cE hF (fun h8 hF => ?_) fun h8 hF => ?_
    · refine aD ?_
      refine dR 1 ?_
      refine dB h4 ?_
      refine dR 3 ?_
      refine dX (x_idx api_Fix.enc h5) ?_
      refine dR 3 ?_
      refine dX (x_idx api_Fix.enc h6) ?_
      refine dR 1 ?_
      refine dC (fleetref2_square_ok h7) [] [] [] ?_
      refine dR 4 ?_
      refine dB h8 ?_
      refine dR 5 ?_
      refine dE ?_
      exact oO hF [] [] rfl
    · refine aD ?_
      refine dR 1 ?_
      refine dB h4 ?_
      refine dR 3 ?_
      refine dX (x_idx api_Fix.enc h5) ?_
      refine dR 3 ?_
      refine dX (x_idx api_Fix.enc h6) ?_
      refine dR 1 ?_
      refine dC (fleetref2_square_ok h7) [] [] [] ?_
      refine dR 4 ?_
      refine dB h8 ?_
      refine dR 5 ?_
      refine dE ?_
      exact oO hF [] [] rfl

def fleetref2_JumpsOf_x2_k : ((List Int) × Int × Int) → AEx
  | _ => .normal

def fleetref2_JumpsOf_x2_S (ql : List api_Fix) (qspeed : Int) (vout : List Int) (vlast : Int) (vrow : Int) (vi : Int) : ((List Int) × Int × Int) → St
  | (vout2, vlast2, vrow2) => Mem.st ⟨[(0, ⟨3, 1, List.map (encI .i64) vout2⟩)], []⟩ (tl [(0, .v (.one (.d (.lst (List.map api_Fix.enc ql))))), (1, .v (.one (.d (.int .i64 qspeed)))), (5, .v (.one (.own 0 none))), (6, .v (.one (.d (.int .i64 vlast2)))), (7, .v (.one (.d (.int .i64 vrow2)))), (8, .v (.one (.d (.int .i64 vi))))]) 1

def fleetref2_JumpsOf_x2_I (ql : List api_Fix) (qspeed : Int) (vout : List Int) (vlast : Int) (vrow : Int) (vi : Int) : St := Mem.st ⟨[(0, ⟨3, 1, List.map (encI .i64) vout⟩)], []⟩ (tl [(0, .v (.one (.d (.lst (List.map api_Fix.enc ql))))), (1, .v (.one (.d (.int .i64 qspeed)))), (5, .v (.one (.own 0 none))), (6, .v (.one (.d (.int .i64 vlast)))), (7, .v (.one (.d (.int .i64 vrow)))), (8, .v (.one (.d (.int .i64 vi))))]) 1

theorem fleetref2_JumpsOf_x2_ok (ql : List api_Fix) (qspeed : Int) (vout : List Int) (vlast : Int) (vrow : Int) (vi : Int) {r} (hF : fleetref2_JumpsOf_x2 ql qspeed vout vlast vrow vi = some r) : Awp prog 0 60 (cL (cR (cL (cL (cR (cL (cR (cR (cR (cB f12)))))))))) (Out 0 fleetref2_JumpsOf_x2_k (fleetref2_JumpsOf_x2_S ql qspeed vout vlast vrow vi) r) (fleetref2_JumpsOf_x2_I ql qspeed vout vlast vrow vi) := by
  unfold fleetref2_JumpsOf_x2 at hF
  refine awp_block ?_
  refine awp_seq ?_
  refine bE hF fun vy4 h2 hF => ?_
  refine bE hF fun vy5 h3 hF => ?_
  refine aD ?_
  refine dR 3 ?_
  refine dX (x_idx api_Fix.enc h2) ?_
  refine dR 4 ?_
  refine dX (x_idx api_Fix.enc h3) ?_
  refine dR 6 ?_
  refine dE ?_
  refine awp_seq ?_
  refine awp_seq ?_
  refine awp_to (st' := fleetref2_JumpsOf_x3_I ql qspeed vout vlast vrow vi vy4 vy5) (oT [] []) ?_
  refine bE hF fun vx2_1 h9 hF => ?_
  refine awp_sub (fleetref2_JumpsOf_x3_ok ql qspeed vout vlast vrow vi vy4 vy5 h9) ?_
  refine cE hF (fun h10 hF => ?_) fun h10 hF => ?_
  · refine awp_true (by kernel_rfl) h10 ?_
    refine awp_seq ?_
    refine awp_region ?_
    refine aR 3 ?_
    refine aE ?_
    refine awp_exit ?_
    exact oO hF [] [] rfl
  · refine awp_false (by kernel_rfl) h10 ?_
    refine awp_skip ?_
    refine awp_seq ?_
    refine gE hF fun h11 hF => ?_
    refine awp_region ?_
    refine aR 3 ?_
    refine aX (x_app (encI .i64) 0 h11) ?_
    refine aR 1 ?_
    refine aE ?_
    refine awp_region ?_
    refine aR 3 ?_
    refine aE ?_
    exact oO hF [(0, 3001)] [] rfl

def fleetref2_JumpsOf_x1_k : (List Int) → AEx
  | _ => .exit 0

def fleetref2_JumpsOf_x1_S (ql : List api_Fix) (qspeed : Int) : (List Int) → St
  | vout3 => Mem.st ⟨[(0, ⟨3, 1, List.map (encI .i64) vout3⟩)], []⟩ (tl [(5, .v (.one (.own 0 none)))]) 1

def fleetref2_JumpsOf_x1_H (ql : List api_Fix) (qspeed : Int) : (List Int) × Int × Int × Int → St
  | (vout, vlast, vrow, vi) => Mem.st ⟨[(0, ⟨3, 1, List.map (encI .i64) vout⟩)], []⟩ (tl [(0, .v (.one (.d (.lst (List.map api_Fix.enc ql))))), (1, .v (.one (.d (.int .i64 qspeed)))), (5, .v (.one (.own 0 none))), (6, .v (.one (.d (.int .i64 vlast)))), (7, .v (.one (.d (.int .i64 vrow)))), (8, .v (.one (.d (.int .i64 vi))))]) 1

theorem fleetref2_JumpsOf_x1_ok (ql : List api_Fix) (qspeed : Int) (s : (List Int) × Int × Int × Int) (r : ((List Int) × Int × Int × Int) ⊕ ((List Int))) (hF : fleetref2_JumpsOf_x1 ql qspeed s = some r) : Awp prog 0 60 (cL (cL (cR (cL (cR (cR (cR (cB f12)))))))) (Out 0 (kk fleetref2_JumpsOf_x1_k) (SS (fleetref2_JumpsOf_x1_H ql qspeed) (fleetref2_JumpsOf_x1_S ql qspeed)) r) (fleetref2_JumpsOf_x1_H ql qspeed s) := by
  obtain ⟨vout, vlast, vrow, vi⟩ := s
  unfold fleetref2_JumpsOf_x1 at hF
  refine awp_seq ?_
  refine awp_seq ?_
  refine awp_region ?_
  refine aR 2 ?_
  refine aL api_Fix.enc ql ?_
  refine aR 1 ?_
  refine aE ?_
  refine cE hF (fun h1 hF => ?_) fun h1 hF => ?_
  · refine awp_true (by kernel_rfl) h1 ?_
    refine awp_skip ?_
    refine awp_seq ?_
    refine awp_to (st' := fleetref2_JumpsOf_x2_I ql qspeed vout vlast vrow vi) (oT [] []) ?_
    refine bE hF fun x h12 hF => ?_
    obtain ⟨vout2_1, vlast2_1, vrow2_1⟩ := x
    refine awp_sub (fleetref2_JumpsOf_x2_ok ql qspeed vout vlast vrow vi h12) ?_
    refine awp_region ?_
    refine aR 3 ?_
    refine aE ?_
    exact oO hF [] [] rfl
  · refine awp_false (by kernel_rfl) h1 ?_
    refine awp_exit ?_
    exact oO hF [] [] rfl

def fleetref2_JumpsOf_R (ql : List api_Fix) (qspeed : Int) (r : (List Int)) : TV × Mem := (.v (.one (.own 0 none)), ⟨[(0, ⟨3, 1, List.map (encI .i64) r⟩)], []⟩)

theorem fleetref2_JumpsOf_ok {ql : List api_Fix} {qspeed : Int} {r} (hF : fleetref2_JumpsOf ql qspeed = some r) : Holds prog 12 [.v (.one (.d (.lst (List.map api_Fix.enc ql)))), .v (.one (.d (.int .i64 qspeed)))] ⟨[], []⟩ (Is (fleetref2_JumpsOf_R ql qspeed r)) := by
  unfold fleetref2_JumpsOf at hF
  refine holds_of_awp hΓ (fn := f12) (c := cB f12) (A := 0) (nx := 0) (by kernel_rfl) (by kernel_rfl) (by kernel_rfl) (by kernel_rfl) (by kernel_rfl) (by kernel_rfl) (lowc_of (by kernel_rfl)) ?_
  show Awp prog 0 60 (cB f12) _ _
  refine awp_seq ?_
  refine awp_region ?_
  refine aR 1 ?_
  refine aE ?_
  refine awp_seq ?_
  refine awp_region ?_
  refine aR 1 ?_
  refine aE ?_
  refine awp_seq ?_
  refine awp_region ?_
  refine aR 2 ?_
  refine aE ?_
  refine awp_seq ?_
  refine awp_seq ?_
  refine awp_region ?_
  refine aR 1 ?_
  refine aE ?_
  refine awp_block ?_
  refine awp_to (st' := fleetref2_JumpsOf_x1_H ql qspeed ([], 0, 0, 1)) (oT [] [0]) ?_
  refine bE hF fun vout3_1 h13 hF => ?_
  refine awp_sub (awp_loop' (fleetref2_JumpsOf_x1_H ql qspeed) fleetref2_JumpsOf_x1_k (fleetref2_JumpsOf_x1_S ql qspeed) (by intro x; exact fun h => nomatch h) h13 (fleetref2_JumpsOf_x1_ok ql qspeed)) ?_
  refine awp_seq ?_
  refine awp_region ?_
  refine aR 2 ?_
  refine aE ?_
  refine awp_ret ?_
  exact oF hF [] []

/-! ### beaconfleet/fleetref2.dot -/
def fleetref2_dot_2_R (qa : api_Spot) (qb : api_Spot) (r : Unit) : TV × Mem := (.v (.one (.d (.int .i64 (IntKind.wrap .i64 ((IntKind.wrap .i64 (qa.X * qb.X)) + (IntKind.wrap .i64 (qa.Y * qb.Y))))))), ⟨[], []⟩)

theorem fleetref2_dot_2_ok {qa : api_Spot} {qb : api_Spot} {r} (hF : fleetref2_dot_2 qa qb = some r) : Holds prog 54 [.v (.agg [.d (.int .i64 qa.X), .d (.int .i64 qa.Y)]), .v (.agg [.d (.int .i64 qb.X), .d (.int .i64 qb.Y)])] ⟨[], []⟩ (Is (fleetref2_dot_2_R qa qb r)) := by
  unfold fleetref2_dot_2 at hF
  refine holds_of_awp hΓ (fn := f54) (c := cB f54) (A := 0) (nx := 0) (by kernel_rfl) (by kernel_rfl) (by kernel_rfl) (by kernel_rfl) (by kernel_rfl) (by kernel_rfl) (lowc_of (by kernel_rfl)) ?_
  show Awp prog 0 16 (cB f54) _ _
  refine awp_seq ?_
  refine awp_region ?_
  refine aR 3 ?_
  refine aE ?_
  refine awp_seq ?_
  refine awp_region ?_
  refine aR 12 ?_
  refine aE ?_
  refine awp_ret ?_
  exact oF hF [] []

/-! ### beaconfleet/fleetref2.cross -/
def fleetref2_cross_R (qa : api_Spot) (qb : api_Spot) (r : Unit) : TV × Mem := (.v (.one (.d (.int .i64 (IntKind.wrap .i64 ((IntKind.wrap .i64 (qa.X * qb.Y)) - (IntKind.wrap .i64 (qa.Y * qb.X))))))), ⟨[], []⟩)

theorem fleetref2_cross_ok {qa : api_Spot} {qb : api_Spot} {r} (hF : fleetref2_cross qa qb = some r) : Holds prog 55 [.v (.agg [.d (.int .i64 qa.X), .d (.int .i64 qa.Y)]), .v (.agg [.d (.int .i64 qb.X), .d (.int .i64 qb.Y)])] ⟨[], []⟩ (Is (fleetref2_cross_R qa qb r)) := by
  unfold fleetref2_cross at hF
  refine holds_of_awp hΓ (fn := f55) (c := cB f55) (A := 0) (nx := 0) (by kernel_rfl) (by kernel_rfl) (by kernel_rfl) (by kernel_rfl) (by kernel_rfl) (by kernel_rfl) (lowc_of (by kernel_rfl)) ?_
  show Awp prog 0 16 (cB f55) _ _
  refine awp_seq ?_
  refine awp_region ?_
  refine aR 3 ?_
  refine aE ?_
  refine awp_seq ?_
  refine awp_region ?_
  refine aR 12 ?_
  refine aE ?_
  refine awp_ret ?_
  exact oF hF [] []

/-! ### beaconfleet/fleetref2.Lowest -/
def fleetref2_Lowest_x1_k : Int → AEx
  | _ => .exit 0

def fleetref2_Lowest_x1_S (qnum : Int) (qden : Int) : Int → St
  | va1 => Mem.st ⟨[], [(0, [.d (.int .i64 0), .d (.int .i64 0)])]⟩ (tl [(0, .v (.one (.d (.int .i64 qnum)))), (1, .v (.one (.d (.int .i64 qden)))), (4, .v (.one (.box 0 0))), (5, .v (.one (.d (.int .i64 va1))))]) 1

def fleetref2_Lowest_x1_H (qnum : Int) (qden : Int) : Int × Int → St
  | (va, vb) => Mem.st ⟨[], [(0, [.d (.int .i64 0), .d (.int .i64 0)])]⟩ (tl [(0, .v (.one (.d (.int .i64 qnum)))), (1, .v (.one (.d (.int .i64 qden)))), (4, .v (.one (.box 0 0))), (5, .v (.one (.d (.int .i64 va)))), (6, .v (.one (.d (.int .i64 vb))))]) 1

theorem fleetref2_Lowest_x1_ok (qnum : Int) (qden : Int) (s : Int × Int) (r : (Int × Int) ⊕ (Int)) (hF : fleetref2_Lowest_x1  s = some r) : Awp prog 0 26 (cL (cL (cL (cR (cR (cB f56)))))) (Out 0 (kk fleetref2_Lowest_x1_k) (SS (fleetref2_Lowest_x1_H qnum qden) (fleetref2_Lowest_x1_S qnum qden)) r) (fleetref2_Lowest_x1_H qnum qden s) := by
  obtain ⟨va, vb⟩ := s
  unfold fleetref2_Lowest_x1 at hF
  refine awp_seq ?_
  refine awp_seq ?_
  refine awp_region ?_
  refine aR 2 ?_
  refine aE ?_
  refine cE hF (fun h1 hF => ?_) fun h1 hF => ?_
  · refine awp_true (by kernel_rfl) h1 ?_
    refine awp_skip ?_
    refine awp_block ?_
    refine gE hF fun h2 hF => ?_
    refine aD ?_
    refine dR 3 ?_
    refine dX (x_rem h2) ?_
    refine dR 2 ?_
    refine dE ?_
    exact oO hF [] [] rfl
  · refine awp_false (by kernel_rfl) h1 ?_
    refine awp_exit ?_
    exact oO hF [] [] rfl

def fleetref2_Lowest_x2_k : Int → AEx
  | _ => .normal

def fleetref2_Lowest_x2_S (qnum : Int) (qden : Int) (va1_1 : Int) : Int → St
  | va2 => Mem.st ⟨[], [(0, [.d (.int .i64 0), .d (.int .i64 0)])]⟩ (tl [(0, .v (.one (.d (.int .i64 qnum)))), (1, .v (.one (.d (.int .i64 qden)))), (4, .v (.one (.box 0 0))), (5, .v (.one (.d (.int .i64 va2))))]) 1

def fleetref2_Lowest_x2_I (qnum : Int) (qden : Int) (va1_1 : Int) : St := Mem.st ⟨[], [(0, [.d (.int .i64 0), .d (.int .i64 0)])]⟩ (tl [(0, .v (.one (.d (.int .i64 qnum)))), (1, .v (.one (.d (.int .i64 qden)))), (4, .v (.one (.box 0 0))), (5, .v (.one (.d (.int .i64 va1_1))))]) 1

theorem fleetref2_Lowest_x2_ok (qnum : Int) (qden : Int) (va1_1 : Int) {r} (hF : fleetref2_Lowest_x2 va1_1 = some r) : Awp prog 0 26 (cL (cR (cR (cR (cB f56))))) (Out 0 fleetref2_Lowest_x2_k (fleetref2_Lowest_x2_S qnum qden va1_1) r) (fleetref2_Lowest_x2_I qnum qden va1_1) := by
  unfold fleetref2_Lowest_x2 at hF
  refine awp_seq ?_
  refine awp_region ?_
  refine aR 2 ?_
  refine aE ?_
  refine cE hF (fun h4 hF => ?_) fun h4 hF => ?_
  · refine awp_true (by kernel_rfl) h4 ?_
    refine awp_region ?_
    refine aR 3 ?_
    refine aE ?_
    exact oO hF [] [] rfl
  · refine awp_false (by kernel_rfl) h4 ?_
    refine awp_skip ?_
    exact oO hF [] [] rfl

def fleetref2_Lowest_R (qnum : Int) (qden : Int) (r : api_Fraction) : TV × Mem := (.v (.agg [.d (.int .i64 r.Num), .d (.int .i64 r.Den)]), ⟨[], []⟩)

theorem fleetref2_Lowest_ok {qnum : Int} {qden : Int} {r} (hF : fleetref2_Lowest qnum qden = some r) : Holds prog 56 [.v (.one (.d (.int .i64 qnum))), .v (.one (.d (.int .i64 qden)))] ⟨[], []⟩ (Is (fleetref2_Lowest_R qnum qden r)) := by
  unfold fleetref2_Lowest at hF
  refine holds_of_awp hΓ (fn := f56) (c := cB f56) (A := 0) (nx := 0) (by kernel_rfl) (by kernel_rfl) (by kernel_rfl) (by kernel_rfl) (by kernel_rfl) (by kernel_rfl) (lowc_of (by kernel_rfl)) ?_
  show Awp prog 0 26 (cB f56) _ _
  refine awp_seq ?_
  refine awp_region ?_
  refine aR 1 ?_
  refine aE ?_
  refine awp_seq ?_
  refine awp_region ?_
  refine aR 4 ?_
  refine aE ?_
  refine awp_seq ?_
  refine awp_block ?_
  refine awp_to (st' := fleetref2_Lowest_x1_H qnum qden (qnum, qden)) (oT [] []) ?_
  refine bE hF fun va1_1 h3 hF => ?_
  refine awp_sub (awp_loop' (fleetref2_Lowest_x1_H qnum qden) fleetref2_Lowest_x1_k (fleetref2_Lowest_x1_S qnum qden) (by intro x; exact fun h => nomatch h) h3 (fleetref2_Lowest_x1_ok qnum qden)) ?_
  refine awp_seq ?_
  refine awp_to (st' := fleetref2_Lowest_x2_I qnum qden va1_1) (oT [] []) ?_
  refine bE hF fun va2_1 h5 hF => ?_
  refine awp_sub (fleetref2_Lowest_x2_ok qnum qden va1_1 h5) ?_
  refine awp_seq ?_
  refine gE hF fun h6 hF => ?_
  refine aD ?_
  refine dR 2 ?_
  refine dX (x_quo h6) ?_
  refine dR 2 ?_
  refine dX (x_quo h6) ?_
  refine dR 2 ?_
  refine dE ?_
  refine awp_ret ?_
  exact oF hF [] []

/-! ### beaconfleet/fleetref2.farWay -/
def fleetref2_farWay_R (qa : api_Spot) (qb : api_Spot) (qs : api_Spot) (r : api_Fraction) : TV × Mem := (.v (.agg [.d (.int .i64 r.Num), .d (.int .i64 r.Den)]), ⟨[], []⟩)

theorem fleetref2_farWay_ok {qa : api_Spot} {qb : api_Spot} {qs : api_Spot} {r} (hF : fleetref2_farWay qa qb qs = some r) : Holds prog 33 [.v (.agg [.d (.int .i64 qa.X), .d (.int .i64 qa.Y)]), .v (.agg [.d (.int .i64 qb.X), .d (.int .i64 qb.Y)]), .v (.agg [.d (.int .i64 qs.X), .d (.int .i64 qs.Y)])] ⟨[], []⟩ (Is (fleetref2_farWay_R qa qb qs r)) := by
  unfold fleetref2_farWay at hF
  refine holds_of_awp hΓ (fn := f33) (c := cB f33) (A := 0) (nx := 0) (by kernel_rfl) (by kernel_rfl) (by kernel_rfl) (by kernel_rfl) (by kernel_rfl) (by kernel_rfl) (lowc_of (by kernel_rfl)) ?_
  show Awp prog 0 54 (cB f33) _ _
  refine awp_seq ?_
  refine awp_region ?_
  refine aR 4 ?_
  refine aE ?_
  refine awp_seq ?_
  refine bE hF fun _ h1 hF => ?_
  refine awp_region ?_
  refine aR 2 ?_
  refine aC (fleetref2_minus_ok h1) [] [] [] ?_
  refine aR 2 ?_
  refine aE ?_
  refine awp_seq ?_
  refine awp_block ?_
  refine awp_seq ?_
  refine bE hF fun _ h2 hF => ?_
  refine bE hF fun _ h3 hF => ?_
  refine aD ?_
  refine dR 2 ?_
  refine dC (fleetref2_minus_ok h2) [] [] [] ?_
  refine dR 1 ?_
  refine dC (fleetref2_dot_2_ok h3) [] [] [] ?_
  refine dR 2 ?_
  refine dE ?_
  refine cE hF (fun h4 hF => ?_) fun h4 hF => ?_
  · refine awp_true (by kernel_rfl) h4 ?_
    refine awp_seq ?_
    refine bE hF fun _ h5 hF => ?_
    refine aD ?_
    refine dR 2 ?_
    refine dC (fleetref2_minus_ok h2) [] [] [] ?_
    refine dR 2 ?_
    refine dC (fleetref2_minus_ok h2) [] [] [] ?_
    refine dC (fleetref2_dot_ok h5) [] [] [] ?_
    refine dR 2 ?_
    refine dE ?_
    refine awp_ret ?_
    exact oF hF [] []
  · refine awp_false (by kernel_rfl) h4 ?_
    refine awp_seq ?_
    refine bE hF fun _ h6 hF => ?_
    refine bE hF fun _ h7 hF => ?_
    refine aD ?_
    refine dR 2 ?_
    refine dC (fleetref2_minus_ok h6) [] [] [] ?_
    refine dR 1 ?_
    refine dC (fleetref2_dot_2_ok h7) [] [] [] ?_
    refine dR 2 ?_
    refine dE ?_
    refine cE hF (fun h8 hF => ?_) fun h8 hF => ?_
    · refine awp_true (by kernel_rfl) h8 ?_
      refine awp_seq ?_
      refine bE hF fun _ h9 hF => ?_
      refine aD ?_
      refine dR 2 ?_
      refine dC (fleetref2_minus_ok h6) [] [] [] ?_
      refine dR 2 ?_
      refine dC (fleetref2_minus_ok h6) [] [] [] ?_
      refine dC (fleetref2_dot_ok h9) [] [] [] ?_
      refine dR 2 ?_
      refine dE ?_
      refine awp_ret ?_
      exact oF hF [] []
    · refine awp_false (by kernel_rfl) h8 ?_
      refine awp_skip ?_
      refine awp_seq ?_
      refine bE hF fun _ h10 hF => ?_
      refine aD ?_
      refine dR 3 ?_
      refine dC (fleetref2_minus_ok h2) [] [] [] ?_
      refine dC (fleetref2_cross_ok h10) [] [] [] ?_
      refine dR 1 ?_
      refine dE ?_
      refine awp_seq ?_
      refine bE hF fun _ h11 hF => ?_
      refine bE hF fun vr h12 hF => ?_
      refine awp_region ?_
      refine aR 5 ?_
      refine aC (fleetref2_dot_ok h11) [] [] [] ?_
      refine aC (fleetref2_Lowest_ok h12) [] [] [] ?_
      refine aR 1 ?_
      refine aE ?_
      refine awp_ret ?_
      exact oF hF [] []

/-! ### beaconfleet/fleetref2.floor -/
def fleetref2_floor_R (qa : Int) (qb : Int) (r : Int) : TV × Mem := (.v (.one (.d (.int .i64 r))), ⟨[], []⟩)

theorem fleetref2_floor_ok {qa : Int} {qb : Int} {r} (hF : fleetref2_floor qa qb = some r) : Holds prog 57 [.v (.one (.d (.int .i64 qa))), .v (.one (.d (.int .i64 qb)))] ⟨[], []⟩ (Is (fleetref2_floor_R qa qb r)) := by
  unfold fleetref2_floor at hF
  refine holds_of_awp hΓ (fn := f57) (c := cB f57) (A := 0) (nx := 0) (by kernel_rfl) (by kernel_rfl) (by kernel_rfl) (by kernel_rfl) (by kernel_rfl) (by kernel_rfl) (lowc_of (by kernel_rfl)) ?_
  show Awp prog 0 16 (cB f57) _ _
  refine awp_seq ?_
  refine awp_region ?_
  refine aR 1 ?_
  refine aE ?_
  refine awp_seq ?_
  refine awp_seq ?_
  refine gE hF fun h1 hF => ?_
  refine awp_region ?_
  refine aR 2 ?_
  refine aX (x_rem h1) ?_
  refine aR 1 ?_
  refine aE ?_
  refine cE hF (fun h2 hF => ?_) fun h2 hF => ?_
  · refine awp_true (by kernel_rfl) h2 ?_
    refine awp_seq ?_
    refine awp_region ?_
    refine aR 2 ?_
    refine aX (x_quo h1) ?_
    refine aR 2 ?_
    refine aE ?_
    refine awp_ret ?_
    exact oF hF [] []
  · refine awp_false (by kernel_rfl) h2 ?_
    refine awp_skip ?_
    refine awp_seq ?_
    refine awp_region ?_
    refine aR 2 ?_
    refine aX (x_quo h1) ?_
    refine aR 1 ?_
    refine aE ?_
    refine awp_ret ?_
    exact oF hF [] []

/-! ### beaconfleet/fleetref2.less -/
def fleetref2_less_x2_k : Bool → AEx
  | _ => .normal

def fleetref2_less_x2_S (va : api_Fraction) (vb : api_Fraction) (vr2 : Int) (vr3 : Int) : Bool → St
  | vx3 => Mem.st ⟨[], [(0, [.d (.int .i64 va.Num), .d (.int .i64 va.Den)]), (1, [.d (.int .i64 vb.Num), .d (.int .i64 vb.Den)])]⟩ (tl [(2, .v (.one (.box 0 0))), (3, .v (.one (.box 1 0))), (7, .v (.one (.d (.int .i64 (IntKind.wrap .i64 (va.Num - (IntKind.wrap .i64 (vr2 * va.Den)))))))), (8, .v (.one (.d (.int .i64 (IntKind.wrap .i64 (vb.Num - (IntKind.wrap .i64 (vr3 * vb.Den)))))))), (44, .v (.one (.d (.bool vx3))))]) 2

def fleetref2_less_x2_I (va : api_Fraction) (vb : api_Fraction) (vr2 : Int) (vr3 : Int) : St := Mem.st ⟨[], [(0, [.d (.int .i64 va.Num), .d (.int .i64 va.Den)]), (1, [.d (.int .i64 vb.Num), .d (.int .i64 vb.Den)])]⟩ (tl [(2, .v (.one (.box 0 0))), (3, .v (.one (.box 1 0))), (7, .v (.one (.d (.int .i64 (IntKind.wrap .i64 (va.Num - (IntKind.wrap .i64 (vr2 * va.Den)))))))), (8, .v (.one (.d (.int .i64 (IntKind.wrap .i64 (vb.Num - (IntKind.wrap .i64 (vr3 * vb.Den))))))))]) 2

theorem fleetref2_less_x2_ok (va : api_Fraction) (vb : api_Fraction) (vr2 : Int) (vr3 : Int) {r} (hF : fleetref2_less_x2 va vb vr2 vr3 = some r) : Awp prog 0 59 (cL (cL (cR (cR (cR (cL (cL (cL (cR (cB f35)))))))))) (Out 0 fleetref2_less_x2_k (fleetref2_less_x2_S va vb vr2 vr3) r) (fleetref2_less_x2_I va vb vr2 vr3) := by
  unfold fleetref2_less_x2 at hF
  refine cE hF (fun h4 hF => ?_) fun h4 hF => ?_
  · refine awp_region ?_
    refine aR 1 ?_
    refine aB h4 ?_
    refine aR 4 ?_
    refine aE ?_
    exact oO hF [] [] rfl
  · refine awp_region ?_
    refine aR 1 ?_
    refine aB h4 ?_
    refine aR 4 ?_
    refine aE ?_
    exact oO hF [] [] rfl

def fleetref2_less_x3_k : Bool → AEx
  | _ => .normal

def fleetref2_less_x3_S (va : api_Fraction) (vb : api_Fraction) (vr2 : Int) (vr3 : Int) : Bool → St
  | vx4 => Mem.st ⟨[], []⟩ (tl [(4, .v (.one (.d (.bool vx4))))]) 0

def fleetref2_less_x3_I (va : api_Fraction) (vb : api_Fraction) (vr2 : Int) (vr3 : Int) : St := Mem.st ⟨[], []⟩ (tl [(7, .v (.one (.d (.int .i64 (IntKind.wrap .i64 (va.Num - (IntKind.wrap .i64 (vr2 * va.Den)))))))), (8, .v (.one (.d (.int .i64 (IntKind.wrap .i64 (vb.Num - (IntKind.wrap .i64 (vr3 * vb.Den))))))))]) 0

theorem fleetref2_less_x3_ok (va : api_Fraction) (vb : api_Fraction) (vr2 : Int) (vr3 : Int) {r} (hF : fleetref2_less_x3 va vb vr2 vr3 = some r) : Awp prog 0 59 (cL (cL (cR (cL (cR (cR (cR (cL (cL (cL (cR (cB f35)))))))))))) (Out 0 fleetref2_less_x3_k (fleetref2_less_x3_S va vb vr2 vr3) r) (fleetref2_less_x3_I va vb vr2 vr3) := by
  unfold fleetref2_less_x3 at hF
  refine cE hF (fun h7 hF => ?_) fun h7 hF => ?_
  · refine awp_region ?_
    refine aR 1 ?_
    refine aB h7 ?_
    refine aR 5 ?_
    refine aE ?_
    exact oO hF [] [] rfl
  · refine awp_region ?_
    refine aR 1 ?_
    refine aB h7 ?_
    refine aR 5 ?_
    refine aE ?_
    exact oO hF [] [] rfl

def fleetref2_less_x1_k : Bool → AEx
  | _ => .ret

def fleetref2_less_x1_S : Bool → St
  | vx5 => Mem.st ⟨[], []⟩ (tl [(4, .v (.one (.d (.bool vx5))))]) 0

def fleetref2_less_x1_H : api_Fraction × api_Fraction → St
  | (va, vb) => Mem.st ⟨[], [(0, [.d (.int .i64 va.Num), .d (.int .i64 va.Den)]), (1, [.d (.int .i64 vb.Num), .d (.int .i64 vb.Den)])]⟩ (tl [(2, .v (.one (.box 0 0))), (3, .v (.one (.box 1 0)))]) 2

theorem fleetref2_less_x1_ok (s : api_Fraction × api_Fraction) (r : (api_Fraction × api_Fraction) ⊕ (Bool)) (hF : fleetref2_less_x1  s = some r) : Awp prog 0 59 (cL (cL (cR (cB f35)))) (Out 0 (kk fleetref2_less_x1_k) (SS (fleetref2_less_x1_H ) (fleetref2_less_x1_S )) r) (fleetref2_less_x1_H  s) := by
  obtain ⟨va, vb⟩ := s
  unfold fleetref2_less_x1 at hF
  refine awp_block ?_
  refine awp_seq ?_
  refine bE hF fun vr2 h1 hF => ?_
  refine bE hF fun vr3 h2 hF => ?_
  refine aD ?_
  refine dR 4 ?_
  refine dC (fleetref2_floor_ok h1) [] [] [] ?_
  refine dR 4 ?_
  refine dC (fleetref2_floor_ok h2) [] [] [] ?_
  refine dR 2 ?_
  refine dE ?_
  refine awp_seq ?_
  refine awp_seq ?_
  refine awp_region ?_
  refine aR 3 ?_
  refine aE ?_
  refine cE hF (fun h3 hF => ?_) fun h3 hF => ?_
  · refine awp_true (by kernel_rfl) h3 ?_
    refine awp_seq ?_
    refine awp_region ?_
    refine aR 4 ?_
    refine aE ?_
    refine awp_ret ?_
    exact oO hF [] [] rfl
  · refine awp_false (by kernel_rfl) h3 ?_
    refine awp_skip ?_
    refine awp_seq ?_
    refine aD ?_
    refine dR 16 ?_
    refine dE ?_
    refine awp_seq ?_
    refine awp_seq ?_
    refine awp_to (st' := fleetref2_less_x2_I va vb vr2 vr3) (oT [] []) ?_
    refine bE hF fun vx3_1 h5 hF => ?_
    refine awp_sub (fleetref2_less_x2_ok va vb vr2 vr3 h5) ?_
    refine cE hF (fun h6 hF => ?_) fun h6 hF => ?_
    · refine awp_true (by kernel_rfl) h6 ?_
      refine awp_seq ?_
      refine awp_to (st' := fleetref2_less_x3_I va vb vr2 vr3) (oT [] []) ?_
      refine bE hF fun vx4_1 h8 hF => ?_
      refine awp_sub (fleetref2_less_x3_ok va vb vr2 vr3 h8) ?_
      refine awp_ret ?_
      exact oO hF [] [] rfl
    · refine awp_false (by kernel_rfl) h6 ?_
      refine awp_skip ?_
      refine awp_region ?_
      refine aR 10 ?_
      refine aE ?_
      exact oO hF [] [] rfl

def fleetref2_less_R (qa : api_Fraction) (qb : api_Fraction) (r : Bool) : TV × Mem := (.v (.one (.d (.bool r))), ⟨[], []⟩)

theorem fleetref2_less_ok {qa : api_Fraction} {qb : api_Fraction} {r} (hF : fleetref2_less qa qb = some r) : Holds prog 35 [.v (.agg [.d (.int .i64 qa.Num), .d (.int .i64 qa.Den)]), .v (.agg [.d (.int .i64 qb.Num), .d (.int .i64 qb.Den)])] ⟨[], []⟩ (Is (fleetref2_less_R qa qb r)) := by
  unfold fleetref2_less at hF
  refine holds_of_awp hΓ (fn := f35) (c := cB f35) (A := 0) (nx := 0) (by kernel_rfl) (by kernel_rfl) (by kernel_rfl) (by kernel_rfl) (by kernel_rfl) (by kernel_rfl) (lowc_of (by kernel_rfl)) ?_
  show Awp prog 0 59 (cB f35) _ _
  refine awp_seq ?_
  refine awp_region ?_
  refine aR 3 ?_
  refine aE ?_
  refine awp_block ?_
  refine awp_to (st' := fleetref2_less_x1_H  (qa, qb)) (oT [(1, 1000)] []) ?_
  refine bE hF fun vx5_1 h9 hF => ?_
  refine awp_sub (awp_loop' (fleetref2_less_x1_H ) fleetref2_less_x1_k (fleetref2_less_x1_S ) (by intro x; exact fun h => nomatch h) h9 (fleetref2_less_x1_ok )) ?_
  exact oF hF [] []

/-! ### math/bits.Len64 -/
def bits_Len64_x1_k : (Int × Int) → AEx
  | _ => .normal

def bits_Len64_x1_S (qx : Int) : (Int × Int) → St
  | (vx, vn) => Mem.st ⟨[], []⟩ (tl [(0, .v (.one (.d (.int .u64 vx)))), (2, .v (.one (.d (.int .i64 vn))))]) 0

def bits_Len64_x1_I (qx : Int) : St := Mem.st ⟨[], []⟩ (tl [(0, .v (.one (.d (.int .u64 qx)))), (2, .v (.one (.d (.int .i64 0))))]) 0

theorem bits_Len64_x1_ok (qx : Int) {r} (hF : bits_Len64_x1 qx = some r) : Awp prog 0 25 (cL (cR (cB f78))) (Out 0 bits_Len64_x1_k (bits_Len64_x1_S qx) r) (bits_Len64_x1_I qx) := by
  unfold bits_Len64_x1 at hF
  refine awp_seq ?_
  refine awp_region ?_
  refine aR 2 ?_
  refine aE ?_
  refine cE hF (fun h1 hF => ?_) fun h1 hF => ?_
  · refine awp_true (by kernel_rfl) h1 ?_
    refine awp_seq ?_
    refine awp_region ?_
    refine aR 3 ?_
    refine aE ?_
    refine awp_region ?_
    refine aR 1 ?_
    refine aE ?_
    exact oO hF [] [] rfl
  · refine awp_false (by kernel_rfl) h1 ?_
    refine awp_skip ?_
    exact oO hF [] [] rfl

def bits_Len64_x2_k : (Int × Int) → AEx
  | _ => .normal

def bits_Len64_x2_S (vx1 : Int) (vn1 : Int) : (Int × Int) → St
  | (vx2, vn2) => Mem.st ⟨[], []⟩ (tl [(0, .v (.one (.d (.int .u64 vx2)))), (2, .v (.one (.d (.int .i64 vn2))))]) 0

def bits_Len64_x2_I (vx1 : Int) (vn1 : Int) : St := Mem.st ⟨[], []⟩ (tl [(0, .v (.one (.d (.int .u64 vx1)))), (2, .v (.one (.d (.int .i64 vn1))))]) 0

theorem bits_Len64_x2_ok (vx1 : Int) (vn1 : Int) {r} (hF : bits_Len64_x2 vx1 vn1 = some r) : Awp prog 0 25 (cL (cR (cR (cB f78)))) (Out 0 bits_Len64_x2_k (bits_Len64_x2_S vx1 vn1) r) (bits_Len64_x2_I vx1 vn1) := by
  unfold bits_Len64_x2 at hF
  refine awp_seq ?_
  refine awp_region ?_
  refine aR 2 ?_
  refine aE ?_
  refine cE hF (fun h3 hF => ?_) fun h3 hF => ?_
  · refine awp_true (by kernel_rfl) h3 ?_
    refine awp_seq ?_
    refine awp_region ?_
    refine aR 3 ?_
    refine aE ?_
    refine awp_region ?_
    refine aR 3 ?_
    refine aE ?_
    exact oO hF [] [] rfl
  · refine awp_false (by kernel_rfl) h3 ?_
    refine awp_skip ?_
    exact oO hF [] [] rfl

def bits_Len64_x3_k : (Int × Int) → AEx
  | _ => .normal

def bits_Len64_x3_S (vx2_1 : Int) (vn2_1 : Int) : (Int × Int) → St
  | (vx3, vn3) => Mem.st ⟨[], []⟩ (tl [(0, .v (.one (.d (.int .u64 vx3)))), (2, .v (.one (.d (.int .i64 vn3))))]) 0

def bits_Len64_x3_I (vx2_1 : Int) (vn2_1 : Int) : St := Mem.st ⟨[], []⟩ (tl [(0, .v (.one (.d (.int .u64 vx2_1)))), (2, .v (.one (.d (.int .i64 vn2_1))))]) 0

theorem bits_Len64_x3_ok (vx2_1 : Int) (vn2_1 : Int) {r} (hF : bits_Len64_x3 vx2_1 vn2_1 = some r) : Awp prog 0 25 (cL (cR (cR (cR (cB f78))))) (Out 0 bits_Len64_x3_k (bits_Len64_x3_S vx2_1 vn2_1) r) (bits_Len64_x3_I vx2_1 vn2_1) := by
  unfold bits_Len64_x3 at hF
  refine awp_seq ?_
  refine awp_region ?_
  refine aR 2 ?_
  refine aE ?_
  refine cE hF (fun h5 hF => ?_) fun h5 hF => ?_
  · refine awp_true (by kernel_rfl) h5 ?_
    refine awp_seq ?_
    refine awp_region ?_
    refine aR 3 ?_
    refine aE ?_
    refine awp_region ?_
    refine aR 3 ?_
    refine aE ?_
    exact oO hF [] [] rfl
  · refine awp_false (by kernel_rfl) h5 ?_
    refine awp_skip ?_
    exact oO hF [] [] rfl

def bits_Len64_R (qx : Int) (r : Int) : TV × Mem := (.v (.one (.d (.int .i64 r))), ⟨[], []⟩)

theorem bits_Len64_ok {qx : Int} {r} (hF : bits_Len64 qx = some r) : Holds prog 78 [.v (.one (.d (.int .u64 qx)))] ⟨[], []⟩ (Is (bits_Len64_R qx r)) := by
  unfold bits_Len64 at hF
  refine holds_of_awp hΓ (fn := f78) (c := cB f78) (A := 0) (nx := 0) (by kernel_rfl) (by kernel_rfl) (by kernel_rfl) (by kernel_rfl) (by kernel_rfl) (by kernel_rfl) (lowc_of (by kernel_rfl)) ?_
  show Awp prog 0 25 (cB f78) _ _
  refine awp_seq ?_
  refine awp_region ?_
  refine aR 1 ?_
  refine aE ?_
  refine awp_seq ?_
  refine awp_to (st' := bits_Len64_x1_I qx) (oT [] []) ?_
  refine bE hF fun x h2 hF => ?_
  obtain ⟨vx1, vn1⟩ := x
  refine awp_sub (bits_Len64_x1_ok qx h2) ?_
  refine awp_seq ?_
  refine awp_to (st' := bits_Len64_x2_I vx1 vn1) (oT [] []) ?_
  refine bE hF fun x h4 hF => ?_
  obtain ⟨vx2_1, vn2_1⟩ := x
  refine awp_sub (bits_Len64_x2_ok vx1 vn1 h4) ?_
  refine awp_seq ?_
  refine awp_to (st' := bits_Len64_x3_I vx2_1 vn2_1) (oT [] []) ?_
  refine bE hF fun x h6 hF => ?_
  obtain ⟨vx3_1, vn3_1⟩ := x
  refine awp_sub (bits_Len64_x3_ok vx2_1 vn2_1 h6) ?_
  refine awp_seq ?_
  refine bE hF fun vc h7 hF => ?_
  refine awp_region ?_
  refine aR 3 ?_
  refine aX (x_idxS h7) ?_
  refine aR 3 ?_
  refine aE ?_
  refine awp_ret ?_
  exact oF hF [] []

/-! ### math/bits.Len -/
def bits_Len_R (qx : Int) (r : Int) : TV × Mem := (.v (.one (.d (.int .i64 r))), ⟨[], []⟩)

theorem bits_Len_ok {qx : Int} {r} (hF : bits_Len qx = some r) : Holds prog 59 [.v (.one (.d (.int .u64 qx)))] ⟨[], []⟩ (Is (bits_Len_R qx r)) := by
  unfold bits_Len at hF
  refine holds_of_awp hΓ (fn := f59) (c := cB f59) (A := 0) (nx := 0) (by kernel_rfl) (by kernel_rfl) (by kernel_rfl) (by kernel_rfl) (by kernel_rfl) (by kernel_rfl) (lowc_of (by kernel_rfl)) ?_
  show Awp prog 0 8 (cB f59) _ _
  refine awp_seq ?_
  refine awp_region ?_
  refine aR 1 ?_
  refine aE ?_
  refine awp_seq ?_
  refine awp_false (by kernel_rfl) rfl ?_
  refine awp_skip ?_
  refine awp_seq ?_
  refine bE hF fun vr h1 hF => ?_
  refine awp_region ?_
  refine aR 1 ?_
  refine aC (bits_Len64_ok h1) [] [] [] ?_
  refine aR 1 ?_
  refine aE ?_
  refine awp_ret ?_
  exact oF hF [] []

/-! ### cmp.Less[int] -/
def cmp_Less_int_x1_k : Bool → AEx
  | _ => .normal

def cmp_Less_int_x1_S (qx : Int) (qy : Int) : Bool → St
  | vx => Mem.st ⟨[], []⟩ (tl [(4, .v (.one (.d (.bool vx))))]) 0

def cmp_Less_int_x1_I (qx : Int) (qy : Int) : St := Mem.st ⟨[], []⟩ (tl [(0, .v (.one (.d (.int .i64 qx)))), (1, .v (.one (.d (.int .i64 qy))))]) 0

theorem cmp_Less_int_x1_ok (qx : Int) (qy : Int) {r} (hF : cmp_Less_int_x1 qx qy = some r) : Awp prog 0 17 (cL (cR (cB f74))) (Out 0 cmp_Less_int_x1_k (cmp_Less_int_x1_S qx qy) r) (cmp_Less_int_x1_I qx qy) := by
  unfold cmp_Less_int_x1 at hF
  refine bE hF fun _ h1 hF => ?_
  refine cE hF (fun h2 hF => ?_) fun h2 hF => ?_
  · refine bE hF fun _ h3 hF => ?_
    refine cE hF (fun h4 hF => ?_) fun h4 hF => ?_
    · refine awp_region ?_
      refine aR 1 ?_
      refine aCb (cmp_isNaN_int_ok h1) [] [] [] h2 ?_
      refine aR 2 ?_
      refine aC (cmp_isNaN_int_ok h3) [] [] [] ?_
      refine aB h4 ?_
      refine aR 7 ?_
      refine aE ?_
      exact oO hF [] [] rfl
    · refine awp_region ?_
      refine aR 1 ?_
      refine aCb (cmp_isNaN_int_ok h1) [] [] [] h2 ?_
      refine aR 2 ?_
      refine aC (cmp_isNaN_int_ok h3) [] [] [] ?_
      refine aB h4 ?_
      refine aR 7 ?_
      refine aE ?_
      exact oO hF [] [] rfl
  · refine awp_region ?_
    refine aR 1 ?_
    refine aCb (cmp_isNaN_int_ok h1) [] [] [] h2 ?_
    refine aR 11 ?_
    refine aE ?_
    exact oO hF [] [] rfl

def cmp_Less_int_R (qx : Int) (qy : Int) (r : Bool) : TV × Mem := (.v (.one (.d (.bool r))), ⟨[], []⟩)

theorem cmp_Less_int_ok {qx : Int} {qy : Int} {r} (hF : cmp_Less_int qx qy = some r) : Holds prog 74 [.v (.one (.d (.int .i64 qx))), .v (.one (.d (.int .i64 qy)))] ⟨[], []⟩ (Is (cmp_Less_int_R qx qy r)) := by
  unfold cmp_Less_int at hF
  refine holds_of_awp hΓ (fn := f74) (c := cB f74) (A := 0) (nx := 0) (by kernel_rfl) (by kernel_rfl) (by kernel_rfl) (by kernel_rfl) (by kernel_rfl) (by kernel_rfl) (lowc_of (by kernel_rfl)) ?_
  show Awp prog 0 17 (cB f74) _ _
  refine awp_seq ?_
  refine awp_region ?_
  refine aR 1 ?_
  refine aE ?_
  refine awp_seq ?_
  refine awp_to (st' := cmp_Less_int_x1_I qx qy) (oT [] []) ?_
  refine bE hF fun vx1 h5 hF => ?_
  refine awp_sub (cmp_Less_int_x1_ok qx qy h5) ?_
  refine awp_ret ?_
  exact oF hF [] []

/-! ### slices.insertionSortOrdered[int] -/
def slices_insertionSortOrdered_int_o0_x3_k : Bool → AEx
  | _ => .normal

def slices_insertionSortOrdered_int_o0_x3_S (qa : Int) (qb : Int) (vi : Int) (vl3 : List Int) (vj1 : Int) : Bool → St
  | vx4 => Mem.st ⟨[(0, ⟨3, 1, List.map (encI .i64) vl3⟩)], []⟩ (tl [(0, .v (.one (.own 0 none))), (1, .v (.one (.d (.int .i64 qa)))), (2, .v (.one (.d (.int .i64 qb)))), (6, .v (.one (.d (.int .i64 vi)))), (7, .v (.one (.d (.int .i64 vj1)))), (30, .v (.one (.d (.bool vx4))))]) 1

def slices_insertionSortOrdered_int_o0_x3_I (qa : Int) (qb : Int) (vi : Int) (vl3 : List Int) (vj1 : Int) : St := Mem.st ⟨[(0, ⟨3, 1, List.map (encI .i64) vl3⟩)], []⟩ (tl [(0, .v (.one (.own 0 none))), (1, .v (.one (.d (.int .i64 qa)))), (2, .v (.one (.d (.int .i64 qb)))), (6, .v (.one (.d (.int .i64 vi)))), (7, .v (.one (.d (.int .i64 vj1))))]) 1

theorem slices_insertionSortOrdered_int_o0_x3_ok (qa : Int) (qb : Int) (vi : Int) (vl3 : List Int) (vj1 : Int) {r} (hF : slices_insertionSortOrdered_int_o0_x3 qa vl3 vj1 = some r) : Awp prog 1 49 (cL (cL (cL (cL (cR (cL (cL (cR (cL (cL (cR (cB f68)))))))))))) (Out 1 slices_insertionSortOrdered_int_o0_x3_k (slices_insertionSortOrdered_int_o0_x3_S qa qb vi vl3 vj1) r) (slices_insertionSortOrdered_int_o0_x3_I qa qb vi vl3 vj1) := by
  unfold slices_insertionSortOrdered_int_o0_x3 at hF
  refine cE hF (fun h2 hF => ?_) fun h2 hF => ?_
  · refine bE hF fun vy15 h3 hF => ?_
    refine bE hF fun vy16 h4 hF => ?_
    refine bE hF fun vr3 h5 hF => ?_
    refine aD ?_
    refine dR 2 ?_
    refine dB h2 ?_
    refine dR 3 ?_
    refine dX (x_idxO (encI .i64) 0 h3) ?_
    refine dX (x_ldE (encI .i64) h3) ?_
    refine dR 3 ?_
    refine dX (x_idxO (encI .i64) 0 h4) ?_
    refine dX (x_ldE (encI .i64) h4) ?_
    refine dC (cmp_Less_int_ok h5) [] [] [] ?_
    refine dR 1 ?_
    refine dE ?_
    exact oO hF [] [] rfl
  · refine aD ?_
    refine dR 2 ?_
    refine dB h2 ?_
    refine dR 12 ?_
    refine dE ?_
    exact oO hF [] [] rfl

def slices_insertionSortOrdered_int_o0_x2_k : (List Int) → AEx
  | _ => .exit 2

def slices_insertionSortOrdered_int_o0_x2_S (qa : Int) (qb : Int) (vi : Int) : (List Int) → St
  | vl4 => Mem.st ⟨[(0, ⟨3, 1, List.map (encI .i64) vl4⟩)], []⟩ (tl [(0, .v (.one (.own 0 none))), (1, .v (.one (.d (.int .i64 qa)))), (2, .v (.one (.d (.int .i64 qb)))), (6, .v (.one (.d (.int .i64 vi))))]) 1

def slices_insertionSortOrdered_int_o0_x2_H (qa : Int) (qb : Int) (vi : Int) : (List Int) × Int → St
  | (vl3, vj1) => Mem.st ⟨[(0, ⟨3, 1, List.map (encI .i64) vl3⟩)], []⟩ (tl [(0, .v (.one (.own 0 none))), (1, .v (.one (.d (.int .i64 qa)))), (2, .v (.one (.d (.int .i64 qb)))), (6, .v (.one (.d (.int .i64 vi)))), (7, .v (.one (.d (.int .i64 vj1))))]) 1

theorem slices_insertionSortOrdered_int_o0_x2_ok (qa : Int) (qb : Int) (vi : Int) (s : (List Int) × Int) (r : ((List Int) × Int) ⊕ ((List Int))) (hF : slices_insertionSortOrdered_int_o0_x2 qa s = some r) : Awp prog 1 49 (cL (cL (cR (cL (cL (cR (cL (cL (cR (cB f68)))))))))) (Out 1 (kk slices_insertionSortOrdered_int_o0_x2_k) (SS (slices_insertionSortOrdered_int_o0_x2_H qa qb vi) (slices_insertionSortOrdered_int_o0_x2_S qa qb vi)) r) (slices_insertionSortOrdered_int_o0_x2_H qa qb vi s) := by
  obtain ⟨vl3, vj1⟩ := s
  unfold slices_insertionSortOrdered_int_o0_x2 at hF
  refine awp_seq ?_
  refine awp_seq ?_
  refine awp_to (st' := slices_insertionSortOrdered_int_o0_x3_I qa qb vi vl3 vj1) (oT [] []) ?_
  refine bE hF fun vx4_1 h6 hF => ?_
  refine awp_sub (slices_insertionSortOrdered_int_o0_x3_ok qa qb vi vl3 vj1 h6) ?_
  refine cE hF (fun h7 hF => ?_) fun h7 hF => ?_
  · refine awp_true (by kernel_rfl) h7 ?_
    refine awp_skip ?_
    refine awp_seq ?_
    refine awp_block ?_
    refine bE hF fun vy17 h8 hF => ?_
    refine bE hF fun vy18 h9 hF => ?_
    refine bE hF fun vy19 h10 hF => ?_
    refine aDw [0] ?_
    refine dR 8 ?_
    refine dI (encI .i64) 0 h8 rfl ?_
    refine dX (x_ldE (encI .i64) h8) ?_
    refine dR 2 ?_
    refine dI (encI .i64) 0 h9 rfl ?_
    refine dX (x_ldE (encI .i64) h9) ?_
    refine dI (encI .i64) 0 h9 rfl ?_
    refine dW (encI .i64) vy17 h9 rfl ?_
    refine dI (encI .i64) 0 h10 rfl ?_
    refine dW (encI .i64) vy18 h10 rfl ?_
    refine dE ?_
    refine awp_region ?_
    refine aR 3 ?_
    refine aE ?_
    exact oO hF [] [] rfl
  · refine awp_false (by kernel_rfl) h7 ?_
    refine awp_exit ?_
    exact oO hF [] [] rfl

def slices_insertionSortOrdered_int_o0_x1_k : (List Int) → AEx
  | _ => .exit 0

def slices_insertionSortOrdered_int_o0_x1_S (qa : Int) (qb : Int) : (List Int) → St
  | vl5 => Mem.st ⟨[(0, ⟨3, 1, List.map (encI .i64) vl5⟩)], []⟩ (tl []) 1

def slices_insertionSortOrdered_int_o0_x1_H (qa : Int) (qb : Int) : (List Int) × Int → St
  | (vl, vi) => Mem.st ⟨[(0, ⟨3, 1, List.map (encI .i64) vl⟩)], []⟩ (tl [(0, .v (.one (.own 0 none))), (1, .v (.one (.d (.int .i64 qa)))), (2, .v (.one (.d (.int .i64 qb)))), (6, .v (.one (.d (.int .i64 vi))))]) 1

theorem slices_insertionSortOrdered_int_o0_x1_ok (qa : Int) (qb : Int) (s : (List Int) × Int) (r : ((List Int) × Int) ⊕ ((List Int))) (hF : slices_insertionSortOrdered_int_o0_x1 qa qb s = some r) : Awp prog 1 49 (cL (cL (cR (cB f68)))) (Out 1 (kk slices_insertionSortOrdered_int_o0_x1_k) (SS (slices_insertionSortOrdered_int_o0_x1_H qa qb) (slices_insertionSortOrdered_int_o0_x1_S qa qb)) r) (slices_insertionSortOrdered_int_o0_x1_H qa qb s) := by
  obtain ⟨vl, vi⟩ := s
  unfold slices_insertionSortOrdered_int_o0_x1 at hF
  refine awp_seq ?_
  refine awp_seq ?_
  refine awp_region ?_
  refine aR 3 ?_
  refine aE ?_
  refine cE hF (fun h1 hF => ?_) fun h1 hF => ?_
  · refine awp_true (by kernel_rfl) h1 ?_
    refine awp_skip ?_
    refine awp_seq ?_
    refine awp_block ?_
    refine awp_seq ?_
    refine awp_region ?_
    refine aR 2 ?_
    refine aE ?_
    refine awp_block ?_
    refine awp_to (st' := slices_insertionSortOrdered_int_o0_x2_H qa qb vi (vl, vi)) (oT [] []) ?_
    refine bE hF fun vl4_1 h11 hF => ?_
    refine awp_sub (awp_loop' (slices_insertionSortOrdered_int_o0_x2_H qa qb vi) slices_insertionSortOrdered_int_o0_x2_k (slices_insertionSortOrdered_int_o0_x2_S qa qb vi) (by intro x; exact fun h => nomatch h) h11 (slices_insertionSortOrdered_int_o0_x2_ok qa qb vi)) ?_
    refine awp_region ?_
    refine aR 3 ?_
    refine aE ?_
    exact oO hF [] [] rfl
  · refine awp_false (by kernel_rfl) h1 ?_
    refine awp_exit ?_
    exact oO hF [] [] rfl

def slices_insertionSortOrdered_int_o0_R (qdata : List Int) (qa : Int) (qb : Int) (r : (List Int)) : TV × Mem := (.tup [], ⟨[(0, ⟨3, 1, List.map (encI .i64) r⟩)], []⟩)

theorem slices_insertionSortOrdered_int_o0_ok {qdata : List Int} {qa : Int} {qb : Int} {r} (hF : slices_insertionSortOrdered_int_o0 qdata qa qb = some r) : Holds prog 68 [.v (.one (.own 0 none)), .v (.one (.d (.int .i64 qa))), .v (.one (.d (.int .i64 qb)))] ⟨[(0, ⟨3, 1, List.map (encI .i64) qdata⟩)], []⟩ (Is (slices_insertionSortOrdered_int_o0_R qdata qa qb r)) := by
  unfold slices_insertionSortOrdered_int_o0 at hF
  refine holds_of_awp hΓ (fn := f68) (c := cB f68) (A := 1) (nx := 1) (by kernel_rfl) (by kernel_rfl) (by kernel_rfl) (by kernel_rfl) (by kernel_rfl) (by kernel_rfl) (lowc_of (by kernel_rfl)) ?_
  show Awp prog 1 49 (cB f68) _ _
  refine awp_seq ?_
  refine awp_region ?_
  refine aR 3 ?_
  refine aE ?_
  refine awp_block ?_
  refine awp_to (st' := slices_insertionSortOrdered_int_o0_x1_H qa qb (qdata, IntKind.wrap .i64 (qa + 1))) (oT [] []) ?_
  refine bE hF fun vl5_1 h12 hF => ?_
  refine awp_sub (awp_loop' (slices_insertionSortOrdered_int_o0_x1_H qa qb) slices_insertionSortOrdered_int_o0_x1_k (slices_insertionSortOrdered_int_o0_x1_S qa qb) (by intro x; exact fun h => nomatch h) h12 (slices_insertionSortOrdered_int_o0_x1_ok qa qb)) ?_
  exact oF hF [] []

/-! ### slices.pdqsortOrdered[int] -/
def slices_pdqsortOrdered_int_o0_x1_k : (List Int) → AEx
  | _ => .ret

def slices_pdqsortOrdered_int_o0_x1_S (qx : List Int) (qx1 : Int) (qx2 : Int) (qx3 : Int) : (List Int) → St
  | vl => Mem.st ⟨[(0, ⟨3, 1, List.map (encI .i64) vl⟩)], []⟩ (tl []) 1

def slices_pdqsortOrdered_int_o0_x1_H (qx : List Int) (qx1 : Int) (qx2 : Int) (qx3 : Int) : Unit → St
  | _ => Mem.st ⟨[(0, ⟨3, 1, List.map (encI .i64) qx⟩)], []⟩ (tl [(0, .v (.one (.own 0 none))), (1, .v (.one (.d (.int .i64 qx1)))), (2, .v (.one (.d (.int .i64 qx2)))), (3, .v (.one (.d (.int .i64 qx3)))), (8, .v (.one (.d (.bool true)))), (9, .v (.one (.d (.bool true))))]) 1

theorem slices_pdqsortOrdered_int_o0_x1_ok (qx : List Int) (qx1 : Int) (qx2 : Int) (qx3 : Int) (s : Unit) (r : (Unit) ⊕ ((List Int))) (hF : slices_pdqsortOrdered_int_o0_x1 qx qx1 qx2 qx3 s = some r) : Awp prog 1 134 (cL (cL (cR (cR (cB f58))))) (Out 1 (kk slices_pdqsortOrdered_int_o0_x1_k) (SS (slices_pdqsortOrdered_int_o0_x1_H qx qx1 qx2 qx3) (slices_pdqsortOrdered_int_o0_x1_S qx qx1 qx2 qx3)) r) (slices_pdqsortOrdered_int_o0_x1_H qx qx1 qx2 qx3 s) := by
  unfold slices_pdqsortOrdered_int_o0_x1 at hF
  refine awp_block ?_
  refine awp_seq ?_
  refine awp_region ?_
  refine aR 4 ?_
  refine aE ?_
  refine awp_seq ?_
  refine awp_seq ?_
  refine awp_region ?_
  refine aR 2 ?_
  refine aE ?_
  refine cE hF (fun h1 hF => ?_) fun h1 hF => ?_
  · refine awp_true (by kernel_rfl) h1 ?_
    refine awp_seq ?_
    refine bE hF fun vl6_1 h2 hF => ?_
    refine gE hF fun h3 hF => ?_
    refine awp_region ?_
    refine aR 3 ?_
    refine aCp (slices_insertionSortOrdered_int_o0_ok h2) ⟨⟨rfl, rfl, pin1 h3⟩, trivial⟩ [] [] [] ?_
    refine aE ?_
    refine awp_ret ?_
    exact oO hF [] [] rfl
  · refine awp_false (by kernel_rfl) h1 ?_
    refine awp_skip ?_
    refine awp_seq ?_
    refine awp_seq ?_
    refine awp_region ?_
    refine aR 2 ?_
    refine aE ?_
    refine cE hF (fun h4 hF => ?_) fun h4 hF => ?_
    · refine awp_true (by kernel_rfl) h4 ?_
      refine awp_seq ?_
      exact nE hF
    · refine awp_false (by kernel_rfl) h4 ?_
      refine awp_skip ?_
      refine awp_seq ?_
      refine awp_seq ?_
      refine awp_region ?_
      refine aR 2 ?_
      refine aE ?_
      refine awp_false (by kernel_rfl) rfl ?_
      refine awp_skip ?_
      refine awp_seq ?_
      exact nE hF

def slices_pdqsortOrdered_int_o0_R (qx : List Int) (qx1 : Int) (qx2 : Int) (qx3 : Int) (r : (List Int)) : TV × Mem := (.tup [], ⟨[(0, ⟨3, 1, List.map (encI .i64) r⟩)], []⟩)

theorem slices_pdqsortOrdered_int_o0_ok {qx : List Int} {qx1 : Int} {qx2 : Int} {qx3 : Int} {r} (hF : slices_pdqsortOrdered_int_o0 qx qx1 qx2 qx3 = some r) : Holds prog 58 [.v (.one (.own 0 none)), .v (.one (.d (.int .i64 qx1))), .v (.one (.d (.int .i64 qx2))), .v (.one (.d (.int .i64 qx3)))] ⟨[(0, ⟨3, 1, List.map (encI .i64) qx⟩)], []⟩ (Is (slices_pdqsortOrdered_int_o0_R qx qx1 qx2 qx3 r)) := by
  unfold slices_pdqsortOrdered_int_o0 at hF
  refine holds_of_awp hΓ (fn := f58) (c := cB f58) (A := 1) (nx := 1) (by kernel_rfl) (by kernel_rfl) (by kernel_rfl) (by kernel_rfl) (by kernel_rfl) (by kernel_rfl) (lowc_of (by kernel_rfl)) ?_
  show Awp prog 1 134 (cB f58) _ _
  refine awp_seq ?_
  refine awp_region ?_
  refine aR 1 ?_
  refine aE ?_
  refine awp_seq ?_
  refine awp_region ?_
  refine aR 1 ?_
  refine aE ?_
  refine awp_block ?_
  refine awp_to (st' := slices_pdqsortOrdered_int_o0_x1_H qx qx1 qx2 qx3 ()) (oT [] []) ?_
  refine bE hF fun vl1 h7 hF => ?_
  refine awp_sub (awp_loop' (slices_pdqsortOrdered_int_o0_x1_H qx qx1 qx2 qx3) slices_pdqsortOrdered_int_o0_x1_k (slices_pdqsortOrdered_int_o0_x1_S qx qx1 qx2 qx3) (by intro x; exact fun h => nomatch h) h7 (slices_pdqsortOrdered_int_o0_x1_ok qx qx1 qx2 qx3)) ?_
  exact oF hF [] []

/-! ### slices.Sort[[]int,int] -/
def slices_Sort_int_int_o0_R (qx : List Int) (r : (List Int)) : TV × Mem := (.tup [], ⟨[(0, ⟨3, 1, List.map (encI .i64) r⟩)], []⟩)

theorem slices_Sort_int_int_o0_ok {qx : List Int} {r} (hF : slices_Sort_int_int_o0 qx = some r) : Holds prog 36 [.v (.one (.own 0 none))] ⟨[(0, ⟨3, 1, List.map (encI .i64) qx⟩)], []⟩ (Is (slices_Sort_int_int_o0_R qx r)) := by
  unfold slices_Sort_int_int_o0 at hF
  refine holds_of_awp hΓ (fn := f36) (c := cB f36) (A := 1) (nx := 1) (by kernel_rfl) (by kernel_rfl) (by kernel_rfl) (by kernel_rfl) (by kernel_rfl) (by kernel_rfl) (lowc_of (by kernel_rfl)) ?_
  show Awp prog 1 11 (cB f36) _ _
  refine awp_seq ?_
  refine awp_region ?_
  refine aR 1 ?_
  refine aL (encI .i64) qx ?_
  refine aR 1 ?_
  refine aE ?_
  refine bE hF fun vr1 h1 hF => ?_
  refine bE hF fun vl2 h2 hF => ?_
  refine gE hF fun h3 hF => ?_
  refine awp_region ?_
  refine aR 4 ?_
  refine aC (bits_Len_ok h1) [] [] [] ?_
  refine aCp (slices_pdqsortOrdered_int_o0_ok h2) ⟨⟨rfl, rfl, pin1 h3⟩, trivial⟩ [] [] [] ?_
  refine aE ?_
  exact oF hF [] []

/-! ### beaconfleet/fleetref2.PlainOf -/
def fleetref2_PlainOf_o0_x1_k : (List Int) → AEx
  | _ => .exit 0

def fleetref2_PlainOf_o0_x1_S (qx : List api_Fix) : (List Int) → St
  | vx2 => Mem.st ⟨[(1, ⟨3, 1, List.map (encI .i64) vx2⟩)], []⟩ (tl [(5, .v (.one (.own 1 none)))]) 2

def fleetref2_PlainOf_o0_x1_H (qx : List api_Fix) : (List Int) × Int → St
  | (vx, vx1) => Mem.st ⟨[(1, ⟨3, 1, List.map (encI .i64) vx⟩)], []⟩ (tl [(5, .v (.one (.own 1 none))), (19, .v (.one (.d (.int .i64 (qx.length : Int))))), (20, .v (.one (.d (.int .i64 vx1))))]) 2

theorem fleetref2_PlainOf_o0_x1_ok (qx : List api_Fix) (s : (List Int) × Int) (r : ((List Int) × Int) ⊕ ((List Int))) (hF : fleetref2_PlainOf_o0_x1 qx s = some r) : Awp prog 1 93 (cL (cL (cR (cL (cR (cL (cR (cL (cR (cB f13)))))))))) (Out 1 (kk fleetref2_PlainOf_o0_x1_k) (SS (fleetref2_PlainOf_o0_x1_H qx) (fleetref2_PlainOf_o0_x1_S qx)) r) (fleetref2_PlainOf_o0_x1_H qx s) := by
  obtain ⟨vx, vx1⟩ := s
  unfold fleetref2_PlainOf_o0_x1 at hF
  refine awp_seq ?_
  refine awp_region ?_
  refine aR 1 ?_
  refine aE ?_
  refine awp_seq ?_
  refine cE hF (fun h2 hF => ?_) fun h2 hF => ?_
  · refine awp_true (by kernel_rfl) h2 ?_
    refine awp_skip ?_
    refine awp_seq ?_
    refine awp_block ?_
    refine awp_seq ?_
    refine awp_region ?_
    refine aR 2 ?_
    refine aE ?_
    refine gE hF fun h3 hF => ?_
    refine awp_region ?_
    refine aR 3 ?_
    refine aX (x_app (encI .i64) 1 h3) ?_
    refine aR 1 ?_
    refine aE ?_
    refine awp_region ?_
    refine aR 2 ?_
    refine aE ?_
    exact oO hF [(1, 6002)] [] rfl
  · refine awp_false (by kernel_rfl) h2 ?_
    refine awp_exit ?_
    exact oO hF [] [] rfl

def fleetref2_PlainOf_o0_x4_k : Bool → AEx
  | _ => .normal

def fleetref2_PlainOf_o0_x4_S (qx : List api_Fix) (qx1 : Int) (vx3 : List Int) (vx25 : Int) (vx26 : Int) : Bool → St
  | vx36 => Mem.st ⟨[(1, ⟨3, 1, List.map (encI .i64) vx3⟩)], []⟩ (tl [(0, .v (.one (.d (.lst (List.map api_Fix.enc qx))))), (1, .v (.one (.d (.int .i64 qx1)))), (7, .v (.one (.own 1 none))), (8, .v (.one (.d (.int .i64 vx25)))), (9, .v (.one (.d (.int .i64 vx26)))), (40, .v (.one (.d (.bool vx36))))]) 2

def fleetref2_PlainOf_o0_x4_I (qx : List api_Fix) (qx1 : Int) (vx3 : List Int) (vx25 : Int) (vx26 : Int) : St := Mem.st ⟨[(1, ⟨3, 1, List.map (encI .i64) vx3⟩)], []⟩ (tl [(0, .v (.one (.d (.lst (List.map api_Fix.enc qx))))), (1, .v (.one (.d (.int .i64 qx1)))), (7, .v (.one (.own 1 none))), (8, .v (.one (.d (.int .i64 vx25)))), (9, .v (.one (.d (.int .i64 vx26))))]) 2

theorem fleetref2_PlainOf_o0_x4_ok (qx : List api_Fix) (qx1 : Int) (vx3 : List Int) (vx25 : Int) (vx26 : Int) {r} (hF : fleetref2_PlainOf_o0_x4 vx3 vx25 vx26 = some r) : Awp prog 1 93 (cL (cL (cL (cL (cR (cL (cR (cL (cL (cL (cR (cR (cR (cB f13)))))))))))))) (Out 1 fleetref2_PlainOf_o0_x4_k (fleetref2_PlainOf_o0_x4_S qx qx1 vx3 vx25 vx26) r) (fleetref2_PlainOf_o0_x4_I qx qx1 vx3 vx25 vx26) := by
  unfold fleetref2_PlainOf_o0_x4 at hF
  refine cE hF (fun h5 hF => ?_) fun h5 hF => ?_
  · refine awp_region ?_
    refine aR 2 ?_
    refine aL (encI .i64) vx3 ?_
    refine aB h5 ?_
    refine aR 4 ?_
    refine aE ?_
    exact oO hF [] [] rfl
  · refine awp_region ?_
    refine aR 2 ?_
    refine aL (encI .i64) vx3 ?_
    refine aB h5 ?_
    refine aR 4 ?_
    refine aE ?_
    exact oO hF [] [] rfl

def fleetref2_PlainOf_o0_x6_k : (api_Fraction × Int) → AEx
  | _ => .normal

def fleetref2_PlainOf_o0_x6_S (qx : List api_Fix) (qx1 : Int) (vx3 : List Int) (vx26 : Int) (vy24 : Int) (vy25 : Int) (vx37 : api_Fraction) (vx38 : Int) (vx39 : Int) : (api_Fraction × Int) → St
  | (vx42, vx43) => Mem.st ⟨[(2, ⟨3, 1, List.map (encI .i64) vx3⟩)], [(1, [.d (.int .i64 vx42.Num), .d (.int .i64 vx42.Den)])]⟩ (tl [(0, .v (.one (.d (.lst (List.map api_Fix.enc qx))))), (1, .v (.one (.d (.int .i64 qx1)))), (7, .v (.one (.own 2 none))), (8, .v (.one (.d (.int .i64 vx43)))), (9, .v (.one (.d (.int .i64 vx26)))), (10, .v (.one (.d (.int .i64 vy24)))), (11, .v (.one (.d (.int .i64 vy25)))), (12, .v (.one (.box 1 0))), (13, .v (.one (.d (.int .i64 vx39))))]) 3

def fleetref2_PlainOf_o0_x6_I (qx : List api_Fix) (qx1 : Int) (vx3 : List Int) (vx26 : Int) (vy24 : Int) (vy25 : Int) (vx37 : api_Fraction) (vx38 : Int) (vx39 : Int) : St := Mem.st ⟨[(2, ⟨3, 1, List.map (encI .i64) vx3⟩)], [(1, [.d (.int .i64 vx37.Num), .d (.int .i64 vx37.Den)])]⟩ (tl [(0, .v (.one (.d (.lst (List.map api_Fix.enc qx))))), (1, .v (.one (.d (.int .i64 qx1)))), (7, .v (.one (.own 2 none))), (8, .v (.one (.d (.int .i64 vx38)))), (9, .v (.one (.d (.int .i64 vx26)))), (10, .v (.one (.d (.int .i64 vy24)))), (11, .v (.one (.d (.int .i64 vy25)))), (12, .v (.one (.box 1 0))), (13, .v (.one (.d (.int .i64 vx39))))]) 3

theorem fleetref2_PlainOf_o0_x6_ok (qx : List api_Fix) (qx1 : Int) (vx3 : List Int) (vx26 : Int) (vy24 : Int) (vy25 : Int) (vx37 : api_Fraction) (vx38 : Int) (vx39 : Int) {r} (hF : fleetref2_PlainOf_o0_x6 qx vy24 vy25 vx37 vx38 vx39 = some r) : Awp prog 1 93 (cL (cR (cL (cL (cR (cR (cR (cL (cL (cR (cL (cL (cR (cL (cR (cL (cL (cL (cR (cR (cR (cB f13)))))))))))))))))))))) (Out 1 fleetref2_PlainOf_o0_x6_k (fleetref2_PlainOf_o0_x6_S qx qx1 vx3 vx26 vy24 vy25 vx37 vx38 vx39) r) (fleetref2_PlainOf_o0_x6_I qx qx1 vx3 vx26 vy24 vy25 vx37 vx38 vx39) := by
  unfold fleetref2_PlainOf_o0_x6 at hF
  refine awp_block ?_
  refine awp_seq ?_
  refine bE hF fun vy29 h11 hF => ?_
  refine bE hF fun _ h12 hF => ?_
  refine bE hF fun vy30 h13 hF => ?_
  refine bE hF fun _ h14 hF => ?_
  refine bE hF fun vy31 h15 hF => ?_
  refine bE hF fun _ h16 hF => ?_
  refine bE hF fun vr1_7 h17 hF => ?_
  refine aD ?_
  refine dR 2 ?_
  refine dX (x_idx api_Fix.enc h11) ?_
  refine dR 1 ?_
  refine dC (fleetref2_spotOf_ok h12) [] [] [] ?_
  refine dR 2 ?_
  refine dX (x_idx api_Fix.enc h13) ?_
  refine dR 1 ?_
  refine dC (fleetref2_spotOf_ok h14) [] [] [] ?_
  refine dR 2 ?_
  refine dX (x_idx api_Fix.enc h15) ?_
  refine dR 1 ?_
  refine dC (fleetref2_spotOf_ok h16) [] [] [] ?_
  refine dC (fleetref2_farWay_ok h17) [] [] [] ?_
  refine dR 2 ?_
  refine dE ?_
  refine awp_seq ?_
  refine bE hF fun vr4_7 h18 hF => ?_
  refine awp_region ?_
  refine aR 2 ?_
  refine aC (fleetref2_less_ok h18) [] [] [] ?_
  refine aE ?_
  refine cE hF (fun h19 hF => ?_) fun h19 hF => ?_
  · refine awp_true (by kernel_rfl) h19 ?_
    refine awp_region ?_
    refine aR 4 ?_
    refine aE ?_
    exact oO hF [] [] rfl
  · refine awp_false (by kernel_rfl) h19 ?_
    refine awp_skip ?_
    exact oO hF [] [] rfl

def fleetref2_PlainOf_o0_x5_k : Int → AEx
  | _ => .exit 6

def fleetref2_PlainOf_o0_x5_S (qx : List api_Fix) (qx1 : Int) (vx3 : List Int) (vx26 : Int) (vy24 : Int) (vy25 : Int) : Int → St
  | vx44 => Mem.st ⟨[(1, ⟨3, 1, List.map (encI .i64) vx3⟩)], []⟩ (tl [(0, .v (.one (.d (.lst (List.map api_Fix.enc qx))))), (1, .v (.one (.d (.int .i64 qx1)))), (7, .v (.one (.own 1 none))), (8, .v (.one (.d (.int .i64 vx44)))), (9, .v (.one (.d (.int .i64 vx26))))]) 2

def fleetref2_PlainOf_o0_x5_H (qx : List api_Fix) (qx1 : Int) (vx3 : List Int) (vx26 : Int) (vy24 : Int) (vy25 : Int) : api_Fraction × Int × Int → St
  | (vx37, vx38, vx39) => Mem.st ⟨[(2, ⟨3, 1, List.map (encI .i64) vx3⟩)], [(1, [.d (.int .i64 vx37.Num), .d (.int .i64 vx37.Den)])]⟩ (tl [(0, .v (.one (.d (.lst (List.map api_Fix.enc qx))))), (1, .v (.one (.d (.int .i64 qx1)))), (7, .v (.one (.own 2 none))), (8, .v (.one (.d (.int .i64 vx38)))), (9, .v (.one (.d (.int .i64 vx26)))), (10, .v (.one (.d (.int .i64 vy24)))), (11, .v (.one (.d (.int .i64 vy25)))), (12, .v (.one (.box 1 0))), (13, .v (.one (.d (.int .i64 vx39))))]) 3

theorem fleetref2_PlainOf_o0_x5_ok (qx : List api_Fix) (qx1 : Int) (vx3 : List Int) (vx26 : Int) (vy24 : Int) (vy25 : Int) (s : api_Fraction × Int × Int) (r : (api_Fraction × Int × Int) ⊕ (Int)) (hF : fleetref2_PlainOf_o0_x5 qx vy24 vy25 s = some r) : Awp prog 1 93 (cL (cL (cR (cR (cR (cL (cL (cR (cL (cL (cR (cL (cR (cL (cL (cL (cR (cR (cR (cB f13)))))))))))))))))))) (Out 1 (kk fleetref2_PlainOf_o0_x5_k) (SS (fleetref2_PlainOf_o0_x5_H qx qx1 vx3 vx26 vy24 vy25) (fleetref2_PlainOf_o0_x5_S qx qx1 vx3 vx26 vy24 vy25)) r) (fleetref2_PlainOf_o0_x5_H qx qx1 vx3 vx26 vy24 vy25 s) := by
  obtain ⟨vx37, vx38, vx39⟩ := s
  unfold fleetref2_PlainOf_o0_x5 at hF
  refine awp_seq ?_
  refine awp_seq ?_
  refine awp_region ?_
  refine aR 3 ?_
  refine aE ?_
  refine cE hF (fun h10 hF => ?_) fun h10 hF => ?_
  · refine awp_true (by kernel_rfl) h10 ?_
    refine awp_skip ?_
    refine awp_seq ?_
    refine awp_to (st' := fleetref2_PlainOf_o0_x6_I qx qx1 vx3 vx26 vy24 vy25 vx37 vx38 vx39) (oT [] []) ?_
    refine bE hF fun x h20 hF => ?_
    obtain ⟨vx42_1, vx43_1⟩ := x
    refine awp_sub (fleetref2_PlainOf_o0_x6_ok qx qx1 vx3 vx26 vy24 vy25 vx37 vx38 vx39 h20) ?_
    refine awp_region ?_
    refine aR 3 ?_
    refine aE ?_
    exact oO hF [] [] rfl
  · refine awp_false (by kernel_rfl) h10 ?_
    refine awp_exit ?_
    exact oO hF [(1, 2)] [] rfl

def fleetref2_PlainOf_o0_x3_k : Int → AEx
  | _ => .exit 4

def fleetref2_PlainOf_o0_x3_S (qx : List api_Fix) (qx1 : Int) (vx3 : List Int) : Int → St
  | vx45 => Mem.st ⟨[(1, ⟨3, 1, List.map (encI .i64) vx3⟩)], []⟩ (tl [(0, .v (.one (.d (.lst (List.map api_Fix.enc qx))))), (1, .v (.one (.d (.int .i64 qx1)))), (7, .v (.one (.own 1 none))), (8, .v (.one (.d (.int .i64 vx45))))]) 2

def fleetref2_PlainOf_o0_x3_H (qx : List api_Fix) (qx1 : Int) (vx3 : List Int) : Int × Int → St
  | (vx25, vx26) => Mem.st ⟨[(1, ⟨3, 1, List.map (encI .i64) vx3⟩)], []⟩ (tl [(0, .v (.one (.d (.lst (List.map api_Fix.enc qx))))), (1, .v (.one (.d (.int .i64 qx1)))), (7, .v (.one (.own 1 none))), (8, .v (.one (.d (.int .i64 vx25)))), (9, .v (.one (.d (.int .i64 vx26))))]) 2

theorem fleetref2_PlainOf_o0_x3_ok (qx : List api_Fix) (qx1 : Int) (vx3 : List Int) (s : Int × Int) (r : (Int × Int) ⊕ (Int)) (hF : fleetref2_PlainOf_o0_x3 qx qx1 vx3 s = some r) : Awp prog 1 93 (cL (cL (cR (cL (cR (cL (cL (cL (cR (cR (cR (cB f13)))))))))))) (Out 1 (kk fleetref2_PlainOf_o0_x3_k) (SS (fleetref2_PlainOf_o0_x3_H qx qx1 vx3) (fleetref2_PlainOf_o0_x3_S qx qx1 vx3)) r) (fleetref2_PlainOf_o0_x3_H qx qx1 vx3 s) := by
  obtain ⟨vx25, vx26⟩ := s
  unfold fleetref2_PlainOf_o0_x3 at hF
  refine awp_seq ?_
  refine awp_seq ?_
  refine awp_to (st' := fleetref2_PlainOf_o0_x4_I qx qx1 vx3 vx25 vx26) (oT [] []) ?_
  refine bE hF fun vx36_1 h6 hF => ?_
  refine awp_sub (fleetref2_PlainOf_o0_x4_ok qx qx1 vx3 vx25 vx26 h6) ?_
  refine cE hF (fun h7 hF => ?_) fun h7 hF => ?_
  · refine awp_true (by kernel_rfl) h7 ?_
    refine awp_skip ?_
    refine awp_seq ?_
    refine awp_block ?_
    refine awp_seq ?_
    refine bE hF fun vy24 h8 hF => ?_
    refine bE hF fun vy25 h9 hF => ?_
    refine aD ?_
    refine dR 3 ?_
    refine dX (x_idxO (encI .i64) 1 h8) ?_
    refine dX (x_ldE (encI .i64) h8) ?_
    refine dR 2 ?_
    refine dX (x_idxO (encI .i64) 1 h9) ?_
    refine dX (x_ldE (encI .i64) h9) ?_
    refine dR 2 ?_
    refine dE ?_
    refine awp_seq ?_
    refine awp_region ?_
    refine aR 6 ?_
    refine aE ?_
    refine awp_seq ?_
    refine awp_region ?_
    refine aR 3 ?_
    refine aE ?_
    refine awp_block ?_
    refine awp_to (st' := fleetref2_PlainOf_o0_x5_H qx qx1 vx3 vx26 vy24 vy25 (api_Fraction.mk (IntKind.wrap .i64 (qx1 * qx1)) 1, vx25, IntKind.wrap .i64 (vy24 + 1))) (oT [(1, 15002), (2, 1)] []) ?_
    refine bE hF fun vx44_1 h21 hF => ?_
    refine awp_sub (awp_loop' (fleetref2_PlainOf_o0_x5_H qx qx1 vx3 vx26 vy24 vy25) fleetref2_PlainOf_o0_x5_k (fleetref2_PlainOf_o0_x5_S qx qx1 vx3 vx26 vy24 vy25) (by intro x; exact fun h => nomatch h) h21 (fleetref2_PlainOf_o0_x5_ok qx qx1 vx3 vx26 vy24 vy25)) ?_
    refine awp_region ?_
    refine aR 3 ?_
    refine aE ?_
    exact oO hF [] [] rfl
  · refine awp_false (by kernel_rfl) h7 ?_
    refine awp_exit ?_
    exact oO hF [] [] rfl

def fleetref2_PlainOf_o0_x2_k : (List Int) → AEx
  | _ => .ret

def fleetref2_PlainOf_o0_x2_S (qx : List api_Fix) (qx1 : Int) : (List Int) → St
  | vx46 => Mem.st ⟨[(1, ⟨3, 1, List.map (encI .i64) vx46⟩)], []⟩ (tl [(4, .v (.one (.own 1 none)))]) 2

def fleetref2_PlainOf_o0_x2_H (qx : List api_Fix) (qx1 : Int) : (List Int) → St
  | vx3 => Mem.st ⟨[(1, ⟨3, 1, List.map (encI .i64) vx3⟩)], []⟩ (tl [(0, .v (.one (.d (.lst (List.map api_Fix.enc qx))))), (1, .v (.one (.d (.int .i64 qx1)))), (7, .v (.one (.own 1 none)))]) 2

theorem fleetref2_PlainOf_o0_x2_ok (qx : List api_Fix) (qx1 : Int) (vx3 : (List Int)) (r : ((List Int)) ⊕ ((List Int))) (hF : fleetref2_PlainOf_o0_x2 qx qx1 vx3 = some r) : Awp prog 1 93 (cL (cL (cR (cR (cR (cB f13)))))) (Out 1 (kk fleetref2_PlainOf_o0_x2_k) (SS (fleetref2_PlainOf_o0_x2_H qx qx1) (fleetref2_PlainOf_o0_x2_S qx qx1)) r) (fleetref2_PlainOf_o0_x2_H qx qx1 vx3) := by
  unfold fleetref2_PlainOf_o0_x2 at hF
  refine awp_block ?_
  refine awp_seq ?_
  refine awp_region ?_
  refine aR 1 ?_
  refine aE ?_
  refine awp_seq ?_
  refine awp_seq ?_
  refine awp_region ?_
  refine aR 1 ?_
  refine aE ?_
  refine awp_block ?_
  refine awp_to (st' := fleetref2_PlainOf_o0_x3_H qx qx1 vx3 ((-1), 1)) (oT [] []) ?_
  refine bE hF fun vx45_1 h22 hF => ?_
  refine awp_sub (awp_loop' (fleetref2_PlainOf_o0_x3_H qx qx1 vx3) fleetref2_PlainOf_o0_x3_k (fleetref2_PlainOf_o0_x3_S qx qx1 vx3) (by intro x; exact fun h => nomatch h) h22 (fleetref2_PlainOf_o0_x3_ok qx qx1 vx3)) ?_
  refine awp_seq ?_
  refine awp_seq ?_
  refine awp_region ?_
  refine aR 2 ?_
  refine aE ?_
  refine cE hF (fun h23 hF => ?_) fun h23 hF => ?_
  · refine awp_true (by kernel_rfl) h23 ?_
    refine awp_seq ?_
    refine awp_region ?_
    refine aR 2 ?_
    refine aE ?_
    refine awp_ret ?_
    exact oO hF [] [] rfl
  · refine awp_false (by kernel_rfl) h23 ?_
    refine awp_skip ?_
    refine awp_seq ?_
    refine gE hF fun h24 hF => ?_
    refine awp_region ?_
    refine aR 3 ?_
    refine aX (x_app (encI .i64) 1 h24) ?_
    refine aR 1 ?_
    refine aE ?_
    refine bE hF fun vl1 h25 hF => ?_
    refine gE hF fun h26 hF => ?_
    refine awp_region ?_
    refine aR 1 ?_
    refine aCp (slices_Sort_int_int_o0_ok h25) ⟨⟨rfl, rfl, pin1 h26⟩, trivial⟩ [(0, 5002)] [] [] ?_
    refine aE ?_
    exact oO hF [(1, 5002)] [] rfl

def fleetref2_PlainOf_o0_R (qx : List api_Fix) (qx1 : Int) (r : (List Int)) : TV × Mem := (.v (.one (.own 1 none)), ⟨[(1, ⟨3, 1, List.map (encI .i64) r⟩)], []⟩)

theorem fleetref2_PlainOf_o0_ok {qx : List api_Fix} {qx1 : Int} {r} (hF : fleetref2_PlainOf_o0 qx qx1 = some r) : Holds prog 13 [.v (.one (.own 0 none)), .v (.one (.d (.int .i64 qx1)))] ⟨[(0, ⟨31, 5, List.map api_Fix.enc qx⟩)], []⟩ (Is (fleetref2_PlainOf_o0_R qx qx1 r)) := by
  unfold fleetref2_PlainOf_o0 at hF
  refine holds_of_awp hΓ (fn := f13) (c := cB f13) (A := 1) (nx := 1) (by kernel_rfl) (by kernel_rfl) (by kernel_rfl) (by kernel_rfl) (by kernel_rfl) (by kernel_rfl) (lowc_of (by kernel_rfl)) ?_
  show Awp prog 1 93 (cB f13) _ _
  refine awp_seq ?_
  refine awp_region ?_
  refine aR 1 ?_
  refine aE ?_
  refine awp_to (oT (m := ⟨[], []⟩) (ts := [(0, .v (.one (.d (.lst (List.map api_Fix.enc qx))))), (1, .v (.one (.d (.int .i64 qx1))))]) (nx := 1) [] []) ?_
  refine awp_seq ?_
  refine awp_seq ?_
  refine awp_region ?_
  refine aR 1 ?_
  refine aL api_Fix.enc qx ?_
  refine aR 1 ?_
  refine aE ?_
  refine cE hF (fun h1 hF => ?_) fun h1 hF => ?_
  · refine awp_true (by kernel_rfl) h1 ?_
    refine awp_seq ?_
    refine awp_region ?_
    refine aR 1 ?_
    refine aE ?_
    refine awp_seq ?_
    refine awp_seq ?_
    refine awp_region ?_
    refine aR 1 ?_
    refine aL api_Fix.enc qx ?_
    refine aR 1 ?_
    refine aE ?_
    refine awp_block ?_
    refine awp_to (st' := fleetref2_PlainOf_o0_x1_H qx ([], 0)) (oT [] [1]) ?_
    refine bE hF fun vx2_1 h4 hF => ?_
    refine awp_sub (awp_loop' (fleetref2_PlainOf_o0_x1_H qx) fleetref2_PlainOf_o0_x1_k (fleetref2_PlainOf_o0_x1_S qx) (by intro x; exact fun h => nomatch h) h4 (fleetref2_PlainOf_o0_x1_ok qx)) ?_
    refine awp_seq ?_
    refine awp_region ?_
    refine aR 2 ?_
    refine aE ?_
    refine awp_ret ?_
    exact oF hF [] []
  · refine awp_false (by kernel_rfl) h1 ?_
    refine awp_skip ?_
    refine awp_seq ?_
    refine awp_region ?_
    refine aR 1 ?_
    refine aL api_Fix.enc qx ?_
    refine aR 3 ?_
    refine aE ?_
    refine awp_block ?_
    refine awp_to (st' := fleetref2_PlainOf_o0_x2_H qx qx1 ([0, IntKind.wrap .i64 ((qx.length : Int) - 1)] : List Int)) (oT [(1, 6001)] []) ?_
    refine bE hF fun vx46_1 h27 hF => ?_
    refine awp_sub (awp_loop' (fleetref2_PlainOf_o0_x2_H qx qx1) fleetref2_PlainOf_o0_x2_k (fleetref2_PlainOf_o0_x2_S qx qx1) (by intro x; exact fun h => nomatch h) h27 (fleetref2_PlainOf_o0_x2_ok qx qx1)) ?_
    exact oF hF [] []

/-! ### slices.Equal[[]int,int] -/
def slices_Equal_int_int_x1_k : Unit ⊕ Unit → AEx
  | .inl _ => .exit 0
  | .inr _ => .ret

def slices_Equal_int_int_x1_S (qs1 : List Int) (qs2 : List Int) : Unit ⊕ Unit → St
  | .inl _ => Mem.st ⟨[], []⟩ (tl []) 0
  | .inr _ => Mem.st ⟨[], []⟩ (tl [(4, .v (.one (.d (.bool false))))]) 0

def slices_Equal_int_int_x1_H (qs1 : List Int) (qs2 : List Int) : Int → St
  | vx => Mem.st ⟨[], []⟩ (tl [(0, .v (.one (.d (.lst (List.map (encI .i64) qs1))))), (1, .v (.one (.d (.lst (List.map (encI .i64) qs2))))), (12, .v (.one (.d (.int .i64 (qs1.length : Int))))), (13, .v (.one (.d (.int .i64 vx))))]) 0

theorem slices_Equal_int_int_x1_ok (qs1 : List Int) (qs2 : List Int) (vx : Int) (r : (Int) ⊕ (Unit ⊕ Unit)) (hF : slices_Equal_int_int_x1 qs1 qs2 vx = some r) : Awp prog 0 26 (cL (cL (cR (cL (cR (cR (cB f14))))))) (Out 0 (kk slices_Equal_int_int_x1_k) (SS (slices_Equal_int_int_x1_H qs1 qs2) (slices_Equal_int_int_x1_S qs1 qs2)) r) (slices_Equal_int_int_x1_H qs1 qs2 vx) := by
  unfold slices_Equal_int_int_x1 at hF
  refine awp_seq ?_
  refine awp_region ?_
  refine aR 1 ?_
  refine aE ?_
  refine awp_seq ?_
  refine cE hF (fun h2 hF => ?_) fun h2 hF => ?_
  · refine awp_true (by kernel_rfl) h2 ?_
    refine awp_skip ?_
    refine awp_seq ?_
    refine awp_block ?_
    refine awp_seq ?_
    refine awp_region ?_
    refine aR 2 ?_
    refine aE ?_
    refine awp_seq ?_
    refine bE hF fun vy2 h3 hF => ?_
    refine bE hF fun vy3 h4 hF => ?_
    refine aD ?_
    refine dR 2 ?_
    refine dX (x_idx (encI .i64) h3) ?_
    refine dR 3 ?_
    refine dX (x_idx (encI .i64) h4) ?_
    refine dR 2 ?_
    refine dE ?_
    refine cE hF (fun h5 hF => ?_) fun h5 hF => ?_
    · refine awp_true (by kernel_rfl) h5 ?_
      refine awp_seq ?_
      refine awp_region ?_
      refine aR 1 ?_
      refine aE ?_
      refine awp_ret ?_
      exact oO hF [] [] rfl
    · refine awp_false (by kernel_rfl) h5 ?_
      refine awp_skip ?_
      refine awp_region ?_
      refine aR 2 ?_
      refine aE ?_
      exact oO hF [] [] rfl
  · refine awp_false (by kernel_rfl) h2 ?_
    refine awp_exit ?_
    exact oO hF [] [] rfl

def slices_Equal_int_int_R (qs1 : List Int) (qs2 : List Int) (r : Bool) : TV × Mem := (.v (.one (.d (.bool r))), ⟨[], []⟩)

theorem slices_Equal_int_int_ok {qs1 : List Int} {qs2 : List Int} {r} (hF : slices_Equal_int_int qs1 qs2 = some r) : Holds prog 14 [.v (.one (.d (.lst (List.map (encI .i64) qs1)))), .v (.one (.d (.lst (List.map (encI .i64) qs2))))] ⟨[], []⟩ (Is (slices_Equal_int_int_R qs1 qs2 r)) := by
  unfold slices_Equal_int_int at hF
  refine holds_of_awp hΓ (fn := f14) (c := cB f14) (A := 0) (nx := 0) (by kernel_rfl) (by kernel_rfl) (by kernel_rfl) (by kernel_rfl) (by kernel_rfl) (by kernel_rfl) (lowc_of (by kernel_rfl)) ?_
  show Awp prog 0 26 (cB f14) _ _
  refine awp_seq ?_
  refine awp_region ?_
  refine aR 1 ?_
  refine aE ?_
  refine awp_seq ?_
  refine awp_seq ?_
  refine awp_region ?_
  refine aR 1 ?_
  refine aL (encI .i64) qs1 ?_
  refine aR 1 ?_
  refine aL (encI .i64) qs2 ?_
  refine aR 1 ?_
  refine aE ?_
  refine cE hF (fun h1 hF => ?_) fun h1 hF => ?_
  · refine awp_true (by kernel_rfl) h1 ?_
    refine awp_seq ?_
    refine awp_region ?_
    refine aR 1 ?_
    refine aE ?_
    refine awp_ret ?_
    exact oF hF [] []
  · refine awp_false (by kernel_rfl) h1 ?_
    refine awp_skip ?_
    refine awp_seq ?_
    refine awp_seq ?_
    refine awp_region ?_
    refine aR 1 ?_
    refine aL (encI .i64) qs1 ?_
    refine aR 1 ?_
    refine aE ?_
    refine awp_block ?_
    refine awp_to (st' := slices_Equal_int_int_x1_H qs1 qs2 0) (oT [] []) ?_
    refine bE hF fun x h6 hF => ?_
    rcases x with _ | _
    · refine awp_sub (awp_loop' (slices_Equal_int_int_x1_H qs1 qs2) slices_Equal_int_int_x1_k (slices_Equal_int_int_x1_S qs1 qs2) (by intro x; rcases x with x | x <;> exact fun h => nomatch h) h6 (slices_Equal_int_int_x1_ok qs1 qs2)) ?_
      refine awp_seq ?_
      refine awp_region ?_
      refine aR 1 ?_
      refine aE ?_
      refine awp_ret ?_
      exact oF hF [] []
    · refine awp_sub (awp_loop' (slices_Equal_int_int_x1_H qs1 qs2) slices_Equal_int_int_x1_k (slices_Equal_int_int_x1_S qs1 qs2) (by intro x; rcases x with x | x <;> exact fun h => nomatch h) h6 (slices_Equal_int_int_x1_ok qs1 qs2)) ?_
      exact oF hF [] []

end Go.Eng
