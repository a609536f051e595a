/-
The code of the Go functions that the law VisitsAreApart reaches does what the plain functions say, part 1.
-/
import Derived.Test.YtddkiphgahpfdaaGreatDoorGenF

import Derived.Test.YtddkiphgahpfdaaGreatDoorEng2

import Derived.Test.YtddkiphgahpfdaaGreatDoorProg

import Derived.KernelRfl

namespace Go.Eng

open Go Go.Proofs.Tryz

set_option linter.unusedVariables false

set_option maxRecDepth 20000

set_option maxHeartbeats 0

def ti2 : TI := ⟨1, 8, [.d (.int .i64 0)], false, .int .i64⟩

def ti3 : TI := ⟨1, 8, [.d (.int .i64 0)], false, .int .i64⟩

def ti4 : TI := ⟨1, 1, [.d (.bool false)], false, .bool⟩

def ti5 : TI := ⟨1, 1, [.d (.int .u8 0)], false, .int .u8⟩

def ti9 : TI := ⟨1, 16, [.d (.str [])], false, .str⟩

def ti12 : TI := ⟨1, 8, [.d (.int .u64 0)], false, .int .u64⟩

def ti21 : TI := ⟨1, 4, [.d (.int .i32 0)], false, .int .i32⟩

def ti22 : TI := ⟨1, 24, [.nil], false, .slice 3⟩

def ti25 : TI := ⟨2, 32, [.nil, .d (.int .i64 0)], true, .struct [(0, 22), (1, 3)]⟩

def ti26 : TI := ⟨1, 24, [.nil], false, .slice 39⟩

def ti30 : TI := ⟨1, 24, [.nil], false, .slice 37⟩

def ti31 : TI := ⟨1, 8, [.d (.int .i64 0)], false, .int .i64⟩

def ti35 : TI := ⟨2, 16, [.d (.int .i64 0), .d (.int .i64 0)], true, .struct [(0, 3), (1, 3)]⟩

def ti37 : TI := ⟨4, 32, [.d (.int .i64 0), .d (.int .i64 0), .d (.int .i64 0), .d (.int .i64 0)], true, .struct [(0, 3), (1, 3), (2, 35)]⟩

def ti39 : TI := ⟨5, 48, [.d (.str []), .d (.int .i64 0), .d (.int .i64 0), .d (.int .i64 0), .d (.int .i64 0)], true, .struct [(0, 9), (1, 3), (2, 3), (3, 3), (4, 3)]⟩

def ti42 : TI := ⟨1, 24, [.nil], false, .slice 35⟩

def ti44 : TI := ⟨2, 40, [.d (.str []), .nil], true, .struct [(0, 9), (1, 42)]⟩

def ti52 : TI := ⟨1, 24, [.nil], false, .slice 56⟩

def ti56 : TI := ⟨2, 16, [.d (.int .i64 0), .d (.int .i64 0)], true, .struct [(0, 3), (1, 3)]⟩

def ti66 : TI := ⟨1, 24, [.nil], false, .slice 105⟩

def ti70 : TI := ⟨4, 40, [.d (.int .i64 0), .d (.bool false), .d (.int .i64 0), .d (.str [])], true, .struct [(0, 3), (1, 4), (2, 3), (3, 9)]⟩

def ti72 : TI := ⟨5, 56, [.d (.str []), .d (.int .i64 0), .d (.bool false), .d (.int .i64 0), .d (.str [])], true, .struct [(0, 9), (1, 70)]⟩

def ti73 : TI := ⟨1, 24, [.nil], false, .slice 72⟩

def ti74 : TI := ⟨1, 24, [.nil], false, .slice 5⟩

def ti78 : TI := ⟨4, 48, [.d (.str []), .d (.str []), .d (.int .i64 0), .d (.int .i64 0)], true, .struct [(0, 9), (1, 9), (2, 3), (3, 3)]⟩

def ti79 : TI := ⟨1, 24, [.nil], false, .slice 78⟩

def ti81 : TI := ⟨3, 24, [.d (.int .i64 0), .d (.int .i64 0), .d (.int .i64 0)], true, .struct [(0, 3), (1, 3), (2, 3)]⟩

def ti86 : TI := ⟨1, 24, [.nil], false, .slice 90⟩

def ti90 : TI := ⟨6, 72, [.d (.str []), .d (.str []), .d (.str []), .d (.int .i64 0), .d (.int .i64 0), .d (.int .i64 0)], true, .struct [(0, 9), (1, 9), (2, 9), (3, 3), (4, 3), (5, 3)]⟩

def ti97 : TI := ⟨1, 24, [.nil], false, .slice 31⟩

def ti101 : TI := ⟨1, 24, [.nil], false, .slice 9⟩

def ti105 : TI := ⟨9, 96, [.d (.str []), .d (.int .i64 0), .d (.bool false), .d (.int .i64 0), .d (.str []), .d (.int .i64 0), .d (.bool false), .d (.int .i64 0), .d (.str [])], true, .struct [(0, 9), (1, 70), (5, 70)]⟩

def ti132 : TI := ⟨2, 16, [.d (.int .i64 0), .d (.int .i64 0)], true, .struct [(0, 3), (1, 3)]⟩

def ti138 : TI := ⟨1, 24, [.nil], false, .slice 73⟩

def ti144 : TI := ⟨1, 8, [.d (.int .u64 0)], false, .int .u64⟩

def ti152 : TI := ⟨1, 8, [.d (.int .u64 0)], false, .int .u64⟩

def ti165 : TI := ⟨1, 16, [.nili], false, .other⟩

def Γ : Types := [(2, ti2), (3, ti3), (4, ti4), (5, ti5), (9, ti9), (12, ti12), (21, ti21), (22, ti22), (25, ti25), (26, ti26), (30, ti30), (31, ti31), (35, ti35), (37, ti37), (39, ti39), (42, ti42), (44, ti44), (52, ti52), (56, ti56), (66, ti66), (70, ti70), (72, ti72), (73, ti73), (74, ti74), (78, ti78), (79, ti79), (81, ti81), (86, ti86), (90, ti90), (97, ti97), (101, ti101), (105, ti105), (132, ti132), (138, ti138), (144, ti144), (152, ti152), (165, ti165)]

theorem hΓ : TypesOk prog Γ := typesOk_of (by kernel_rfl)

instance : TOk prog Γ := ⟨hΓ⟩

theorem hm : prog.follows .mixedOrders = true := by kernel_rfl

instance : Mixed prog := ⟨hm⟩

/-! ### beaconfleet/fleetmake.Below -/
def fleetmake_Below_x1_k : Int → AEx
  | _ => .normal

def fleetmake_Below_x1_S (qx : Int) (qn : Int) : Int → St
  | vx => Mem.st ⟨[], []⟩ (tl [(0, .v (.one (.d (.int .i64 vx))))]) 0

def fleetmake_Below_x1_I (qx : Int) (qn : Int) : St := Mem.st ⟨[], []⟩ (tl [(0, .v (.one (.d (.int .i64 (qx.tmod qn))))), (1, .v (.one (.d (.int .i64 qn))))]) 0

theorem fleetmake_Below_x1_ok (qx : Int) (qn : Int) {r} (hF : fleetmake_Below_x1 qx qn = some r) : Awp prog 0 16 (cL (cR (cR (cR (cB f41))))) (Out 0 fleetmake_Below_x1_k (fleetmake_Below_x1_S qx qn) r) (fleetmake_Below_x1_I qx qn) := by
  unfold fleetmake_Below_x1 at hF
  refine awp_seq ?_
  refine awp_region ?_
  refine aR 2 ?_
  refine aE ?_
  refine cE hF (fun h3 hF => ?_) fun h3 hF => ?_
  · refine awp_true (by kernel_rfl) h3 ?_
    refine awp_region ?_
    refine aR 4 ?_
    refine aE ?_
    exact oO hF [] [] rfl
  · refine awp_false (by kernel_rfl) h3 ?_
    refine awp_skip ?_
    exact oO hF [] [] rfl

def fleetmake_Below_R (qx : Int) (qn : Int) (r : Int) : TV × Mem := (.v (.one (.d (.int .i64 r))), ⟨[], []⟩)

theorem fleetmake_Below_ok {qx : Int} {qn : Int} {r} (hF : fleetmake_Below qx qn = some r) : Holds prog 41 [.v (.one (.d (.int .i64 qx))), .v (.one (.d (.int .i64 qn)))] ⟨[], []⟩ (Is (fleetmake_Below_R qx qn r)) := by
  unfold fleetmake_Below at hF
  refine holds_of_awp hΓ (fn := f41) (c := cB f41) (A := 0) (nx := 0) (by kernel_rfl) (by kernel_rfl) (by kernel_rfl) (by kernel_rfl) (by kernel_rfl) (by kernel_rfl) (lowc_of (by kernel_rfl)) ?_
  show Awp prog 0 16 (cB f41) _ _
  refine awp_seq ?_
  refine awp_region ?_
  refine aR 1 ?_
  refine aE ?_
  refine awp_seq ?_
  refine awp_seq ?_
  refine awp_region ?_
  refine aR 2 ?_
  refine aE ?_
  refine cE hF (fun h1 hF => ?_) fun h1 hF => ?_
  · refine awp_true (by kernel_rfl) h1 ?_
    refine awp_seq ?_
    refine awp_region ?_
    refine aR 1 ?_
    refine aE ?_
    refine awp_ret ?_
    exact oF hF [] []
  · refine awp_false (by kernel_rfl) h1 ?_
    refine awp_skip ?_
    refine awp_seq ?_
    refine gE hF fun h2 hF => ?_
    refine awp_region ?_
    refine aR 2 ?_
    refine aX (x_rem h2) ?_
    refine aR 1 ?_
    refine aE ?_
    refine awp_seq ?_
    refine awp_to (st' := fleetmake_Below_x1_I qx qn) (oT [] []) ?_
    refine bE hF fun vx1 h4 hF => ?_
    refine awp_sub (fleetmake_Below_x1_ok qx qn h4) ?_
    refine awp_seq ?_
    refine awp_region ?_
    refine aR 2 ?_
    refine aE ?_
    refine awp_ret ?_
    exact oF hF [] []

/-! ### (*beaconfleet/fleetmake.Stream).Next -/
def fleetmake_Stream_Next_R (qs : fleetmake_Stream) (qn : Int) (r : Int) : TV × Mem := (.v (.one (.d (.int .i64 r))), ⟨[], [(0, [.d (.lst (List.map (encI .i64) qs.L)), .d (.int .i64 (IntKind.wrap .i64 (qs.at_ + 1)))])]⟩)

theorem fleetmake_Stream_Next_ok {qs : fleetmake_Stream} {qn : Int} {r} (hF : fleetmake_Stream_Next qs qn = some r) : Holds prog 22 [.v (.one (.box 0 0)), .v (.one (.d (.int .i64 qn)))] ⟨[], [(0, [.d (.lst (List.map (encI .i64) qs.L)), .d (.int .i64 qs.at_)])]⟩ (Is (fleetmake_Stream_Next_R qs qn r)) := by
  unfold fleetmake_Stream_Next at hF
  refine holds_of_awp hΓ (fn := f22) (c := cB f22) (A := 1) (nx := 1) (by kernel_rfl) (by kernel_rfl) (by kernel_rfl) (by kernel_rfl) (by kernel_rfl) (by kernel_rfl) (lowc_of (by kernel_rfl)) ?_
  show Awp prog 1 64 (cB f22) _ _
  refine awp_seq ?_
  refine awp_region ?_
  refine aR 1 ?_
  refine aE ?_
  refine awp_seq ?_
  refine awp_region ?_
  refine aR 8 ?_
  refine aE ?_
  refine awp_seq ?_
  refine awp_seq ?_
  refine awp_region ?_
  refine aR 4 ?_
  refine aL (encI .i64) qs.L ?_
  refine aR 1 ?_
  refine aE ?_
  refine cE hF (fun h1 hF => ?_) fun h1 hF => ?_
  · refine awp_true (by kernel_rfl) h1 ?_
    refine awp_seq ?_
    refine bE hF fun vr h2 hF => ?_
    refine awp_region ?_
    refine aR 6 ?_
    refine aC (fleetmake_Below_ok h2) [] [] [] ?_
    refine aR 1 ?_
    refine aE ?_
    refine awp_ret ?_
    exact oF hF [] []
  · refine awp_false (by kernel_rfl) h1 ?_
    refine awp_skip ?_
    refine awp_seq ?_
    refine gE hF fun h3 hF => ?_
    refine aD ?_
    refine dR 9 ?_
    refine dL (encI .i64) qs.L ?_
    refine dX (x_rem h3) ?_
    refine dR 1 ?_
    refine dE ?_
    refine awp_seq ?_
    refine aD ?_
    refine dR 9 ?_
    refine dL (encI .i64) qs.L ?_
    refine dX (x_quo h3) ?_
    refine dR 1 ?_
    refine dE ?_
    refine awp_seq ?_
    refine bE hF fun vy h4 hF => ?_
    refine bE hF fun vr1 h5 hF => ?_
    refine bE hF fun vr2 h6 hF => ?_
    refine awp_region ?_
    refine aR 5 ?_
    refine aX (x_idx (encI .i64) h4) ?_
    refine aR 1 ?_
    refine aC (fleetmake_Below_ok h5) [] [] [] ?_
    refine aR 6 ?_
    refine aC (fleetmake_Below_ok h6) [] [] [] ?_
    refine aR 1 ?_
    refine aE ?_
    refine awp_ret ?_
    exact oF hF [] []

/-! ### (*beaconfleet/fleetmake.Stream).Pick -/
def fleetmake_Stream_Pick_o1_R (qs : fleetmake_Stream) (ql : List Int) (r : Int) : TV × Mem := (.v (.one (.d (.int .i64 r))), ⟨[], [(0, [.d (.lst (List.map (encI .i64) qs.L)), .d (.int .i64 (IntKind.wrap .i64 (qs.at_ + 1)))])]⟩)

theorem fleetmake_Stream_Pick_o1_ok {qs : fleetmake_Stream} {ql : List Int} {r} (hF : fleetmake_Stream_Pick_o1 qs ql = some r) : Holds prog 8 [.v (.one (.box 0 0)), .v (.one (.own 1 none))] ⟨[(1, ⟨3, 1, List.map (encI .i64) ql⟩)], [(0, [.d (.lst (List.map (encI .i64) qs.L)), .d (.int .i64 qs.at_)])]⟩ (Is (fleetmake_Stream_Pick_o1_R qs ql r)) := by
  unfold fleetmake_Stream_Pick_o1 at hF
  refine holds_of_awp hΓ (fn := f8) (c := cB f8) (A := 2) (nx := 2) (by kernel_rfl) (by kernel_rfl) (by kernel_rfl) (by kernel_rfl) (by kernel_rfl) (by kernel_rfl) (lowc_of (by kernel_rfl)) ?_
  show Awp prog 2 12 (cB f8) _ _
  refine awp_seq ?_
  refine awp_region ?_
  refine aR 1 ?_
  refine aE ?_
  refine awp_to (oT (m := ⟨[], [(0, [.d (.lst (List.map (encI .i64) qs.L)), .d (.int .i64 qs.at_)])]⟩) (ts := [(0, .v (.one (.box 0 0))), (1, .v (.one (.d (.lst (List.map (encI .i64) ql)))))]) (nx := 2) [] []) ?_
  refine awp_seq ?_
  refine bE hF fun vr3 h1 hF => ?_
  refine bE hF fun vy h2 hF => ?_
  refine awp_region ?_
  refine aR 3 ?_
  refine aL (encI .i64) ql ?_
  refine aC (fleetmake_Stream_Next_ok h1) [] [] [] ?_
  refine aX (x_idx (encI .i64) h2) ?_
  refine aR 2 ?_
  refine aE ?_
  refine awp_ret ?_
  exact oF hF [] []

/-! ### (*beaconfleet/fleetmake.Stream).Place -/
def fleetmake_Stream_Place_R (qs : fleetmake_Stream) (r : api_Spot) : TV × Mem := (.v (.agg [.d (.int .i64 r.X), .d (.int .i64 r.Y)]), ⟨[], [(0, [.d (.lst (List.map (encI .i64) qs.L)), .d (.int .i64 (IntKind.wrap .i64 ((IntKind.wrap .i64 (qs.at_ + 1)) + 1)))])]⟩)

theorem fleetmake_Stream_Place_ok {qs : fleetmake_Stream} {r} (hF : fleetmake_Stream_Place qs = some r) : Holds prog 12 [.v (.one (.box 0 0))] ⟨[], [(0, [.d (.lst (List.map (encI .i64) qs.L)), .d (.int .i64 qs.at_)])]⟩ (Is (fleetmake_Stream_Place_R qs r)) := by
  unfold fleetmake_Stream_Place at hF
  refine holds_of_awp hΓ (fn := f12) (c := cB f12) (A := 1) (nx := 1) (by kernel_rfl) (by kernel_rfl) (by kernel_rfl) (by kernel_rfl) (by kernel_rfl) (by kernel_rfl) (lowc_of (by kernel_rfl)) ?_
  show Awp prog 1 10 (cB f12) _ _
  refine awp_seq ?_
  refine awp_region ?_
  refine aR 1 ?_
  refine aE ?_
  refine awp_seq ?_
  refine bE hF fun vr h1 hF => ?_
  refine bE hF fun vr1 h2 hF => ?_
  refine awp_region ?_
  refine aR 2 ?_
  refine aC (fleetmake_Stream_Pick_o1_ok h1) [(1, 2001)] [] [] ?_
  refine aR 2 ?_
  refine aC (fleetmake_Stream_Pick_o1_ok h2) [(1, 5001)] [] [] ?_
  refine aR 2 ?_
  refine aE ?_
  refine awp_ret ?_
  exact oF hF [] []

/-! ### (*beaconfleet/fleetmake.Stream).Range -/
def fleetmake_Stream_Range_R (qs : fleetmake_Stream) (qlow : Int) (qhigh : Int) (r : fleetmake_Stream × Int) : TV × Mem := (.v (.one (.d (.int .i64 r.2))), ⟨[], [(0, [.d (.lst (List.map (encI .i64) r.1.L)), .d (.int .i64 r.1.at_)])]⟩)

theorem fleetmake_Stream_Range_ok {qs : fleetmake_Stream} {qlow : Int} {qhigh : Int} {r} (hF : fleetmake_Stream_Range qs qlow qhigh = some r) : Holds prog 7 [.v (.one (.box 0 0)), .v (.one (.d (.int .i64 qlow))), .v (.one (.d (.int .i64 qhigh)))] ⟨[], [(0, [.d (.lst (List.map (encI .i64) qs.L)), .d (.int .i64 qs.at_)])]⟩ (Is (fleetmake_Stream_Range_R qs qlow qhigh r)) := by
  unfold fleetmake_Stream_Range at hF
  refine holds_of_awp hΓ (fn := f7) (c := cB f7) (A := 1) (nx := 1) (by kernel_rfl) (by kernel_rfl) (by kernel_rfl) (by kernel_rfl) (by kernel_rfl) (by kernel_rfl) (lowc_of (by kernel_rfl)) ?_
  show Awp prog 1 19 (cB f7) _ _
  refine awp_seq ?_
  refine awp_region ?_
  refine aR 1 ?_
  refine aE ?_
  refine awp_seq ?_
  refine awp_seq ?_
  refine awp_region ?_
  refine aR 3 ?_
  refine aE ?_
  refine cE hF (fun h1 hF => ?_) fun h1 hF => ?_
  · refine awp_true (by kernel_rfl) h1 ?_
    refine awp_seq ?_
    refine awp_region ?_
    refine aR 2 ?_
    refine aE ?_
    refine awp_ret ?_
    exact oF hF [] []
  · refine awp_false (by kernel_rfl) h1 ?_
    refine awp_skip ?_
    refine awp_seq ?_
    refine bE hF fun vr3 h2 hF => ?_
    refine awp_region ?_
    refine aR 6 ?_
    refine aC (fleetmake_Stream_Next_ok h2) [] [] [] ?_
    refine aR 2 ?_
    refine aE ?_
    refine awp_ret ?_
    exact oF hF [] []

/-! ### (*beaconfleet/fleetmake.Stream).Flip -/
def fleetmake_Stream_Flip_R (qs : fleetmake_Stream) (qn : Int) (r : Bool) : TV × Mem := (.v (.one (.d (.bool r))), ⟨[], [(0, [.d (.lst (List.map (encI .i64) qs.L)), .d (.int .i64 (IntKind.wrap .i64 (qs.at_ + 1)))])]⟩)

theorem fleetmake_Stream_Flip_ok {qs : fleetmake_Stream} {qn : Int} {r} (hF : fleetmake_Stream_Flip qs qn = some r) : Holds prog 21 [.v (.one (.box 0 0)), .v (.one (.d (.int .i64 qn)))] ⟨[], [(0, [.d (.lst (List.map (encI .i64) qs.L)), .d (.int .i64 qs.at_)])]⟩ (Is (fleetmake_Stream_Flip_R qs qn r)) := by
  unfold fleetmake_Stream_Flip at hF
  refine holds_of_awp hΓ (fn := f21) (c := cB f21) (A := 1) (nx := 1) (by kernel_rfl) (by kernel_rfl) (by kernel_rfl) (by kernel_rfl) (by kernel_rfl) (by kernel_rfl) (lowc_of (by kernel_rfl)) ?_
  show Awp prog 1 9 (cB f21) _ _
  refine awp_seq ?_
  refine awp_region ?_
  refine aR 1 ?_
  refine aE ?_
  refine awp_seq ?_
  refine bE hF fun vr3 h1 hF => ?_
  refine awp_region ?_
  refine aR 2 ?_
  refine aC (fleetmake_Stream_Next_ok h1) [] [] [] ?_
  refine aR 2 ?_
  refine aE ?_
  refine awp_ret ?_
  exact oF hF [] []

/-! ### (*beaconfleet/fleetmake.Stream).RightTrack -/
def fleetmake_Stream_RightTrack_x2_k : (fleetmake_Stream × api_Spot) → AEx
  | _ => .normal

def fleetmake_Stream_RightTrack_x2_S (vr : Int) (vs1 : fleetmake_Stream) (vout : List api_Fix) (vat : Int) (vp : api_Spot) (vx : Int) (vr9 : Int) : (fleetmake_Stream × api_Spot) → St
  | (vs8, vp2) => Mem.st ⟨[(1, ⟨39, 5, List.map api_Fix.enc vout⟩)], [(0, [.d (.lst (List.map (encI .i64) vs8.L)), .d (.int .i64 vs8.at_)]), (2, [.d (.int .i64 vp2.X), .d (.int .i64 vp2.Y)])]⟩ (tl [(0, .v (.one (.box 0 0))), (5, .v (.one (.own 1 none))), (6, .v (.one (.d (.int .i64 (IntKind.wrap .i64 (vat + vr9)))))), (7, .v (.one (.box 2 0))), (13, .v (.one (.d (.int .i64 vr)))), (14, .v (.one (.d (.int .i64 vx))))]) 3

def fleetmake_Stream_RightTrack_x2_I (vr : Int) (vs1 : fleetmake_Stream) (vout : List api_Fix) (vat : Int) (vp : api_Spot) (vx : Int) (vr9 : Int) : St := Mem.st ⟨[(1, ⟨39, 5, List.map api_Fix.enc vout⟩)], [(0, [.d (.lst (List.map (encI .i64) vs1.L)), .d (.int .i64 (IntKind.wrap .i64 (vs1.at_ + 1)))]), (2, [.d (.int .i64 vp.X), .d (.int .i64 vp.Y)])]⟩ (tl [(0, .v (.one (.box 0 0))), (5, .v (.one (.own 1 none))), (6, .v (.one (.d (.int .i64 (IntKind.wrap .i64 (vat + vr9)))))), (7, .v (.one (.box 2 0))), (13, .v (.one (.d (.int .i64 vr)))), (14, .v (.one (.d (.int .i64 vx))))]) 3

theorem fleetmake_Stream_RightTrack_x2_ok (vr : Int) (vs1 : fleetmake_Stream) (vout : List api_Fix) (vat : Int) (vp : api_Spot) (vx : Int) (vr9 : Int) {r} (hF : fleetmake_Stream_RightTrack_x2 vs1 vp = some r) : Awp prog 1 57 (cL (cR (cL (cL (cR (cR (cL (cL (cR (cL (cR (cR (cR (cR (cB f6))))))))))))))) (Out 1 fleetmake_Stream_RightTrack_x2_k (fleetmake_Stream_RightTrack_x2_S vr vs1 vout vat vp vx vr9) r) (fleetmake_Stream_RightTrack_x2_I vr vs1 vout vat vp vx vr9) := by
  unfold fleetmake_Stream_RightTrack_x2 at hF
  refine awp_seq ?_
  refine bE hF fun vr10 h5 hF => ?_
  refine awp_region ?_
  refine aR 1 ?_
  refine aC (fleetmake_Stream_Flip_ok h5) [] [] [] ?_
  refine aE ?_
  refine cE hF (fun h6 hF => ?_) fun h6 hF => ?_
  · refine awp_true (by kernel_rfl) h6 ?_
    refine bE hF fun vr2_2 h7 hF => ?_
    refine awp_region ?_
    refine aR 1 ?_
    refine aC (fleetmake_Stream_Place_ok h7) [] [] [] ?_
    refine aR 1 ?_
    refine aE ?_
    exact oO hF [] [] rfl
  · refine awp_false (by kernel_rfl) h6 ?_
    refine bE hF fun x h8 hF => ?_
    obtain ⟨vs6, vr11⟩ := x
    refine bE hF fun x h9 hF => ?_
    obtain ⟨vs7, vr12⟩ := x
    refine aD ?_
    refine dR 3 ?_
    refine dC (fleetmake_Stream_Range_ok h8) [] [] [] ?_
    refine dR 4 ?_
    refine dC (fleetmake_Stream_Range_ok h9) [] [] [] ?_
    refine dR 3 ?_
    refine dE ?_
    exact oO hF [] [] rfl

def fleetmake_Stream_RightTrack_x3_k : (fleetmake_Stream × api_Fix) → AEx
  | _ => .normal

def fleetmake_Stream_RightTrack_x3_S (vr : Int) (vout : List api_Fix) (vat : Int) (vx : Int) (vr9 : Int) (vs8_1 : fleetmake_Stream) (vp2_1 : api_Spot) (vr13 : Int) : (fleetmake_Stream × api_Fix) → St
  | (vs9, vx2) => Mem.st ⟨[(1, ⟨39, 5, List.map api_Fix.enc vout⟩)], [(0, [.d (.lst (List.map (encI .i64) vs9.L)), .d (.int .i64 vs9.at_)]), (2, [.d (.int .i64 vp2_1.X), .d (.int .i64 vp2_1.Y)]), (3, [.d (.str vx2.Device), .d (.int .i64 vx2.At), .d (.int .i64 vx2.X), .d (.int .i64 vx2.Y), .d (.int .i64 vx2.Error)])]⟩ (tl [(0, .v (.one (.box 0 0))), (5, .v (.one (.own 1 none))), (6, .v (.one (.d (.int .i64 (IntKind.wrap .i64 (vat + vr9)))))), (7, .v (.one (.box 2 0))), (8, .v (.one (.box 3 0))), (13, .v (.one (.d (.int .i64 vr)))), (14, .v (.one (.d (.int .i64 vx))))]) 4

def fleetmake_Stream_RightTrack_x3_I (vr : Int) (vout : List api_Fix) (vat : Int) (vx : Int) (vr9 : Int) (vs8_1 : fleetmake_Stream) (vp2_1 : api_Spot) (vr13 : Int) : St := Mem.st ⟨[(1, ⟨39, 5, List.map api_Fix.enc vout⟩)], [(0, [.d (.lst (List.map (encI .i64) vs8_1.L)), .d (.int .i64 (IntKind.wrap .i64 (vs8_1.at_ + 1)))]), (2, [.d (.int .i64 vp2_1.X), .d (.int .i64 vp2_1.Y)]), (3, [.d (.str ([100] : List UInt8)), .d (.int .i64 (IntKind.wrap .i64 (vat + vr9))), .d (.int .i64 vp2_1.X), .d (.int .i64 vp2_1.Y), .d (.int .i64 vr13)])]⟩ (tl [(0, .v (.one (.box 0 0))), (5, .v (.one (.own 1 none))), (6, .v (.one (.d (.int .i64 (IntKind.wrap .i64 (vat + vr9)))))), (7, .v (.one (.box 2 0))), (8, .v (.one (.box 3 0))), (13, .v (.one (.d (.int .i64 vr)))), (14, .v (.one (.d (.int .i64 vx))))]) 4

theorem fleetmake_Stream_RightTrack_x3_ok (vr : Int) (vout : List api_Fix) (vat : Int) (vx : Int) (vr9 : Int) (vs8_1 : fleetmake_Stream) (vp2_1 : api_Spot) (vr13 : Int) {r} (hF : fleetmake_Stream_RightTrack_x3 vat vr9 vs8_1 vp2_1 vr13 = some r) : Awp prog 1 57 (cL (cR (cR (cR (cL (cL (cR (cR (cL (cL (cR (cL (cR (cR (cR (cR (cB f6))))))))))))))))) (Out 1 fleetmake_Stream_RightTrack_x3_k (fleetmake_Stream_RightTrack_x3_S vr vout vat vx vr9 vs8_1 vp2_1 vr13) r) (fleetmake_Stream_RightTrack_x3_I vr vout vat vx vr9 vs8_1 vp2_1 vr13) := by
  unfold fleetmake_Stream_RightTrack_x3 at hF
  refine awp_seq ?_
  refine bE hF fun vr14 h12 hF => ?_
  refine awp_region ?_
  refine aR 1 ?_
  refine aC (fleetmake_Stream_Flip_ok h12) [] [] [] ?_
  refine aE ?_
  refine cE hF (fun h13 hF => ?_) fun h13 hF => ?_
  · refine awp_true (by kernel_rfl) h13 ?_
    refine bE hF fun vr15 h14 hF => ?_
    refine awp_region ?_
    refine aR 2 ?_
    refine aC (fleetmake_Stream_Pick_o1_ok h14) [(1, 3004)] [] [] ?_
    refine aR 2 ?_
    refine aE ?_
    exact oO hF [] [] rfl
  · refine awp_false (by kernel_rfl) h13 ?_
    refine awp_skip ?_
    exact oO hF [] [] rfl

def fleetmake_Stream_RightTrack_x1_k : (fleetmake_Stream × (List api_Fix)) → AEx
  | _ => .exit 0

def fleetmake_Stream_RightTrack_x1_S (vr : Int) : (fleetmake_Stream × (List api_Fix)) → St
  | (vs10, vout1) => Mem.st ⟨[(1, ⟨39, 5, List.map api_Fix.enc vout1⟩)], [(0, [.d (.lst (List.map (encI .i64) vs10.L)), .d (.int .i64 vs10.at_)])]⟩ (tl [(5, .v (.one (.own 1 none)))]) 2

def fleetmake_Stream_RightTrack_x1_H (vr : Int) : fleetmake_Stream × (List api_Fix) × Int × api_Spot × Int → St
  | (vs1, vout, vat, vp, vx) => Mem.st ⟨[(1, ⟨39, 5, List.map api_Fix.enc vout⟩)], [(0, [.d (.lst (List.map (encI .i64) vs1.L)), .d (.int .i64 vs1.at_)]), (2, [.d (.int .i64 vp.X), .d (.int .i64 vp.Y)])]⟩ (tl [(0, .v (.one (.box 0 0))), (5, .v (.one (.own 1 none))), (6, .v (.one (.d (.int .i64 vat)))), (7, .v (.one (.box 2 0))), (13, .v (.one (.d (.int .i64 vr)))), (14, .v (.one (.d (.int .i64 vx))))]) 3

theorem fleetmake_Stream_RightTrack_x1_ok (vr : Int) (s : fleetmake_Stream × (List api_Fix) × Int × api_Spot × Int) (r : (fleetmake_Stream × (List api_Fix) × Int × api_Spot × Int) ⊕ ((fleetmake_Stream × (List api_Fix)))) (hF : fleetmake_Stream_RightTrack_x1 vr s = some r) : Awp prog 1 57 (cL (cL (cR (cL (cR (cR (cR (cR (cB f6))))))))) (Out 1 (kk fleetmake_Stream_RightTrack_x1_k) (SS (fleetmake_Stream_RightTrack_x1_H vr) (fleetmake_Stream_RightTrack_x1_S vr)) r) (fleetmake_Stream_RightTrack_x1_H vr s) := by
  obtain ⟨vs1, vout, vat, vp, vx⟩ := s
  unfold fleetmake_Stream_RightTrack_x1 at hF
  refine awp_seq ?_
  refine awp_region ?_
  refine aR 1 ?_
  refine aE ?_
  refine awp_seq ?_
  refine cE hF (fun h3 hF => ?_) fun h3 hF => ?_
  · refine awp_true (by kernel_rfl) h3 ?_
    refine awp_skip ?_
    refine awp_seq ?_
    refine awp_block ?_
    refine awp_seq ?_
    refine bE hF fun vr9 h4 hF => ?_
    refine awp_region ?_
    refine aR 3 ?_
    refine aC (fleetmake_Stream_Pick_o1_ok h4) [(1, 3003)] [] [] ?_
    refine aR 2 ?_
    refine aE ?_
    refine awp_seq ?_
    refine awp_to (st' := fleetmake_Stream_RightTrack_x2_I vr vs1 vout vat vp vx vr9) (oT [] []) ?_
    refine bE hF fun x h10 hF => ?_
    obtain ⟨vs8_1, vp2_1⟩ := x
    refine awp_sub (fleetmake_Stream_RightTrack_x2_ok vr vs1 vout vat vp vx vr9 h10) ?_
    refine awp_seq ?_
    refine bE hF fun vr13 h11 hF => ?_
    refine aD ?_
    refine dR 7 ?_
    refine dC (fleetmake_Stream_Pick_o1_ok h11) [(1, 6003)] [] [] ?_
    refine dR 3 ?_
    refine dE ?_
    refine awp_seq ?_
    refine awp_to (st' := fleetmake_Stream_RightTrack_x3_I vr vout vat vx vr9 vs8_1 vp2_1 vr13) (oT [(3, 9003)] []) ?_
    refine bE hF fun x h15 hF => ?_
    obtain ⟨vs9_1, vx2_1⟩ := x
    refine awp_sub (fleetmake_Stream_RightTrack_x3_ok vr vout vat vx vr9 vs8_1 vp2_1 vr13 h15) ?_
    refine gE hF fun h16 hF => ?_
    refine awp_region ?_
    refine aR 3 ?_
    refine aX (x_app api_Fix.enc 1 h16) ?_
    refine aR 1 ?_
    refine aE ?_
    refine awp_region ?_
    refine aR 2 ?_
    refine aE ?_
    exact oO hF [(1, 3004)] [] rfl
  · refine awp_false (by kernel_rfl) h3 ?_
    refine awp_exit ?_
    exact oO hF [] [] rfl

def fleetmake_Stream_RightTrack_R (qs : fleetmake_Stream) (qmost : Int) (r : fleetmake_Stream × (List api_Fix)) : TV × Mem := (.v (.one (.own 1 none)), ⟨[(1, ⟨39, 5, List.map api_Fix.enc r.2⟩)], [(0, [.d (.lst (List.map (encI .i64) r.1.L)), .d (.int .i64 r.1.at_)])]⟩)

theorem fleetmake_Stream_RightTrack_ok {qs : fleetmake_Stream} {qmost : Int} {r} (hF : fleetmake_Stream_RightTrack qs qmost = some r) : Holds prog 6 [.v (.one (.box 0 0)), .v (.one (.d (.int .i64 qmost)))] ⟨[], [(0, [.d (.lst (List.map (encI .i64) qs.L)), .d (.int .i64 qs.at_)])]⟩ (Is (fleetmake_Stream_RightTrack_R qs qmost r)) := by
  unfold fleetmake_Stream_RightTrack at hF
  refine holds_of_awp hΓ (fn := f6) (c := cB f6) (A := 1) (nx := 1) (by kernel_rfl) (by kernel_rfl) (by kernel_rfl) (by kernel_rfl) (by kernel_rfl) (by kernel_rfl) (lowc_of (by kernel_rfl)) ?_
  show Awp prog 1 57 (cB f6) _ _
  refine awp_seq ?_
  refine awp_region ?_
  refine aR 1 ?_
  refine aE ?_
  refine awp_seq ?_
  refine awp_region ?_
  refine aR 1 ?_
  refine aE ?_
  refine awp_seq ?_
  refine awp_region ?_
  refine aR 1 ?_
  refine aE ?_
  refine awp_seq ?_
  refine bE hF fun vr2 h1 hF => ?_
  refine awp_region ?_
  refine aR 1 ?_
  refine aC (fleetmake_Stream_Place_ok h1) [] [] [] ?_
  refine aR 2 ?_
  refine aE ?_
  refine awp_seq ?_
  refine awp_seq ?_
  refine bE hF fun x h2 hF => ?_
  obtain ⟨vs, vr⟩ := x
  refine awp_region ?_
  refine aR 2 ?_
  refine aC (fleetmake_Stream_Range_ok h2) [] [] [] ?_
  refine aR 1 ?_
  refine aE ?_
  refine awp_block ?_
  refine awp_to (st' := fleetmake_Stream_RightTrack_x1_H vr (vs, [], 0, vr2, 0)) (oT [(2, 5001)] [1]) ?_
  refine bE hF fun x h17 hF => ?_
  obtain ⟨vs10_1, vout1_1⟩ := x
  refine awp_sub (awp_loop' (fleetmake_Stream_RightTrack_x1_H vr) fleetmake_Stream_RightTrack_x1_k (fleetmake_Stream_RightTrack_x1_S vr) (by intro x; exact fun h => nomatch h) h17 (fleetmake_Stream_RightTrack_x1_ok vr)) ?_
  refine awp_seq ?_
  refine awp_region ?_
  refine aR 2 ?_
  refine aE ?_
  refine awp_ret ?_
  exact oF hF [] []

/-! ### beaconfleet/base.Key -/
def base_Key_x1_k : Bool → AEx
  | _ => .normal

def base_Key_x1_S (qs : List UInt8) : Bool → St
  | vx => Mem.st ⟨[], []⟩ (tl [(0, .v (.one (.d (.str qs)))), (21, .v (.one (.d (.bool vx))))]) 0

def base_Key_x1_I (qs : List UInt8) : St := Mem.st ⟨[], []⟩ (tl [(0, .v (.one (.d (.str qs))))]) 0

theorem base_Key_x1_ok (qs : List UInt8) {r} (hF : base_Key_x1 qs = some r) : Awp prog 0 54 (cL (cL (cR (cB f64)))) (Out 0 base_Key_x1_k (base_Key_x1_S qs) r) (base_Key_x1_I qs) := by
  unfold base_Key_x1 at hF
  refine cE hF (fun h1 hF => ?_) fun h1 hF => ?_
  · refine awp_region ?_
    refine aR 1 ?_
    refine aB h1 ?_
    refine aR 15 ?_
    refine aE ?_
    exact oO hF [] [] rfl
  · refine cE hF (fun h2 hF => ?_) fun h2 hF => ?_
    · refine awp_region ?_
      refine aR 1 ?_
      refine aB h1 ?_
      refine aR 3 ?_
      refine aB h2 ?_
      refine aR 11 ?_
      refine aE ?_
      exact oO hF [] [] rfl
    · refine bE hF fun vc h3 hF => ?_
      refine cE hF (fun h4 hF => ?_) fun h4 hF => ?_
      · refine awp_region ?_
        refine aR 1 ?_
        refine aB h1 ?_
        refine aR 3 ?_
        refine aB h2 ?_
        refine aR 3 ?_
        refine aX (x_idxS h3) ?_
        refine aB h4 ?_
        refine aR 6 ?_
        refine aE ?_
        exact oO hF [] [] rfl
      · refine awp_region ?_
        refine aR 1 ?_
        refine aB h1 ?_
        refine aR 3 ?_
        refine aB h2 ?_
        refine aR 3 ?_
        refine aX (x_idxS h3) ?_
        refine aB h4 ?_
        refine aR 3 ?_
        refine aX (x_idxS h3) ?_
        refine aR 2 ?_
        refine aE ?_
        exact oO hF [] [] rfl

def base_Key_x3_k : Bool → AEx
  | _ => .normal

def base_Key_x3_S (qs : List UInt8) (vx2 : Int) (vc2 : UInt8) : Bool → St
  | vx4 => Mem.st ⟨[], []⟩ (tl [(0, .v (.one (.d (.str qs)))), (23, .v (.one (.d (.int .i64 (qs.length : Int))))), (24, .v (.one (.d (.int .i64 vx2)))), (52, .v (.one (.d (.bool vx4))))]) 0

def base_Key_x3_I (qs : List UInt8) (vx2 : Int) (vc2 : UInt8) : St := Mem.st ⟨[], []⟩ (tl [(0, .v (.one (.d (.str qs)))), (4, .v (.one (.d (.int .u8 (vc2.toNat : Int))))), (23, .v (.one (.d (.int .i64 (qs.length : Int))))), (24, .v (.one (.d (.int .i64 vx2))))]) 0

theorem base_Key_x3_ok (qs : List UInt8) (vx2 : Int) (vc2 : UInt8) {r} (hF : base_Key_x3 vc2 = some r) : Awp prog 0 54 (cL (cR (cR (cL (cL (cR (cR (cL (cL (cR (cL (cR (cR (cB f64)))))))))))))) (Out 0 base_Key_x3_k (base_Key_x3_S qs vx2 vc2) r) (base_Key_x3_I qs vx2 vc2) := by
  unfold base_Key_x3 at hF
  refine cE hF (fun h9 hF => ?_) fun h9 hF => ?_
  · refine cE hF (fun h10 hF => ?_) fun h10 hF => ?_
    · refine awp_region ?_
      refine aR 1 ?_
      refine aB h9 ?_
      refine aR 2 ?_
      refine aB h10 ?_
      refine aR 18 ?_
      refine aE ?_
      exact oO hF [] [] rfl
    · refine cE hF (fun h11 hF => ?_) fun h11 hF => ?_
      · refine cE hF (fun h12 hF => ?_) fun h12 hF => ?_
        · refine awp_region ?_
          refine aR 1 ?_
          refine aB h9 ?_
          refine aR 2 ?_
          refine aB h10 ?_
          refine aR 3 ?_
          refine aB h11 ?_
          refine aR 2 ?_
          refine aB h12 ?_
          refine aR 11 ?_
          refine aE ?_
          exact oO hF [] [] rfl
        · refine cE hF (fun h13 hF => ?_) fun h13 hF => ?_
          · refine awp_region ?_
            refine aR 1 ?_
            refine aB h9 ?_
            refine aR 2 ?_
            refine aB h10 ?_
            refine aR 3 ?_
            refine aB h11 ?_
            refine aR 2 ?_
            refine aB h12 ?_
            refine aR 4 ?_
            refine aB h13 ?_
            refine aR 6 ?_
            refine aE ?_
            exact oO hF [] [] rfl
          · refine awp_region ?_
            refine aR 1 ?_
            refine aB h9 ?_
            refine aR 2 ?_
            refine aB h10 ?_
            refine aR 3 ?_
            refine aB h11 ?_
            refine aR 2 ?_
            refine aB h12 ?_
            refine aR 4 ?_
            refine aB h13 ?_
            refine aR 6 ?_
            refine aE ?_
            exact oO hF [] [] rfl
      · refine cE hF (fun h14 hF => ?_) fun h14 hF => ?_
        · refine awp_region ?_
          refine aR 1 ?_
          refine aB h9 ?_
          refine aR 2 ?_
          refine aB h10 ?_
          refine aR 3 ?_
          refine aB h11 ?_
          refine aR 7 ?_
          refine aB h14 ?_
          refine aR 6 ?_
          refine aE ?_
          exact oO hF [] [] rfl
        · refine awp_region ?_
          refine aR 1 ?_
          refine aB h9 ?_
          refine aR 2 ?_
          refine aB h10 ?_
          refine aR 3 ?_
          refine aB h11 ?_
          refine aR 7 ?_
          refine aB h14 ?_
          refine aR 6 ?_
          refine aE ?_
          exact oO hF [] [] rfl
  · refine cE hF (fun h15 hF => ?_) fun h15 hF => ?_
    · refine cE hF (fun h16 hF => ?_) fun h16 hF => ?_
      · refine awp_region ?_
        refine aR 1 ?_
        refine aB h9 ?_
        refine aR 6 ?_
        refine aB h15 ?_
        refine aR 2 ?_
        refine aB h16 ?_
        refine aR 11 ?_
        refine aE ?_
        exact oO hF [] [] rfl
      · refine cE hF (fun h17 hF => ?_) fun h17 hF => ?_
        · refine awp_region ?_
          refine aR 1 ?_
          refine aB h9 ?_
          refine aR 6 ?_
          refine aB h15 ?_
          refine aR 2 ?_
          refine aB h16 ?_
          refine aR 4 ?_
          refine aB h17 ?_
          refine aR 6 ?_
          refine aE ?_
          exact oO hF [] [] rfl
        · refine awp_region ?_
          refine aR 1 ?_
          refine aB h9 ?_
          refine aR 6 ?_
          refine aB h15 ?_
          refine aR 2 ?_
          refine aB h16 ?_
          refine aR 4 ?_
          refine aB h17 ?_
          refine aR 6 ?_
          refine aE ?_
          exact oO hF [] [] rfl
    · refine cE hF (fun h18 hF => ?_) fun h18 hF => ?_
      · refine awp_region ?_
        refine aR 1 ?_
        refine aB h9 ?_
        refine aR 6 ?_
        refine aB h15 ?_
        refine aR 7 ?_
        refine aB h18 ?_
        refine aR 6 ?_
        refine aE ?_
        exact oO hF [] [] rfl
      · refine awp_region ?_
        refine aR 1 ?_
        refine aB h9 ?_
        refine aR 6 ?_
        refine aB h15 ?_
        refine aR 7 ?_
        refine aB h18 ?_
        refine aR 6 ?_
        refine aE ?_
        exact oO hF [] [] rfl

def base_Key_x2_k : Unit ⊕ Unit → AEx
  | .inl _ => .exit 0
  | .inr _ => .ret

def base_Key_x2_S (qs : List UInt8) : Unit ⊕ Unit → St
  | .inl _ => Mem.st ⟨[], []⟩ (tl []) 0
  | .inr _ => Mem.st ⟨[], []⟩ (tl [(2, .v (.one (.d (.bool false))))]) 0

def base_Key_x2_H (qs : List UInt8) : Int → St
  | vx2 => Mem.st ⟨[], []⟩ (tl [(0, .v (.one (.d (.str qs)))), (23, .v (.one (.d (.int .i64 (qs.length : Int))))), (24, .v (.one (.d (.int .i64 vx2))))]) 0

theorem base_Key_x2_ok (qs : List UInt8) (vx2 : Int) (r : (Int) ⊕ (Unit ⊕ Unit)) (hF : base_Key_x2 qs vx2 = some r) : Awp prog 0 54 (cL (cL (cR (cL (cR (cR (cB f64))))))) (Out 0 (kk base_Key_x2_k) (SS (base_Key_x2_H qs) (base_Key_x2_S qs)) r) (base_Key_x2_H qs vx2) := by
  unfold base_Key_x2 at hF
  refine awp_seq ?_
  refine awp_region ?_
  refine aR 1 ?_
  refine aE ?_
  refine awp_seq ?_
  refine cE hF (fun h7 hF => ?_) fun h7 hF => ?_
  · refine awp_true (by kernel_rfl) h7 ?_
    refine awp_skip ?_
    refine awp_seq ?_
    refine awp_block ?_
    refine awp_seq ?_
    refine awp_region ?_
    refine aR 2 ?_
    refine aE ?_
    refine awp_seq ?_
    refine bE hF fun vc2 h8 hF => ?_
    refine awp_region ?_
    refine aR 2 ?_
    refine aX (x_idxS h8) ?_
    refine aR 1 ?_
    refine aE ?_
    refine awp_seq ?_
    refine awp_to (st' := base_Key_x3_I qs vx2 vc2) (oT [] []) ?_
    refine bE hF fun vx4_1 h19 hF => ?_
    refine awp_sub (base_Key_x3_ok qs vx2 vc2 h19) ?_
    refine cE hF (fun h20 hF => ?_) fun h20 hF => ?_
    · refine awp_true (by kernel_rfl) h20 ?_
      refine awp_seq ?_
      refine awp_region ?_
      refine aR 1 ?_
      refine aE ?_
      refine awp_ret ?_
      exact oO hF [] [] rfl
    · refine awp_false (by kernel_rfl) h20 ?_
      refine awp_skip ?_
      refine awp_region ?_
      refine aR 2 ?_
      refine aE ?_
      exact oO hF [] [] rfl
  · refine awp_false (by kernel_rfl) h7 ?_
    refine awp_exit ?_
    exact oO hF [] [] rfl

def base_Key_R (qs : List UInt8) (r : Bool) : TV × Mem := (.v (.one (.d (.bool r))), ⟨[], []⟩)

theorem base_Key_ok {qs : List UInt8} {r} (hF : base_Key qs = some r) : Holds prog 64 [.v (.one (.d (.str qs)))] ⟨[], []⟩ (Is (base_Key_R qs r)) := by
  unfold base_Key at hF
  refine holds_of_awp hΓ (fn := f64) (c := cB f64) (A := 0) (nx := 0) (by kernel_rfl) (by kernel_rfl) (by kernel_rfl) (by kernel_rfl) (by kernel_rfl) (by kernel_rfl) (lowc_of (by kernel_rfl)) ?_
  show Awp prog 0 54 (cB f64) _ _
  refine awp_seq ?_
  refine awp_region ?_
  refine aR 1 ?_
  refine aE ?_
  refine awp_seq ?_
  refine awp_seq ?_
  refine awp_to (st' := base_Key_x1_I qs) (oT [] []) ?_
  refine bE hF fun vx1 h5 hF => ?_
  refine awp_sub (base_Key_x1_ok qs h5) ?_
  refine cE hF (fun h6 hF => ?_) fun h6 hF => ?_
  · refine awp_true (by kernel_rfl) h6 ?_
    refine awp_seq ?_
    refine awp_region ?_
    refine aR 1 ?_
    refine aE ?_
    refine awp_ret ?_
    exact oF hF [] []
  · refine awp_false (by kernel_rfl) h6 ?_
    refine awp_skip ?_
    refine awp_seq ?_
    refine awp_seq ?_
    refine awp_region ?_
    refine aR 3 ?_
    refine aE ?_
    refine awp_block ?_
    refine awp_to (st' := base_Key_x2_H qs 0) (oT [] []) ?_
    refine bE hF fun x h21 hF => ?_
    rcases x with _ | _
    · refine awp_sub (awp_loop' (base_Key_x2_H qs) base_Key_x2_k (base_Key_x2_S qs) (by intro x; rcases x with x | x <;> exact fun h => nomatch h) h21 (base_Key_x2_ok qs)) ?_
      refine awp_seq ?_
      refine awp_region ?_
      refine aR 1 ?_
      refine aE ?_
      refine awp_ret ?_
      exact oF hF [] []
    · refine awp_sub (awp_loop' (base_Key_x2_H qs) base_Key_x2_k (base_Key_x2_S qs) (by intro x; rcases x with x | x <;> exact fun h => nomatch h) h21 (base_Key_x2_ok qs)) ?_
      exact oF hF [] []

/-! ### beaconfleet/base.Out -/
def base_Out_x1_k : Bool → AEx
  | _ => .normal

def base_Out_x1_S (qn : Int) (qlow : Int) (qhigh : Int) : Bool → St
  | vx => Mem.st ⟨[], []⟩ (tl [(6, .v (.one (.d (.bool vx))))]) 0

def base_Out_x1_I (qn : Int) (qlow : Int) (qhigh : Int) : St := Mem.st ⟨[], []⟩ (tl [(0, .v (.one (.d (.int .i64 qn)))), (1, .v (.one (.d (.int .i64 qlow)))), (2, .v (.one (.d (.int .i64 qhigh))))]) 0

theorem base_Out_x1_ok (qn : Int) (qlow : Int) (qhigh : Int) {r} (hF : base_Out_x1 qn qlow qhigh = some r) : Awp prog 0 15 (cL (cR (cB f24))) (Out 0 base_Out_x1_k (base_Out_x1_S qn qlow qhigh) r) (base_Out_x1_I qn qlow qhigh) := by
  unfold base_Out_x1 at hF
  refine cE hF (fun h1 hF => ?_) fun h1 hF => ?_
  · refine awp_region ?_
    refine aR 2 ?_
    refine aB h1 ?_
    refine aR 6 ?_
    refine aE ?_
    exact oO hF [] [] rfl
  · refine awp_region ?_
    refine aR 2 ?_
    refine aB h1 ?_
    refine aR 6 ?_
    refine aE ?_
    exact oO hF [] [] rfl

def base_Out_R (qn : Int) (qlow : Int) (qhigh : Int) (r : Bool) : TV × Mem := (.v (.one (.d (.bool r))), ⟨[], []⟩)

theorem base_Out_ok {qn : Int} {qlow : Int} {qhigh : Int} {r} (hF : base_Out qn qlow qhigh = some r) : Holds prog 24 [.v (.one (.d (.int .i64 qn))), .v (.one (.d (.int .i64 qlow))), .v (.one (.d (.int .i64 qhigh)))] ⟨[], []⟩ (Is (base_Out_R qn qlow qhigh r)) := by
  unfold base_Out at hF
  refine holds_of_awp hΓ (fn := f24) (c := cB f24) (A := 0) (nx := 0) (by kernel_rfl) (by kernel_rfl) (by kernel_rfl) (by kernel_rfl) (by kernel_rfl) (by kernel_rfl) (lowc_of (by kernel_rfl)) ?_
  show Awp prog 0 15 (cB f24) _ _
  refine awp_seq ?_
  refine awp_region ?_
  refine aR 1 ?_
  refine aE ?_
  refine awp_seq ?_
  refine awp_to (st' := base_Out_x1_I qn qlow qhigh) (oT [] []) ?_
  refine bE hF fun vx1 h2 hF => ?_
  refine awp_sub (base_Out_x1_ok qn qlow qhigh h2) ?_
  refine awp_ret ?_
  exact oF hF [] []

/-! ### beaconfleet/base.Moment -/
def base_Moment_R (qn : Int) (r : Bool) : TV × Mem := (.v (.one (.d (.bool r))), ⟨[], []⟩)

theorem base_Moment_ok {qn : Int} {r} (hF : base_Moment qn = some r) : Holds prog 76 [.v (.one (.d (.int .i64 qn)))] ⟨[], []⟩ (Is (base_Moment_R qn r)) := by
  unfold base_Moment at hF
  refine holds_of_awp hΓ (fn := f76) (c := cB f76) (A := 0) (nx := 0) (by kernel_rfl) (by kernel_rfl) (by kernel_rfl) (by kernel_rfl) (by kernel_rfl) (by kernel_rfl) (lowc_of (by kernel_rfl)) ?_
  show Awp prog 0 6 (cB f76) _ _
  refine awp_seq ?_
  refine awp_region ?_
  refine aR 1 ?_
  refine aE ?_
  refine awp_seq ?_
  refine bE hF fun vr h1 hF => ?_
  refine awp_region ?_
  refine aR 1 ?_
  refine aC (base_Out_ok h1) [] [] [] ?_
  refine aR 2 ?_
  refine aE ?_
  refine awp_ret ?_
  exact oF hF [] []

/-! ### beaconfleet/place.spot -/
def place_spot_R (qx : api_Fix) (r : Unit) : TV × Mem := (.v (.agg [.d (.int .i64 qx.X), .d (.int .i64 qx.Y)]), ⟨[], []⟩)

theorem place_spot_ok {qx : api_Fix} {r} (hF : place_spot qx = some r) : Holds prog 26 [.v (.agg [.d (.str qx.Device), .d (.int .i64 qx.At), .d (.int .i64 qx.X), .d (.int .i64 qx.Y), .d (.int .i64 qx.Error)])] ⟨[], []⟩ (Is (place_spot_R qx r)) := by
  unfold place_spot at hF
  refine holds_of_awp hΓ (fn := f26) (c := cB f26) (A := 0) (nx := 0) (by kernel_rfl) (by kernel_rfl) (by kernel_rfl) (by kernel_rfl) (by kernel_rfl) (by kernel_rfl) (lowc_of (by kernel_rfl)) ?_
  show Awp prog 0 8 (cB f26) _ _
  refine awp_seq ?_
  refine awp_region ?_
  refine aR 2 ?_
  refine aE ?_
  refine awp_seq ?_
  refine awp_region ?_
  refine aR 6 ?_
  refine aE ?_
  refine awp_ret ?_
  exact oF hF [] []

/-! ### beaconfleet/place.isSpot -/
def place_isSpot_x1_k : Bool → AEx
  | _ => .normal

def place_isSpot_x1_S (qs : api_Spot) : Bool → St
  | vx => Mem.st ⟨[], []⟩ (tl [(2, .v (.one (.d (.bool vx))))]) 0

def place_isSpot_x1_I (qs : api_Spot) : St := Mem.st ⟨[], [(0, [.d (.int .i64 qs.X), .d (.int .i64 qs.Y)])]⟩ (tl [(1, .v (.one (.box 0 0)))]) 1

theorem place_isSpot_x1_ok (qs : api_Spot) {r} (hF : place_isSpot_x1 qs = some r) : Awp prog 0 13 (cL (cR (cB f52))) (Out 0 place_isSpot_x1_k (place_isSpot_x1_S qs) r) (place_isSpot_x1_I qs) := by
  unfold place_isSpot_x1 at hF
  refine bE hF fun vr h1 hF => ?_
  refine cE hF (fun h2 hF => ?_) fun h2 hF => ?_
  · refine bE hF fun vr1 h3 hF => ?_
    refine awp_region ?_
    refine aR 2 ?_
    refine aC (base_Out_ok h1) [] [] [] ?_
    refine aB h2 ?_
    refine aR 3 ?_
    refine aC (base_Out_ok h3) [] [] [] ?_
    refine aR 3 ?_
    refine aE ?_
    exact oO hF [] [] rfl
  · refine awp_region ?_
    refine aR 2 ?_
    refine aC (base_Out_ok h1) [] [] [] ?_
    refine aB h2 ?_
    refine aR 7 ?_
    refine aE ?_
    exact oO hF [] [] rfl

def place_isSpot_R (qs : api_Spot) (r : Bool) : TV × Mem := (.v (.one (.d (.bool r))), ⟨[], []⟩)

theorem place_isSpot_ok {qs : api_Spot} {r} (hF : place_isSpot qs = some r) : Holds prog 52 [.v (.agg [.d (.int .i64 qs.X), .d (.int .i64 qs.Y)])] ⟨[], []⟩ (Is (place_isSpot_R qs r)) := by
  unfold place_isSpot at hF
  refine holds_of_awp hΓ (fn := f52) (c := cB f52) (A := 0) (nx := 0) (by kernel_rfl) (by kernel_rfl) (by kernel_rfl) (by kernel_rfl) (by kernel_rfl) (by kernel_rfl) (lowc_of (by kernel_rfl)) ?_
  show Awp prog 0 13 (cB f52) _ _
  refine awp_seq ?_
  refine awp_region ?_
  refine aR 2 ?_
  refine aE ?_
  refine awp_seq ?_
  refine awp_to (st' := place_isSpot_x1_I qs) (oT [] []) ?_
  refine bE hF fun vx1 h4 hF => ?_
  refine awp_sub (place_isSpot_x1_ok qs h4) ?_
  refine awp_ret ?_
  exact oF hF [] []

/-! ### internal/bytealg.CompareString -/
def bytealg_CompareString_R (qa : List UInt8) (qb : List UInt8) (r : Unit) : TV × Mem := (.v (.one (.d (.int .i64 (Lib.compareBytes qa qb)))), ⟨[], []⟩)

theorem bytealg_CompareString_ok {qa : List UInt8} {qb : List UInt8} {r} (hF : bytealg_CompareString qa qb = some r) : Holds prog 130 [.v (.one (.d (.str qa))), .v (.one (.d (.str qb)))] ⟨[], []⟩ (Is (bytealg_CompareString_R qa qb r)) := by
  unfold bytealg_CompareString at hF
  refine holds_of_awp hΓ (fn := f130) (c := cB f130) (A := 0) (nx := 0) (by kernel_rfl) (by kernel_rfl) (by kernel_rfl) (by kernel_rfl) (by kernel_rfl) (by kernel_rfl) (lowc_of (by kernel_rfl)) ?_
  show Awp prog 0 8 (cB f130) _ _
  refine awp_seq ?_
  refine awp_region ?_
  refine aR 1 ?_
  refine aE ?_
  refine awp_seq ?_
  refine awp_region ?_
  refine aR 2 ?_
  refine aS (does_cmpstring (g := 158) (fn := f158) (a := qa) (b := qb) rfl (by kernel_rfl) (by kernel_rfl) (by kernel_rfl) (by kernel_rfl) (by kernel_rfl) (by kernel_rfl)) ?_
  refine aR 1 ?_
  refine aE ?_
  refine awp_ret ?_
  exact oF hF [] []

/-! ### strings.Compare -/
def strings_Compare_R (qa : List UInt8) (qb : List UInt8) (r : Unit) : TV × Mem := (.v (.one (.d (.int .i64 (Lib.compareBytes qa qb)))), ⟨[], []⟩)

theorem strings_Compare_ok {qa : List UInt8} {qb : List UInt8} {r} (hF : strings_Compare qa qb = some r) : Holds prog 98 [.v (.one (.d (.str qa))), .v (.one (.d (.str qb)))] ⟨[], []⟩ (Is (strings_Compare_R qa qb r)) := by
  unfold strings_Compare at hF
  refine holds_of_awp hΓ (fn := f98) (c := cB f98) (A := 0) (nx := 0) (by kernel_rfl) (by kernel_rfl) (by kernel_rfl) (by kernel_rfl) (by kernel_rfl) (by kernel_rfl) (lowc_of (by kernel_rfl)) ?_
  show Awp prog 0 8 (cB f98) _ _
  refine awp_seq ?_
  refine awp_region ?_
  refine aR 1 ?_
  refine aE ?_
  refine awp_seq ?_
  refine bE hF fun _ h1 hF => ?_
  refine awp_region ?_
  refine aR 2 ?_
  refine aC (bytealg_CompareString_ok h1) [] [] [] ?_
  refine aR 1 ?_
  refine aE ?_
  refine awp_ret ?_
  exact oF hF [] []

/-! ### cmp.isNaN[int] -/
def cmp_isNaN_int_R (qx : Int) (r : Unit) : TV × Mem := (.v (.one (.d (.bool (!decide (qx = qx))))), ⟨[], []⟩)

theorem cmp_isNaN_int_ok {qx : Int} {r} (hF : cmp_isNaN_int qx = some r) : Holds prog 129 [.v (.one (.d (.int .i64 qx)))] ⟨[], []⟩ (Is (cmp_isNaN_int_R qx r)) := by
  unfold cmp_isNaN_int at hF
  refine holds_of_awp hΓ (fn := f129) (c := cB f129) (A := 0) (nx := 0) (by kernel_rfl) (by kernel_rfl) (by kernel_rfl) (by kernel_rfl) (by kernel_rfl) (by kernel_rfl) (lowc_of (by kernel_rfl)) ?_
  show Awp prog 0 6 (cB f129) _ _
  refine awp_seq ?_
  refine awp_region ?_
  refine aR 1 ?_
  refine aE ?_
  refine awp_seq ?_
  refine awp_region ?_
  refine aR 4 ?_
  refine aE ?_
  refine awp_ret ?_
  exact oF hF [] []

/-! ### cmp.Compare[int] -/
def cmp_Compare_int_R (qx : Int) (qy : Int) (r : Int) : TV × Mem := (.v (.one (.d (.int .i64 r))), ⟨[], []⟩)

theorem cmp_Compare_int_ok {qx : Int} {qy : Int} {r} (hF : cmp_Compare_int qx qy = some r) : Holds prog 97 [.v (.one (.d (.int .i64 qx))), .v (.one (.d (.int .i64 qy)))] ⟨[], []⟩ (Is (cmp_Compare_int_R qx qy r)) := by
  unfold cmp_Compare_int at hF
  refine holds_of_awp hΓ (fn := f97) (c := cB f97) (A := 0) (nx := 0) (by kernel_rfl) (by kernel_rfl) (by kernel_rfl) (by kernel_rfl) (by kernel_rfl) (by kernel_rfl) (lowc_of (by kernel_rfl)) ?_
  show Awp prog 0 20 (cB f97) _ _
  refine awp_seq ?_
  refine awp_region ?_
  refine aR 1 ?_
  refine aE ?_
  refine awp_seq ?_
  refine bE hF fun _ h1 hF => ?_
  refine awp_region ?_
  refine aR 1 ?_
  refine aC (cmp_isNaN_int_ok h1) [] [] [] ?_
  refine aR 1 ?_
  refine aE ?_
  refine awp_seq ?_
  refine bE hF fun _ h2 hF => ?_
  refine awp_region ?_
  refine aR 1 ?_
  refine aC (cmp_isNaN_int_ok h2) [] [] [] ?_
  refine aR 1 ?_
  refine aE ?_
  refine awp_seq ?_
  refine awp_seq ?_
  refine awp_region ?_
  refine aR 1 ?_
  refine aE ?_
  refine cE hF (fun h3 hF => ?_) fun h3 hF => ?_
  · refine awp_true (by kernel_rfl) h3 ?_
    refine awp_seq ?_
    refine awp_seq ?_
    refine awp_region ?_
    refine aR 1 ?_
    refine aE ?_
    refine cE hF (fun h4 hF => ?_) fun h4 hF => ?_
    · refine awp_true (by kernel_rfl) h4 ?_
      refine awp_seq ?_
      refine awp_region ?_
      refine aR 1 ?_
      refine aE ?_
      refine awp_ret ?_
      exact oF hF [] []
    · refine awp_false (by kernel_rfl) h4 ?_
      refine awp_skip ?_
      refine awp_seq ?_
      refine awp_region ?_
      refine aR 1 ?_
      refine aE ?_
      refine awp_ret ?_
      exact oF hF [] []
  · refine awp_false (by kernel_rfl) h3 ?_
    refine awp_skip ?_
    refine awp_seq ?_
    refine awp_seq ?_
    refine awp_region ?_
    refine aR 1 ?_
    refine aE ?_
    refine cE hF (fun h5 hF => ?_) fun h5 hF => ?_
    · refine awp_true (by kernel_rfl) h5 ?_
      refine awp_seq ?_
      refine awp_region ?_
      refine aR 1 ?_
      refine aE ?_
      refine awp_ret ?_
      exact oF hF [] []
    · refine awp_false (by kernel_rfl) h5 ?_
      refine awp_skip ?_
      refine awp_seq ?_
      refine awp_seq ?_
      refine awp_region ?_
      refine aR 3 ?_
      refine aE ?_
      refine cE hF (fun h6 hF => ?_) fun h6 hF => ?_
      · refine awp_true (by kernel_rfl) h6 ?_
        refine awp_seq ?_
        refine awp_region ?_
        refine aR 1 ?_
        refine aE ?_
        refine awp_ret ?_
        exact oF hF [] []
      · refine awp_false (by kernel_rfl) h6 ?_
        refine awp_skip ?_
        refine awp_seq ?_
        refine awp_seq ?_
        refine awp_region ?_
        refine aR 3 ?_
        refine aE ?_
        refine cE hF (fun h7 hF => ?_) fun h7 hF => ?_
        · refine awp_true (by kernel_rfl) h7 ?_
          refine awp_seq ?_
          refine awp_region ?_
          refine aR 1 ?_
          refine aE ?_
          refine awp_ret ?_
          exact oF hF [] []
        · refine awp_false (by kernel_rfl) h7 ?_
          refine awp_skip ?_
          refine awp_seq ?_
          refine awp_region ?_
          refine aR 1 ?_
          refine aE ?_
          refine awp_ret ?_
          exact oF hF [] []

/-! ### cmp.Or[int] -/
def cmp_Or_int_x1_k : Unit ⊕ Int → AEx
  | .inl _ => .exit 0
  | .inr _ => .ret

def cmp_Or_int_x1_S (qvals : List Int) : Unit ⊕ Int → St
  | .inl _ => Mem.st ⟨[], []⟩ (tl [(3, .v (.one (.d (.int .i64 0))))]) 0
  | .inr vx1 => Mem.st ⟨[], []⟩ (tl [(2, .v (.one (.d (.int .i64 vx1))))]) 0

def cmp_Or_int_x1_H (qvals : List Int) : Int → St
  | vx => Mem.st ⟨[], []⟩ (tl [(3, .v (.one (.d (.int .i64 0)))), (6, .v (.one (.d (.lst (List.map (encI .i64) qvals))))), (7, .v (.one (.d (.int .i64 (qvals.length : Int))))), (8, .v (.one (.d (.int .i64 vx))))]) 0

theorem cmp_Or_int_x1_ok (qvals : List Int) (vx : Int) (r : (Int) ⊕ (Unit ⊕ Int)) (hF : cmp_Or_int_x1 qvals vx = some r) : Awp prog 0 18 (cL (cL (cR (cL (cR (cR (cB f96))))))) (Out 0 (kk cmp_Or_int_x1_k) (SS (cmp_Or_int_x1_H qvals) (cmp_Or_int_x1_S qvals)) r) (cmp_Or_int_x1_H qvals vx) := by
  unfold cmp_Or_int_x1 at hF
  refine awp_seq ?_
  refine awp_region ?_
  refine aR 1 ?_
  refine aE ?_
  refine awp_seq ?_
  refine cE hF (fun h1 hF => ?_) fun h1 hF => ?_
  · refine awp_true (by kernel_rfl) h1 ?_
    refine awp_skip ?_
    refine awp_seq ?_
    refine awp_block ?_
    refine awp_seq ?_
    refine bE hF fun vy1 h2 hF => ?_
    refine awp_region ?_
    refine aX (x_idx (encI .i64) h2) ?_
    refine aR 2 ?_
    refine aE ?_
    refine awp_seq ?_
    refine awp_region ?_
    refine aR 3 ?_
    refine aE ?_
    refine cE hF (fun h3 hF => ?_) fun h3 hF => ?_
    · refine awp_true (by kernel_rfl) h3 ?_
      refine awp_seq ?_
      refine awp_region ?_
      refine aR 2 ?_
      refine aE ?_
      refine awp_ret ?_
      exact oO hF [] [] rfl
    · refine awp_false (by kernel_rfl) h3 ?_
      refine awp_skip ?_
      refine awp_region ?_
      refine aR 2 ?_
      refine aE ?_
      exact oO hF [] [] rfl
  · refine awp_false (by kernel_rfl) h1 ?_
    refine awp_exit ?_
    exact oO hF [] [] rfl

def cmp_Or_int_R (qvals : List Int) (r : Int) : TV × Mem := (.v (.one (.d (.int .i64 r))), ⟨[], []⟩)

theorem cmp_Or_int_ok {qvals : List Int} {r} (hF : cmp_Or_int qvals = some r) : Holds prog 96 [.v (.one (.d (.lst (List.map (encI .i64) qvals))))] ⟨[], []⟩ (Is (cmp_Or_int_R qvals r)) := by
  unfold cmp_Or_int at hF
  refine holds_of_awp hΓ (fn := f96) (c := cB f96) (A := 0) (nx := 0) (by kernel_rfl) (by kernel_rfl) (by kernel_rfl) (by kernel_rfl) (by kernel_rfl) (by kernel_rfl) (lowc_of (by kernel_rfl)) ?_
  show Awp prog 0 18 (cB f96) _ _
  refine awp_seq ?_
  refine awp_region ?_
  refine aR 1 ?_
  refine aE ?_
  refine awp_seq ?_
  refine awp_region ?_
  refine aR 1 ?_
  refine aE ?_
  refine awp_seq ?_
  refine awp_seq ?_
  refine awp_region ?_
  refine aR 1 ?_
  refine aL (encI .i64) qvals ?_
  refine aR 1 ?_
  refine aE ?_
  refine awp_block ?_
  refine awp_to (st' := cmp_Or_int_x1_H qvals 0) (oT [] []) ?_
  refine bE hF fun x h4 hF => ?_
  rcases x with _ | vx1_1
  · refine awp_sub (awp_loop' (cmp_Or_int_x1_H qvals) cmp_Or_int_x1_k (cmp_Or_int_x1_S qvals) (by intro x; rcases x with x | x <;> exact fun h => nomatch h) h4 (cmp_Or_int_x1_ok qvals)) ?_
    refine awp_seq ?_
    refine awp_region ?_
    refine aR 2 ?_
    refine aE ?_
    refine awp_ret ?_
    exact oF hF [] []
  · refine awp_sub (awp_loop' (cmp_Or_int_x1_H qvals) cmp_Or_int_x1_k (cmp_Or_int_x1_S qvals) (by intro x; rcases x with x | x <;> exact fun h => nomatch h) h4 (cmp_Or_int_x1_ok qvals)) ?_
    exact oF hF [] []

/-! ### beaconfleet/place.byDevice -/
def place_byDevice_R (qa : api_Fix) (qb : api_Fix) (r : Int) : TV × Mem := (.v (.one (.d (.int .i64 r))), ⟨[], []⟩)

theorem place_byDevice_ok {qa : api_Fix} {qb : api_Fix} {r} (hF : place_byDevice qa qb = some r) : Holds prog 77 [.v (.agg [.d (.str qa.Device), .d (.int .i64 qa.At), .d (.int .i64 qa.X), .d (.int .i64 qa.Y), .d (.int .i64 qa.Error)]), .v (.agg [.d (.str qb.Device), .d (.int .i64 qb.At), .d (.int .i64 qb.X), .d (.int .i64 qb.Y), .d (.int .i64 qb.Error)])] ⟨[], []⟩ (Is (place_byDevice_R qa qb r)) := by
  unfold place_byDevice at hF
  refine holds_of_awp hΓ (fn := f77) (c := cB f77) (A := 0) (nx := 0) (by kernel_rfl) (by kernel_rfl) (by kernel_rfl) (by kernel_rfl) (by kernel_rfl) (by kernel_rfl) (lowc_of (by kernel_rfl)) ?_
  show Awp prog 0 17 (cB f77) _ _
  refine awp_seq ?_
  refine awp_region ?_
  refine aR 3 ?_
  refine aE ?_
  refine awp_seq ?_
  refine bE hF fun _ h1 hF => ?_
  refine bE hF fun vr h2 hF => ?_
  refine bE hF fun vr1 h3 hF => ?_
  refine aD ?_
  refine dR 4 ?_
  refine dC (strings_Compare_ok h1) [] [] [] ?_
  refine dR 4 ?_
  refine dC (cmp_Compare_int_ok h2) [] [] [] ?_
  refine dR 1 ?_
  refine dC (cmp_Or_int_ok h3) [] [] [13000] ?_
  refine dR 1 ?_
  refine dE ?_
  refine awp_ret ?_
  exact oF hF [] []

/-! ### beaconfleet/place.CheckFixes -/
def place_CheckFixes_x2_k : Bool → AEx
  | _ => .normal

def place_CheckFixes_x2_S (ql : List api_Fix) (vx : Int) (vy2 : api_Fix) : Bool → St
  | vx3 => Mem.st ⟨[], [(0, [.d (.str vy2.Device), .d (.int .i64 vy2.At), .d (.int .i64 vy2.X), .d (.int .i64 vy2.Y), .d (.int .i64 vy2.Error)])]⟩ (tl [(0, .v (.one (.d (.lst (List.map api_Fix.enc ql))))), (3, .v (.one (.d (.int .i64 vx)))), (4, .v (.one (.box 0 0))), (8, .v (.one (.d (.lst (List.map api_Fix.enc ql))))), (9, .v (.one (.d (.int .i64 (ql.length : Int))))), (10, .v (.one (.d (.int .i64 vx)))), (20, .v (.one (.d (.bool vx3))))]) 1

def place_CheckFixes_x2_I (ql : List api_Fix) (vx : Int) (vy2 : api_Fix) : St := Mem.st ⟨[], [(0, [.d (.str vy2.Device), .d (.int .i64 vy2.At), .d (.int .i64 vy2.X), .d (.int .i64 vy2.Y), .d (.int .i64 vy2.Error)])]⟩ (tl [(0, .v (.one (.d (.lst (List.map api_Fix.enc ql))))), (3, .v (.one (.d (.int .i64 vx)))), (4, .v (.one (.box 0 0))), (8, .v (.one (.d (.lst (List.map api_Fix.enc ql))))), (9, .v (.one (.d (.int .i64 (ql.length : Int))))), (10, .v (.one (.d (.int .i64 vx))))]) 1

theorem place_CheckFixes_x2_ok (ql : List api_Fix) (vx : Int) (vy2 : api_Fix) {r} (hF : place_CheckFixes_x2 vy2 = some r) : Awp prog 0 50 (cL (cR (cR (cL (cR (cL (cL (cR (cR (cL (cL (cR (cL (cR (cR (cB f40)))))))))))))))) (Out 0 place_CheckFixes_x2_k (place_CheckFixes_x2_S ql vx vy2) r) (place_CheckFixes_x2_I ql vx vy2) := by
  unfold place_CheckFixes_x2 at hF
  refine bE hF fun vr1_1 h6 hF => ?_
  refine cE hF (fun h7 hF => ?_) fun h7 hF => ?_
  · refine awp_region ?_
    refine aR 2 ?_
    refine aC (base_Moment_ok h6) [] [] [] ?_
    refine aB h7 ?_
    refine aR 12 ?_
    refine aE ?_
    exact oO hF [] [] rfl
  · refine bE hF fun _ h8 hF => ?_
    refine bE hF fun vr2_2 h9 hF => ?_
    refine cE hF (fun h10 hF => ?_) fun h10 hF => ?_
    · refine awp_region ?_
      refine aR 2 ?_
      refine aC (base_Moment_ok h6) [] [] [] ?_
      refine aB h7 ?_
      refine aR 2 ?_
      refine aC (place_spot_ok h8) [] [] [] ?_
      refine aC (place_isSpot_ok h9) [] [] [] ?_
      refine aB h10 ?_
      refine aR 7 ?_
      refine aE ?_
      exact oO hF [] [] rfl
    · refine bE hF fun vr5 h11 hF => ?_
      refine awp_region ?_
      refine aR 2 ?_
      refine aC (base_Moment_ok h6) [] [] [] ?_
      refine aB h7 ?_
      refine aR 2 ?_
      refine aC (place_spot_ok h8) [] [] [] ?_
      refine aC (place_isSpot_ok h9) [] [] [] ?_
      refine aB h10 ?_
      refine aR 4 ?_
      refine aC (base_Out_ok h11) [] [] [] ?_
      refine aR 2 ?_
      refine aE ?_
      exact oO hF [] [] rfl

def place_CheckFixes_x3_k : Bool → AEx
  | _ => .normal

def place_CheckFixes_x3_S (ql : List api_Fix) (vx : Int) (vy2 : api_Fix) : Bool → St
  | vx4 => Mem.st ⟨[], []⟩ (tl [(0, .v (.one (.d (.lst (List.map api_Fix.enc ql))))), (8, .v (.one (.d (.lst (List.map api_Fix.enc ql))))), (9, .v (.one (.d (.int .i64 (ql.length : Int))))), (10, .v (.one (.d (.int .i64 vx)))), (36, .v (.one (.d (.bool vx4))))]) 0

def place_CheckFixes_x3_I (ql : List api_Fix) (vx : Int) (vy2 : api_Fix) : St := Mem.st ⟨[], [(0, [.d (.str vy2.Device), .d (.int .i64 vy2.At), .d (.int .i64 vy2.X), .d (.int .i64 vy2.Y), .d (.int .i64 vy2.Error)])]⟩ (tl [(0, .v (.one (.d (.lst (List.map api_Fix.enc ql))))), (3, .v (.one (.d (.int .i64 vx)))), (4, .v (.one (.box 0 0))), (8, .v (.one (.d (.lst (List.map api_Fix.enc ql))))), (9, .v (.one (.d (.int .i64 (ql.length : Int))))), (10, .v (.one (.d (.int .i64 vx))))]) 1

theorem place_CheckFixes_x3_ok (ql : List api_Fix) (vx : Int) (vy2 : api_Fix) {r} (hF : place_CheckFixes_x3 ql vx vy2 = some r) : Awp prog 0 50 (cL (cR (cR (cR (cR (cL (cR (cL (cL (cR (cR (cL (cL (cR (cL (cR (cR (cB f40)))))))))))))))))) (Out 0 place_CheckFixes_x3_k (place_CheckFixes_x3_S ql vx vy2) r) (place_CheckFixes_x3_I ql vx vy2) := by
  unfold place_CheckFixes_x3 at hF
  refine cE hF (fun h14 hF => ?_) fun h14 hF => ?_
  · refine bE hF fun vy3 h15 hF => ?_
    refine bE hF fun vr2_3 h16 hF => ?_
    refine aD ?_
    refine dR 1 ?_
    refine dB h14 ?_
    refine dR 5 ?_
    refine dX (x_idx api_Fix.enc h15) ?_
    refine dR 1 ?_
    refine dC (place_byDevice_ok h16) [] [] [] ?_
    refine dR 3 ?_
    refine dE ?_
    exact oO hF [] [] rfl
  · refine aD ?_
    refine dR 1 ?_
    refine dB h14 ?_
    refine dR 11 ?_
    refine dE ?_
    exact oO hF [] [] rfl

def place_CheckFixes_x1_k : Unit ⊕ Int → AEx
  | .inl _ => .exit 0
  | .inr _ => .ret

def place_CheckFixes_x1_S (ql : List api_Fix) : Unit ⊕ Int → St
  | .inl _ => Mem.st ⟨[], []⟩ (tl []) 0
  | .inr vx5 => Mem.st ⟨[], []⟩ (tl [(2, .v (.one (.d (.int .i64 vx5))))]) 0

def place_CheckFixes_x1_H (ql : List api_Fix) : Int → St
  | vx => Mem.st ⟨[], []⟩ (tl [(0, .v (.one (.d (.lst (List.map api_Fix.enc ql))))), (8, .v (.one (.d (.lst (List.map api_Fix.enc ql))))), (9, .v (.one (.d (.int .i64 (ql.length : Int))))), (10, .v (.one (.d (.int .i64 vx))))]) 0

theorem place_CheckFixes_x1_ok (ql : List api_Fix) (vx : Int) (r : (Int) ⊕ (Unit ⊕ Int)) (hF : place_CheckFixes_x1 ql vx = some r) : Awp prog 0 50 (cL (cL (cR (cL (cR (cR (cB f40))))))) (Out 0 (kk place_CheckFixes_x1_k) (SS (place_CheckFixes_x1_H ql) (place_CheckFixes_x1_S ql)) r) (place_CheckFixes_x1_H ql vx) := by
  unfold place_CheckFixes_x1 at hF
  refine awp_seq ?_
  refine awp_region ?_
  refine aR 1 ?_
  refine aE ?_
  refine awp_seq ?_
  refine cE hF (fun h2 hF => ?_) fun h2 hF => ?_
  · refine awp_true (by kernel_rfl) h2 ?_
    refine awp_skip ?_
    refine awp_seq ?_
    refine awp_block ?_
    refine awp_seq ?_
    refine bE hF fun vy2 h3 hF => ?_
    refine awp_region ?_
    refine aR 1 ?_
    refine aX (x_idx api_Fix.enc h3) ?_
    refine aR 4 ?_
    refine aE ?_
    refine awp_block ?_
    refine awp_seq ?_
    refine bE hF fun vr4 h4 hF => ?_
    refine awp_region ?_
    refine aR 2 ?_
    refine aC (base_Key_ok h4) [] [] [] ?_
    refine aR 2 ?_
    refine aE ?_
    refine cE hF (fun h5 hF => ?_) fun h5 hF => ?_
    · refine awp_true (by kernel_rfl) h5 ?_
      refine awp_seq ?_
      refine awp_region ?_
      refine aR 1 ?_
      refine aE ?_
      refine awp_ret ?_
      exact oO hF [] [] rfl
    · refine awp_false (by kernel_rfl) h5 ?_
      refine awp_seq ?_
      refine awp_to (st' := place_CheckFixes_x2_I ql vx vy2) (oT [(0, 4000)] []) ?_
      refine bE hF fun vx3_1 h12 hF => ?_
      refine awp_sub (place_CheckFixes_x2_ok ql vx vy2 h12) ?_
      refine cE hF (fun h13 hF => ?_) fun h13 hF => ?_
      · refine awp_true (by kernel_rfl) h13 ?_
        refine awp_seq ?_
        refine awp_region ?_
        refine aR 1 ?_
        refine aE ?_
        refine awp_ret ?_
        exact oO hF [] [] rfl
      · refine awp_false (by kernel_rfl) h13 ?_
        refine awp_seq ?_
        refine awp_to (st' := place_CheckFixes_x3_I ql vx vy2) (oT [] []) ?_
        refine bE hF fun vx4_1 h17 hF => ?_
        refine awp_sub (place_CheckFixes_x3_ok ql vx vy2 h17) ?_
        refine cE hF (fun h18 hF => ?_) fun h18 hF => ?_
        · refine awp_true (by kernel_rfl) h18 ?_
          refine awp_seq ?_
          refine awp_region ?_
          refine aR 1 ?_
          refine aE ?_
          refine awp_ret ?_
          exact oO hF [] [] rfl
        · refine awp_false (by kernel_rfl) h18 ?_
          refine awp_skip ?_
          refine awp_region ?_
          refine aR 2 ?_
          refine aE ?_
          exact oO hF [] [] rfl
  · refine awp_false (by kernel_rfl) h2 ?_
    refine awp_exit ?_
    exact oO hF [] [] rfl

def place_CheckFixes_R (ql : List api_Fix) (r : Int) : TV × Mem := (.v (.one (.d (.int .i64 r))), ⟨[], []⟩)

theorem place_CheckFixes_ok {ql : List api_Fix} {r} (hF : place_CheckFixes ql = some r) : Holds prog 40 [.v (.one (.d (.lst (List.map api_Fix.enc ql))))] ⟨[], []⟩ (Is (place_CheckFixes_R ql r)) := by
  unfold place_CheckFixes at hF
  refine holds_of_awp hΓ (fn := f40) (c := cB f40) (A := 0) (nx := 0) (by kernel_rfl) (by kernel_rfl) (by kernel_rfl) (by kernel_rfl) (by kernel_rfl) (by kernel_rfl) (lowc_of (by kernel_rfl)) ?_
  show Awp prog 0 50 (cB f40) _ _
  refine awp_seq ?_
  refine awp_region ?_
  refine aR 1 ?_
  refine aE ?_
  refine awp_seq ?_
  refine awp_seq ?_
  refine awp_region ?_
  refine aR 1 ?_
  refine aL api_Fix.enc ql ?_
  refine aR 1 ?_
  refine aE ?_
  refine cE hF (fun h1 hF => ?_) fun h1 hF => ?_
  · refine awp_true (by kernel_rfl) h1 ?_
    refine awp_seq ?_
    refine awp_region ?_
    refine aR 1 ?_
    refine aE ?_
    refine awp_ret ?_
    exact oF hF [] []
  · refine awp_false (by kernel_rfl) h1 ?_
    refine awp_skip ?_
    refine awp_seq ?_
    refine awp_seq ?_
    refine awp_region ?_
    refine aR 1 ?_
    refine aL api_Fix.enc ql ?_
    refine aR 1 ?_
    refine aE ?_
    refine awp_block ?_
    refine awp_to (st' := place_CheckFixes_x1_H ql 0) (oT [] []) ?_
    refine bE hF fun x h19 hF => ?_
    rcases x with _ | vx5_1
    · refine awp_sub (awp_loop' (place_CheckFixes_x1_H ql) place_CheckFixes_x1_k (place_CheckFixes_x1_S ql) (by intro x; rcases x with x | x <;> exact fun h => nomatch h) h19 (place_CheckFixes_x1_ok ql)) ?_
      refine awp_seq ?_
      refine awp_region ?_
      refine aR 1 ?_
      refine aE ?_
      refine awp_ret ?_
      exact oF hF [] []
    · refine awp_sub (awp_loop' (place_CheckFixes_x1_H ql) place_CheckFixes_x1_k (place_CheckFixes_x1_S ql) (by intro x; rcases x with x | x <;> exact fun h => nomatch h) h19 (place_CheckFixes_x1_ok ql)) ?_
      exact oF hF [] []

/-! ### beaconfleet/place.trackFault$1 -/
def place_trackFault_1_R (qx : api_Fix) (qx1 : List api_Fix) (r : Bool) : TV × Mem := (.v (.one (.d (.bool r))), ⟨[], [(0, [.d (.lst (List.map api_Fix.enc qx1))])]⟩)

theorem place_trackFault_1_ok {qx : api_Fix} {qx1 : List api_Fix} {r} (hF : place_trackFault_1 qx qx1 = some r) : Holds prog 43 [.v (.agg [.d (.str qx.Device), .d (.int .i64 qx.At), .d (.int .i64 qx.X), .d (.int .i64 qx.Y), .d (.int .i64 qx.Error)]), .v (.one (.box 0 0))] ⟨[], [(0, [.d (.lst (List.map api_Fix.enc qx1))])]⟩ (Is (place_trackFault_1_R qx qx1 r)) := by
  unfold place_trackFault_1 at hF
  refine holds_of_awp hΓ (fn := f43) (c := cB f43) (A := 1) (nx := 1) (by kernel_rfl) (by kernel_rfl) (by kernel_rfl) (by kernel_rfl) (by kernel_rfl) (by kernel_rfl) (lowc_of (by kernel_rfl)) ?_
  show Awp prog 1 11 (cB f43) _ _
  refine awp_seq ?_
  refine awp_region ?_
  refine aR 2 ?_
  refine aE ?_
  refine awp_seq ?_
  refine bE hF fun vy h1 hF => ?_
  refine aD ?_
  refine dR 3 ?_
  refine dX (x_idx api_Fix.enc h1) ?_
  refine dR 4 ?_
  refine dE ?_
  refine awp_ret ?_
  exact oF hF [] []

/-! ### slices.IndexFunc[[]beaconfleet/api.Fix,beaconfleet/api.Fix] -/
def slices_IndexFunc_api_Fix_api_Fix_f1_place_trackFault_1_x1_k : Unit ⊕ Int → AEx
  | .inl _ => .exit 0
  | .inr _ => .ret

def slices_IndexFunc_api_Fix_api_Fix_f1_place_trackFault_1_x1_S (qs : List api_Fix) : Unit ⊕ Int → St
  | .inl _ => Mem.st ⟨[], [(0, [.d (.lst (List.map api_Fix.enc qs))])]⟩ (tl []) 1
  | .inr vx1 => Mem.st ⟨[], [(0, [.d (.lst (List.map api_Fix.enc qs))])]⟩ (tl [(4, .v (.one (.d (.int .i64 vx1))))]) 1

def slices_IndexFunc_api_Fix_api_Fix_f1_place_trackFault_1_x1_H (qs : List api_Fix) : Int → St
  | vx => Mem.st ⟨[], [(0, [.d (.lst (List.map api_Fix.enc qs))])]⟩ (tl [(0, .v (.one (.d (.lst (List.map api_Fix.enc qs))))), (1, .v (.one (.fn 43 [0]))), (7, .v (.one (.d (.int .i64 (qs.length : Int))))), (8, .v (.one (.d (.int .i64 vx))))]) 1

theorem slices_IndexFunc_api_Fix_api_Fix_f1_place_trackFault_1_x1_ok (qs : List api_Fix) (vx : Int) (r : (Int) ⊕ (Unit ⊕ Int)) (hF : slices_IndexFunc_api_Fix_api_Fix_f1_place_trackFault_1_x1 qs vx = some r) : Awp prog 1 19 (cL (cL (cR (cL (cR (cB f17)))))) (Out 1 (kk slices_IndexFunc_api_Fix_api_Fix_f1_place_trackFault_1_x1_k) (SS (slices_IndexFunc_api_Fix_api_Fix_f1_place_trackFault_1_x1_H qs) (slices_IndexFunc_api_Fix_api_Fix_f1_place_trackFault_1_x1_S qs)) r) (slices_IndexFunc_api_Fix_api_Fix_f1_place_trackFault_1_x1_H qs vx) := by
  unfold slices_IndexFunc_api_Fix_api_Fix_f1_place_trackFault_1_x1 at hF
  refine awp_seq ?_
  refine awp_region ?_
  refine aR 1 ?_
  refine aE ?_
  refine awp_seq ?_
  refine cE hF (fun h1 hF => ?_) fun h1 hF => ?_
  · refine awp_true (by kernel_rfl) h1 ?_
    refine awp_skip ?_
    refine awp_seq ?_
    refine awp_block ?_
    refine awp_seq ?_
    refine awp_region ?_
    refine aR 2 ?_
    refine aE ?_
    refine awp_seq ?_
    refine bE hF fun vy1 h2 hF => ?_
    refine bE hF fun vr1 h3 hF => ?_
    refine awp_region ?_
    refine aR 3 ?_
    refine aX (x_idx api_Fix.enc h2) ?_
    refine aR 1 ?_
    refine aC (place_trackFault_1_ok h3) [] [] [] ?_
    refine aE ?_
    refine cE hF (fun h4 hF => ?_) fun h4 hF => ?_
    · refine awp_true (by kernel_rfl) h4 ?_
      refine awp_seq ?_
      refine awp_region ?_
      refine aR 2 ?_
      refine aE ?_
      refine awp_ret ?_
      exact oO hF [] [] rfl
    · refine awp_false (by kernel_rfl) h4 ?_
      refine awp_skip ?_
      refine awp_region ?_
      refine aR 2 ?_
      refine aE ?_
      exact oO hF [] [] rfl
  · refine awp_false (by kernel_rfl) h1 ?_
    refine awp_exit ?_
    exact oO hF [] [] rfl

def slices_IndexFunc_api_Fix_api_Fix_f1_place_trackFault_1_R (qs : List api_Fix) (r : Int) : TV × Mem := (.v (.one (.d (.int .i64 r))), ⟨[], [(0, [.d (.lst (List.map api_Fix.enc qs))])]⟩)

theorem slices_IndexFunc_api_Fix_api_Fix_f1_place_trackFault_1_ok {qs : List api_Fix} {r} (hF : slices_IndexFunc_api_Fix_api_Fix_f1_place_trackFault_1 qs = some r) : Holds prog 17 [.v (.one (.d (.lst (List.map api_Fix.enc qs)))), .v (.one (.fn 43 [0]))] ⟨[], [(0, [.d (.lst (List.map api_Fix.enc qs))])]⟩ (Is (slices_IndexFunc_api_Fix_api_Fix_f1_place_trackFault_1_R qs r)) := by
  unfold slices_IndexFunc_api_Fix_api_Fix_f1_place_trackFault_1 at hF
  refine holds_of_awp hΓ (fn := f17) (c := cB f17) (A := 1) (nx := 1) (by kernel_rfl) (by kernel_rfl) (by kernel_rfl) (by kernel_rfl) (by kernel_rfl) (by kernel_rfl) (lowc_of (by kernel_rfl)) ?_
  show Awp prog 1 19 (cB f17) _ _
  refine awp_seq ?_
  refine awp_region ?_
  refine aR 1 ?_
  refine aE ?_
  refine awp_seq ?_
  refine awp_seq ?_
  refine awp_region ?_
  refine aR 1 ?_
  refine aL api_Fix.enc qs ?_
  refine aR 1 ?_
  refine aE ?_
  refine awp_block ?_
  refine awp_to (st' := slices_IndexFunc_api_Fix_api_Fix_f1_place_trackFault_1_x1_H qs 0) (oT [] []) ?_
  refine bE hF fun x h5 hF => ?_
  rcases x with _ | vx1_1
  · refine awp_sub (awp_loop' (slices_IndexFunc_api_Fix_api_Fix_f1_place_trackFault_1_x1_H qs) slices_IndexFunc_api_Fix_api_Fix_f1_place_trackFault_1_x1_k (slices_IndexFunc_api_Fix_api_Fix_f1_place_trackFault_1_x1_S qs) (by intro x; rcases x with x | x <;> exact fun h => nomatch h) h5 (slices_IndexFunc_api_Fix_api_Fix_f1_place_trackFault_1_x1_ok qs)) ?_
    refine awp_seq ?_
    refine awp_region ?_
    refine aR 1 ?_
    refine aE ?_
    refine awp_ret ?_
    exact oF hF [] []
  · refine awp_sub (awp_loop' (slices_IndexFunc_api_Fix_api_Fix_f1_place_trackFault_1_x1_H qs) slices_IndexFunc_api_Fix_api_Fix_f1_place_trackFault_1_x1_k (slices_IndexFunc_api_Fix_api_Fix_f1_place_trackFault_1_x1_S qs) (by intro x; rcases x with x | x <;> exact fun h => nomatch h) h5 (slices_IndexFunc_api_Fix_api_Fix_f1_place_trackFault_1_x1_ok qs)) ?_
    exact oF hF [] []

/-! ### slices.ContainsFunc[[]beaconfleet/api.Fix,beaconfleet/api.Fix] -/
def slices_ContainsFunc_api_Fix_api_Fix_f1_place_trackFault_1_R (qs : List api_Fix) (r : Bool) : TV × Mem := (.v (.one (.d (.bool r))), ⟨[], [(0, [.d (.lst (List.map api_Fix.enc qs))])]⟩)

theorem slices_ContainsFunc_api_Fix_api_Fix_f1_place_trackFault_1_ok {qs : List api_Fix} {r} (hF : slices_ContainsFunc_api_Fix_api_Fix_f1_place_trackFault_1 qs = some r) : Holds prog 42 [.v (.one (.d (.lst (List.map api_Fix.enc qs)))), .v (.one (.fn 43 [0]))] ⟨[], [(0, [.d (.lst (List.map api_Fix.enc qs))])]⟩ (Is (slices_ContainsFunc_api_Fix_api_Fix_f1_place_trackFault_1_R qs r)) := by
  unfold slices_ContainsFunc_api_Fix_api_Fix_f1_place_trackFault_1 at hF
  refine holds_of_awp hΓ (fn := f42) (c := cB f42) (A := 1) (nx := 1) (by kernel_rfl) (by kernel_rfl) (by kernel_rfl) (by kernel_rfl) (by kernel_rfl) (by kernel_rfl) (lowc_of (by kernel_rfl)) ?_
  show Awp prog 1 9 (cB f42) _ _
  refine awp_seq ?_
  refine awp_region ?_
  refine aR 1 ?_
  refine aE ?_
  refine awp_seq ?_
  refine bE hF fun vr2 h1 hF => ?_
  refine awp_region ?_
  refine aR 2 ?_
  refine aC (slices_IndexFunc_api_Fix_api_Fix_f1_place_trackFault_1_ok h1) [] [] [] ?_
  refine aR 2 ?_
  refine aE ?_
  refine awp_ret ?_
  exact oF hF [] []

/-! ### beaconfleet/place.trackFault -/
def place_trackFault_R (ql : List api_Fix) (r : Int) : TV × Mem := (.v (.one (.d (.int .i64 r))), ⟨[], []⟩)

theorem place_trackFault_ok {ql : List api_Fix} {r} (hF : place_trackFault ql = some r) : Holds prog 23 [.v (.one (.d (.lst (List.map api_Fix.enc ql))))] ⟨[], []⟩ (Is (place_trackFault_R ql r)) := by
  unfold place_trackFault at hF
  refine holds_of_awp hΓ (fn := f23) (c := cB f23) (A := 0) (nx := 0) (by kernel_rfl) (by kernel_rfl) (by kernel_rfl) (by kernel_rfl) (by kernel_rfl) (by kernel_rfl) (lowc_of (by kernel_rfl)) ?_
  show Awp prog 0 12 (cB f23) _ _
  refine awp_seq ?_
  refine awp_region ?_
  refine aR 2 ?_
  refine aE ?_
  refine awp_seq ?_
  refine awp_seq ?_
  refine bE hF fun vr6 h1 hF => ?_
  refine awp_region ?_
  refine aR 1 ?_
  refine aC (place_CheckFixes_ok h1) [] [] [] ?_
  refine aR 1 ?_
  refine aE ?_
  refine awp_seq ?_
  refine awp_region ?_
  refine aR 2 ?_
  refine aE ?_
  refine cE hF (fun h2 hF => ?_) fun h2 hF => ?_
  · refine awp_true (by kernel_rfl) h2 ?_
    refine awp_seq ?_
    refine awp_region ?_
    refine aR 2 ?_
    refine aE ?_
    refine awp_ret ?_
    exact oF hF [] []
  · refine awp_false (by kernel_rfl) h2 ?_
    refine awp_skip ?_
    refine awp_seq ?_
    refine awp_seq ?_
    refine bE hF fun vr h3 hF => ?_
    refine awp_region ?_
    refine aR 2 ?_
    refine aC (slices_ContainsFunc_api_Fix_api_Fix_f1_place_trackFault_1_ok h3) [] [] [] ?_
    refine aE ?_
    refine cE hF (fun h4 hF => ?_) fun h4 hF => ?_
    · refine awp_true (by kernel_rfl) h4 ?_
      refine awp_seq ?_
      refine awp_region ?_
      refine aR 1 ?_
      refine aE ?_
      refine awp_ret ?_
      exact oF hF [] []
    · refine awp_false (by kernel_rfl) h4 ?_
      refine awp_skip ?_
      refine awp_seq ?_
      refine awp_region ?_
      refine aR 1 ?_
      refine aE ?_
      refine awp_ret ?_
      exact oF hF [] []

/-! ### beaconfleet/place.square -/
def place_square_R (qa : api_Spot) (qb : api_Spot) (r : Unit) : TV × Mem := (.v (.one (.d (.int .i64 (IntKind.wrap .i64 ((IntKind.wrap .i64 ((IntKind.wrap .i64 (qa.X - qb.X)) * (IntKind.wrap .i64 (qa.X - qb.X)))) + (IntKind.wrap .i64 ((IntKind.wrap .i64 (qa.Y - qb.Y)) * (IntKind.wrap .i64 (qa.Y - qb.Y))))))))), ⟨[], []⟩)

theorem place_square_ok {qa : api_Spot} {qb : api_Spot} {r} (hF : place_square qa qb = some r) : Holds prog 25 [.v (.agg [.d (.int .i64 qa.X), .d (.int .i64 qa.Y)]), .v (.agg [.d (.int .i64 qb.X), .d (.int .i64 qb.Y)])] ⟨[], []⟩ (Is (place_square_R qa qb r)) := by
  unfold place_square at hF
  refine holds_of_awp hΓ (fn := f25) (c := cB f25) (A := 0) (nx := 0) (by kernel_rfl) (by kernel_rfl) (by kernel_rfl) (by kernel_rfl) (by kernel_rfl) (by kernel_rfl) (lowc_of (by kernel_rfl)) ?_
  show Awp prog 0 28 (cB f25) _ _
  refine awp_seq ?_
  refine awp_region ?_
  refine aR 3 ?_
  refine aE ?_
  refine awp_seq ?_
  refine awp_region ?_
  refine aR 24 ?_
  refine aE ?_
  refine awp_ret ?_
  exact oF hF [] []

/-! ### beaconfleet/twin.CheckProps -/
def twin_CheckProps_n0_x1_k : Unit → AEx
  | _ => .exit 0

def twin_CheckProps_n0_x1_S : Unit → St
  | _ => Mem.st ⟨[], [(0, [.nil])]⟩ (tl [(1, .v (.one (.box 0 0)))]) 1

def twin_CheckProps_n0_x1_H : Unit → St
  | _ => Mem.st ⟨[], [(0, [.nil])]⟩ (tl [(1, .v (.one (.box 0 0))), (11, .v (.one (.nil))), (12, .v (.one (.d (.int .i64 0)))), (13, .v (.one (.d (.int .i64 0))))]) 1

theorem twin_CheckProps_n0_x1_ok (s : Unit) (r : (Unit) ⊕ (Unit)) (hF : twin_CheckProps_n0_x1  s = some r) : Awp prog 0 57 (cL (cL (cR (cL (cR (cR (cB f44))))))) (Out 0 (kk twin_CheckProps_n0_x1_k) (SS (twin_CheckProps_n0_x1_H ) (twin_CheckProps_n0_x1_S )) r) (twin_CheckProps_n0_x1_H  s) := by
  unfold twin_CheckProps_n0_x1 at hF
  refine awp_seq ?_
  refine awp_region ?_
  refine aR 1 ?_
  refine aE ?_
  refine awp_seq ?_
  refine cE hF (fun h2 hF => ?_) fun h2 hF => ?_
  · refine awp_true (by kernel_rfl) h2 ?_
    refine awp_skip ?_
    refine awp_seq ?_
    refine awp_block ?_
    refine awp_seq ?_
    exact nE hF
  · refine awp_false (by kernel_rfl) h2 ?_
    refine awp_exit ?_
    exact oO hF [] [] rfl

def twin_CheckProps_n0_x2_k : Unit → AEx
  | _ => .exit 2

def twin_CheckProps_n0_x2_S : Unit → St
  | _ => Mem.st ⟨[], []⟩ (tl []) 0

def twin_CheckProps_n0_x2_H : Unit → St
  | _ => Mem.st ⟨[], [(0, [.nil])]⟩ (tl [(1, .v (.one (.box 0 0))), (46, .v (.one (.nil))), (47, .v (.one (.d (.int .i64 0)))), (48, .v (.one (.d (.int .i64 0))))]) 1

theorem twin_CheckProps_n0_x2_ok (s : Unit) (r : (Unit) ⊕ (Unit)) (hF : twin_CheckProps_n0_x2  s = some r) : Awp prog 0 57 (cL (cL (cR (cL (cR (cR (cR (cB f44)))))))) (Out 0 (kk twin_CheckProps_n0_x2_k) (SS (twin_CheckProps_n0_x2_H ) (twin_CheckProps_n0_x2_S )) r) (twin_CheckProps_n0_x2_H  s) := by
  unfold twin_CheckProps_n0_x2 at hF
  refine awp_seq ?_
  refine awp_region ?_
  refine aR 1 ?_
  refine aE ?_
  refine awp_seq ?_
  refine cE hF (fun h5 hF => ?_) fun h5 hF => ?_
  · refine awp_true (by kernel_rfl) h5 ?_
    refine awp_skip ?_
    refine awp_seq ?_
    refine awp_block ?_
    refine awp_seq ?_
    exact nE hF
  · refine awp_false (by kernel_rfl) h5 ?_
    refine awp_exit ?_
    exact oO hF [] [] rfl

def twin_CheckProps_n0_R (r : Int) : TV × Mem := (.v (.one (.d (.int .i64 r))), ⟨[], []⟩)

theorem twin_CheckProps_n0_ok {r} (hF : twin_CheckProps_n0 = some r) : Holds prog 44 [.v (.one (.nil))] ⟨[], []⟩ (Is (twin_CheckProps_n0_R  r)) := by
  unfold twin_CheckProps_n0 at hF
  refine holds_of_awp hΓ (fn := f44) (c := cB f44) (A := 0) (nx := 0) (by kernel_rfl) (by kernel_rfl) (by kernel_rfl) (by kernel_rfl) (by kernel_rfl) (by kernel_rfl) (lowc_of (by kernel_rfl)) ?_
  show Awp prog 0 57 (cB f44) _ _
  refine awp_seq ?_
  refine awp_region ?_
  refine aR 2 ?_
  refine aE ?_
  refine awp_seq ?_
  refine awp_seq ?_
  refine awp_region ?_
  refine aR 3 ?_
  refine aE ?_
  refine cE hF (fun h1 hF => ?_) fun h1 hF => ?_
  · refine awp_true (by kernel_rfl) h1 ?_
    refine awp_seq ?_
    refine awp_region ?_
    refine aR 1 ?_
    refine aE ?_
    refine awp_ret ?_
    exact oF hF [] []
  · refine awp_false (by kernel_rfl) h1 ?_
    refine awp_skip ?_
    refine awp_seq ?_
    refine awp_seq ?_
    refine awp_region ?_
    refine aR 3 ?_
    refine aE ?_
    refine awp_block ?_
    refine awp_to (st' := twin_CheckProps_n0_x1_H  ()) (oT [] []) ?_
    refine bE hF fun _ h4 hF => ?_
    refine awp_sub (awp_loop' (twin_CheckProps_n0_x1_H ) twin_CheckProps_n0_x1_k (twin_CheckProps_n0_x1_S ) (by intro x; exact fun h => nomatch h) h4 (twin_CheckProps_n0_x1_ok )) ?_
    refine awp_seq ?_
    refine awp_seq ?_
    refine awp_region ?_
    refine aR 3 ?_
    refine aE ?_
    refine awp_block ?_
    refine awp_to (st' := twin_CheckProps_n0_x2_H  ()) (oT [] []) ?_
    refine bE hF fun _ h7 hF => ?_
    refine awp_sub (awp_loop' (twin_CheckProps_n0_x2_H ) twin_CheckProps_n0_x2_k (twin_CheckProps_n0_x2_S ) (by intro x; exact fun h => nomatch h) h7 (twin_CheckProps_n0_x2_ok )) ?_
    refine awp_seq ?_
    refine awp_region ?_
    refine aR 1 ?_
    refine aE ?_
    refine awp_ret ?_
    exact oF hF [] []

/-! ### internal/stringslite.IndexByte -/
def stringslite_IndexByte_R (qs : List UInt8) (qc : Int) (r : Unit) : TV × Mem := (.v (.one (.d (.int .i64 (Lib.indexByte qs qc.toNat.toUInt8)))), ⟨[], []⟩)

theorem stringslite_IndexByte_ok {qs : List UInt8} {qc : Int} {r} (hF : stringslite_IndexByte qs qc = some r) : Holds prog 172 [.v (.one (.d (.str qs))), .v (.one (.d (.int .u8 qc)))] ⟨[], []⟩ (Is (stringslite_IndexByte_R qs qc r)) := by
  unfold stringslite_IndexByte at hF
  refine holds_of_awp hΓ (fn := f172) (c := cB f172) (A := 0) (nx := 0) (by kernel_rfl) (by kernel_rfl) (by kernel_rfl) (by kernel_rfl) (by kernel_rfl) (by kernel_rfl) (lowc_of (by kernel_rfl)) ?_
  show Awp prog 0 8 (cB f172) _ _
  refine awp_seq ?_
  refine awp_region ?_
  refine aR 1 ?_
  refine aE ?_
  refine awp_seq ?_
  refine awp_region ?_
  refine aR 2 ?_
  refine aS (does_indexByte (g := 182) (fn := f182) (a := qs) (c := qc) rfl (by kernel_rfl) (by kernel_rfl) (by kernel_rfl) (by kernel_rfl) (by kernel_rfl) (by kernel_rfl)) ?_
  refine aR 1 ?_
  refine aE ?_
  refine awp_ret ?_
  exact oF hF [] []

/-! ### internal/stringslite.Index -/
def stringslite_Index_x1_k : Bool → AEx
  | _ => .normal

def stringslite_Index_x1_S (qx : List UInt8) (qx1 : List UInt8) : Bool → St
  | vx => Mem.st ⟨[], []⟩ (tl [(0, .v (.one (.d (.str qx)))), (1, .v (.one (.d (.str qx1)))), (5, .v (.one (.d (.int .i64 (qx1.length : Int))))), (16, .v (.one (.d (.bool vx))))]) 0

def stringslite_Index_x1_I (qx : List UInt8) (qx1 : List UInt8) : St := Mem.st ⟨[], []⟩ (tl [(0, .v (.one (.d (.str qx)))), (1, .v (.one (.d (.str qx1)))), (5, .v (.one (.d (.int .i64 (qx1.length : Int)))))]) 0

theorem stringslite_Index_x1_ok (qx : List UInt8) (qx1 : List UInt8) {r} (hF : stringslite_Index_x1 qx qx1 = some r) : Awp prog 0 143 (cL (cL (cL (cR (cR (cB f151)))))) (Out 0 stringslite_Index_x1_k (stringslite_Index_x1_S qx qx1) r) (stringslite_Index_x1_I qx qx1) := by
  unfold stringslite_Index_x1 at hF
  refine cE hF (fun h1 hF => ?_) fun h1 hF => ?_
  · refine awp_region ?_
    refine aR 1 ?_
    refine aB h1 ?_
    refine aR 6 ?_
    refine aE ?_
    exact oO hF [] [] rfl
  · refine awp_region ?_
    refine aR 1 ?_
    refine aB h1 ?_
    refine aR 6 ?_
    refine aE ?_
    exact oO hF [] [] rfl

def stringslite_Index_R (qx : List UInt8) (qx1 : List UInt8) (r : Int) : TV × Mem := (.v (.one (.d (.int .i64 r))), ⟨[], []⟩)

theorem stringslite_Index_ok {qx : List UInt8} {qx1 : List UInt8} {r} (hF : stringslite_Index qx qx1 = some r) : Holds prog 151 [.v (.one (.d (.str qx))), .v (.one (.d (.str qx1)))] ⟨[], []⟩ (Is (stringslite_Index_R qx qx1 r)) := by
  unfold stringslite_Index at hF
  refine holds_of_awp hΓ (fn := f151) (c := cB f151) (A := 0) (nx := 0) (by kernel_rfl) (by kernel_rfl) (by kernel_rfl) (by kernel_rfl) (by kernel_rfl) (by kernel_rfl) (lowc_of (by kernel_rfl)) ?_
  show Awp prog 0 143 (cB f151) _ _
  refine awp_seq ?_
  refine awp_region ?_
  refine aR 1 ?_
  refine aE ?_
  refine awp_seq ?_
  refine awp_region ?_
  refine aR 3 ?_
  refine aE ?_
  refine awp_seq ?_
  refine awp_block ?_
  refine awp_seq ?_
  refine awp_to (st' := stringslite_Index_x1_I qx qx1) (oT [] []) ?_
  refine bE hF fun vx1 h2 hF => ?_
  refine awp_sub (stringslite_Index_x1_ok qx qx1 h2) ?_
  refine cE hF (fun h3 hF => ?_) fun h3 hF => ?_
  · refine awp_true (by kernel_rfl) h3 ?_
    refine awp_seq ?_
    refine awp_region ?_
    refine aR 1 ?_
    refine aE ?_
    refine awp_ret ?_
    exact oF hF [] []
  · refine awp_false (by kernel_rfl) h3 ?_
    refine awp_seq ?_
    refine awp_region ?_
    refine aR 3 ?_
    refine aE ?_
    refine cE hF (fun h4 hF => ?_) fun h4 hF => ?_
    · refine awp_true (by kernel_rfl) h4 ?_
      refine awp_seq ?_
      refine bE hF fun vc h5 hF => ?_
      refine bE hF fun _ h6 hF => ?_
      refine awp_region ?_
      refine aR 2 ?_
      refine aX (x_idxS h5) ?_
      refine aC (stringslite_IndexByte_ok h6) [] [] [] ?_
      refine aR 1 ?_
      refine aE ?_
      refine awp_ret ?_
      exact oF hF [] []
    · refine awp_false (by kernel_rfl) h4 ?_
      refine awp_seq ?_
      refine awp_region ?_
      refine aR 5 ?_
      refine aE ?_
      refine cE hF (fun h7 hF => ?_) fun h7 hF => ?_
      · refine awp_true (by kernel_rfl) h7 ?_
        refine awp_seq ?_
        refine awp_region ?_
        refine aR 1 ?_
        refine aE ?_
        refine awp_ret ?_
        exact oF hF [] []
      · refine awp_false (by kernel_rfl) h7 ?_
        refine awp_seq ?_
        exact nE hF

/-! ### internal/stringslite.Cut -/
def stringslite_Cut_R (qs : List UInt8) (qsep : List UInt8) (r : (List UInt8) × (List UInt8) × Bool) : TV × Mem := (.tup [.one (.d (.str r.1)), .one (.d (.str r.2.1)), .one (.d (.bool r.2.2))], ⟨[], []⟩)

theorem stringslite_Cut_ok {qs : List UInt8} {qsep : List UInt8} {r} (hF : stringslite_Cut qs qsep = some r) : Holds prog 160 [.v (.one (.d (.str qs))), .v (.one (.d (.str qsep)))] ⟨[], []⟩ (Is (stringslite_Cut_R qs qsep r)) := by
  unfold stringslite_Cut at hF
  refine holds_of_awp hΓ (fn := f160) (c := cB f160) (A := 0) (nx := 0) (by kernel_rfl) (by kernel_rfl) (by kernel_rfl) (by kernel_rfl) (by kernel_rfl) (by kernel_rfl) (lowc_of (by kernel_rfl)) ?_
  show Awp prog 0 23 (cB f160) _ _
  refine awp_seq ?_
  refine awp_region ?_
  refine aR 3 ?_
  refine aE ?_
  refine awp_seq ?_
  refine awp_seq ?_
  refine bE hF fun vr h1 hF => ?_
  refine awp_region ?_
  refine aR 2 ?_
  refine aC (stringslite_Index_ok h1) [] [] [] ?_
  refine aR 1 ?_
  refine aE ?_
  refine awp_seq ?_
  refine awp_region ?_
  refine aR 2 ?_
  refine aE ?_
  refine cE hF (fun h2 hF => ?_) fun h2 hF => ?_
  · refine awp_true (by kernel_rfl) h2 ?_
    refine awp_seq ?_
    refine bE hF fun vs h3 hF => ?_
    refine bE hF fun vs1 h4 hF => ?_
    refine aD ?_
    refine dR 2 ?_
    refine dX (x_sliceS h3) ?_
    refine dR 5 ?_
    refine dX (x_sliceS h4) ?_
    refine dR 3 ?_
    refine dE ?_
    refine awp_ret ?_
    exact oF hF [] []
  · refine awp_false (by kernel_rfl) h2 ?_
    refine awp_skip ?_
    refine awp_seq ?_
    refine awp_region ?_
    refine aR 4 ?_
    refine aE ?_
    refine awp_ret ?_
    exact oF hF [] []

/-! ### strings.Cut -/
def strings_Cut_R (qs : List UInt8) (qsep : List UInt8) (r : (List UInt8) × (List UInt8) × Bool) : TV × Mem := (.tup [.one (.d (.str r.1)), .one (.d (.str r.2.1)), .one (.d (.bool r.2.2))], ⟨[], []⟩)

theorem strings_Cut_ok {qs : List UInt8} {qsep : List UInt8} {r} (hF : strings_Cut qs qsep = some r) : Holds prog 135 [.v (.one (.d (.str qs))), .v (.one (.d (.str qsep)))] ⟨[], []⟩ (Is (strings_Cut_R qs qsep r)) := by
  unfold strings_Cut at hF
  refine holds_of_awp hΓ (fn := f135) (c := cB f135) (A := 0) (nx := 0) (by kernel_rfl) (by kernel_rfl) (by kernel_rfl) (by kernel_rfl) (by kernel_rfl) (by kernel_rfl) (lowc_of (by kernel_rfl)) ?_
  show Awp prog 0 13 (cB f135) _ _
  refine awp_seq ?_
  refine awp_region ?_
  refine aR 3 ?_
  refine aE ?_
  refine awp_seq ?_
  refine bE hF fun x h1 hF => ?_
  obtain ⟨vr1, vr2, vr3⟩ := x
  refine awp_region ?_
  refine aR 2 ?_
  refine aC (stringslite_Cut_ok h1) [] [] [] ?_
  refine aR 6 ?_
  refine aE ?_
  refine awp_ret ?_
  exact oF hF [] []

/-! ### beaconfleet/base.Dotted -/
def base_Dotted_x1_k : Unit ⊕ Bool → AEx
  | .inl _ => .exit 0
  | .inr _ => .ret

def base_Dotted_x1_S (qmost : Int) : Unit ⊕ Bool → St
  | .inl _ => Mem.st ⟨[], []⟩ (tl []) 0
  | .inr vx => Mem.st ⟨[], []⟩ (tl [(4, .v (.one (.d (.bool vx))))]) 0

def base_Dotted_x1_H (qmost : Int) : (List UInt8) × Int → St
  | (vs, vn) => Mem.st ⟨[], []⟩ (tl [(0, .v (.one (.d (.str vs)))), (1, .v (.one (.d (.int .i64 qmost)))), (5, .v (.one (.d (.int .i64 vn))))]) 0

theorem base_Dotted_x1_ok (qmost : Int) (s : (List UInt8) × Int) (r : ((List UInt8) × Int) ⊕ (Unit ⊕ Bool)) (hF : base_Dotted_x1 qmost s = some r) : Awp prog 0 26 (cL (cL (cR (cL (cR (cB f107)))))) (Out 0 (kk base_Dotted_x1_k) (SS (base_Dotted_x1_H qmost) (base_Dotted_x1_S qmost)) r) (base_Dotted_x1_H qmost s) := by
  obtain ⟨vs, vn⟩ := s
  unfold base_Dotted_x1 at hF
  refine awp_seq ?_
  refine awp_seq ?_
  refine awp_region ?_
  refine aR 3 ?_
  refine aE ?_
  refine cE hF (fun h1 hF => ?_) fun h1 hF => ?_
  · refine awp_true (by kernel_rfl) h1 ?_
    refine awp_skip ?_
    refine awp_seq ?_
    refine awp_block ?_
    refine awp_seq ?_
    refine bE hF fun x h2 hF => ?_
    obtain ⟨vr2, vr4_1, vr5_1⟩ := x
    refine awp_region ?_
    refine aR 1 ?_
    refine aC (strings_Cut_ok h2) [] [] [] ?_
    refine aR 7 ?_
    refine aE ?_
    refine awp_seq ?_
    refine awp_seq ?_
    refine bE hF fun vr3 h3 hF => ?_
    refine awp_region ?_
    refine aR 1 ?_
    refine aC (base_Key_ok h3) [] [] [] ?_
    refine aR 1 ?_
    refine aE ?_
    refine cE hF (fun h4 hF => ?_) fun h4 hF => ?_
    · refine awp_true (by kernel_rfl) h4 ?_
      refine awp_seq ?_
      refine awp_region ?_
      refine aR 1 ?_
      refine aE ?_
      refine awp_ret ?_
      exact oO hF [] [] rfl
    · refine awp_false (by kernel_rfl) h4 ?_
      refine awp_skip ?_
      refine awp_seq ?_
      refine awp_seq ?_
      refine awp_region ?_
      refine aR 2 ?_
      refine aE ?_
      refine cE hF (fun h5 hF => ?_) fun h5 hF => ?_
      · refine awp_true (by kernel_rfl) h5 ?_
        refine awp_seq ?_
        refine awp_region ?_
        refine aR 1 ?_
        refine aE ?_
        refine awp_ret ?_
        exact oO hF [] [] rfl
      · refine awp_false (by kernel_rfl) h5 ?_
        refine awp_skip ?_
        refine awp_region ?_
        refine aR 2 ?_
        refine aE ?_
        refine awp_region ?_
        refine aR 3 ?_
        refine aE ?_
        exact oO hF [] [] rfl
  · refine awp_false (by kernel_rfl) h1 ?_
    refine awp_exit ?_
    exact oO hF [] [] rfl

def base_Dotted_R (qs : List UInt8) (qmost : Int) (r : Bool) : TV × Mem := (.v (.one (.d (.bool r))), ⟨[], []⟩)

theorem base_Dotted_ok {qs : List UInt8} {qmost : Int} {r} (hF : base_Dotted qs qmost = some r) : Holds prog 107 [.v (.one (.d (.str qs))), .v (.one (.d (.int .i64 qmost)))] ⟨[], []⟩ (Is (base_Dotted_R qs qmost r)) := by
  unfold base_Dotted at hF
  refine holds_of_awp hΓ (fn := f107) (c := cB f107) (A := 0) (nx := 0) (by kernel_rfl) (by kernel_rfl) (by kernel_rfl) (by kernel_rfl) (by kernel_rfl) (by kernel_rfl) (lowc_of (by kernel_rfl)) ?_
  show Awp prog 0 26 (cB f107) _ _
  refine awp_seq ?_
  refine awp_region ?_
  refine aR 1 ?_
  refine aE ?_
  refine awp_seq ?_
  refine awp_seq ?_
  refine awp_region ?_
  refine aR 1 ?_
  refine aE ?_
  refine awp_block ?_
  refine awp_to (st' := base_Dotted_x1_H qmost (qs, 0)) (oT [] []) ?_
  refine bE hF fun x h6 hF => ?_
  rcases x with _ | vx1
  · refine awp_sub (awp_loop' (base_Dotted_x1_H qmost) base_Dotted_x1_k (base_Dotted_x1_S qmost) (by intro x; rcases x with x | x <;> exact fun h => nomatch h) h6 (base_Dotted_x1_ok qmost)) ?_
    refine awp_seq ?_
    refine awp_region ?_
    refine aR 1 ?_
    refine aE ?_
    refine awp_ret ?_
    exact oF hF [] []
  · refine awp_sub (awp_loop' (base_Dotted_x1_H qmost) base_Dotted_x1_k (base_Dotted_x1_S qmost) (by intro x; rcases x with x | x <;> exact fun h => nomatch h) h6 (base_Dotted_x1_ok qmost)) ?_
    exact oF hF [] []

/-! ### beaconfleet/twin.isName -/
def twin_isName_R (qs : List UInt8) (r : Bool) : TV × Mem := (.v (.one (.d (.bool r))), ⟨[], []⟩)

theorem twin_isName_ok {qs : List UInt8} {r} (hF : twin_isName qs = some r) : Holds prog 78 [.v (.one (.d (.str qs)))] ⟨[], []⟩ (Is (twin_isName_R qs r)) := by
  unfold twin_isName at hF
  refine holds_of_awp hΓ (fn := f78) (c := cB f78) (A := 0) (nx := 0) (by kernel_rfl) (by kernel_rfl) (by kernel_rfl) (by kernel_rfl) (by kernel_rfl) (by kernel_rfl) (lowc_of (by kernel_rfl)) ?_
  show Awp prog 0 5 (cB f78) _ _
  refine awp_seq ?_
  refine awp_region ?_
  refine aR 1 ?_
  refine aE ?_
  refine awp_seq ?_
  refine bE hF fun vr6 h1 hF => ?_
  refine awp_region ?_
  refine aR 1 ?_
  refine aC (base_Dotted_ok h1) [] [] [] ?_
  refine aR 1 ?_
  refine aE ?_
  refine awp_ret ?_
  exact oF hF [] []

/-! ### unicode/utf8.word[string] -/
def utf8_word_string_R (qs : List UInt8) (r : Int) : TV × Mem := (.v (.one (.d (.int .u64 r))), ⟨[], []⟩)

theorem utf8_word_string_ok {qs : List UInt8} {r} (hF : utf8_word_string qs = some r) : Holds prog 152 [.v (.one (.d (.str qs)))] ⟨[], []⟩ (Is (utf8_word_string_R qs r)) := by
  unfold utf8_word_string at hF
  refine holds_of_awp hΓ (fn := f152) (c := cB f152) (A := 0) (nx := 0) (by kernel_rfl) (by kernel_rfl) (by kernel_rfl) (by kernel_rfl) (by kernel_rfl) (by kernel_rfl) (lowc_of (by kernel_rfl)) ?_
  show Awp prog 0 59 (cB f152) _ _
  refine awp_seq ?_
  refine awp_region ?_
  refine aR 1 ?_
  refine aE ?_
  refine awp_seq ?_
  refine awp_false (by kernel_rfl) rfl ?_
  refine awp_skip ?_
  refine awp_seq ?_
  refine bE hF fun vc h1 hF => ?_
  refine bE hF fun vc1 h2 hF => ?_
  refine bE hF fun vc2 h3 hF => ?_
  refine bE hF fun vc3 h4 hF => ?_
  refine bE hF fun vc4 h5 hF => ?_
  refine bE hF fun vc5 h6 hF => ?_
  refine bE hF fun vc6 h7 hF => ?_
  refine bE hF fun vc7 h8 hF => ?_
  refine aD ?_
  refine dR 1 ?_
  refine dX (x_idxS h1) ?_
  refine dR 2 ?_
  refine dX (x_idxS h2) ?_
  refine dR 4 ?_
  refine dX (x_idxS h3) ?_
  refine dR 4 ?_
  refine dX (x_idxS h4) ?_
  refine dR 4 ?_
  refine dX (x_idxS h5) ?_
  refine dR 4 ?_
  refine dX (x_idxS h6) ?_
  refine dR 4 ?_
  refine dX (x_idxS h7) ?_
  refine dR 4 ?_
  refine dX (x_idxS h8) ?_
  refine dR 4 ?_
  refine dE ?_
  refine awp_ret ?_
  exact oF hF [] []

/-! ### unicode/utf8.ValidString -/
def utf8_ValidString_x3_k : Bool → AEx
  | _ => .normal

def utf8_ValidString_x3_S (vs12 : List UInt8) : Bool → St
  | vx8 => Mem.st ⟨[], []⟩ (tl [(0, .v (.one (.d (.str vs12)))), (24, .v (.one (.d (.bool vx8))))]) 0

def utf8_ValidString_x3_I (vs12 : List UInt8) : St := Mem.st ⟨[], []⟩ (tl [(0, .v (.one (.d (.str vs12))))]) 0

theorem utf8_ValidString_x3_ok (vs12 : List UInt8) {r} (hF : utf8_ValidString_x3 vs12 = some r) : Awp prog 0 169 (cL (cL (cR (cL (cR (cL (cR (cL (cR (cL (cL (cL (cR (cB f118)))))))))))))) (Out 0 utf8_ValidString_x3_k (utf8_ValidString_x3_S vs12) r) (utf8_ValidString_x3_I vs12) := by
  unfold utf8_ValidString_x3 at hF
  refine cE hF (fun h5 hF => ?_) fun h5 hF => ?_
  · refine bE hF fun vr11 h6 hF => ?_
    refine awp_region ?_
    refine aR 2 ?_
    refine aB h5 ?_
    refine aR 2 ?_
    refine aC (utf8_word_string_ok h6) [] [] [] ?_
    refine aR 3 ?_
    refine aE ?_
    exact oO hF [] [] rfl
  · refine awp_region ?_
    refine aR 2 ?_
    refine aB h5 ?_
    refine aR 6 ?_
    refine aE ?_
    exact oO hF [] [] rfl

def utf8_ValidString_x4_k : Bool → AEx
  | _ => .normal

def utf8_ValidString_x4_S (vs13 : List UInt8) : Bool → St
  | vx9 => Mem.st ⟨[], []⟩ (tl [(0, .v (.one (.d (.str vs13)))), (39, .v (.one (.d (.bool vx9))))]) 0

def utf8_ValidString_x4_I (vs13 : List UInt8) : St := Mem.st ⟨[], []⟩ (tl [(0, .v (.one (.d (.str vs13))))]) 0

theorem utf8_ValidString_x4_ok (vs13 : List UInt8) {r} (hF : utf8_ValidString_x4 vs13 = some r) : Awp prog 0 169 (cL (cR (cL (cR (cL (cR (cL (cR (cL (cR (cL (cR (cL (cL (cL (cR (cB f118))))))))))))))))) (Out 0 utf8_ValidString_x4_k (utf8_ValidString_x4_S vs13) r) (utf8_ValidString_x4_I vs13) := by
  unfold utf8_ValidString_x4 at hF
  refine cE hF (fun h10 hF => ?_) fun h10 hF => ?_
  · refine bE hF fun vr12 h11 hF => ?_
    refine bE hF fun vs14 h12 hF => ?_
    refine bE hF fun vr13 h13 hF => ?_
    refine aD ?_
    refine dR 2 ?_
    refine dB h10 ?_
    refine dR 2 ?_
    refine dC (utf8_word_string_ok h11) [] [] [] ?_
    refine dR 1 ?_
    refine dX (x_sliceS h12) ?_
    refine dC (utf8_word_string_ok h13) [] [] [] ?_
    refine dR 4 ?_
    refine dE ?_
    exact oO hF [] [] rfl
  · refine aD ?_
    refine dR 2 ?_
    refine dB h10 ?_
    refine dR 10 ?_
    refine dE ?_
    exact oO hF [] [] rfl

def utf8_ValidString_x6_k : Bool → AEx
  | _ => .normal

def utf8_ValidString_x6_S (vx10 : List UInt8) : Bool → St
  | vx12 => Mem.st ⟨[], []⟩ (tl [(0, .v (.one (.d (.str vx10)))), (62, .v (.one (.d (.bool vx12))))]) 0

def utf8_ValidString_x6_I (vx10 : List UInt8) : St := Mem.st ⟨[], []⟩ (tl [(0, .v (.one (.d (.str vx10))))]) 0

theorem utf8_ValidString_x6_ok (vx10 : List UInt8) {r} (hF : utf8_ValidString_x6 vx10 = some r) : Awp prog 0 169 (cL (cL (cL (cL (cR (cL (cR (cR (cL (cR (cL (cR (cL (cR (cL (cR (cL (cR (cL (cL (cL (cR (cB f118))))))))))))))))))))))) (Out 0 utf8_ValidString_x6_k (utf8_ValidString_x6_S vx10) r) (utf8_ValidString_x6_I vx10) := by
  unfold utf8_ValidString_x6 at hF
  refine cE hF (fun h17 hF => ?_) fun h17 hF => ?_
  · refine bE hF fun vr18 h18 hF => ?_
    refine bE hF fun vs20 h19 hF => ?_
    refine bE hF fun vr19 h20 hF => ?_
    refine bE hF fun vs21 h21 hF => ?_
    refine bE hF fun vr20 h22 hF => ?_
    refine bE hF fun vs22 h23 hF => ?_
    refine bE hF fun vr21 h24 hF => ?_
    refine aD ?_
    refine dR 2 ?_
    refine dB h17 ?_
    refine dR 2 ?_
    refine dC (utf8_word_string_ok h18) [] [] [] ?_
    refine dR 1 ?_
    refine dX (x_sliceS h19) ?_
    refine dC (utf8_word_string_ok h20) [] [] [] ?_
    refine dR 2 ?_
    refine dX (x_sliceS h21) ?_
    refine dC (utf8_word_string_ok h22) [] [] [] ?_
    refine dR 1 ?_
    refine dX (x_sliceS h23) ?_
    refine dC (utf8_word_string_ok h24) [] [] [] ?_
    refine dR 5 ?_
    refine dE ?_
    exact oO hF [] [] rfl
  · refine aD ?_
    refine dR 2 ?_
    refine dB h17 ?_
    refine dR 18 ?_
    refine dE ?_
    exact oO hF [] [] rfl

def utf8_ValidString_x5_k : (List UInt8) → AEx
  | _ => .exit 2

def utf8_ValidString_x5_S : (List UInt8) → St
  | vx13 => Mem.st ⟨[], []⟩ (tl [(0, .v (.one (.d (.str vx13))))]) 0

def utf8_ValidString_x5_H : (List UInt8) → St
  | vx10 => Mem.st ⟨[], []⟩ (tl [(0, .v (.one (.d (.str vx10))))]) 0

theorem utf8_ValidString_x5_ok (vx10 : (List UInt8)) (r : ((List UInt8)) ⊕ ((List UInt8))) (hF : utf8_ValidString_x5  vx10 = some r) : Awp prog 0 169 (cL (cL (cR (cL (cR (cR (cL (cR (cL (cR (cL (cR (cL (cR (cL (cR (cL (cL (cL (cR (cB f118))))))))))))))))))))) (Out 0 (kk utf8_ValidString_x5_k) (SS (utf8_ValidString_x5_H ) (utf8_ValidString_x5_S )) r) (utf8_ValidString_x5_H  vx10) := by
  unfold utf8_ValidString_x5 at hF
  refine awp_seq ?_
  refine awp_seq ?_
  refine awp_to (st' := utf8_ValidString_x6_I vx10) (oT [] []) ?_
  refine bE hF fun vx12_1 h25 hF => ?_
  refine awp_sub (utf8_ValidString_x6_ok vx10 h25) ?_
  refine cE hF (fun h26 hF => ?_) fun h26 hF => ?_
  · refine awp_true (by kernel_rfl) h26 ?_
    refine awp_skip ?_
    refine awp_block ?_
    refine bE hF fun vs23 h27 hF => ?_
    refine awp_region ?_
    refine aR 1 ?_
    refine aX (x_sliceS h27) ?_
    refine aR 1 ?_
    refine aE ?_
    exact oO hF [] [] rfl
  · refine awp_false (by kernel_rfl) h26 ?_
    refine awp_exit ?_
    exact oO hF [] [] rfl

def utf8_ValidString_x2_k : (List UInt8) → AEx
  | _ => .normal

def utf8_ValidString_x2_S (vs12 : List UInt8) : (List UInt8) → St
  | vx14 => Mem.st ⟨[], []⟩ (tl [(0, .v (.one (.d (.str vx14))))]) 0

def utf8_ValidString_x2_I (vs12 : List UInt8) : St := Mem.st ⟨[], []⟩ (tl [(0, .v (.one (.d (.str vs12))))]) 0

theorem utf8_ValidString_x2_ok (vs12 : List UInt8) {r} (hF : utf8_ValidString_x2 vs12 = some r) : Awp prog 0 169 (cL (cR (cL (cR (cL (cR (cL (cR (cL (cL (cL (cR (cB f118))))))))))))) (Out 0 utf8_ValidString_x2_k (utf8_ValidString_x2_S vs12) r) (utf8_ValidString_x2_I vs12) := by
  unfold utf8_ValidString_x2 at hF
  refine awp_seq ?_
  refine awp_to (st' := utf8_ValidString_x3_I vs12) (oT [] []) ?_
  refine bE hF fun vx8_1 h7 hF => ?_
  refine awp_sub (utf8_ValidString_x3_ok vs12 h7) ?_
  refine cE hF (fun h8 hF => ?_) fun h8 hF => ?_
  · refine awp_true (by kernel_rfl) h8 ?_
    refine awp_seq ?_
    refine bE hF fun vs13 h9 hF => ?_
    refine awp_region ?_
    refine aR 1 ?_
    refine aX (x_sliceS h9) ?_
    refine aR 1 ?_
    refine aE ?_
    refine awp_seq ?_
    refine awp_to (st' := utf8_ValidString_x4_I vs13) (oT [] []) ?_
    refine bE hF fun vx9_1 h14 hF => ?_
    refine awp_sub (utf8_ValidString_x4_ok vs13 h14) ?_
    refine cE hF (fun h15 hF => ?_) fun h15 hF => ?_
    · refine awp_true (by kernel_rfl) h15 ?_
      refine awp_seq ?_
      refine bE hF fun vs15 h16 hF => ?_
      refine awp_region ?_
      refine aR 1 ?_
      refine aX (x_sliceS h16) ?_
      refine aR 1 ?_
      refine aE ?_
      refine awp_block ?_
      refine awp_to (st' := utf8_ValidString_x5_H  vs15) (oT [] []) ?_
      refine bE hF fun vx13_1 h28 hF => ?_
      refine awp_sub (awp_loop' (utf8_ValidString_x5_H ) utf8_ValidString_x5_k (utf8_ValidString_x5_S ) (by intro x; exact fun h => nomatch h) h28 (utf8_ValidString_x5_ok )) ?_
      exact oO hF [] [] rfl
    · refine awp_false (by kernel_rfl) h15 ?_
      refine awp_skip ?_
      exact oO hF [] [] rfl
  · refine awp_false (by kernel_rfl) h8 ?_
    refine awp_skip ?_
    exact oO hF [] [] rfl

def utf8_ValidString_x1_k : Unit → AEx
  | _ => .exit 0

def utf8_ValidString_x1_S : Unit → St
  | _ => Mem.st ⟨[], []⟩ (tl []) 0

def utf8_ValidString_x1_H : (List UInt8) → St
  | vx => Mem.st ⟨[], []⟩ (tl [(0, .v (.one (.d (.str vx))))]) 0

theorem utf8_ValidString_x1_ok (vx : (List UInt8)) (r : ((List UInt8)) ⊕ (Unit)) (hF : utf8_ValidString_x1  vx = some r) : Awp prog 0 169 (cL (cL (cL (cR (cB f118))))) (Out 0 (kk utf8_ValidString_x1_k) (SS (utf8_ValidString_x1_H ) (utf8_ValidString_x1_S )) r) (utf8_ValidString_x1_H  vx) := by
  unfold utf8_ValidString_x1 at hF
  refine awp_seq ?_
  refine awp_seq ?_
  refine awp_region ?_
  refine aR 3 ?_
  refine aE ?_
  refine cE hF (fun h1 hF => ?_) fun h1 hF => ?_
  · refine awp_true (by kernel_rfl) h1 ?_
    refine awp_skip ?_
    refine awp_block ?_
    refine awp_seq ?_
    refine bE hF fun vc1 h2 hF => ?_
    refine awp_region ?_
    refine aR 1 ?_
    refine aX (x_idxS h2) ?_
    refine aR 1 ?_
    refine aE ?_
    refine awp_seq ?_
    refine awp_seq ?_
    refine awp_region ?_
    refine aR 2 ?_
    refine aE ?_
    refine cE hF (fun h3 hF => ?_) fun h3 hF => ?_
    · refine awp_true (by kernel_rfl) h3 ?_
      refine awp_seq ?_
      refine bE hF fun vs12 h4 hF => ?_
      refine awp_region ?_
      refine aR 1 ?_
      refine aX (x_sliceS h4) ?_
      refine aR 1 ?_
      refine aE ?_
      refine awp_seq ?_
      refine awp_to (st' := utf8_ValidString_x2_I vs12) (oT [] []) ?_
      refine bE hF fun vx14_1 h29 hF => ?_
      refine awp_sub (utf8_ValidString_x2_ok vs12 h29) ?_
      refine awp_exit ?_
      exact oO hF [] [] rfl
    · refine awp_false (by kernel_rfl) h3 ?_
      refine awp_skip ?_
      refine awp_seq ?_
      exact nE hF
  · refine awp_false (by kernel_rfl) h1 ?_
    refine awp_exit ?_
    exact oO hF [] [] rfl

def utf8_ValidString_R (qx : List UInt8) (r : Unit) : TV × Mem := (.v (.one (.d (.bool true))), ⟨[], []⟩)

theorem utf8_ValidString_ok {qx : List UInt8} {r} (hF : utf8_ValidString qx = some r) : Holds prog 118 [.v (.one (.d (.str qx)))] ⟨[], []⟩ (Is (utf8_ValidString_R qx r)) := by
  unfold utf8_ValidString at hF
  refine holds_of_awp hΓ (fn := f118) (c := cB f118) (A := 0) (nx := 0) (by kernel_rfl) (by kernel_rfl) (by kernel_rfl) (by kernel_rfl) (by kernel_rfl) (by kernel_rfl) (lowc_of (by kernel_rfl)) ?_
  show Awp prog 0 169 (cB f118) _ _
  refine awp_seq ?_
  refine awp_region ?_
  refine aR 1 ?_
  refine aE ?_
  refine awp_seq ?_
  refine awp_block ?_
  refine awp_to (st' := utf8_ValidString_x1_H  qx) (oT [] []) ?_
  refine bE hF fun _ h30 hF => ?_
  refine awp_sub (awp_loop' (utf8_ValidString_x1_H ) utf8_ValidString_x1_k (utf8_ValidString_x1_S ) (by intro x; exact fun h => nomatch h) h30 (utf8_ValidString_x1_ok )) ?_
  refine awp_seq ?_
  refine awp_region ?_
  refine aR 1 ?_
  refine aE ?_
  refine awp_ret ?_
  exact oF hF [] []

/-! ### beaconfleet/base.Unmarked -/
def base_Unmarked_x2_k : Bool → AEx
  | _ => .normal

def base_Unmarked_x2_S (qs : List UInt8) (vx : Int) : Bool → St
  | vx2 => Mem.st ⟨[], []⟩ (tl [(0, .v (.one (.d (.str qs)))), (5, .v (.one (.d (.int .i64 (qs.length : Int))))), (6, .v (.one (.d (.int .i64 vx)))), (18, .v (.one (.d (.bool vx2))))]) 0

def base_Unmarked_x2_I (qs : List UInt8) (vx : Int) : St := Mem.st ⟨[], []⟩ (tl [(0, .v (.one (.d (.str qs)))), (3, .v (.one (.d (.int .i64 vx)))), (5, .v (.one (.d (.int .i64 (qs.length : Int))))), (6, .v (.one (.d (.int .i64 vx))))]) 0

theorem base_Unmarked_x2_ok (qs : List UInt8) (vx : Int) {r} (hF : base_Unmarked_x2 qs vx = some r) : Awp prog 0 22 (cL (cR (cL (cL (cR (cR (cL (cL (cR (cL (cR (cB f92)))))))))))) (Out 0 base_Unmarked_x2_k (base_Unmarked_x2_S qs vx) r) (base_Unmarked_x2_I qs vx) := by
  unfold base_Unmarked_x2 at hF
  refine bE hF fun vc1 h2 hF => ?_
  refine cE hF (fun h3 hF => ?_) fun h3 hF => ?_
  · refine awp_region ?_
    refine aR 2 ?_
    refine aX (x_idxS h2) ?_
    refine aB h3 ?_
    refine aR 6 ?_
    refine aE ?_
    exact oO hF [] [] rfl
  · refine awp_region ?_
    refine aR 2 ?_
    refine aX (x_idxS h2) ?_
    refine aB h3 ?_
    refine aR 3 ?_
    refine aX (x_idxS h2) ?_
    refine aR 2 ?_
    refine aE ?_
    exact oO hF [] [] rfl

def base_Unmarked_x1_k : Unit ⊕ Unit → AEx
  | .inl _ => .exit 0
  | .inr _ => .ret

def base_Unmarked_x1_S (qs : List UInt8) : Unit ⊕ Unit → St
  | .inl _ => Mem.st ⟨[], []⟩ (tl [(0, .v (.one (.d (.str qs))))]) 0
  | .inr _ => Mem.st ⟨[], []⟩ (tl [(2, .v (.one (.d (.bool false))))]) 0

def base_Unmarked_x1_H (qs : List UInt8) : Int → St
  | vx => Mem.st ⟨[], []⟩ (tl [(0, .v (.one (.d (.str qs)))), (5, .v (.one (.d (.int .i64 (qs.length : Int))))), (6, .v (.one (.d (.int .i64 vx))))]) 0

theorem base_Unmarked_x1_ok (qs : List UInt8) (vx : Int) (r : (Int) ⊕ (Unit ⊕ Unit)) (hF : base_Unmarked_x1 qs vx = some r) : Awp prog 0 22 (cL (cL (cR (cL (cR (cB f92)))))) (Out 0 (kk base_Unmarked_x1_k) (SS (base_Unmarked_x1_H qs) (base_Unmarked_x1_S qs)) r) (base_Unmarked_x1_H qs vx) := by
  unfold base_Unmarked_x1 at hF
  refine awp_seq ?_
  refine awp_region ?_
  refine aR 1 ?_
  refine aE ?_
  refine awp_seq ?_
  refine cE hF (fun h1 hF => ?_) fun h1 hF => ?_
  · refine awp_true (by kernel_rfl) h1 ?_
    refine awp_skip ?_
    refine awp_seq ?_
    refine awp_block ?_
    refine awp_seq ?_
    refine awp_region ?_
    refine aR 2 ?_
    refine aE ?_
    refine awp_seq ?_
    refine awp_to (st' := base_Unmarked_x2_I qs vx) (oT [] []) ?_
    refine bE hF fun vx2_1 h4 hF => ?_
    refine awp_sub (base_Unmarked_x2_ok qs vx h4) ?_
    refine cE hF (fun h5 hF => ?_) fun h5 hF => ?_
    · refine awp_true (by kernel_rfl) h5 ?_
      refine awp_seq ?_
      refine awp_region ?_
      refine aR 1 ?_
      refine aE ?_
      refine awp_ret ?_
      exact oO hF [] [] rfl
    · refine awp_false (by kernel_rfl) h5 ?_
      refine awp_skip ?_
      refine awp_region ?_
      refine aR 2 ?_
      refine aE ?_
      exact oO hF [] [] rfl
  · refine awp_false (by kernel_rfl) h1 ?_
    refine awp_exit ?_
    exact oO hF [] [] rfl

def base_Unmarked_R (qs : List UInt8) (r : Bool) : TV × Mem := (.v (.one (.d (.bool r))), ⟨[], []⟩)

theorem base_Unmarked_ok {qs : List UInt8} {r} (hF : base_Unmarked qs = some r) : Holds prog 92 [.v (.one (.d (.str qs)))] ⟨[], []⟩ (Is (base_Unmarked_R qs r)) := by
  unfold base_Unmarked at hF
  refine holds_of_awp hΓ (fn := f92) (c := cB f92) (A := 0) (nx := 0) (by kernel_rfl) (by kernel_rfl) (by kernel_rfl) (by kernel_rfl) (by kernel_rfl) (by kernel_rfl) (lowc_of (by kernel_rfl)) ?_
  show Awp prog 0 22 (cB f92) _ _
  refine awp_seq ?_
  refine awp_region ?_
  refine aR 1 ?_
  refine aE ?_
  refine awp_seq ?_
  refine awp_seq ?_
  refine awp_region ?_
  refine aR 3 ?_
  refine aE ?_
  refine awp_block ?_
  refine awp_to (st' := base_Unmarked_x1_H qs 0) (oT [] []) ?_
  refine bE hF fun x h6 hF => ?_
  rcases x with _ | _
  · refine awp_sub (awp_loop' (base_Unmarked_x1_H qs) base_Unmarked_x1_k (base_Unmarked_x1_S qs) (by intro x; rcases x with x | x <;> exact fun h => nomatch h) h6 (base_Unmarked_x1_ok qs)) ?_
    refine awp_seq ?_
    refine bE hF fun _ h7 hF => ?_
    refine awp_region ?_
    refine aR 1 ?_
    refine aC (utf8_ValidString_ok h7) [] [] [] ?_
    refine aR 1 ?_
    refine aE ?_
    refine awp_ret ?_
    exact oF hF [] []
  · refine awp_sub (awp_loop' (base_Unmarked_x1_H qs) base_Unmarked_x1_k (base_Unmarked_x1_S qs) (by intro x; rcases x with x | x <;> exact fun h => nomatch h) h6 (base_Unmarked_x1_ok qs)) ?_
    exact oF hF [] []

/-! ### beaconfleet/twin.valueFault -/
def twin_valueFault_x1_k : api_Value ⊕ Unit → AEx
  | .inl _ => .normal
  | .inr _ => .ret

def twin_valueFault_x1_S (qv : api_Value) : api_Value ⊕ Unit → St
  | .inl vused => Mem.st ⟨[], [(0, [.d (.int .i64 qv.Kind), .d (.bool qv.Flag), .d (.int .i64 qv.Number), .d (.str qv.Words)]), (1, [.d (.int .i64 vused.Kind), .d (.bool vused.Flag), .d (.int .i64 vused.Number), .d (.str vused.Words)])]⟩ (tl [(1, .v (.one (.box 0 0))), (3, .v (.one (.box 1 0)))]) 2
  | .inr _ => Mem.st ⟨[], []⟩ (tl [(2, .v (.one (.d (.int .i64 4))))]) 0

def twin_valueFault_x1_I (qv : api_Value) : St := Mem.st ⟨[], [(0, [.d (.int .i64 qv.Kind), .d (.bool qv.Flag), .d (.int .i64 qv.Number), .d (.str qv.Words)]), (1, [.d (.int .i64 qv.Kind), .d (.bool false), .d (.int .i64 0), .d (.str ([] : List UInt8))])]⟩ (tl [(1, .v (.one (.box 0 0))), (3, .v (.one (.box 1 0)))]) 2

theorem twin_valueFault_x1_ok (qv : api_Value) {r} (hF : twin_valueFault_x1 qv = some r) : Awp prog 0 44 (cL (cR (cR (cB f79)))) (Out 0 twin_valueFault_x1_k (twin_valueFault_x1_S qv) r) (twin_valueFault_x1_I qv) := by
  unfold twin_valueFault_x1 at hF
  refine awp_seq ?_
  refine awp_region ?_
  refine aR 2 ?_
  refine aE ?_
  refine awp_block ?_
  refine awp_seq ?_
  refine awp_region ?_
  refine aR 2 ?_
  refine aE ?_
  refine cE hF (fun h1 hF => ?_) fun h1 hF => ?_
  · refine awp_true (by kernel_rfl) h1 ?_
    refine awp_skip ?_
    exact oO hF [] [] rfl
  · refine awp_false (by kernel_rfl) h1 ?_
    refine awp_seq ?_
    refine awp_region ?_
    refine aR 2 ?_
    refine aE ?_
    refine cE hF (fun h2 hF => ?_) fun h2 hF => ?_
    · refine awp_true (by kernel_rfl) h2 ?_
      refine awp_region ?_
      refine aR 4 ?_
      refine aE ?_
      exact oO hF [] [] rfl
    · refine awp_false (by kernel_rfl) h2 ?_
      refine awp_seq ?_
      refine awp_region ?_
      refine aR 2 ?_
      refine aE ?_
      refine cE hF (fun h3 hF => ?_) fun h3 hF => ?_
      · refine awp_true (by kernel_rfl) h3 ?_
        refine awp_region ?_
        refine aR 4 ?_
        refine aE ?_
        exact oO hF [] [] rfl
      · refine awp_false (by kernel_rfl) h3 ?_
        refine awp_seq ?_
        refine awp_region ?_
        refine aR 2 ?_
        refine aE ?_
        refine cE hF (fun h4 hF => ?_) fun h4 hF => ?_
        · refine awp_true (by kernel_rfl) h4 ?_
          refine awp_region ?_
          refine aR 4 ?_
          refine aE ?_
          exact oO hF [] [] rfl
        · refine awp_false (by kernel_rfl) h4 ?_
          refine awp_seq ?_
          refine awp_region ?_
          refine aR 1 ?_
          refine aE ?_
          refine awp_ret ?_
          exact oO hF [] [] rfl

def twin_valueFault_R (qv : api_Value) (r : Int) : TV × Mem := (.v (.one (.d (.int .i64 r))), ⟨[], []⟩)

theorem twin_valueFault_ok {qv : api_Value} {r} (hF : twin_valueFault qv = some r) : Holds prog 79 [.v (.agg [.d (.int .i64 qv.Kind), .d (.bool qv.Flag), .d (.int .i64 qv.Number), .d (.str qv.Words)])] ⟨[], []⟩ (Is (twin_valueFault_R qv r)) := by
  unfold twin_valueFault at hF
  refine holds_of_awp hΓ (fn := f79) (c := cB f79) (A := 0) (nx := 0) (by kernel_rfl) (by kernel_rfl) (by kernel_rfl) (by kernel_rfl) (by kernel_rfl) (by kernel_rfl) (lowc_of (by kernel_rfl)) ?_
  show Awp prog 0 44 (cB f79) _ _
  refine awp_seq ?_
  refine awp_region ?_
  refine aR 2 ?_
  refine aE ?_
  refine awp_seq ?_
  refine awp_region ?_
  refine aR 5 ?_
  refine aE ?_
  refine awp_seq ?_
  refine awp_to (st' := twin_valueFault_x1_I qv) (oT [(1, 5000)] []) ?_
  refine bE hF fun x h5 hF => ?_
  rcases x with vused1 | _
  · refine awp_sub (twin_valueFault_x1_ok qv h5) ?_
    refine awp_seq ?_
    refine awp_block ?_
    refine awp_seq ?_
    refine awp_region ?_
    refine aR 2 ?_
    refine aS (does_eqS (op := .neq) (xs := [.int .i64 qv.Kind, .bool qv.Flag, .int .i64 qv.Number, .str qv.Words]) (ys := [.int .i64 vused1.Kind, .bool vused1.Flag, .int .i64 vused1.Number, .str vused1.Words]) (b := (decide (qv.Kind = vused1.Kind) && ((qv.Flag == vused1.Flag) && (decide (qv.Number = vused1.Number) && (decide (qv.Words = vused1.Words) && true))))) (c := (!(decide (qv.Kind = vused1.Kind) && ((qv.Flag == vused1.Flag) && (decide (qv.Number = vused1.Number) && (decide (qv.Words = vused1.Words) && true)))))) rfl (.inr ⟨rfl, rfl⟩) (by kernel_rfl) (by kernel_rfl) (by kernel_rfl) (by kernel_rfl) (by kernel_rfl) (by kernel_rfl)) ?_
    refine aR 1 ?_
    refine aE ?_
    refine cE hF (fun h6 hF => ?_) fun h6 hF => ?_
    · refine awp_true (by kernel_rfl) h6 ?_
      refine awp_seq ?_
      refine awp_region ?_
      refine aR 1 ?_
      refine aE ?_
      refine awp_ret ?_
      exact oF hF [] []
    · refine awp_false (by kernel_rfl) h6 ?_
      refine awp_seq ?_
      refine bE hF fun vr h7 hF => ?_
      refine awp_region ?_
      refine aR 2 ?_
      refine aC (base_Out_ok h7) [] [] [] ?_
      refine aR 1 ?_
      refine aE ?_
      refine cE hF (fun h8 hF => ?_) fun h8 hF => ?_
      · refine awp_true (by kernel_rfl) h8 ?_
        refine awp_seq ?_
        refine awp_region ?_
        refine aR 1 ?_
        refine aE ?_
        refine awp_ret ?_
        exact oF hF [] []
      · refine awp_false (by kernel_rfl) h8 ?_
        refine awp_seq ?_
        refine awp_region ?_
        refine aR 5 ?_
        refine aE ?_
        refine cE hF (fun h9 hF => ?_) fun h9 hF => ?_
        · refine awp_true (by kernel_rfl) h9 ?_
          refine awp_seq ?_
          refine awp_region ?_
          refine aR 1 ?_
          refine aE ?_
          refine awp_ret ?_
          exact oF hF [] []
        · refine awp_false (by kernel_rfl) h9 ?_
          refine awp_seq ?_
          refine bE hF fun vr1 h10 hF => ?_
          refine awp_region ?_
          refine aR 2 ?_
          refine aC (base_Unmarked_ok h10) [] [] [] ?_
          refine aR 2 ?_
          refine aE ?_
          refine cE hF (fun h11 hF => ?_) fun h11 hF => ?_
          · refine awp_true (by kernel_rfl) h11 ?_
            refine awp_seq ?_
            refine awp_region ?_
            refine aR 1 ?_
            refine aE ?_
            refine awp_ret ?_
            exact oF hF [] []
          · refine awp_false (by kernel_rfl) h11 ?_
            refine awp_skip ?_
            refine awp_seq ?_
            refine awp_region ?_
            refine aR 1 ?_
            refine aE ?_
            refine awp_ret ?_
            exact oF hF [] []
  · refine awp_sub (twin_valueFault_x1_ok qv h5) ?_
    exact oF hF [] []

/-! ### beaconfleet/twin.find$1 -/
def twin_find_1_R (qp : api_Prop) (qname : List UInt8) (r : Unit) : TV × Mem := (.v (.one (.d (.int .i64 (Lib.compareBytes qp.Name qname)))), ⟨[], []⟩)

theorem twin_find_1_ok {qp : api_Prop} {qname : List UInt8} {r} (hF : twin_find_1 qp qname = some r) : Holds prog 109 [.v (.agg [.d (.str qp.Name), .d (.int .i64 qp.Value.Kind), .d (.bool qp.Value.Flag), .d (.int .i64 qp.Value.Number), .d (.str qp.Value.Words)]), .v (.one (.d (.str qname)))] ⟨[], []⟩ (Is (twin_find_1_R qp qname r)) := by
  unfold twin_find_1 at hF
  refine holds_of_awp hΓ (fn := f109) (c := cB f109) (A := 0) (nx := 0) (by kernel_rfl) (by kernel_rfl) (by kernel_rfl) (by kernel_rfl) (by kernel_rfl) (by kernel_rfl) (lowc_of (by kernel_rfl)) ?_
  show Awp prog 0 9 (cB f109) _ _
  refine awp_seq ?_
  refine awp_region ?_
  refine aR 2 ?_
  refine aE ?_
  refine awp_seq ?_
  refine bE hF fun _ h1 hF => ?_
  refine awp_region ?_
  refine aR 3 ?_
  refine aC (strings_Compare_ok h1) [] [] [] ?_
  refine aR 1 ?_
  refine aE ?_
  refine awp_ret ?_
  exact oF hF [] []

/-! ### slices.BinarySearchFunc[[]beaconfleet/api.Prop,beaconfleet/api.Prop,string] -/
def slices_BinarySearchFunc_api_Prop_api_Prop_string_f2_twin_find_1_x1_k : Int → AEx
  | _ => .exit 0

def slices_BinarySearchFunc_api_Prop_api_Prop_string_f2_twin_find_1_x1_S (qx : List api_Prop) (qtarget : List UInt8) : Int → St
  | vi1 => Mem.st ⟨[], []⟩ (tl [(0, .v (.one (.d (.lst (List.map api_Prop.enc qx))))), (1, .v (.one (.d (.str qtarget)))), (2, .v (.one (.fn 109 []))), (8, .v (.one (.d (.int .i64 (qx.length : Int))))), (9, .v (.one (.d (.int .i64 vi1))))]) 0

def slices_BinarySearchFunc_api_Prop_api_Prop_string_f2_twin_find_1_x1_H (qx : List api_Prop) (qtarget : List UInt8) : Int × Int → St
  | (vi, vj) => Mem.st ⟨[], []⟩ (tl [(0, .v (.one (.d (.lst (List.map api_Prop.enc qx))))), (1, .v (.one (.d (.str qtarget)))), (2, .v (.one (.fn 109 []))), (8, .v (.one (.d (.int .i64 (qx.length : Int))))), (9, .v (.one (.d (.int .i64 vi)))), (10, .v (.one (.d (.int .i64 vj))))]) 0

theorem slices_BinarySearchFunc_api_Prop_api_Prop_string_f2_twin_find_1_x1_ok (qx : List api_Prop) (qtarget : List UInt8) (s : Int × Int) (r : (Int × Int) ⊕ (Int)) (hF : slices_BinarySearchFunc_api_Prop_api_Prop_string_f2_twin_find_1_x1 qx qtarget s = some r) : Awp prog 0 49 (cL (cL (cL (cR (cR (cR (cB f108))))))) (Out 0 (kk slices_BinarySearchFunc_api_Prop_api_Prop_string_f2_twin_find_1_x1_k) (SS (slices_BinarySearchFunc_api_Prop_api_Prop_string_f2_twin_find_1_x1_H qx qtarget) (slices_BinarySearchFunc_api_Prop_api_Prop_string_f2_twin_find_1_x1_S qx qtarget)) r) (slices_BinarySearchFunc_api_Prop_api_Prop_string_f2_twin_find_1_x1_H qx qtarget s) := by
  obtain ⟨vi, vj⟩ := s
  unfold slices_BinarySearchFunc_api_Prop_api_Prop_string_f2_twin_find_1_x1 at hF
  refine awp_seq ?_
  refine awp_seq ?_
  refine awp_region ?_
  refine aR 3 ?_
  refine aE ?_
  refine cE hF (fun h1 hF => ?_) fun h1 hF => ?_
  · refine awp_true (by kernel_rfl) h1 ?_
    refine awp_skip ?_
    refine awp_block ?_
    refine awp_seq ?_
    refine awp_region ?_
    refine aR 7 ?_
    refine aE ?_
    refine awp_seq ?_
    refine bE hF fun vy1 h2 hF => ?_
    refine bE hF fun _ h3 hF => ?_
    refine awp_region ?_
    refine aR 3 ?_
    refine aX (x_idx api_Prop.enc h2) ?_
    refine aR 2 ?_
    refine aC (twin_find_1_ok h3) [] [] [] ?_
    refine aR 1 ?_
    refine aE ?_
    refine cE hF (fun h4 hF => ?_) fun h4 hF => ?_
    · refine awp_true (by kernel_rfl) h4 ?_
      refine awp_region ?_
      refine aR 3 ?_
      refine aE ?_
      exact oO hF [] [] rfl
    · refine awp_false (by kernel_rfl) h4 ?_
      refine awp_region ?_
      refine aR 2 ?_
      refine aE ?_
      exact oO hF [] [] rfl
  · refine awp_false (by kernel_rfl) h1 ?_
    refine awp_exit ?_
    exact oO hF [] [] rfl

def slices_BinarySearchFunc_api_Prop_api_Prop_string_f2_twin_find_1_x2_k : Bool → AEx
  | _ => .normal

def slices_BinarySearchFunc_api_Prop_api_Prop_string_f2_twin_find_1_x2_S (qx : List api_Prop) (qtarget : List UInt8) (vi1_1 : Int) : Bool → St
  | vx => Mem.st ⟨[], []⟩ (tl [(6, .v (.one (.d (.int .i64 vi1_1)))), (7, .v (.one (.d (.bool vx))))]) 0

def slices_BinarySearchFunc_api_Prop_api_Prop_string_f2_twin_find_1_x2_I (qx : List api_Prop) (qtarget : List UInt8) (vi1_1 : Int) : St := Mem.st ⟨[], []⟩ (tl [(0, .v (.one (.d (.lst (List.map api_Prop.enc qx))))), (1, .v (.one (.d (.str qtarget)))), (2, .v (.one (.fn 109 []))), (8, .v (.one (.d (.int .i64 (qx.length : Int))))), (9, .v (.one (.d (.int .i64 vi1_1))))]) 0

theorem slices_BinarySearchFunc_api_Prop_api_Prop_string_f2_twin_find_1_x2_ok (qx : List api_Prop) (qtarget : List UInt8) (vi1_1 : Int) {r} (hF : slices_BinarySearchFunc_api_Prop_api_Prop_string_f2_twin_find_1_x2 qx qtarget vi1_1 = some r) : Awp prog 0 49 (cL (cR (cR (cR (cR (cB f108)))))) (Out 0 slices_BinarySearchFunc_api_Prop_api_Prop_string_f2_twin_find_1_x2_k (slices_BinarySearchFunc_api_Prop_api_Prop_string_f2_twin_find_1_x2_S qx qtarget vi1_1) r) (slices_BinarySearchFunc_api_Prop_api_Prop_string_f2_twin_find_1_x2_I qx qtarget vi1_1) := by
  unfold slices_BinarySearchFunc_api_Prop_api_Prop_string_f2_twin_find_1_x2 at hF
  refine cE hF (fun h6 hF => ?_) fun h6 hF => ?_
  · refine bE hF fun vy2 h7 hF => ?_
    refine bE hF fun _ h8 hF => ?_
    refine awp_region ?_
    refine aR 3 ?_
    refine aB h6 ?_
    refine aR 4 ?_
    refine aX (x_idx api_Prop.enc h7) ?_
    refine aR 2 ?_
    refine aC (twin_find_1_ok h8) [] [] [] ?_
    refine aR 4 ?_
    refine aE ?_
    exact oO hF [] [] rfl
  · refine awp_region ?_
    refine aR 3 ?_
    refine aB h6 ?_
    refine aR 12 ?_
    refine aE ?_
    exact oO hF [] [] rfl

def slices_BinarySearchFunc_api_Prop_api_Prop_string_f2_twin_find_1_R (qx : List api_Prop) (qtarget : List UInt8) (r : Int × Bool) : TV × Mem := (.tup [.one (.d (.int .i64 r.1)), .one (.d (.bool r.2))], ⟨[], []⟩)

theorem slices_BinarySearchFunc_api_Prop_api_Prop_string_f2_twin_find_1_ok {qx : List api_Prop} {qtarget : List UInt8} {r} (hF : slices_BinarySearchFunc_api_Prop_api_Prop_string_f2_twin_find_1 qx qtarget = some r) : Holds prog 108 [.v (.one (.d (.lst (List.map api_Prop.enc qx)))), .v (.one (.d (.str qtarget))), .v (.one (.fn 109 []))] ⟨[], []⟩ (Is (slices_BinarySearchFunc_api_Prop_api_Prop_string_f2_twin_find_1_R qx qtarget r)) := by
  unfold slices_BinarySearchFunc_api_Prop_api_Prop_string_f2_twin_find_1 at hF
  refine holds_of_awp hΓ (fn := f108) (c := cB f108) (A := 0) (nx := 0) (by kernel_rfl) (by kernel_rfl) (by kernel_rfl) (by kernel_rfl) (by kernel_rfl) (by kernel_rfl) (lowc_of (by kernel_rfl)) ?_
  show Awp prog 0 49 (cB f108) _ _
  refine awp_seq ?_
  refine awp_region ?_
  refine aR 2 ?_
  refine aE ?_
  refine awp_seq ?_
  refine awp_region ?_
  refine aR 1 ?_
  refine aL api_Prop.enc qx ?_
  refine aR 1 ?_
  refine aE ?_
  refine awp_seq ?_
  refine awp_region ?_
  refine aR 3 ?_
  refine aE ?_
  refine awp_seq ?_
  refine awp_block ?_
  refine awp_to (st' := slices_BinarySearchFunc_api_Prop_api_Prop_string_f2_twin_find_1_x1_H qx qtarget (0, (qx.length : Int))) (oT [] []) ?_
  refine bE hF fun vi1_1 h5 hF => ?_
  refine awp_sub (awp_loop' (slices_BinarySearchFunc_api_Prop_api_Prop_string_f2_twin_find_1_x1_H qx qtarget) slices_BinarySearchFunc_api_Prop_api_Prop_string_f2_twin_find_1_x1_k (slices_BinarySearchFunc_api_Prop_api_Prop_string_f2_twin_find_1_x1_S qx qtarget) (by intro x; exact fun h => nomatch h) h5 (slices_BinarySearchFunc_api_Prop_api_Prop_string_f2_twin_find_1_x1_ok qx qtarget)) ?_
  refine awp_seq ?_
  refine awp_to (st' := slices_BinarySearchFunc_api_Prop_api_Prop_string_f2_twin_find_1_x2_I qx qtarget vi1_1) (oT [] []) ?_
  refine bE hF fun vx1 h9 hF => ?_
  refine awp_sub (slices_BinarySearchFunc_api_Prop_api_Prop_string_f2_twin_find_1_x2_ok qx qtarget vi1_1 h9) ?_
  refine awp_ret ?_
  exact oF hF [] []

/-! ### beaconfleet/twin.find -/
def twin_find_R (ql : List api_Prop) (qname : List UInt8) (r : Int) : TV × Mem := (.v (.one (.d (.int .i64 r))), ⟨[], []⟩)

theorem twin_find_ok {ql : List api_Prop} {qname : List UInt8} {r} (hF : twin_find ql qname = some r) : Holds prog 82 [.v (.one (.d (.lst (List.map api_Prop.enc ql)))), .v (.one (.d (.str qname)))] ⟨[], []⟩ (Is (twin_find_R ql qname r)) := by
  unfold twin_find at hF
  refine holds_of_awp hΓ (fn := f82) (c := cB f82) (A := 0) (nx := 0) (by kernel_rfl) (by kernel_rfl) (by kernel_rfl) (by kernel_rfl) (by kernel_rfl) (by kernel_rfl) (lowc_of (by kernel_rfl)) ?_
  show Awp prog 0 16 (cB f82) _ _
  refine awp_seq ?_
  refine awp_region ?_
  refine aR 1 ?_
  refine aE ?_
  refine awp_seq ?_
  refine bE hF fun x h1 hF => ?_
  obtain ⟨vr, vr1⟩ := x
  refine awp_region ?_
  refine aR 2 ?_
  refine aC (slices_BinarySearchFunc_api_Prop_api_Prop_string_f2_twin_find_1_ok h1) [] [] [] ?_
  refine aR 5 ?_
  refine aE ?_
  refine awp_seq ?_
  refine awp_seq ?_
  refine awp_region ?_
  refine aR 2 ?_
  refine aE ?_
  refine cE hF (fun h2 hF => ?_) fun h2 hF => ?_
  · refine awp_true (by kernel_rfl) h2 ?_
    refine awp_seq ?_
    refine awp_region ?_
    refine aR 1 ?_
    refine aE ?_
    refine awp_ret ?_
    exact oF hF [] []
  · refine awp_false (by kernel_rfl) h2 ?_
    refine awp_skip ?_
    refine awp_seq ?_
    refine awp_region ?_
    refine aR 2 ?_
    refine aE ?_
    refine awp_ret ?_
    exact oF hF [] []

/-! ### beaconfleet/twin.CheckProps$1 -/
def twin_CheckProps_1_R (qs : List UInt8) (qx : List api_Prop) (r : Bool) : TV × Mem := (.v (.one (.d (.bool r))), ⟨[], [(0, [.d (.lst (List.map api_Prop.enc qx))])]⟩)

theorem twin_CheckProps_1_ok {qs : List UInt8} {qx : List api_Prop} {r} (hF : twin_CheckProps_1 qs qx = some r) : Holds prog 81 [.v (.one (.d (.str qs))), .v (.one (.box 0 0))] ⟨[], [(0, [.d (.lst (List.map api_Prop.enc qx))])]⟩ (Is (twin_CheckProps_1_R qs qx r)) := by
  unfold twin_CheckProps_1 at hF
  refine holds_of_awp hΓ (fn := f81) (c := cB f81) (A := 1) (nx := 1) (by kernel_rfl) (by kernel_rfl) (by kernel_rfl) (by kernel_rfl) (by kernel_rfl) (by kernel_rfl) (lowc_of (by kernel_rfl)) ?_
  show Awp prog 1 8 (cB f81) _ _
  refine awp_seq ?_
  refine awp_region ?_
  refine aR 1 ?_
  refine aE ?_
  refine awp_seq ?_
  refine bE hF fun vr2 h1 hF => ?_
  refine awp_region ?_
  refine aR 2 ?_
  refine aC (twin_find_ok h1) [] [] [] ?_
  refine aR 2 ?_
  refine aE ?_
  refine awp_ret ?_
  exact oF hF [] []

/-! ### beaconfleet/twin.above -/
def twin_above_f1_twin_CheckProps_1_x2_k : Bool → AEx
  | _ => .normal

def twin_above_f1_twin_CheckProps_1_x2_S (qname : List UInt8) (qf : List api_Prop) (vx : Int) : Bool → St
  | vx2 => Mem.st ⟨[], [(0, [.d (.lst (List.map api_Prop.enc qf))])]⟩ (tl [(0, .v (.one (.d (.str qname)))), (1, .v (.one (.fn 81 [0]))), (7, .v (.one (.d (.int .i64 (qname.length : Int))))), (8, .v (.one (.d (.int .i64 vx)))), (21, .v (.one (.d (.bool vx2))))]) 1

def twin_above_f1_twin_CheckProps_1_x2_I (qname : List UInt8) (qf : List api_Prop) (vx : Int) : St := Mem.st ⟨[], [(0, [.d (.lst (List.map api_Prop.enc qf))])]⟩ (tl [(0, .v (.one (.d (.str qname)))), (1, .v (.one (.fn 81 [0]))), (5, .v (.one (.d (.int .i64 vx)))), (7, .v (.one (.d (.int .i64 (qname.length : Int))))), (8, .v (.one (.d (.int .i64 vx))))]) 1

theorem twin_above_f1_twin_CheckProps_1_x2_ok (qname : List UInt8) (qf : List api_Prop) (vx : Int) {r} (hF : twin_above_f1_twin_CheckProps_1_x2 qname qf vx = some r) : Awp prog 1 23 (cL (cR (cL (cL (cR (cR (cL (cL (cR (cL (cR (cB f80)))))))))))) (Out 1 twin_above_f1_twin_CheckProps_1_x2_k (twin_above_f1_twin_CheckProps_1_x2_S qname qf vx) r) (twin_above_f1_twin_CheckProps_1_x2_I qname qf vx) := by
  unfold twin_above_f1_twin_CheckProps_1_x2 at hF
  refine bE hF fun vc1 h2 hF => ?_
  refine cE hF (fun h3 hF => ?_) fun h3 hF => ?_
  · refine bE hF fun vs1 h4 hF => ?_
    refine bE hF fun vr1 h5 hF => ?_
    refine awp_region ?_
    refine aR 2 ?_
    refine aX (x_idxS h2) ?_
    refine aB h3 ?_
    refine aR 4 ?_
    refine aX (x_sliceS h4) ?_
    refine aC (twin_CheckProps_1_ok h5) [] [] [] ?_
    refine aR 1 ?_
    refine aE ?_
    exact oO hF [] [] rfl
  · refine awp_region ?_
    refine aR 2 ?_
    refine aX (x_idxS h2) ?_
    refine aB h3 ?_
    refine aR 7 ?_
    refine aE ?_
    exact oO hF [] [] rfl

def twin_above_f1_twin_CheckProps_1_x1_k : Unit ⊕ Unit → AEx
  | .inl _ => .exit 0
  | .inr _ => .ret

def twin_above_f1_twin_CheckProps_1_x1_S (qname : List UInt8) (qf : List api_Prop) : Unit ⊕ Unit → St
  | .inl _ => Mem.st ⟨[], [(0, [.d (.lst (List.map api_Prop.enc qf))])]⟩ (tl []) 1
  | .inr _ => Mem.st ⟨[], [(0, [.d (.lst (List.map api_Prop.enc qf))])]⟩ (tl [(4, .v (.one (.d (.bool true))))]) 1

def twin_above_f1_twin_CheckProps_1_x1_H (qname : List UInt8) (qf : List api_Prop) : Int → St
  | vx => Mem.st ⟨[], [(0, [.d (.lst (List.map api_Prop.enc qf))])]⟩ (tl [(0, .v (.one (.d (.str qname)))), (1, .v (.one (.fn 81 [0]))), (7, .v (.one (.d (.int .i64 (qname.length : Int))))), (8, .v (.one (.d (.int .i64 vx))))]) 1

theorem twin_above_f1_twin_CheckProps_1_x1_ok (qname : List UInt8) (qf : List api_Prop) (vx : Int) (r : (Int) ⊕ (Unit ⊕ Unit)) (hF : twin_above_f1_twin_CheckProps_1_x1 qname qf vx = some r) : Awp prog 1 23 (cL (cL (cR (cL (cR (cB f80)))))) (Out 1 (kk twin_above_f1_twin_CheckProps_1_x1_k) (SS (twin_above_f1_twin_CheckProps_1_x1_H qname qf) (twin_above_f1_twin_CheckProps_1_x1_S qname qf)) r) (twin_above_f1_twin_CheckProps_1_x1_H qname qf vx) := by
  unfold twin_above_f1_twin_CheckProps_1_x1 at hF
  refine awp_seq ?_
  refine awp_region ?_
  refine aR 1 ?_
  refine aE ?_
  refine awp_seq ?_
  refine cE hF (fun h1 hF => ?_) fun h1 hF => ?_
  · refine awp_true (by kernel_rfl) h1 ?_
    refine awp_skip ?_
    refine awp_seq ?_
    refine awp_block ?_
    refine awp_seq ?_
    refine awp_region ?_
    refine aR 2 ?_
    refine aE ?_
    refine awp_seq ?_
    refine awp_to (st' := twin_above_f1_twin_CheckProps_1_x2_I qname qf vx) (oT [] []) ?_
    refine bE hF fun vx2_1 h6 hF => ?_
    refine awp_sub (twin_above_f1_twin_CheckProps_1_x2_ok qname qf vx h6) ?_
    refine cE hF (fun h7 hF => ?_) fun h7 hF => ?_
    · refine awp_true (by kernel_rfl) h7 ?_
      refine awp_seq ?_
      refine awp_region ?_
      refine aR 1 ?_
      refine aE ?_
      refine awp_ret ?_
      exact oO hF [] [] rfl
    · refine awp_false (by kernel_rfl) h7 ?_
      refine awp_skip ?_
      refine awp_region ?_
      refine aR 2 ?_
      refine aE ?_
      exact oO hF [] [] rfl
  · refine awp_false (by kernel_rfl) h1 ?_
    refine awp_exit ?_
    exact oO hF [] [] rfl

def twin_above_f1_twin_CheckProps_1_R (qname : List UInt8) (qf : List api_Prop) (r : Bool) : TV × Mem := (.v (.one (.d (.bool r))), ⟨[], [(0, [.d (.lst (List.map api_Prop.enc qf))])]⟩)

theorem twin_above_f1_twin_CheckProps_1_ok {qname : List UInt8} {qf : List api_Prop} {r} (hF : twin_above_f1_twin_CheckProps_1 qname qf = some r) : Holds prog 80 [.v (.one (.d (.str qname))), .v (.one (.fn 81 [0]))] ⟨[], [(0, [.d (.lst (List.map api_Prop.enc qf))])]⟩ (Is (twin_above_f1_twin_CheckProps_1_R qname qf r)) := by
  unfold twin_above_f1_twin_CheckProps_1 at hF
  refine holds_of_awp hΓ (fn := f80) (c := cB f80) (A := 1) (nx := 1) (by kernel_rfl) (by kernel_rfl) (by kernel_rfl) (by kernel_rfl) (by kernel_rfl) (by kernel_rfl) (lowc_of (by kernel_rfl)) ?_
  show Awp prog 1 23 (cB f80) _ _
  refine awp_seq ?_
  refine awp_region ?_
  refine aR 1 ?_
  refine aE ?_
  refine awp_seq ?_
  refine awp_seq ?_
  refine awp_region ?_
  refine aR 3 ?_
  refine aE ?_
  refine awp_block ?_
  refine awp_to (st' := twin_above_f1_twin_CheckProps_1_x1_H qname qf 0) (oT [] []) ?_
  refine bE hF fun x h8 hF => ?_
  rcases x with _ | _
  · refine awp_sub (awp_loop' (twin_above_f1_twin_CheckProps_1_x1_H qname qf) twin_above_f1_twin_CheckProps_1_x1_k (twin_above_f1_twin_CheckProps_1_x1_S qname qf) (by intro x; rcases x with x | x <;> exact fun h => nomatch h) h8 (twin_above_f1_twin_CheckProps_1_x1_ok qname qf)) ?_
    refine awp_seq ?_
    refine awp_region ?_
    refine aR 1 ?_
    refine aE ?_
    refine awp_ret ?_
    exact oF hF [] []
  · refine awp_sub (awp_loop' (twin_above_f1_twin_CheckProps_1_x1_H qname qf) twin_above_f1_twin_CheckProps_1_x1_k (twin_above_f1_twin_CheckProps_1_x1_S qname qf) (by intro x; rcases x with x | x <;> exact fun h => nomatch h) h8 (twin_above_f1_twin_CheckProps_1_x1_ok qname qf)) ?_
    exact oF hF [] []

/-! ### beaconfleet/twin.CheckProps -/
def twin_CheckProps_x2_k : Bool → AEx
  | _ => .normal

def twin_CheckProps_x2_S (ql : List api_Prop) (vx : Int) (vy2 : api_Prop) : Bool → St
  | vx2 => Mem.st ⟨[], [(0, [.d (.lst (List.map api_Prop.enc ql))])]⟩ (tl [(1, .v (.one (.box 0 0))), (11, .v (.one (.d (.lst (List.map api_Prop.enc ql))))), (12, .v (.one (.d (.int .i64 (ql.length : Int))))), (13, .v (.one (.d (.int .i64 vx)))), (44, .v (.one (.d (.bool vx2))))]) 1

def twin_CheckProps_x2_I (ql : List api_Prop) (vx : Int) (vy2 : api_Prop) : St := Mem.st ⟨[], [(0, [.d (.lst (List.map api_Prop.enc ql))]), (1, [.d (.str vy2.Name), .d (.int .i64 vy2.Value.Kind), .d (.bool vy2.Value.Flag), .d (.int .i64 vy2.Value.Number), .d (.str vy2.Value.Words)])]⟩ (tl [(1, .v (.one (.box 0 0))), (3, .v (.one (.d (.int .i64 vx)))), (4, .v (.one (.box 1 0))), (11, .v (.one (.d (.lst (List.map api_Prop.enc ql))))), (12, .v (.one (.d (.int .i64 (ql.length : Int))))), (13, .v (.one (.d (.int .i64 vx))))]) 2

theorem twin_CheckProps_x2_ok (ql : List api_Prop) (vx : Int) (vy2 : api_Prop) {r} (hF : twin_CheckProps_x2 ql vx vy2 = some r) : Awp prog 0 57 (cL (cR (cR (cR (cR (cL (cL (cR (cR (cL (cL (cR (cL (cR (cR (cB f44)))))))))))))))) (Out 0 twin_CheckProps_x2_k (twin_CheckProps_x2_S ql vx vy2) r) (twin_CheckProps_x2_I ql vx vy2) := by
  unfold twin_CheckProps_x2 at hF
  refine cE hF (fun h9 hF => ?_) fun h9 hF => ?_
  · refine bE hF fun vy3 h10 hF => ?_
    refine aD ?_
    refine dR 1 ?_
    refine dB h9 ?_
    refine dR 6 ?_
    refine dX (x_idx api_Prop.enc h10) ?_
    refine dR 4 ?_
    refine dE ?_
    exact oO hF [] [] rfl
  · refine aD ?_
    refine dR 1 ?_
    refine dB h9 ?_
    refine dR 11 ?_
    refine dE ?_
    exact oO hF [] [] rfl

def twin_CheckProps_x1_k : Unit ⊕ Int → AEx
  | .inl _ => .exit 0
  | .inr _ => .ret

def twin_CheckProps_x1_S (ql : List api_Prop) : Unit ⊕ Int → St
  | .inl _ => Mem.st ⟨[], [(0, [.d (.lst (List.map api_Prop.enc ql))])]⟩ (tl [(1, .v (.one (.box 0 0)))]) 1
  | .inr vx3 => Mem.st ⟨[], []⟩ (tl [(2, .v (.one (.d (.int .i64 vx3))))]) 0

def twin_CheckProps_x1_H (ql : List api_Prop) : Int → St
  | vx => Mem.st ⟨[], [(0, [.d (.lst (List.map api_Prop.enc ql))])]⟩ (tl [(1, .v (.one (.box 0 0))), (11, .v (.one (.d (.lst (List.map api_Prop.enc ql))))), (12, .v (.one (.d (.int .i64 (ql.length : Int))))), (13, .v (.one (.d (.int .i64 vx))))]) 1

theorem twin_CheckProps_x1_ok (ql : List api_Prop) (vx : Int) (r : (Int) ⊕ (Unit ⊕ Int)) (hF : twin_CheckProps_x1 ql vx = some r) : Awp prog 0 57 (cL (cL (cR (cL (cR (cR (cB f44))))))) (Out 0 (kk twin_CheckProps_x1_k) (SS (twin_CheckProps_x1_H ql) (twin_CheckProps_x1_S ql)) r) (twin_CheckProps_x1_H ql vx) := by
  unfold twin_CheckProps_x1 at hF
  refine awp_seq ?_
  refine awp_region ?_
  refine aR 1 ?_
  refine aE ?_
  refine awp_seq ?_
  refine cE hF (fun h2 hF => ?_) fun h2 hF => ?_
  · refine awp_true (by kernel_rfl) h2 ?_
    refine awp_skip ?_
    refine awp_seq ?_
    refine awp_block ?_
    refine awp_seq ?_
    refine bE hF fun vy2 h3 hF => ?_
    refine awp_region ?_
    refine aR 1 ?_
    refine aX (x_idx api_Prop.enc h3) ?_
    refine aR 4 ?_
    refine aE ?_
    refine awp_seq ?_
    refine awp_seq ?_
    refine bE hF fun vr1 h4 hF => ?_
    refine awp_region ?_
    refine aR 2 ?_
    refine aC (twin_isName_ok h4) [] [] [] ?_
    refine aR 1 ?_
    refine aE ?_
    refine cE hF (fun h5 hF => ?_) fun h5 hF => ?_
    · refine awp_true (by kernel_rfl) h5 ?_
      refine awp_seq ?_
      refine awp_region ?_
      refine aR 1 ?_
      refine aE ?_
      refine awp_ret ?_
      exact oO hF [] [] rfl
    · refine awp_false (by kernel_rfl) h5 ?_
      refine awp_skip ?_
      refine awp_seq ?_
      refine awp_seq ?_
      refine bE hF fun vr2_1 h6 hF => ?_
      refine awp_region ?_
      refine aR 2 ?_
      refine aC (twin_valueFault_ok h6) [] [] [] ?_
      refine aR 1 ?_
      refine aE ?_
      refine awp_seq ?_
      refine awp_region ?_
      refine aR 2 ?_
      refine aE ?_
      refine cE hF (fun h7 hF => ?_) fun h7 hF => ?_
      · refine awp_true (by kernel_rfl) h7 ?_
        refine awp_seq ?_
        refine awp_region ?_
        refine aR 2 ?_
        refine aE ?_
        refine awp_ret ?_
        exact oO hF [] [] rfl
      · refine awp_false (by kernel_rfl) h7 ?_
        refine awp_skip ?_
        refine awp_seq ?_
        refine awp_seq ?_
        refine awp_region ?_
        refine aR 4 ?_
        refine aE ?_
        refine cE hF (fun h8 hF => ?_) fun h8 hF => ?_
        · refine awp_true (by kernel_rfl) h8 ?_
          refine awp_seq ?_
          refine awp_region ?_
          refine aR 1 ?_
          refine aE ?_
          refine awp_ret ?_
          exact oO hF [] [] rfl
        · refine awp_false (by kernel_rfl) h8 ?_
          refine awp_skip ?_
          refine awp_seq ?_
          refine awp_to (st' := twin_CheckProps_x2_I ql vx vy2) (oT [(1, 4001)] []) ?_
          refine bE hF fun vx2_1 h11 hF => ?_
          refine awp_sub (twin_CheckProps_x2_ok ql vx vy2 h11) ?_
          refine cE hF (fun h12 hF => ?_) fun h12 hF => ?_
          · refine awp_true (by kernel_rfl) h12 ?_
            refine awp_seq ?_
            refine awp_region ?_
            refine aR 1 ?_
            refine aE ?_
            refine awp_ret ?_
            exact oO hF [] [] rfl
          · refine awp_false (by kernel_rfl) h12 ?_
            refine awp_skip ?_
            refine awp_region ?_
            refine aR 2 ?_
            refine aE ?_
            exact oO hF [] [] rfl
  · refine awp_false (by kernel_rfl) h2 ?_
    refine awp_exit ?_
    exact oO hF [] [] rfl

def twin_CheckProps_x3_k : Unit ⊕ Unit → AEx
  | .inl _ => .exit 2
  | .inr _ => .ret

def twin_CheckProps_x3_S (ql : List api_Prop) : Unit ⊕ Unit → St
  | .inl _ => Mem.st ⟨[], []⟩ (tl []) 0
  | .inr _ => Mem.st ⟨[], []⟩ (tl [(2, .v (.one (.d (.int .i64 13))))]) 0

def twin_CheckProps_x3_H (ql : List api_Prop) : Int → St
  | vx4 => Mem.st ⟨[], [(0, [.d (.lst (List.map api_Prop.enc ql))])]⟩ (tl [(1, .v (.one (.box 0 0))), (46, .v (.one (.d (.lst (List.map api_Prop.enc ql))))), (47, .v (.one (.d (.int .i64 (ql.length : Int))))), (48, .v (.one (.d (.int .i64 vx4))))]) 1

theorem twin_CheckProps_x3_ok (ql : List api_Prop) (vx4 : Int) (r : (Int) ⊕ (Unit ⊕ Unit)) (hF : twin_CheckProps_x3 ql vx4 = some r) : Awp prog 0 57 (cL (cL (cR (cL (cR (cR (cR (cB f44)))))))) (Out 0 (kk twin_CheckProps_x3_k) (SS (twin_CheckProps_x3_H ql) (twin_CheckProps_x3_S ql)) r) (twin_CheckProps_x3_H ql vx4) := by
  unfold twin_CheckProps_x3 at hF
  refine awp_seq ?_
  refine awp_region ?_
  refine aR 1 ?_
  refine aE ?_
  refine awp_seq ?_
  refine cE hF (fun h14 hF => ?_) fun h14 hF => ?_
  · refine awp_true (by kernel_rfl) h14 ?_
    refine awp_skip ?_
    refine awp_seq ?_
    refine awp_block ?_
    refine awp_seq ?_
    refine bE hF fun vy5 h15 hF => ?_
    refine awp_region ?_
    refine aX (x_idx api_Prop.enc h15) ?_
    refine aR 3 ?_
    refine aE ?_
    refine awp_seq ?_
    refine bE hF fun vr2_3 h16 hF => ?_
    refine awp_region ?_
    refine aR 3 ?_
    refine aC (twin_above_f1_twin_CheckProps_1_ok h16) [] [] [] ?_
    refine aE ?_
    refine cE hF (fun h17 hF => ?_) fun h17 hF => ?_
    · refine awp_true (by kernel_rfl) h17 ?_
      refine awp_seq ?_
      refine awp_region ?_
      refine aR 1 ?_
      refine aE ?_
      refine awp_ret ?_
      exact oO hF [] [] rfl
    · refine awp_false (by kernel_rfl) h17 ?_
      refine awp_skip ?_
      refine awp_region ?_
      refine aR 2 ?_
      refine aE ?_
      exact oO hF [] [] rfl
  · refine awp_false (by kernel_rfl) h14 ?_
    refine awp_exit ?_
    exact oO hF [] [] rfl

def twin_CheckProps_R (ql : List api_Prop) (r : Int) : TV × Mem := (.v (.one (.d (.int .i64 r))), ⟨[], []⟩)

theorem twin_CheckProps_ok {ql : List api_Prop} {r} (hF : twin_CheckProps ql = some r) : Holds prog 44 [.v (.one (.d (.lst (List.map api_Prop.enc ql))))] ⟨[], []⟩ (Is (twin_CheckProps_R ql r)) := by
  unfold twin_CheckProps at hF
  refine holds_of_awp hΓ (fn := f44) (c := cB f44) (A := 0) (nx := 0) (by kernel_rfl) (by kernel_rfl) (by kernel_rfl) (by kernel_rfl) (by kernel_rfl) (by kernel_rfl) (lowc_of (by kernel_rfl)) ?_
  show Awp prog 0 57 (cB f44) _ _
  refine awp_seq ?_
  refine awp_region ?_
  refine aR 2 ?_
  refine aE ?_
  refine awp_seq ?_
  refine awp_seq ?_
  refine awp_region ?_
  refine aR 1 ?_
  refine aL api_Prop.enc ql ?_
  refine aR 1 ?_
  refine aE ?_
  refine cE hF (fun h1 hF => ?_) fun h1 hF => ?_
  · refine awp_true (by kernel_rfl) h1 ?_
    refine awp_seq ?_
    refine awp_region ?_
    refine aR 1 ?_
    refine aE ?_
    refine awp_ret ?_
    exact oF hF [] []
  · refine awp_false (by kernel_rfl) h1 ?_
    refine awp_skip ?_
    refine awp_seq ?_
    refine awp_seq ?_
    refine awp_region ?_
    refine aR 1 ?_
    refine aL api_Prop.enc ql ?_
    refine aR 1 ?_
    refine aE ?_
    refine awp_block ?_
    refine awp_to (st' := twin_CheckProps_x1_H ql 0) (oT [] []) ?_
    refine bE hF fun x h13 hF => ?_
    rcases x with _ | vx3_1
    · refine awp_sub (awp_loop' (twin_CheckProps_x1_H ql) twin_CheckProps_x1_k (twin_CheckProps_x1_S ql) (by intro x; rcases x with x | x <;> exact fun h => nomatch h) h13 (twin_CheckProps_x1_ok ql)) ?_
      refine awp_seq ?_
      refine awp_seq ?_
      refine awp_region ?_
      refine aR 1 ?_
      refine aL api_Prop.enc ql ?_
      refine aR 1 ?_
      refine aE ?_
      refine awp_block ?_
      refine awp_to (st' := twin_CheckProps_x3_H ql 0) (oT [] []) ?_
      refine bE hF fun x h18 hF => ?_
      rcases x with _ | _
      · refine awp_sub (awp_loop' (twin_CheckProps_x3_H ql) twin_CheckProps_x3_k (twin_CheckProps_x3_S ql) (by intro x; rcases x with x | x <;> exact fun h => nomatch h) h18 (twin_CheckProps_x3_ok ql)) ?_
        refine awp_seq ?_
        refine awp_region ?_
        refine aR 1 ?_
        refine aE ?_
        refine awp_ret ?_
        exact oF hF [] []
      · refine awp_sub (awp_loop' (twin_CheckProps_x3_H ql) twin_CheckProps_x3_k (twin_CheckProps_x3_S ql) (by intro x; rcases x with x | x <;> exact fun h => nomatch h) h18 (twin_CheckProps_x3_ok ql)) ?_
        exact oF hF [] []
    · refine awp_sub (awp_loop' (twin_CheckProps_x1_H ql) twin_CheckProps_x1_k (twin_CheckProps_x1_S ql) (by intro x; rcases x with x | x <;> exact fun h => nomatch h) h13 (twin_CheckProps_x1_ok ql)) ?_
      exact oF hF [] []

/-! ### beaconfleet/base.First -/
def base_First_x1_k : Unit ⊕ Int → AEx
  | .inl _ => .exit 0
  | .inr _ => .ret

def base_First_x1_S (ql : List Int) : Unit ⊕ Int → St
  | .inl _ => Mem.st ⟨[], []⟩ (tl []) 0
  | .inr vx1 => Mem.st ⟨[], []⟩ (tl [(2, .v (.one (.d (.int .i64 vx1))))]) 0

def base_First_x1_H (ql : List Int) : Int → St
  | vx => Mem.st ⟨[], []⟩ (tl [(5, .v (.one (.d (.lst (List.map (encI .i64) ql))))), (6, .v (.one (.d (.int .i64 (ql.length : Int))))), (7, .v (.one (.d (.int .i64 vx))))]) 0

theorem base_First_x1_ok (ql : List Int) (vx : Int) (r : (Int) ⊕ (Unit ⊕ Int)) (hF : base_First_x1 ql vx = some r) : Awp prog 0 15 (cL (cL (cR (cL (cR (cB f34)))))) (Out 0 (kk base_First_x1_k) (SS (base_First_x1_H ql) (base_First_x1_S ql)) r) (base_First_x1_H ql vx) := by
  unfold base_First_x1 at hF
  refine awp_seq ?_
  refine awp_region ?_
  refine aR 1 ?_
  refine aE ?_
  refine awp_seq ?_
  refine cE hF (fun h1 hF => ?_) fun h1 hF => ?_
  · refine awp_true (by kernel_rfl) h1 ?_
    refine awp_skip ?_
    refine awp_seq ?_
    refine awp_block ?_
    refine awp_seq ?_
    refine bE hF fun vy1 h2 hF => ?_
    refine awp_region ?_
    refine aX (x_idx (encI .i64) h2) ?_
    refine aR 2 ?_
    refine aE ?_
    refine awp_seq ?_
    refine awp_region ?_
    refine aR 2 ?_
    refine aE ?_
    refine cE hF (fun h3 hF => ?_) fun h3 hF => ?_
    · refine awp_true (by kernel_rfl) h3 ?_
      refine awp_seq ?_
      refine awp_region ?_
      refine aR 2 ?_
      refine aE ?_
      refine awp_ret ?_
      exact oO hF [] [] rfl
    · refine awp_false (by kernel_rfl) h3 ?_
      refine awp_skip ?_
      refine awp_region ?_
      refine aR 2 ?_
      refine aE ?_
      exact oO hF [] [] rfl
  · refine awp_false (by kernel_rfl) h1 ?_
    refine awp_exit ?_
    exact oO hF [] [] rfl

def base_First_R (ql : List Int) (r : Int) : TV × Mem := (.v (.one (.d (.int .i64 r))), ⟨[], []⟩)

theorem base_First_ok {ql : List Int} {r} (hF : base_First ql = some r) : Holds prog 34 [.v (.one (.d (.lst (List.map (encI .i64) ql))))] ⟨[], []⟩ (Is (base_First_R ql r)) := by
  unfold base_First at hF
  refine holds_of_awp hΓ (fn := f34) (c := cB f34) (A := 0) (nx := 0) (by kernel_rfl) (by kernel_rfl) (by kernel_rfl) (by kernel_rfl) (by kernel_rfl) (by kernel_rfl) (lowc_of (by kernel_rfl)) ?_
  show Awp prog 0 15 (cB f34) _ _
  refine awp_seq ?_
  refine awp_region ?_
  refine aR 1 ?_
  refine aE ?_
  refine awp_seq ?_
  refine awp_seq ?_
  refine awp_region ?_
  refine aR 1 ?_
  refine aL (encI .i64) ql ?_
  refine aR 1 ?_
  refine aE ?_
  refine awp_block ?_
  refine awp_to (st' := base_First_x1_H ql 0) (oT [] []) ?_
  refine bE hF fun x h4 hF => ?_
  rcases x with _ | vx1_1
  · refine awp_sub (awp_loop' (base_First_x1_H ql) base_First_x1_k (base_First_x1_S ql) (by intro x; rcases x with x | x <;> exact fun h => nomatch h) h4 (base_First_x1_ok ql)) ?_
    refine awp_seq ?_
    refine awp_region ?_
    refine aR 1 ?_
    refine aE ?_
    refine awp_ret ?_
    exact oF hF [] []
  · refine awp_sub (awp_loop' (base_First_x1_H ql) base_First_x1_k (base_First_x1_S ql) (by intro x; rcases x with x | x <;> exact fun h => nomatch h) h4 (base_First_x1_ok ql)) ?_
    exact oF hF [] []

/-! ### math/bits.Len64 -/
def bits_Len64_x1_k : (Int × Int) → AEx
  | _ => .normal

def bits_Len64_x1_S (qx : Int) : (Int × Int) → St
  | (vx, vn) => Mem.st ⟨[], []⟩ (tl [(0, .v (.one (.d (.int .u64 vx)))), (2, .v (.one (.d (.int .i64 vn))))]) 0

def bits_Len64_x1_I (qx : Int) : St := Mem.st ⟨[], []⟩ (tl [(0, .v (.one (.d (.int .u64 qx)))), (2, .v (.one (.d (.int .i64 0))))]) 0

theorem bits_Len64_x1_ok (qx : Int) {r} (hF : bits_Len64_x1 qx = some r) : Awp prog 0 25 (cL (cR (cB f128))) (Out 0 bits_Len64_x1_k (bits_Len64_x1_S qx) r) (bits_Len64_x1_I qx) := by
  unfold bits_Len64_x1 at hF
  refine awp_seq ?_
  refine awp_region ?_
  refine aR 2 ?_
  refine aE ?_
  refine cE hF (fun h1 hF => ?_) fun h1 hF => ?_
  · refine awp_true (by kernel_rfl) h1 ?_
    refine awp_seq ?_
    refine awp_region ?_
    refine aR 3 ?_
    refine aE ?_
    refine awp_region ?_
    refine aR 1 ?_
    refine aE ?_
    exact oO hF [] [] rfl
  · refine awp_false (by kernel_rfl) h1 ?_
    refine awp_skip ?_
    exact oO hF [] [] rfl

def bits_Len64_x2_k : (Int × Int) → AEx
  | _ => .normal

def bits_Len64_x2_S (vx1 : Int) (vn1 : Int) : (Int × Int) → St
  | (vx2, vn2) => Mem.st ⟨[], []⟩ (tl [(0, .v (.one (.d (.int .u64 vx2)))), (2, .v (.one (.d (.int .i64 vn2))))]) 0

def bits_Len64_x2_I (vx1 : Int) (vn1 : Int) : St := Mem.st ⟨[], []⟩ (tl [(0, .v (.one (.d (.int .u64 vx1)))), (2, .v (.one (.d (.int .i64 vn1))))]) 0

theorem bits_Len64_x2_ok (vx1 : Int) (vn1 : Int) {r} (hF : bits_Len64_x2 vx1 vn1 = some r) : Awp prog 0 25 (cL (cR (cR (cB f128)))) (Out 0 bits_Len64_x2_k (bits_Len64_x2_S vx1 vn1) r) (bits_Len64_x2_I vx1 vn1) := by
  unfold bits_Len64_x2 at hF
  refine awp_seq ?_
  refine awp_region ?_
  refine aR 2 ?_
  refine aE ?_
  refine cE hF (fun h3 hF => ?_) fun h3 hF => ?_
  · refine awp_true (by kernel_rfl) h3 ?_
    refine awp_seq ?_
    refine awp_region ?_
    refine aR 3 ?_
    refine aE ?_
    refine awp_region ?_
    refine aR 3 ?_
    refine aE ?_
    exact oO hF [] [] rfl
  · refine awp_false (by kernel_rfl) h3 ?_
    refine awp_skip ?_
    exact oO hF [] [] rfl

def bits_Len64_x3_k : (Int × Int) → AEx
  | _ => .normal

def bits_Len64_x3_S (vx2_1 : Int) (vn2_1 : Int) : (Int × Int) → St
  | (vx3, vn3) => Mem.st ⟨[], []⟩ (tl [(0, .v (.one (.d (.int .u64 vx3)))), (2, .v (.one (.d (.int .i64 vn3))))]) 0

def bits_Len64_x3_I (vx2_1 : Int) (vn2_1 : Int) : St := Mem.st ⟨[], []⟩ (tl [(0, .v (.one (.d (.int .u64 vx2_1)))), (2, .v (.one (.d (.int .i64 vn2_1))))]) 0

theorem bits_Len64_x3_ok (vx2_1 : Int) (vn2_1 : Int) {r} (hF : bits_Len64_x3 vx2_1 vn2_1 = some r) : Awp prog 0 25 (cL (cR (cR (cR (cB f128))))) (Out 0 bits_Len64_x3_k (bits_Len64_x3_S vx2_1 vn2_1) r) (bits_Len64_x3_I vx2_1 vn2_1) := by
  unfold bits_Len64_x3 at hF
  refine awp_seq ?_
  refine awp_region ?_
  refine aR 2 ?_
  refine aE ?_
  refine cE hF (fun h5 hF => ?_) fun h5 hF => ?_
  · refine awp_true (by kernel_rfl) h5 ?_
    refine awp_seq ?_
    refine awp_region ?_
    refine aR 3 ?_
    refine aE ?_
    refine awp_region ?_
    refine aR 3 ?_
    refine aE ?_
    exact oO hF [] [] rfl
  · refine awp_false (by kernel_rfl) h5 ?_
    refine awp_skip ?_
    exact oO hF [] [] rfl

def bits_Len64_R (qx : Int) (r : Int) : TV × Mem := (.v (.one (.d (.int .i64 r))), ⟨[], []⟩)

theorem bits_Len64_ok {qx : Int} {r} (hF : bits_Len64 qx = some r) : Holds prog 128 [.v (.one (.d (.int .u64 qx)))] ⟨[], []⟩ (Is (bits_Len64_R qx r)) := by
  unfold bits_Len64 at hF
  refine holds_of_awp hΓ (fn := f128) (c := cB f128) (A := 0) (nx := 0) (by kernel_rfl) (by kernel_rfl) (by kernel_rfl) (by kernel_rfl) (by kernel_rfl) (by kernel_rfl) (lowc_of (by kernel_rfl)) ?_
  show Awp prog 0 25 (cB f128) _ _
  refine awp_seq ?_
  refine awp_region ?_
  refine aR 1 ?_
  refine aE ?_
  refine awp_seq ?_
  refine awp_to (st' := bits_Len64_x1_I qx) (oT [] []) ?_
  refine bE hF fun x h2 hF => ?_
  obtain ⟨vx1, vn1⟩ := x
  refine awp_sub (bits_Len64_x1_ok qx h2) ?_
  refine awp_seq ?_
  refine awp_to (st' := bits_Len64_x2_I vx1 vn1) (oT [] []) ?_
  refine bE hF fun x h4 hF => ?_
  obtain ⟨vx2_1, vn2_1⟩ := x
  refine awp_sub (bits_Len64_x2_ok vx1 vn1 h4) ?_
  refine awp_seq ?_
  refine awp_to (st' := bits_Len64_x3_I vx2_1 vn2_1) (oT [] []) ?_
  refine bE hF fun x h6 hF => ?_
  obtain ⟨vx3_1, vn3_1⟩ := x
  refine awp_sub (bits_Len64_x3_ok vx2_1 vn2_1 h6) ?_
  refine awp_seq ?_
  refine bE hF fun vc h7 hF => ?_
  refine awp_region ?_
  refine aR 3 ?_
  refine aX (x_idxS h7) ?_
  refine aR 3 ?_
  refine aE ?_
  refine awp_ret ?_
  exact oF hF [] []

/-! ### math/bits.Len -/
def bits_Len_R (qx : Int) (r : Int) : TV × Mem := (.v (.one (.d (.int .i64 r))), ⟨[], []⟩)

theorem bits_Len_ok {qx : Int} {r} (hF : bits_Len qx = some r) : Holds prog 95 [.v (.one (.d (.int .u64 qx)))] ⟨[], []⟩ (Is (bits_Len_R qx r)) := by
  unfold bits_Len at hF
  refine holds_of_awp hΓ (fn := f95) (c := cB f95) (A := 0) (nx := 0) (by kernel_rfl) (by kernel_rfl) (by kernel_rfl) (by kernel_rfl) (by kernel_rfl) (by kernel_rfl) (lowc_of (by kernel_rfl)) ?_
  show Awp prog 0 8 (cB f95) _ _
  refine awp_seq ?_
  refine awp_region ?_
  refine aR 1 ?_
  refine aE ?_
  refine awp_seq ?_
  refine awp_false (by kernel_rfl) rfl ?_
  refine awp_skip ?_
  refine awp_seq ?_
  refine bE hF fun vr h1 hF => ?_
  refine awp_region ?_
  refine aR 1 ?_
  refine aC (bits_Len64_ok h1) [] [] [] ?_
  refine aR 1 ?_
  refine aE ?_
  refine awp_ret ?_
  exact oF hF [] []

/-! ### cmp.isNaN[string] -/
def cmp_isNaN_string_R (qx : List UInt8) (r : Unit) : TV × Mem := (.v (.one (.d (.bool (!decide (qx = qx))))), ⟨[], []⟩)

theorem cmp_isNaN_string_ok {qx : List UInt8} {r} (hF : cmp_isNaN_string qx = some r) : Holds prog 164 [.v (.one (.d (.str qx)))] ⟨[], []⟩ (Is (cmp_isNaN_string_R qx r)) := by
  unfold cmp_isNaN_string at hF
  refine holds_of_awp hΓ (fn := f164) (c := cB f164) (A := 0) (nx := 0) (by kernel_rfl) (by kernel_rfl) (by kernel_rfl) (by kernel_rfl) (by kernel_rfl) (by kernel_rfl) (lowc_of (by kernel_rfl)) ?_
  show Awp prog 0 6 (cB f164) _ _
  refine awp_seq ?_
  refine awp_region ?_
  refine aR 1 ?_
  refine aE ?_
  refine awp_seq ?_
  refine awp_region ?_
  refine aR 4 ?_
  refine aE ?_
  refine awp_ret ?_
  exact oF hF [] []

/-! ### cmp.Less[string] -/
def cmp_Less_string_x1_k : Bool → AEx
  | _ => .normal

def cmp_Less_string_x1_S (qx : List UInt8) (qy : List UInt8) : Bool → St
  | vx => Mem.st ⟨[], []⟩ (tl [(4, .v (.one (.d (.bool vx))))]) 0

def cmp_Less_string_x1_I (qx : List UInt8) (qy : List UInt8) : St := Mem.st ⟨[], []⟩ (tl [(0, .v (.one (.d (.str qx)))), (1, .v (.one (.d (.str qy))))]) 0

theorem cmp_Less_string_x1_ok (qx : List UInt8) (qy : List UInt8) {r} (hF : cmp_Less_string_x1 qx qy = some r) : Awp prog 0 17 (cL (cR (cB f142))) (Out 0 cmp_Less_string_x1_k (cmp_Less_string_x1_S qx qy) r) (cmp_Less_string_x1_I qx qy) := by
  unfold cmp_Less_string_x1 at hF
  refine bE hF fun _ h1 hF => ?_
  refine cE hF (fun h2 hF => ?_) fun h2 hF => ?_
  · refine bE hF fun _ h3 hF => ?_
    refine cE hF (fun h4 hF => ?_) fun h4 hF => ?_
    · refine awp_region ?_
      refine aR 1 ?_
      refine aCb (cmp_isNaN_string_ok h1) [] [] [] h2 ?_
      refine aR 2 ?_
      refine aC (cmp_isNaN_string_ok h3) [] [] [] ?_
      refine aB h4 ?_
      refine aR 7 ?_
      refine aE ?_
      exact oO hF [] [] rfl
    · refine awp_region ?_
      refine aR 1 ?_
      refine aCb (cmp_isNaN_string_ok h1) [] [] [] h2 ?_
      refine aR 2 ?_
      refine aC (cmp_isNaN_string_ok h3) [] [] [] ?_
      refine aB h4 ?_
      refine aR 7 ?_
      refine aE ?_
      exact oO hF [] [] rfl
  · refine awp_region ?_
    refine aR 1 ?_
    refine aCb (cmp_isNaN_string_ok h1) [] [] [] h2 ?_
    refine aR 11 ?_
    refine aE ?_
    exact oO hF [] [] rfl

def cmp_Less_string_R (qx : List UInt8) (qy : List UInt8) (r : Bool) : TV × Mem := (.v (.one (.d (.bool r))), ⟨[], []⟩)

theorem cmp_Less_string_ok {qx : List UInt8} {qy : List UInt8} {r} (hF : cmp_Less_string qx qy = some r) : Holds prog 142 [.v (.one (.d (.str qx))), .v (.one (.d (.str qy)))] ⟨[], []⟩ (Is (cmp_Less_string_R qx qy r)) := by
  unfold cmp_Less_string at hF
  refine holds_of_awp hΓ (fn := f142) (c := cB f142) (A := 0) (nx := 0) (by kernel_rfl) (by kernel_rfl) (by kernel_rfl) (by kernel_rfl) (by kernel_rfl) (by kernel_rfl) (lowc_of (by kernel_rfl)) ?_
  show Awp prog 0 17 (cB f142) _ _
  refine awp_seq ?_
  refine awp_region ?_
  refine aR 1 ?_
  refine aE ?_
  refine awp_seq ?_
  refine awp_to (st' := cmp_Less_string_x1_I qx qy) (oT [] []) ?_
  refine bE hF fun vx1 h5 hF => ?_
  refine awp_sub (cmp_Less_string_x1_ok qx qy h5) ?_
  refine awp_ret ?_
  exact oF hF [] []

/-! ### slices.insertionSortOrdered[string] -/
def slices_insertionSortOrdered_string_o0_x3_k : Bool → AEx
  | _ => .normal

def slices_insertionSortOrdered_string_o0_x3_S (qa : Int) (qb : Int) (vi : Int) (vl3 : List (List UInt8)) (vj1 : Int) : Bool → St
  | vx4 => Mem.st ⟨[(0, ⟨9, 1, List.map encS vl3⟩)], []⟩ (tl [(0, .v (.one (.own 0 none))), (1, .v (.one (.d (.int .i64 qa)))), (2, .v (.one (.d (.int .i64 qb)))), (6, .v (.one (.d (.int .i64 vi)))), (7, .v (.one (.d (.int .i64 vj1)))), (30, .v (.one (.d (.bool vx4))))]) 1

def slices_insertionSortOrdered_string_o0_x3_I (qa : Int) (qb : Int) (vi : Int) (vl3 : List (List UInt8)) (vj1 : Int) : St := Mem.st ⟨[(0, ⟨9, 1, List.map encS vl3⟩)], []⟩ (tl [(0, .v (.one (.own 0 none))), (1, .v (.one (.d (.int .i64 qa)))), (2, .v (.one (.d (.int .i64 qb)))), (6, .v (.one (.d (.int .i64 vi)))), (7, .v (.one (.d (.int .i64 vj1))))]) 1

theorem slices_insertionSortOrdered_string_o0_x3_ok (qa : Int) (qb : Int) (vi : Int) (vl3 : List (List UInt8)) (vj1 : Int) {r} (hF : slices_insertionSortOrdered_string_o0_x3 qa vl3 vj1 = some r) : Awp prog 1 49 (cL (cL (cL (cL (cR (cL (cL (cR (cL (cL (cR (cB f136)))))))))))) (Out 1 slices_insertionSortOrdered_string_o0_x3_k (slices_insertionSortOrdered_string_o0_x3_S qa qb vi vl3 vj1) r) (slices_insertionSortOrdered_string_o0_x3_I qa qb vi vl3 vj1) := by
  unfold slices_insertionSortOrdered_string_o0_x3 at hF
  refine cE hF (fun h2 hF => ?_) fun h2 hF => ?_
  · refine bE hF fun vy15 h3 hF => ?_
    refine bE hF fun vy16 h4 hF => ?_
    refine bE hF fun vr3 h5 hF => ?_
    refine aD ?_
    refine dR 2 ?_
    refine dB h2 ?_
    refine dR 3 ?_
    refine dX (x_idxO encS 0 h3) ?_
    refine dX (x_ldE encS h3) ?_
    refine dR 3 ?_
    refine dX (x_idxO encS 0 h4) ?_
    refine dX (x_ldE encS h4) ?_
    refine dC (cmp_Less_string_ok h5) [] [] [] ?_
    refine dR 1 ?_
    refine dE ?_
    exact oO hF [] [] rfl
  · refine aD ?_
    refine dR 2 ?_
    refine dB h2 ?_
    refine dR 12 ?_
    refine dE ?_
    exact oO hF [] [] rfl

def slices_insertionSortOrdered_string_o0_x2_k : (List (List UInt8)) → AEx
  | _ => .exit 2

def slices_insertionSortOrdered_string_o0_x2_S (qa : Int) (qb : Int) (vi : Int) : (List (List UInt8)) → St
  | vl4 => Mem.st ⟨[(0, ⟨9, 1, List.map encS vl4⟩)], []⟩ (tl [(0, .v (.one (.own 0 none))), (1, .v (.one (.d (.int .i64 qa)))), (2, .v (.one (.d (.int .i64 qb)))), (6, .v (.one (.d (.int .i64 vi))))]) 1

def slices_insertionSortOrdered_string_o0_x2_H (qa : Int) (qb : Int) (vi : Int) : (List (List UInt8)) × Int → St
  | (vl3, vj1) => Mem.st ⟨[(0, ⟨9, 1, List.map encS vl3⟩)], []⟩ (tl [(0, .v (.one (.own 0 none))), (1, .v (.one (.d (.int .i64 qa)))), (2, .v (.one (.d (.int .i64 qb)))), (6, .v (.one (.d (.int .i64 vi)))), (7, .v (.one (.d (.int .i64 vj1))))]) 1

theorem slices_insertionSortOrdered_string_o0_x2_ok (qa : Int) (qb : Int) (vi : Int) (s : (List (List UInt8)) × Int) (r : ((List (List UInt8)) × Int) ⊕ ((List (List UInt8)))) (hF : slices_insertionSortOrdered_string_o0_x2 qa s = some r) : Awp prog 1 49 (cL (cL (cR (cL (cL (cR (cL (cL (cR (cB f136)))))))))) (Out 1 (kk slices_insertionSortOrdered_string_o0_x2_k) (SS (slices_insertionSortOrdered_string_o0_x2_H qa qb vi) (slices_insertionSortOrdered_string_o0_x2_S qa qb vi)) r) (slices_insertionSortOrdered_string_o0_x2_H qa qb vi s) := by
  obtain ⟨vl3, vj1⟩ := s
  unfold slices_insertionSortOrdered_string_o0_x2 at hF
  refine awp_seq ?_
  refine awp_seq ?_
  refine awp_to (st' := slices_insertionSortOrdered_string_o0_x3_I qa qb vi vl3 vj1) (oT [] []) ?_
  refine bE hF fun vx4_1 h6 hF => ?_
  refine awp_sub (slices_insertionSortOrdered_string_o0_x3_ok qa qb vi vl3 vj1 h6) ?_
  refine cE hF (fun h7 hF => ?_) fun h7 hF => ?_
  · refine awp_true (by kernel_rfl) h7 ?_
    refine awp_skip ?_
    refine awp_seq ?_
    refine awp_block ?_
    refine bE hF fun vy17 h8 hF => ?_
    refine bE hF fun vy18 h9 hF => ?_
    refine bE hF fun vy19 h10 hF => ?_
    refine aDw [0] ?_
    refine dR 8 ?_
    refine dI encS 0 h8 rfl ?_
    refine dX (x_ldE encS h8) ?_
    refine dR 2 ?_
    refine dI encS 0 h9 rfl ?_
    refine dX (x_ldE encS h9) ?_
    refine dI encS 0 h9 rfl ?_
    refine dW encS vy17 h9 rfl ?_
    refine dI encS 0 h10 rfl ?_
    refine dW encS vy18 h10 rfl ?_
    refine dE ?_
    refine awp_region ?_
    refine aR 3 ?_
    refine aE ?_
    exact oO hF [] [] rfl
  · refine awp_false (by kernel_rfl) h7 ?_
    refine awp_exit ?_
    exact oO hF [] [] rfl

def slices_insertionSortOrdered_string_o0_x1_k : (List (List UInt8)) → AEx
  | _ => .exit 0

def slices_insertionSortOrdered_string_o0_x1_S (qa : Int) (qb : Int) : (List (List UInt8)) → St
  | vl5 => Mem.st ⟨[(0, ⟨9, 1, List.map encS vl5⟩)], []⟩ (tl []) 1

def slices_insertionSortOrdered_string_o0_x1_H (qa : Int) (qb : Int) : (List (List UInt8)) × Int → St
  | (vl, vi) => Mem.st ⟨[(0, ⟨9, 1, List.map encS vl⟩)], []⟩ (tl [(0, .v (.one (.own 0 none))), (1, .v (.one (.d (.int .i64 qa)))), (2, .v (.one (.d (.int .i64 qb)))), (6, .v (.one (.d (.int .i64 vi))))]) 1

theorem slices_insertionSortOrdered_string_o0_x1_ok (qa : Int) (qb : Int) (s : (List (List UInt8)) × Int) (r : ((List (List UInt8)) × Int) ⊕ ((List (List UInt8)))) (hF : slices_insertionSortOrdered_string_o0_x1 qa qb s = some r) : Awp prog 1 49 (cL (cL (cR (cB f136)))) (Out 1 (kk slices_insertionSortOrdered_string_o0_x1_k) (SS (slices_insertionSortOrdered_string_o0_x1_H qa qb) (slices_insertionSortOrdered_string_o0_x1_S qa qb)) r) (slices_insertionSortOrdered_string_o0_x1_H qa qb s) := by
  obtain ⟨vl, vi⟩ := s
  unfold slices_insertionSortOrdered_string_o0_x1 at hF
  refine awp_seq ?_
  refine awp_seq ?_
  refine awp_region ?_
  refine aR 3 ?_
  refine aE ?_
  refine cE hF (fun h1 hF => ?_) fun h1 hF => ?_
  · refine awp_true (by kernel_rfl) h1 ?_
    refine awp_skip ?_
    refine awp_seq ?_
    refine awp_block ?_
    refine awp_seq ?_
    refine awp_region ?_
    refine aR 2 ?_
    refine aE ?_
    refine awp_block ?_
    refine awp_to (st' := slices_insertionSortOrdered_string_o0_x2_H qa qb vi (vl, vi)) (oT [] []) ?_
    refine bE hF fun vl4_1 h11 hF => ?_
    refine awp_sub (awp_loop' (slices_insertionSortOrdered_string_o0_x2_H qa qb vi) slices_insertionSortOrdered_string_o0_x2_k (slices_insertionSortOrdered_string_o0_x2_S qa qb vi) (by intro x; exact fun h => nomatch h) h11 (slices_insertionSortOrdered_string_o0_x2_ok qa qb vi)) ?_
    refine awp_region ?_
    refine aR 3 ?_
    refine aE ?_
    exact oO hF [] [] rfl
  · refine awp_false (by kernel_rfl) h1 ?_
    refine awp_exit ?_
    exact oO hF [] [] rfl

def slices_insertionSortOrdered_string_o0_R (qdata : List (List UInt8)) (qa : Int) (qb : Int) (r : (List (List UInt8))) : TV × Mem := (.tup [], ⟨[(0, ⟨9, 1, List.map encS r⟩)], []⟩)

theorem slices_insertionSortOrdered_string_o0_ok {qdata : List (List UInt8)} {qa : Int} {qb : Int} {r} (hF : slices_insertionSortOrdered_string_o0 qdata qa qb = some r) : Holds prog 136 [.v (.one (.own 0 none)), .v (.one (.d (.int .i64 qa))), .v (.one (.d (.int .i64 qb)))] ⟨[(0, ⟨9, 1, List.map encS qdata⟩)], []⟩ (Is (slices_insertionSortOrdered_string_o0_R qdata qa qb r)) := by
  unfold slices_insertionSortOrdered_string_o0 at hF
  refine holds_of_awp hΓ (fn := f136) (c := cB f136) (A := 1) (nx := 1) (by kernel_rfl) (by kernel_rfl) (by kernel_rfl) (by kernel_rfl) (by kernel_rfl) (by kernel_rfl) (lowc_of (by kernel_rfl)) ?_
  show Awp prog 1 49 (cB f136) _ _
  refine awp_seq ?_
  refine awp_region ?_
  refine aR 3 ?_
  refine aE ?_
  refine awp_block ?_
  refine awp_to (st' := slices_insertionSortOrdered_string_o0_x1_H qa qb (qdata, IntKind.wrap .i64 (qa + 1))) (oT [] []) ?_
  refine bE hF fun vl5_1 h12 hF => ?_
  refine awp_sub (awp_loop' (slices_insertionSortOrdered_string_o0_x1_H qa qb) slices_insertionSortOrdered_string_o0_x1_k (slices_insertionSortOrdered_string_o0_x1_S qa qb) (by intro x; exact fun h => nomatch h) h12 (slices_insertionSortOrdered_string_o0_x1_ok qa qb)) ?_
  exact oF hF [] []

/-! ### slices.pdqsortOrdered[string] -/
def slices_pdqsortOrdered_string_o0_x1_k : (List (List UInt8)) → AEx
  | _ => .ret

def slices_pdqsortOrdered_string_o0_x1_S (qx : List (List UInt8)) (qx1 : Int) (qx2 : Int) (qx3 : Int) : (List (List UInt8)) → St
  | vl => Mem.st ⟨[(0, ⟨9, 1, List.map encS vl⟩)], []⟩ (tl []) 1

def slices_pdqsortOrdered_string_o0_x1_H (qx : List (List UInt8)) (qx1 : Int) (qx2 : Int) (qx3 : Int) : Unit → St
  | _ => Mem.st ⟨[(0, ⟨9, 1, List.map encS qx⟩)], []⟩ (tl [(0, .v (.one (.own 0 none))), (1, .v (.one (.d (.int .i64 qx1)))), (2, .v (.one (.d (.int .i64 qx2)))), (3, .v (.one (.d (.int .i64 qx3)))), (8, .v (.one (.d (.bool true)))), (9, .v (.one (.d (.bool true))))]) 1

theorem slices_pdqsortOrdered_string_o0_x1_ok (qx : List (List UInt8)) (qx1 : Int) (qx2 : Int) (qx3 : Int) (s : Unit) (r : (Unit) ⊕ ((List (List UInt8)))) (hF : slices_pdqsortOrdered_string_o0_x1 qx qx1 qx2 qx3 s = some r) : Awp prog 1 134 (cL (cL (cR (cR (cB f110))))) (Out 1 (kk slices_pdqsortOrdered_string_o0_x1_k) (SS (slices_pdqsortOrdered_string_o0_x1_H qx qx1 qx2 qx3) (slices_pdqsortOrdered_string_o0_x1_S qx qx1 qx2 qx3)) r) (slices_pdqsortOrdered_string_o0_x1_H qx qx1 qx2 qx3 s) := by
  unfold slices_pdqsortOrdered_string_o0_x1 at hF
  refine awp_block ?_
  refine awp_seq ?_
  refine awp_region ?_
  refine aR 4 ?_
  refine aE ?_
  refine awp_seq ?_
  refine awp_seq ?_
  refine awp_region ?_
  refine aR 2 ?_
  refine aE ?_
  refine cE hF (fun h1 hF => ?_) fun h1 hF => ?_
  · refine awp_true (by kernel_rfl) h1 ?_
    refine awp_seq ?_
    refine bE hF fun vl6_1 h2 hF => ?_
    refine gE hF fun h3 hF => ?_
    refine awp_region ?_
    refine aR 3 ?_
    refine aCp (slices_insertionSortOrdered_string_o0_ok h2) ⟨⟨rfl, rfl, pin1 h3⟩, trivial⟩ [] [] [] ?_
    refine aE ?_
    refine awp_ret ?_
    exact oO hF [] [] rfl
  · refine awp_false (by kernel_rfl) h1 ?_
    refine awp_skip ?_
    refine awp_seq ?_
    refine awp_seq ?_
    refine awp_region ?_
    refine aR 2 ?_
    refine aE ?_
    refine cE hF (fun h4 hF => ?_) fun h4 hF => ?_
    · refine awp_true (by kernel_rfl) h4 ?_
      refine awp_seq ?_
      exact nE hF
    · refine awp_false (by kernel_rfl) h4 ?_
      refine awp_skip ?_
      refine awp_seq ?_
      refine awp_seq ?_
      refine awp_region ?_
      refine aR 2 ?_
      refine aE ?_
      refine awp_false (by kernel_rfl) rfl ?_
      refine awp_skip ?_
      refine awp_seq ?_
      exact nE hF

def slices_pdqsortOrdered_string_o0_R (qx : List (List UInt8)) (qx1 : Int) (qx2 : Int) (qx3 : Int) (r : (List (List UInt8))) : TV × Mem := (.tup [], ⟨[(0, ⟨9, 1, List.map encS r⟩)], []⟩)

theorem slices_pdqsortOrdered_string_o0_ok {qx : List (List UInt8)} {qx1 : Int} {qx2 : Int} {qx3 : Int} {r} (hF : slices_pdqsortOrdered_string_o0 qx qx1 qx2 qx3 = some r) : Holds prog 110 [.v (.one (.own 0 none)), .v (.one (.d (.int .i64 qx1))), .v (.one (.d (.int .i64 qx2))), .v (.one (.d (.int .i64 qx3)))] ⟨[(0, ⟨9, 1, List.map encS qx⟩)], []⟩ (Is (slices_pdqsortOrdered_string_o0_R qx qx1 qx2 qx3 r)) := by
  unfold slices_pdqsortOrdered_string_o0 at hF
  refine holds_of_awp hΓ (fn := f110) (c := cB f110) (A := 1) (nx := 1) (by kernel_rfl) (by kernel_rfl) (by kernel_rfl) (by kernel_rfl) (by kernel_rfl) (by kernel_rfl) (lowc_of (by kernel_rfl)) ?_
  show Awp prog 1 134 (cB f110) _ _
  refine awp_seq ?_
  refine awp_region ?_
  refine aR 1 ?_
  refine aE ?_
  refine awp_seq ?_
  refine awp_region ?_
  refine aR 1 ?_
  refine aE ?_
  refine awp_block ?_
  refine awp_to (st' := slices_pdqsortOrdered_string_o0_x1_H qx qx1 qx2 qx3 ()) (oT [] []) ?_
  refine bE hF fun vl1 h7 hF => ?_
  refine awp_sub (awp_loop' (slices_pdqsortOrdered_string_o0_x1_H qx qx1 qx2 qx3) slices_pdqsortOrdered_string_o0_x1_k (slices_pdqsortOrdered_string_o0_x1_S qx qx1 qx2 qx3) (by intro x; exact fun h => nomatch h) h7 (slices_pdqsortOrdered_string_o0_x1_ok qx qx1 qx2 qx3)) ?_
  exact oF hF [] []

/-! ### slices.Sort[[]string,string] -/
def slices_Sort_string_string_o0_R (qx : List (List UInt8)) (r : (List (List UInt8))) : TV × Mem := (.tup [], ⟨[(0, ⟨9, 1, List.map encS r⟩)], []⟩)

theorem slices_Sort_string_string_o0_ok {qx : List (List UInt8)} {r} (hF : slices_Sort_string_string_o0 qx = some r) : Holds prog 83 [.v (.one (.own 0 none))] ⟨[(0, ⟨9, 1, List.map encS qx⟩)], []⟩ (Is (slices_Sort_string_string_o0_R qx r)) := by
  unfold slices_Sort_string_string_o0 at hF
  refine holds_of_awp hΓ (fn := f83) (c := cB f83) (A := 1) (nx := 1) (by kernel_rfl) (by kernel_rfl) (by kernel_rfl) (by kernel_rfl) (by kernel_rfl) (by kernel_rfl) (lowc_of (by kernel_rfl)) ?_
  show Awp prog 1 11 (cB f83) _ _
  refine awp_seq ?_
  refine awp_region ?_
  refine aR 1 ?_
  refine aL encS qx ?_
  refine aR 1 ?_
  refine aE ?_
  refine bE hF fun vr1 h1 hF => ?_
  refine bE hF fun vl2 h2 hF => ?_
  refine gE hF fun h3 hF => ?_
  refine awp_region ?_
  refine aR 4 ?_
  refine aC (bits_Len_ok h1) [] [] [] ?_
  refine aCp (slices_pdqsortOrdered_string_o0_ok h2) ⟨⟨rfl, rfl, pin1 h3⟩, trivial⟩ [] [] [] ?_
  refine aE ?_
  exact oF hF [] []

/-! ### slices.Compact[[]string,string] -/
def slices_Compact_string_string_o0_x3_k : ((List (List UInt8)) × Int) → AEx
  | _ => .normal

def slices_Compact_string_string_o0_x3_S (qs : List (List UInt8)) (vk : Int) (vl4 : List (List UInt8)) (vk6 : Int) (vk2_1 : Int) : ((List (List UInt8)) × Int) → St
  | (vl6, vk8) => Mem.st ⟨[(0, ⟨9, 1, List.map encS vl6⟩)], []⟩ (tl [(0, .v (.one (.own 0 none))), (3, .v (.one (.d (.int .i64 vk8)))), (4, .v (.one (.view 0 vk.toNat ((qs.length : Int).toNat - vk.toNat)))), (5, .v (.one (.d (.int .i64 vk2_1))))]) 1

def slices_Compact_string_string_o0_x3_I (qs : List (List UInt8)) (vk : Int) (vl4 : List (List UInt8)) (vk6 : Int) (vk2_1 : Int) : St := Mem.st ⟨[(0, ⟨9, 1, List.map encS vl4⟩)], []⟩ (tl [(0, .v (.one (.own 0 none))), (3, .v (.one (.d (.int .i64 vk6)))), (4, .v (.one (.view 0 vk.toNat ((qs.length : Int).toNat - vk.toNat)))), (5, .v (.one (.d (.int .i64 vk2_1))))]) 1

theorem slices_Compact_string_string_o0_x3_ok (qs : List (List UInt8)) (vk : Int) (vl4 : List (List UInt8)) (vk6 : Int) (vk2_1 : Int) {r} (hF : slices_Compact_string_string_o0_x3 qs vk vl4 vk6 vk2_1 = some r) : Awp prog 1 61 (cL (cR (cL (cL (cR (cL (cR (cL (cR (cL (cL (cR (cL (cL (cR (cL (cR (cR (cB f84))))))))))))))))))) (Out 1 slices_Compact_string_string_o0_x3_k (slices_Compact_string_string_o0_x3_S qs vk vl4 vk6 vk2_1) r) (slices_Compact_string_string_o0_x3_I qs vk vl4 vk6 vk2_1) := by
  unfold slices_Compact_string_string_o0_x3 at hF
  refine awp_block ?_
  refine awp_seq ?_
  refine gE hF fun h8 hF => ?_
  refine bE hF fun vy13 h9 hF => ?_
  refine gE hF fun h10 hF => ?_
  refine bE hF fun vy14 h11 hF => ?_
  refine aD ?_
  refine dR 2 ?_
  refine dX (x_idxV encS 0 h8 h9) ?_
  refine dX (x_ldE encS h9) ?_
  refine dR 3 ?_
  refine dX (x_idxV encS 0 h10 h11) ?_
  refine dX (x_ldE encS h11) ?_
  refine dR 1 ?_
  refine dE ?_
  refine cE hF (fun h12 hF => ?_) fun h12 hF => ?_
  · refine awp_true (by kernel_rfl) h12 ?_
    refine awp_seq ?_
    refine bE hF fun vy15 h13 hF => ?_
    refine awp_region ?_
    refine aR 4 ?_
    refine aX (x_idxV encS 0 h8 h9) ?_
    refine aX (x_ldE encS h9) ?_
    refine aX (x_idxO encS 0 h13) ?_
    refine aX (x_stE encS vy13 h13) ?_
    refine aE ?_
    refine awp_region ?_
    refine aR 3 ?_
    refine aE ?_
    exact oO hF [] [] rfl
  · refine awp_false (by kernel_rfl) h12 ?_
    refine awp_skip ?_
    exact oO hF [] [] rfl

def slices_Compact_string_string_o0_x2_k : ((List (List UInt8)) × Int) → AEx
  | _ => .exit 2

def slices_Compact_string_string_o0_x2_S (qs : List (List UInt8)) (vk : Int) : ((List (List UInt8)) × Int) → St
  | (vl7, vk9) => Mem.st ⟨[(0, ⟨9, 1, List.map encS vl7⟩)], []⟩ (tl [(0, .v (.one (.own 0 none))), (3, .v (.one (.d (.int .i64 vk9))))]) 1

def slices_Compact_string_string_o0_x2_H (qs : List (List UInt8)) (vk : Int) : (List (List UInt8)) × Int × Int → St
  | (vl4, vk6, vk2_1) => Mem.st ⟨[(0, ⟨9, 1, List.map encS vl4⟩)], []⟩ (tl [(0, .v (.one (.own 0 none))), (3, .v (.one (.d (.int .i64 vk6)))), (4, .v (.one (.view 0 vk.toNat ((qs.length : Int).toNat - vk.toNat)))), (5, .v (.one (.d (.int .i64 vk2_1))))]) 1

theorem slices_Compact_string_string_o0_x2_ok (qs : List (List UInt8)) (vk : Int) (s : (List (List UInt8)) × Int × Int) (r : ((List (List UInt8)) × Int × Int) ⊕ (((List (List UInt8)) × Int))) (hF : slices_Compact_string_string_o0_x2 qs vk s = some r) : Awp prog 1 61 (cL (cL (cR (cL (cR (cL (cR (cL (cL (cR (cL (cL (cR (cL (cR (cR (cB f84))))))))))))))))) (Out 1 (kk slices_Compact_string_string_o0_x2_k) (SS (slices_Compact_string_string_o0_x2_H qs vk) (slices_Compact_string_string_o0_x2_S qs vk)) r) (slices_Compact_string_string_o0_x2_H qs vk s) := by
  obtain ⟨vl4, vk6, vk2_1⟩ := s
  unfold slices_Compact_string_string_o0_x2 at hF
  refine awp_seq ?_
  refine awp_seq ?_
  refine awp_region ?_
  refine aR 4 ?_
  refine aE ?_
  refine cE hF (fun h7 hF => ?_) fun h7 hF => ?_
  · refine awp_true (by kernel_rfl) h7 ?_
    refine awp_skip ?_
    refine awp_seq ?_
    refine awp_to (st' := slices_Compact_string_string_o0_x3_I qs vk vl4 vk6 vk2_1) (oT [] []) ?_
    refine bE hF fun x h14 hF => ?_
    obtain ⟨vl6_1, vk8_1⟩ := x
    refine awp_sub (slices_Compact_string_string_o0_x3_ok qs vk vl4 vk6 vk2_1 h14) ?_
    refine awp_region ?_
    refine aR 3 ?_
    refine aE ?_
    exact oO hF [] [] rfl
  · refine awp_false (by kernel_rfl) h7 ?_
    refine awp_exit ?_
    exact oO hF [] [] rfl

def slices_Compact_string_string_o0_x1_k : Unit ⊕ (List (List UInt8)) → AEx
  | .inl _ => .exit 0
  | .inr _ => .ret

def slices_Compact_string_string_o0_x1_S (qs : List (List UInt8)) : Unit ⊕ (List (List UInt8)) → St
  | .inl _ => Mem.st ⟨[(0, ⟨9, 1, List.map encS qs⟩)], []⟩ (tl [(0, .v (.one (.own 0 none)))]) 1
  | .inr vx => Mem.st ⟨[(1, ⟨9, 1, List.map encS vx⟩)], []⟩ (tl [(2, .v (.one (.own 1 none)))]) 2

def slices_Compact_string_string_o0_x1_H (qs : List (List UInt8)) : Int → St
  | vk => Mem.st ⟨[(0, ⟨9, 1, List.map encS qs⟩)], []⟩ (tl [(0, .v (.one (.own 0 none))), (3, .v (.one (.d (.int .i64 vk))))]) 1

theorem slices_Compact_string_string_o0_x1_ok (qs : List (List UInt8)) (vk : Int) (r : (Int) ⊕ (Unit ⊕ (List (List UInt8)))) (hF : slices_Compact_string_string_o0_x1 qs vk = some r) : Awp prog 1 61 (cL (cL (cR (cL (cR (cR (cB f84))))))) (Out 1 (kk slices_Compact_string_string_o0_x1_k) (SS (slices_Compact_string_string_o0_x1_H qs) (slices_Compact_string_string_o0_x1_S qs)) r) (slices_Compact_string_string_o0_x1_H qs vk) := by
  unfold slices_Compact_string_string_o0_x1 at hF
  refine awp_seq ?_
  refine awp_seq ?_
  refine awp_region ?_
  refine aR 2 ?_
  refine aL encS qs ?_
  refine aR 1 ?_
  refine aE ?_
  refine cE hF (fun h2 hF => ?_) fun h2 hF => ?_
  · refine awp_true (by kernel_rfl) h2 ?_
    refine awp_skip ?_
    refine awp_seq ?_
    refine awp_block ?_
    refine awp_seq ?_
    refine bE hF fun vy8 h3 hF => ?_
    refine bE hF fun vy9 h4 hF => ?_
    refine aD ?_
    refine dR 2 ?_
    refine dX (x_idxO encS 0 h3) ?_
    refine dX (x_ldE encS h3) ?_
    refine dR 3 ?_
    refine dX (x_idxO encS 0 h4) ?_
    refine dX (x_ldE encS h4) ?_
    refine dR 1 ?_
    refine dE ?_
    refine cE hF (fun h5 hF => ?_) fun h5 hF => ?_
    · refine awp_true (by kernel_rfl) h5 ?_
      refine awp_seq ?_
      refine gE hF fun h6 hF => ?_
      refine awp_region ?_
      refine aR 2 ?_
      refine aX (x_viewN encS 0 h6) ?_
      refine aR 1 ?_
      refine aE ?_
      refine awp_seq ?_
      refine awp_seq ?_
      refine awp_region ?_
      refine aR 1 ?_
      refine aE ?_
      refine awp_block ?_
      refine awp_to (st' := slices_Compact_string_string_o0_x2_H qs vk (qs, vk, 1)) (oT [] []) ?_
      refine bE hF fun x h15 hF => ?_
      obtain ⟨vl7_1, vk9_1⟩ := x
      refine awp_sub (awp_loop' (slices_Compact_string_string_o0_x2_H qs vk) slices_Compact_string_string_o0_x2_k (slices_Compact_string_string_o0_x2_S qs vk) (by intro x; exact fun h => nomatch h) h15 (slices_Compact_string_string_o0_x2_ok qs vk)) ?_
      refine awp_seq ?_
      refine gE hF fun h16 hF => ?_
      refine awp_region ?_
      refine aR 2 ?_
      refine aX (x_viewN encS 0 h16) ?_
      refine aCl encS 0 (xs := vl7_1) (y := ([] : List UInt8)) (lo := vk9_1) (hi := (vl7_1.length : Int)) rfl ?_
      refine aE ?_
      refine awp_seq ?_
      refine gE hF fun h17 hF => ?_
      refine awp_region ?_
      refine aR 2 ?_
      refine aT encS 0 h17 rfl ?_
      refine aR 1 ?_
      refine aE ?_
      refine awp_ret ?_
      exact oO hF [(1, 6001)] [] rfl
    · refine awp_false (by kernel_rfl) h5 ?_
      refine awp_skip ?_
      refine awp_region ?_
      refine aR 3 ?_
      refine aE ?_
      exact oO hF [] [] rfl
  · refine awp_false (by kernel_rfl) h2 ?_
    refine awp_exit ?_
    exact oO hF [] [] rfl

def slices_Compact_string_string_o0_R (qs : List (List UInt8)) (r : (List (List UInt8))) : TV × Mem := (.v (.one (.own 1 none)), ⟨[(1, ⟨9, 1, List.map encS r⟩)], []⟩)

theorem slices_Compact_string_string_o0_ok {qs : List (List UInt8)} {r} (hF : slices_Compact_string_string_o0 qs = some r) : Holds prog 84 [.v (.one (.own 0 none))] ⟨[(0, ⟨9, 1, List.map encS qs⟩)], []⟩ (Is (slices_Compact_string_string_o0_R qs r)) := by
  unfold slices_Compact_string_string_o0 at hF
  refine holds_of_awp hΓ (fn := f84) (c := cB f84) (A := 1) (nx := 1) (by kernel_rfl) (by kernel_rfl) (by kernel_rfl) (by kernel_rfl) (by kernel_rfl) (by kernel_rfl) (lowc_of (by kernel_rfl)) ?_
  show Awp prog 1 61 (cB f84) _ _
  refine awp_seq ?_
  refine awp_region ?_
  refine aR 1 ?_
  refine aE ?_
  refine awp_seq ?_
  refine awp_seq ?_
  refine awp_region ?_
  refine aR 1 ?_
  refine aL encS qs ?_
  refine aR 1 ?_
  refine aE ?_
  refine cE hF (fun h1 hF => ?_) fun h1 hF => ?_
  · refine awp_true (by kernel_rfl) h1 ?_
    refine awp_seq ?_
    refine awp_region ?_
    refine aR 2 ?_
    refine aE ?_
    refine awp_ret ?_
    exact oF hF [(1, 0)] []
  · refine awp_false (by kernel_rfl) h1 ?_
    refine awp_skip ?_
    refine awp_seq ?_
    refine awp_seq ?_
    refine awp_region ?_
    refine aR 1 ?_
    refine aE ?_
    refine awp_block ?_
    refine awp_to (st' := slices_Compact_string_string_o0_x1_H qs 1) (oT [] []) ?_
    refine bE hF fun x h18 hF => ?_
    rcases x with _ | vx1
    · refine awp_sub (awp_loop' (slices_Compact_string_string_o0_x1_H qs) slices_Compact_string_string_o0_x1_k (slices_Compact_string_string_o0_x1_S qs) (by intro x; rcases x with x | x <;> exact fun h => nomatch h) h18 (slices_Compact_string_string_o0_x1_ok qs)) ?_
      refine awp_seq ?_
      refine awp_region ?_
      refine aR 2 ?_
      refine aE ?_
      refine awp_ret ?_
      exact oF hF [(1, 0)] []
    · refine awp_sub (awp_loop' (slices_Compact_string_string_o0_x1_H qs) slices_Compact_string_string_o0_x1_k (slices_Compact_string_string_o0_x1_S qs) (by intro x; rcases x with x | x <;> exact fun h => nomatch h) h18 (slices_Compact_string_string_o0_x1_ok qs)) ?_
      exact oF hF [] []

/-! ### beaconfleet/twin.names -/
def twin_names_o0_x2_k : (List (List UInt8)) → AEx
  | _ => .exit 2

def twin_names_o0_x2_S (qlists : List (List api_Prop)) (vx : Int) (vy3 : List api_Prop) : (List (List UInt8)) → St
  | vout4 => Mem.st ⟨[(1, ⟨9, 1, List.map encS vout4⟩)], []⟩ (tl [(3, .v (.one (.own 1 none))), (8, .v (.one (.d (.lst (List.map (encL api_Prop.enc) qlists))))), (9, .v (.one (.d (.int .i64 (qlists.length : Int))))), (10, .v (.one (.d (.int .i64 vx))))]) 2

def twin_names_o0_x2_H (qlists : List (List api_Prop)) (vx : Int) (vy3 : List api_Prop) : (List (List UInt8)) × Int → St
  | (vout3, vx2) => Mem.st ⟨[(1, ⟨9, 1, List.map encS vout3⟩)], []⟩ (tl [(3, .v (.one (.own 1 none))), (8, .v (.one (.d (.lst (List.map (encL api_Prop.enc) qlists))))), (9, .v (.one (.d (.int .i64 (qlists.length : Int))))), (10, .v (.one (.d (.int .i64 vx)))), (14, .v (.one (.d (.lst (List.map api_Prop.enc vy3))))), (15, .v (.one (.d (.int .i64 (vy3.length : Int))))), (16, .v (.one (.d (.int .i64 vx2))))]) 2

theorem twin_names_o0_x2_ok (qlists : List (List api_Prop)) (vx : Int) (vy3 : List api_Prop) (s : (List (List UInt8)) × Int) (r : ((List (List UInt8)) × Int) ⊕ ((List (List UInt8)))) (hF : twin_names_o0_x2 vy3 s = some r) : Awp prog 1 31 (cL (cL (cR (cR (cL (cL (cR (cR (cL (cL (cR (cL (cR (cR (cB f45))))))))))))))) (Out 1 (kk twin_names_o0_x2_k) (SS (twin_names_o0_x2_H qlists vx vy3) (twin_names_o0_x2_S qlists vx vy3)) r) (twin_names_o0_x2_H qlists vx vy3 s) := by
  obtain ⟨vout3, vx2⟩ := s
  unfold twin_names_o0_x2 at hF
  refine awp_seq ?_
  refine awp_region ?_
  refine aR 1 ?_
  refine aE ?_
  refine awp_seq ?_
  refine cE hF (fun h3 hF => ?_) fun h3 hF => ?_
  · refine awp_true (by kernel_rfl) h3 ?_
    refine awp_skip ?_
    refine awp_seq ?_
    refine awp_block ?_
    refine awp_seq ?_
    refine bE hF fun vy5 h4 hF => ?_
    refine awp_region ?_
    refine aX (x_idx api_Prop.enc h4) ?_
    refine aR 3 ?_
    refine aE ?_
    refine gE hF fun h5 hF => ?_
    refine awp_region ?_
    refine aR 4 ?_
    refine aX (x_app encS 1 h5) ?_
    refine aR 1 ?_
    refine aE ?_
    refine awp_region ?_
    refine aR 2 ?_
    refine aE ?_
    exact oO hF [(1, 9002)] [] rfl
  · refine awp_false (by kernel_rfl) h3 ?_
    refine awp_exit ?_
    exact oO hF [] [] rfl

def twin_names_o0_x1_k : (List (List UInt8)) → AEx
  | _ => .exit 0

def twin_names_o0_x1_S (qlists : List (List api_Prop)) : (List (List UInt8)) → St
  | vout5 => Mem.st ⟨[(1, ⟨9, 1, List.map encS vout5⟩)], []⟩ (tl [(3, .v (.one (.own 1 none)))]) 2

def twin_names_o0_x1_H (qlists : List (List api_Prop)) : (List (List UInt8)) × Int → St
  | (vout, vx) => Mem.st ⟨[(1, ⟨9, 1, List.map encS vout⟩)], []⟩ (tl [(3, .v (.one (.own 1 none))), (8, .v (.one (.d (.lst (List.map (encL api_Prop.enc) qlists))))), (9, .v (.one (.d (.int .i64 (qlists.length : Int))))), (10, .v (.one (.d (.int .i64 vx))))]) 2

theorem twin_names_o0_x1_ok (qlists : List (List api_Prop)) (s : (List (List UInt8)) × Int) (r : ((List (List UInt8)) × Int) ⊕ ((List (List UInt8)))) (hF : twin_names_o0_x1 qlists s = some r) : Awp prog 1 31 (cL (cL (cR (cL (cR (cR (cB f45))))))) (Out 1 (kk twin_names_o0_x1_k) (SS (twin_names_o0_x1_H qlists) (twin_names_o0_x1_S qlists)) r) (twin_names_o0_x1_H qlists s) := by
  obtain ⟨vout, vx⟩ := s
  unfold twin_names_o0_x1 at hF
  refine awp_seq ?_
  refine awp_region ?_
  refine aR 1 ?_
  refine aE ?_
  refine awp_seq ?_
  refine cE hF (fun h1 hF => ?_) fun h1 hF => ?_
  · refine awp_true (by kernel_rfl) h1 ?_
    refine awp_skip ?_
    refine awp_seq ?_
    refine awp_block ?_
    refine awp_seq ?_
    refine bE hF fun vy3 h2 hF => ?_
    refine awp_region ?_
    refine aX (x_idx (encL api_Prop.enc) h2) ?_
    refine aR 2 ?_
    refine aE ?_
    refine awp_seq ?_
    refine awp_region ?_
    refine aR 1 ?_
    refine aL api_Prop.enc vy3 ?_
    refine aR 1 ?_
    refine aE ?_
    refine awp_block ?_
    refine awp_to (st' := twin_names_o0_x2_H qlists vx vy3 (vout, 0)) (oT [] []) ?_
    refine bE hF fun vout4_1 h6 hF => ?_
    refine awp_sub (awp_loop' (twin_names_o0_x2_H qlists vx vy3) twin_names_o0_x2_k (twin_names_o0_x2_S qlists vx vy3) (by intro x; exact fun h => nomatch h) h6 (twin_names_o0_x2_ok qlists vx vy3)) ?_
    refine awp_region ?_
    refine aR 2 ?_
    refine aE ?_
    exact oO hF [] [] rfl
  · refine awp_false (by kernel_rfl) h1 ?_
    refine awp_exit ?_
    exact oO hF [] [] rfl

def twin_names_o0_R (qlists : List (List api_Prop)) (r : (List (List UInt8))) : TV × Mem := (.v (.one (.own 1 none)), ⟨[(1, ⟨9, 1, List.map encS r⟩)], []⟩)

theorem twin_names_o0_ok {qlists : List (List api_Prop)} {r} (hF : twin_names_o0 qlists = some r) : Holds prog 45 [.v (.one (.own 0 none))] ⟨[(0, ⟨73, 1, List.map (encL api_Prop.enc) qlists⟩)], []⟩ (Is (twin_names_o0_R qlists r)) := by
  unfold twin_names_o0 at hF
  refine holds_of_awp hΓ (fn := f45) (c := cB f45) (A := 1) (nx := 1) (by kernel_rfl) (by kernel_rfl) (by kernel_rfl) (by kernel_rfl) (by kernel_rfl) (by kernel_rfl) (lowc_of (by kernel_rfl)) ?_
  show Awp prog 1 31 (cB f45) _ _
  refine awp_seq ?_
  refine awp_region ?_
  refine aR 1 ?_
  refine aE ?_
  refine awp_to (oT (m := ⟨[], []⟩) (ts := [(0, .v (.one (.d (.lst (List.map (encL api_Prop.enc) qlists)))))]) (nx := 1) [] []) ?_
  refine awp_seq ?_
  refine awp_region ?_
  refine aR 1 ?_
  refine aE ?_
  refine awp_seq ?_
  refine awp_seq ?_
  refine awp_region ?_
  refine aR 1 ?_
  refine aL (encL api_Prop.enc) qlists ?_
  refine aR 1 ?_
  refine aE ?_
  refine awp_block ?_
  refine awp_to (st' := twin_names_o0_x1_H qlists ([], 0)) (oT [] [1]) ?_
  refine bE hF fun vout5_1 h7 hF => ?_
  refine awp_sub (awp_loop' (twin_names_o0_x1_H qlists) twin_names_o0_x1_k (twin_names_o0_x1_S qlists) (by intro x; exact fun h => nomatch h) h7 (twin_names_o0_x1_ok qlists)) ?_
  refine awp_seq ?_
  refine bE hF fun vl h8 hF => ?_
  refine gE hF fun h9 hF => ?_
  refine awp_region ?_
  refine aR 1 ?_
  refine aCp (slices_Sort_string_string_o0_ok h8) ⟨⟨rfl, rfl, pin1 h9⟩, trivial⟩ [(0, 1)] [] [] ?_
  refine aE ?_
  refine awp_seq ?_
  refine bE hF fun vr h10 hF => ?_
  refine awp_region ?_
  refine aR 1 ?_
  refine aC (slices_Compact_string_string_o0_ok h10) [(0, 1)] [] [] ?_
  refine aR 1 ?_
  refine aE ?_
  refine awp_ret ?_
  exact oF hF [(1, 3003)] []

/-! ### slices.BinarySearchFunc[[]beaconfleet/api.Prop,beaconfleet/api.Prop,string] -/
def slices_BinarySearchFunc_api_Prop_api_Prop_string_n0_f2_twin_find_1_x1_k : Unit → AEx
  | _ => .exit 0

def slices_BinarySearchFunc_api_Prop_api_Prop_string_n0_f2_twin_find_1_x1_S (qtarget : List UInt8) : Unit → St
  | _ => Mem.st ⟨[], []⟩ (tl [(0, .v (.one (.nil))), (1, .v (.one (.d (.str qtarget)))), (2, .v (.one (.fn 109 []))), (8, .v (.one (.d (.int .i64 0)))), (9, .v (.one (.d (.int .i64 0))))]) 0

def slices_BinarySearchFunc_api_Prop_api_Prop_string_n0_f2_twin_find_1_x1_H (qtarget : List UInt8) : Unit → St
  | _ => Mem.st ⟨[], []⟩ (tl [(0, .v (.one (.nil))), (1, .v (.one (.d (.str qtarget)))), (2, .v (.one (.fn 109 []))), (8, .v (.one (.d (.int .i64 0)))), (9, .v (.one (.d (.int .i64 0)))), (10, .v (.one (.d (.int .i64 0))))]) 0

theorem slices_BinarySearchFunc_api_Prop_api_Prop_string_n0_f2_twin_find_1_x1_ok (qtarget : List UInt8) (s : Unit) (r : (Unit) ⊕ (Unit)) (hF : slices_BinarySearchFunc_api_Prop_api_Prop_string_n0_f2_twin_find_1_x1  s = some r) : Awp prog 0 49 (cL (cL (cL (cR (cR (cR (cB f108))))))) (Out 0 (kk slices_BinarySearchFunc_api_Prop_api_Prop_string_n0_f2_twin_find_1_x1_k) (SS (slices_BinarySearchFunc_api_Prop_api_Prop_string_n0_f2_twin_find_1_x1_H qtarget) (slices_BinarySearchFunc_api_Prop_api_Prop_string_n0_f2_twin_find_1_x1_S qtarget)) r) (slices_BinarySearchFunc_api_Prop_api_Prop_string_n0_f2_twin_find_1_x1_H qtarget s) := by
  unfold slices_BinarySearchFunc_api_Prop_api_Prop_string_n0_f2_twin_find_1_x1 at hF
  refine awp_seq ?_
  refine awp_seq ?_
  refine awp_region ?_
  refine aR 3 ?_
  refine aE ?_
  refine cE hF (fun h1 hF => ?_) fun h1 hF => ?_
  · refine awp_true (by kernel_rfl) h1 ?_
    refine awp_skip ?_
    refine awp_block ?_
    refine awp_seq ?_
    refine awp_region ?_
    refine aR 7 ?_
    refine aE ?_
    refine awp_seq ?_
    exact nE hF
  · refine awp_false (by kernel_rfl) h1 ?_
    refine awp_exit ?_
    exact oO hF [] [] rfl

def slices_BinarySearchFunc_api_Prop_api_Prop_string_n0_f2_twin_find_1_R (qtarget : List UInt8) (r : Unit) : TV × Mem := (.tup [.one (.d (.int .i64 0)), .one (.d (.bool false))], ⟨[], []⟩)

theorem slices_BinarySearchFunc_api_Prop_api_Prop_string_n0_f2_twin_find_1_ok {qtarget : List UInt8} {r} (hF : slices_BinarySearchFunc_api_Prop_api_Prop_string_n0_f2_twin_find_1 qtarget = some r) : Holds prog 108 [.v (.one (.nil)), .v (.one (.d (.str qtarget))), .v (.one (.fn 109 []))] ⟨[], []⟩ (Is (slices_BinarySearchFunc_api_Prop_api_Prop_string_n0_f2_twin_find_1_R qtarget r)) := by
  unfold slices_BinarySearchFunc_api_Prop_api_Prop_string_n0_f2_twin_find_1 at hF
  refine holds_of_awp hΓ (fn := f108) (c := cB f108) (A := 0) (nx := 0) (by kernel_rfl) (by kernel_rfl) (by kernel_rfl) (by kernel_rfl) (by kernel_rfl) (by kernel_rfl) (lowc_of (by kernel_rfl)) ?_
  show Awp prog 0 49 (cB f108) _ _
  refine awp_seq ?_
  refine awp_region ?_
  refine aR 2 ?_
  refine aE ?_
  refine awp_seq ?_
  refine awp_region ?_
  refine aR 3 ?_
  refine aE ?_
  refine awp_seq ?_
  refine awp_region ?_
  refine aR 3 ?_
  refine aE ?_
  refine awp_seq ?_
  refine awp_block ?_
  refine awp_to (st' := slices_BinarySearchFunc_api_Prop_api_Prop_string_n0_f2_twin_find_1_x1_H qtarget ()) (oT [] []) ?_
  refine bE hF fun _ h3 hF => ?_
  refine awp_sub (awp_loop' (slices_BinarySearchFunc_api_Prop_api_Prop_string_n0_f2_twin_find_1_x1_H qtarget) slices_BinarySearchFunc_api_Prop_api_Prop_string_n0_f2_twin_find_1_x1_k (slices_BinarySearchFunc_api_Prop_api_Prop_string_n0_f2_twin_find_1_x1_S qtarget) (by intro x; exact fun h => nomatch h) h3 (slices_BinarySearchFunc_api_Prop_api_Prop_string_n0_f2_twin_find_1_x1_ok qtarget)) ?_
  refine awp_seq ?_
  refine cE hF (fun h4 hF => ?_) fun h4 hF => ?_
  · exact nE hF
  · refine awp_region ?_
    refine aR 3 ?_
    refine aB h4 ?_
    refine aR 12 ?_
    refine aE ?_
    refine awp_ret ?_
    exact oF hF [] []

/-! ### beaconfleet/twin.find -/
def twin_find_n0_R (qname : List UInt8) (r : Unit) : TV × Mem := (.v (.one (.d (.int .i64 (-1)))), ⟨[], []⟩)

theorem twin_find_n0_ok {qname : List UInt8} {r} (hF : twin_find_n0 qname = some r) : Holds prog 82 [.v (.one (.nil)), .v (.one (.d (.str qname)))] ⟨[], []⟩ (Is (twin_find_n0_R qname r)) := by
  unfold twin_find_n0 at hF
  refine holds_of_awp hΓ (fn := f82) (c := cB f82) (A := 0) (nx := 0) (by kernel_rfl) (by kernel_rfl) (by kernel_rfl) (by kernel_rfl) (by kernel_rfl) (by kernel_rfl) (lowc_of (by kernel_rfl)) ?_
  show Awp prog 0 16 (cB f82) _ _
  refine awp_seq ?_
  refine awp_region ?_
  refine aR 1 ?_
  refine aE ?_
  refine awp_seq ?_
  refine bE hF fun _ h1 hF => ?_
  refine awp_region ?_
  refine aR 2 ?_
  refine aC (slices_BinarySearchFunc_api_Prop_api_Prop_string_n0_f2_twin_find_1_ok h1) [] [] [] ?_
  refine aR 5 ?_
  refine aE ?_
  refine awp_seq ?_
  refine awp_seq ?_
  refine awp_region ?_
  refine aR 2 ?_
  refine aE ?_
  refine awp_true (by kernel_rfl) rfl ?_
  refine awp_seq ?_
  refine awp_region ?_
  refine aR 1 ?_
  refine aE ?_
  refine awp_ret ?_
  exact oF hF [] []

/-! ### beaconfleet/twin.valueOf -/
def twin_valueOf_n0_R (qname : List UInt8) (r : Unit) : TV × Mem := (.v (.agg [.d (.int .i64 0), .d (.bool false), .d (.int .i64 0), .d (.str ([] : List UInt8))]), ⟨[], []⟩)

theorem twin_valueOf_n0_ok {qname : List UInt8} {r} (hF : twin_valueOf_n0 qname = some r) : Holds prog 46 [.v (.one (.nil)), .v (.one (.d (.str qname)))] ⟨[], []⟩ (Is (twin_valueOf_n0_R qname r)) := by
  unfold twin_valueOf_n0 at hF
  refine holds_of_awp hΓ (fn := f46) (c := cB f46) (A := 0) (nx := 0) (by kernel_rfl) (by kernel_rfl) (by kernel_rfl) (by kernel_rfl) (by kernel_rfl) (by kernel_rfl) (lowc_of (by kernel_rfl)) ?_
  show Awp prog 0 17 (cB f46) _ _
  refine awp_seq ?_
  refine awp_region ?_
  refine aR 1 ?_
  refine aE ?_
  refine awp_seq ?_
  refine awp_seq ?_
  refine bE hF fun _ h1 hF => ?_
  refine awp_region ?_
  refine aR 2 ?_
  refine aC (twin_find_n0_ok h1) [] [] [] ?_
  refine aR 1 ?_
  refine aE ?_
  refine awp_seq ?_
  refine awp_region ?_
  refine aR 2 ?_
  refine aE ?_
  refine cE hF (fun h2 hF => ?_) fun h2 hF => ?_
  · refine awp_true (by kernel_rfl) h2 ?_
    refine awp_seq ?_
    exact nE hF
  · refine awp_false (by kernel_rfl) h2 ?_
    refine awp_skip ?_
    refine awp_seq ?_
    refine awp_region ?_
    refine aR 2 ?_
    refine aE ?_
    refine awp_ret ?_
    exact oF hF [] []

/-! ### beaconfleet/twin.valueOf -/
def twin_valueOf_R (ql : List api_Prop) (qname : List UInt8) (r : api_Value) : TV × Mem := (.v (.agg [.d (.int .i64 r.Kind), .d (.bool r.Flag), .d (.int .i64 r.Number), .d (.str r.Words)]), ⟨[], []⟩)

theorem twin_valueOf_ok {ql : List api_Prop} {qname : List UInt8} {r} (hF : twin_valueOf ql qname = some r) : Holds prog 46 [.v (.one (.d (.lst (List.map api_Prop.enc ql)))), .v (.one (.d (.str qname)))] ⟨[], []⟩ (Is (twin_valueOf_R ql qname r)) := by
  unfold twin_valueOf at hF
  refine holds_of_awp hΓ (fn := f46) (c := cB f46) (A := 0) (nx := 0) (by kernel_rfl) (by kernel_rfl) (by kernel_rfl) (by kernel_rfl) (by kernel_rfl) (by kernel_rfl) (lowc_of (by kernel_rfl)) ?_
  show Awp prog 0 17 (cB f46) _ _
  refine awp_seq ?_
  refine awp_region ?_
  refine aR 1 ?_
  refine aE ?_
  refine awp_seq ?_
  refine awp_seq ?_
  refine bE hF fun vr2 h1 hF => ?_
  refine awp_region ?_
  refine aR 2 ?_
  refine aC (twin_find_ok h1) [] [] [] ?_
  refine aR 1 ?_
  refine aE ?_
  refine awp_seq ?_
  refine awp_region ?_
  refine aR 2 ?_
  refine aE ?_
  refine cE hF (fun h2 hF => ?_) fun h2 hF => ?_
  · refine awp_true (by kernel_rfl) h2 ?_
    refine awp_seq ?_
    refine bE hF fun vy h3 hF => ?_
    refine awp_region ?_
    refine aR 2 ?_
    refine aX (x_idx api_Prop.enc h3) ?_
    refine aR 3 ?_
    refine aE ?_
    refine awp_ret ?_
    exact oF hF [] []
  · refine awp_false (by kernel_rfl) h2 ?_
    refine awp_skip ?_
    refine awp_seq ?_
    refine awp_region ?_
    refine aR 2 ?_
    refine aE ?_
    refine awp_ret ?_
    exact oF hF [] []

/-! ### beaconfleet/twin.Differ -/
def twin_Differ_n0_o1_x2_k : (List api_Change) → AEx
  | _ => .normal

def twin_Differ_n0_o1_x2_S (qb : List api_Prop) (vr1_1 : List (List UInt8)) (vout : List api_Change) (vx : Int) : (List api_Change) → St
  | vout2 => Mem.st ⟨[(1, ⟨105, 9, List.map api_Change.enc vout2⟩)], []⟩ (tl [(0, .v (.one (.nil))), (1, .v (.one (.d (.lst (List.map api_Prop.enc qb))))), (7, .v (.one (.own 1 none))), (24, .v (.one (.d (.lst (List.map encS vr1_1))))), (25, .v (.one (.d (.int .i64 (vr1_1.length : Int))))), (26, .v (.one (.d (.int .i64 vx))))]) 2

def twin_Differ_n0_o1_x2_I (qb : List api_Prop) (vr1_1 : List (List UInt8)) (vout : List api_Change) (vx : Int) : St := Mem.st ⟨[(1, ⟨105, 9, List.map api_Change.enc vout⟩)], []⟩ (tl [(0, .v (.one (.nil))), (1, .v (.one (.d (.lst (List.map api_Prop.enc qb))))), (7, .v (.one (.own 1 none))), (24, .v (.one (.d (.lst (List.map encS vr1_1))))), (25, .v (.one (.d (.int .i64 (vr1_1.length : Int))))), (26, .v (.one (.d (.int .i64 vx))))]) 2

theorem twin_Differ_n0_o1_x2_ok (qb : List api_Prop) (vr1_1 : List (List UInt8)) (vout : List api_Change) (vx : Int) {r} (hF : twin_Differ_n0_o1_x2 qb vr1_1 vout vx = some r) : Awp prog 1 48 (cL (cR (cR (cL (cL (cR (cL (cR (cR (cR (cB f27))))))))))) (Out 1 twin_Differ_n0_o1_x2_k (twin_Differ_n0_o1_x2_S qb vr1_1 vout vx) r) (twin_Differ_n0_o1_x2_I qb vr1_1 vout vx) := by
  unfold twin_Differ_n0_o1_x2 at hF
  refine awp_block ?_
  refine awp_seq ?_
  refine bE hF fun vy1 h7 hF => ?_
  refine awp_region ?_
  refine aX (x_idx encS h7) ?_
  refine aR 2 ?_
  refine aE ?_
  refine awp_seq ?_
  refine bE hF fun _ h8 hF => ?_
  refine bE hF fun vr4 h9 hF => ?_
  refine awp_region ?_
  refine aR 2 ?_
  refine aC (twin_valueOf_n0_ok h8) [] [] [] ?_
  refine aR 2 ?_
  refine aC (twin_valueOf_ok h9) [] [] [] ?_
  refine aR 4 ?_
  refine aE ?_
  refine awp_seq ?_
  refine awp_region ?_
  refine aR 2 ?_
  refine aS (does_eqS (op := .neq) (xs := [.int .i64 0, .bool false, .int .i64 0, .str ([] : List UInt8)]) (ys := [.int .i64 vr4.Kind, .bool vr4.Flag, .int .i64 vr4.Number, .str vr4.Words]) (b := (decide ((0 : Int) = vr4.Kind) && ((false == vr4.Flag) && (decide ((0 : Int) = vr4.Number) && (decide (([] : List UInt8) = vr4.Words) && true))))) (c := (!(decide ((0 : Int) = vr4.Kind) && ((false == vr4.Flag) && (decide ((0 : Int) = vr4.Number) && (decide (([] : List UInt8) = vr4.Words) && true)))))) rfl (.inr ⟨rfl, rfl⟩) (by kernel_rfl) (by kernel_rfl) (by kernel_rfl) (by kernel_rfl) (by kernel_rfl) (by kernel_rfl)) ?_
  refine aE ?_
  refine cE hF (fun h10 hF => ?_) fun h10 hF => ?_
  · refine awp_true (by kernel_rfl) h10 ?_
    refine gE hF fun h11 hF => ?_
    refine awp_region ?_
    refine aR 6 ?_
    refine aX (x_app api_Change.enc 1 h11) ?_
    refine aR 1 ?_
    refine aE ?_
    exact oO hF [(1, 22002)] [] rfl
  · refine awp_false (by kernel_rfl) h10 ?_
    refine awp_skip ?_
    exact oO hF [] [] rfl

def twin_Differ_n0_o1_x1_k : (List api_Change) → AEx
  | _ => .exit 0

def twin_Differ_n0_o1_x1_S (qb : List api_Prop) (vr1_1 : List (List UInt8)) : (List api_Change) → St
  | vout3 => Mem.st ⟨[(1, ⟨105, 9, List.map api_Change.enc vout3⟩)], []⟩ (tl [(7, .v (.one (.own 1 none)))]) 2

def twin_Differ_n0_o1_x1_H (qb : List api_Prop) (vr1_1 : List (List UInt8)) : (List api_Change) × Int → St
  | (vout, vx) => Mem.st ⟨[(1, ⟨105, 9, List.map api_Change.enc vout⟩)], []⟩ (tl [(0, .v (.one (.nil))), (1, .v (.one (.d (.lst (List.map api_Prop.enc qb))))), (7, .v (.one (.own 1 none))), (24, .v (.one (.d (.lst (List.map encS vr1_1))))), (25, .v (.one (.d (.int .i64 (vr1_1.length : Int))))), (26, .v (.one (.d (.int .i64 vx))))]) 2

theorem twin_Differ_n0_o1_x1_ok (qb : List api_Prop) (vr1_1 : List (List UInt8)) (s : (List api_Change) × Int) (r : ((List api_Change) × Int) ⊕ ((List api_Change))) (hF : twin_Differ_n0_o1_x1 qb vr1_1 s = some r) : Awp prog 1 48 (cL (cL (cR (cL (cR (cR (cR (cB f27)))))))) (Out 1 (kk twin_Differ_n0_o1_x1_k) (SS (twin_Differ_n0_o1_x1_H qb vr1_1) (twin_Differ_n0_o1_x1_S qb vr1_1)) r) (twin_Differ_n0_o1_x1_H qb vr1_1 s) := by
  obtain ⟨vout, vx⟩ := s
  unfold twin_Differ_n0_o1_x1 at hF
  refine awp_seq ?_
  refine awp_region ?_
  refine aR 1 ?_
  refine aE ?_
  refine awp_seq ?_
  refine cE hF (fun h6 hF => ?_) fun h6 hF => ?_
  · refine awp_true (by kernel_rfl) h6 ?_
    refine awp_skip ?_
    refine awp_seq ?_
    refine awp_to (st' := twin_Differ_n0_o1_x2_I qb vr1_1 vout vx) (oT [] []) ?_
    refine bE hF fun vout2_1 h12 hF => ?_
    refine awp_sub (twin_Differ_n0_o1_x2_ok qb vr1_1 vout vx h12) ?_
    refine awp_region ?_
    refine aR 2 ?_
    refine aE ?_
    exact oO hF [] [] rfl
  · refine awp_false (by kernel_rfl) h6 ?_
    refine awp_exit ?_
    exact oO hF [] [] rfl

def twin_Differ_n0_o1_R (qb : List api_Prop) (r : (List api_Change) × Int) : TV × Mem := (.tup [.one (.own 1 none), .one (.d (.int .i64 r.2))], ⟨[(1, ⟨105, 9, List.map api_Change.enc r.1⟩)], []⟩)

theorem twin_Differ_n0_o1_ok {qb : List api_Prop} {r} (hF : twin_Differ_n0_o1 qb = some r) : Holds prog 27 [.v (.one (.nil)), .v (.one (.own 0 none))] ⟨[(0, ⟨72, 5, List.map api_Prop.enc qb⟩)], []⟩ (Is (twin_Differ_n0_o1_R qb r)) := by
  unfold twin_Differ_n0_o1 at hF
  refine holds_of_awp hΓ (fn := f27) (c := cB f27) (A := 1) (nx := 1) (by kernel_rfl) (by kernel_rfl) (by kernel_rfl) (by kernel_rfl) (by kernel_rfl) (by kernel_rfl) (lowc_of (by kernel_rfl)) ?_
  show Awp prog 1 48 (cB f27) _ _
  refine awp_seq ?_
  refine awp_region ?_
  refine aR 2 ?_
  refine aE ?_
  refine awp_to (oT (m := ⟨[], []⟩) (ts := [(0, .v (.one (.nil))), (1, .v (.one (.d (.lst (List.map api_Prop.enc qb)))))]) (nx := 1) [] []) ?_
  refine awp_seq ?_
  refine awp_seq ?_
  refine bE hF fun vr h1 hF => ?_
  refine bE hF fun vr3 h2 hF => ?_
  refine bE hF fun vr1 h3 hF => ?_
  refine awp_region ?_
  refine aR 1 ?_
  refine aC (twin_CheckProps_n0_ok h1) [] [] [] ?_
  refine aR 1 ?_
  refine aC (twin_CheckProps_ok h2) [] [] [] ?_
  refine aR 1 ?_
  refine aC (base_First_ok h3) [] [] [4001] ?_
  refine aR 1 ?_
  refine aE ?_
  refine awp_seq ?_
  refine awp_region ?_
  refine aR 2 ?_
  refine aE ?_
  refine cE hF (fun h4 hF => ?_) fun h4 hF => ?_
  · refine awp_true (by kernel_rfl) h4 ?_
    refine awp_seq ?_
    refine awp_region ?_
    refine aR 3 ?_
    refine aE ?_
    refine awp_ret ?_
    exact oF hF [] [1]
  · refine awp_false (by kernel_rfl) h4 ?_
    refine awp_skip ?_
    refine awp_seq ?_
    refine awp_region ?_
    refine aR 1 ?_
    refine aE ?_
    refine awp_seq ?_
    refine awp_seq ?_
    refine bE hF fun vr1_1 h5 hF => ?_
    refine awp_region ?_
    refine aR 3 ?_
    refine aC (twin_names_o0_ok h5) [(0, 12001)] [] [] ?_
    refine aL encS vr1_1 ?_
    refine aR 1 ?_
    refine aE ?_
    refine awp_to (oT (m := ⟨[], []⟩) (ts := [(0, .v (.one (.nil))), (1, .v (.one (.d (.lst (List.map api_Prop.enc qb))))), (7, .v (.one (.nil))), (24, .v (.one (.d (.lst (List.map encS vr1_1))))), (25, .v (.one (.d (.int .i64 (vr1_1.length : Int))))), (26, .v (.one (.d (.int .i64 0))))]) (nx := 1) [] []) ?_
    refine awp_block ?_
    refine awp_to (st' := twin_Differ_n0_o1_x1_H qb vr1_1 ([], 0)) (oT [] [1]) ?_
    refine bE hF fun vout3_1 h13 hF => ?_
    refine awp_sub (awp_loop' (twin_Differ_n0_o1_x1_H qb vr1_1) twin_Differ_n0_o1_x1_k (twin_Differ_n0_o1_x1_S qb vr1_1) (by intro x; exact fun h => nomatch h) h13 (twin_Differ_n0_o1_x1_ok qb vr1_1)) ?_
    refine awp_seq ?_
    refine awp_region ?_
    refine aR 3 ?_
    refine aE ?_
    refine awp_ret ?_
    exact oF hF [] []

/-! ### beaconfleet/series.byDevice -/
def series_byDevice_R (qa : api_Sample) (qb : api_Sample) (r : Int) : TV × Mem := (.v (.one (.d (.int .i64 r))), ⟨[], []⟩)

theorem series_byDevice_ok {qa : api_Sample} {qb : api_Sample} {r} (hF : series_byDevice qa qb = some r) : Holds prog 111 [.v (.agg [.d (.str qa.Device), .d (.str qa.Metric), .d (.int .i64 qa.At), .d (.int .i64 qa.Value)]), .v (.agg [.d (.str qb.Device), .d (.str qb.Metric), .d (.int .i64 qb.At), .d (.int .i64 qb.Value)])] ⟨[], []⟩ (Is (series_byDevice_R qa qb r)) := by
  unfold series_byDevice at hF
  refine holds_of_awp hΓ (fn := f111) (c := cB f111) (A := 0) (nx := 0) (by kernel_rfl) (by kernel_rfl) (by kernel_rfl) (by kernel_rfl) (by kernel_rfl) (by kernel_rfl) (lowc_of (by kernel_rfl)) ?_
  show Awp prog 0 22 (cB f111) _ _
  refine awp_seq ?_
  refine awp_region ?_
  refine aR 3 ?_
  refine aE ?_
  refine awp_seq ?_
  refine bE hF fun _ h1 hF => ?_
  refine bE hF fun _ h2 hF => ?_
  refine bE hF fun vr h3 hF => ?_
  refine bE hF fun vr1 h4 hF => ?_
  refine aD ?_
  refine dR 4 ?_
  refine dC (strings_Compare_ok h1) [] [] [] ?_
  refine dR 4 ?_
  refine dC (strings_Compare_ok h2) [] [] [] ?_
  refine dR 4 ?_
  refine dC (cmp_Compare_int_ok h3) [] [] [] ?_
  refine dR 1 ?_
  refine dC (cmp_Or_int_ok h4) [] [] [18000] ?_
  refine dR 1 ?_
  refine dE ?_
  refine awp_ret ?_
  exact oF hF [] []

/-! ### beaconfleet/series.Check -/
def series_Check_x2_k : Bool → AEx
  | _ => .normal

def series_Check_x2_S (ql : List api_Sample) (vx : Int) (vy2 : api_Sample) : Bool → St
  | vx4 => Mem.st ⟨[], [(0, [.d (.str vy2.Device), .d (.str vy2.Metric), .d (.int .i64 vy2.At), .d (.int .i64 vy2.Value)])]⟩ (tl [(0, .v (.one (.d (.lst (List.map api_Sample.enc ql))))), (3, .v (.one (.d (.int .i64 vx)))), (4, .v (.one (.box 0 0))), (8, .v (.one (.d (.lst (List.map api_Sample.enc ql))))), (9, .v (.one (.d (.int .i64 (ql.length : Int))))), (10, .v (.one (.d (.int .i64 vx)))), (15, .v (.one (.d (.bool vx4))))]) 1

def series_Check_x2_I (ql : List api_Sample) (vx : Int) (vy2 : api_Sample) : St := Mem.st ⟨[], [(0, [.d (.str vy2.Device), .d (.str vy2.Metric), .d (.int .i64 vy2.At), .d (.int .i64 vy2.Value)])]⟩ (tl [(0, .v (.one (.d (.lst (List.map api_Sample.enc ql))))), (3, .v (.one (.d (.int .i64 vx)))), (4, .v (.one (.box 0 0))), (8, .v (.one (.d (.lst (List.map api_Sample.enc ql))))), (9, .v (.one (.d (.int .i64 (ql.length : Int))))), (10, .v (.one (.d (.int .i64 vx))))]) 1

theorem series_Check_x2_ok (ql : List api_Sample) (vx : Int) (vy2 : api_Sample) {r} (hF : series_Check_x2 vy2 = some r) : Awp prog 0 50 (cL (cL (cR (cL (cL (cR (cR (cL (cL (cR (cL (cR (cR (cB f85)))))))))))))) (Out 0 series_Check_x2_k (series_Check_x2_S ql vx vy2) r) (series_Check_x2_I ql vx vy2) := by
  unfold series_Check_x2 at hF
  refine bE hF fun vr3 h4 hF => ?_
  refine cE hF (fun h5 hF => ?_) fun h5 hF => ?_
  · refine awp_region ?_
    refine aR 2 ?_
    refine aC (base_Key_ok h4) [] [] [] ?_
    refine aB h5 ?_
    refine aR 7 ?_
    refine aE ?_
    exact oO hF [] [] rfl
  · refine bE hF fun vr4 h6 hF => ?_
    refine awp_region ?_
    refine aR 2 ?_
    refine aC (base_Key_ok h4) [] [] [] ?_
    refine aB h5 ?_
    refine aR 3 ?_
    refine aC (base_Key_ok h6) [] [] [] ?_
    refine aR 3 ?_
    refine aE ?_
    exact oO hF [] [] rfl

def series_Check_x3_k : Bool → AEx
  | _ => .normal

def series_Check_x3_S (ql : List api_Sample) (vx : Int) (vy2 : api_Sample) : Bool → St
  | vx5 => Mem.st ⟨[], [(0, [.d (.str vy2.Device), .d (.str vy2.Metric), .d (.int .i64 vy2.At), .d (.int .i64 vy2.Value)])]⟩ (tl [(0, .v (.one (.d (.lst (List.map api_Sample.enc ql))))), (3, .v (.one (.d (.int .i64 vx)))), (4, .v (.one (.box 0 0))), (8, .v (.one (.d (.lst (List.map api_Sample.enc ql))))), (9, .v (.one (.d (.int .i64 (ql.length : Int))))), (10, .v (.one (.d (.int .i64 vx)))), (26, .v (.one (.d (.bool vx5))))]) 1

def series_Check_x3_I (ql : List api_Sample) (vx : Int) (vy2 : api_Sample) : St := Mem.st ⟨[], [(0, [.d (.str vy2.Device), .d (.str vy2.Metric), .d (.int .i64 vy2.At), .d (.int .i64 vy2.Value)])]⟩ (tl [(0, .v (.one (.d (.lst (List.map api_Sample.enc ql))))), (3, .v (.one (.d (.int .i64 vx)))), (4, .v (.one (.box 0 0))), (8, .v (.one (.d (.lst (List.map api_Sample.enc ql))))), (9, .v (.one (.d (.int .i64 (ql.length : Int))))), (10, .v (.one (.d (.int .i64 vx))))]) 1

theorem series_Check_x3_ok (ql : List api_Sample) (vx : Int) (vy2 : api_Sample) {r} (hF : series_Check_x3 vy2 = some r) : Awp prog 0 50 (cL (cR (cR (cL (cR (cL (cL (cR (cR (cL (cL (cR (cL (cR (cR (cB f85)))))))))))))))) (Out 0 series_Check_x3_k (series_Check_x3_S ql vx vy2) r) (series_Check_x3_I ql vx vy2) := by
  unfold series_Check_x3 at hF
  refine bE hF fun vr1_2 h9 hF => ?_
  refine cE hF (fun h10 hF => ?_) fun h10 hF => ?_
  · refine awp_region ?_
    refine aR 2 ?_
    refine aC (base_Moment_ok h9) [] [] [] ?_
    refine aB h10 ?_
    refine aR 6 ?_
    refine aE ?_
    exact oO hF [] [] rfl
  · refine bE hF fun vr5 h11 hF => ?_
    refine awp_region ?_
    refine aR 2 ?_
    refine aC (base_Moment_ok h9) [] [] [] ?_
    refine aB h10 ?_
    refine aR 3 ?_
    refine aC (base_Out_ok h11) [] [] [] ?_
    refine aR 2 ?_
    refine aE ?_
    exact oO hF [] [] rfl

def series_Check_x4_k : Bool → AEx
  | _ => .normal

def series_Check_x4_S (ql : List api_Sample) (vx : Int) (vy2 : api_Sample) : Bool → St
  | vx6 => Mem.st ⟨[], []⟩ (tl [(0, .v (.one (.d (.lst (List.map api_Sample.enc ql))))), (8, .v (.one (.d (.lst (List.map api_Sample.enc ql))))), (9, .v (.one (.d (.int .i64 (ql.length : Int))))), (10, .v (.one (.d (.int .i64 vx)))), (36, .v (.one (.d (.bool vx6))))]) 0

def series_Check_x4_I (ql : List api_Sample) (vx : Int) (vy2 : api_Sample) : St := Mem.st ⟨[], [(0, [.d (.str vy2.Device), .d (.str vy2.Metric), .d (.int .i64 vy2.At), .d (.int .i64 vy2.Value)])]⟩ (tl [(0, .v (.one (.d (.lst (List.map api_Sample.enc ql))))), (3, .v (.one (.d (.int .i64 vx)))), (4, .v (.one (.box 0 0))), (8, .v (.one (.d (.lst (List.map api_Sample.enc ql))))), (9, .v (.one (.d (.int .i64 (ql.length : Int))))), (10, .v (.one (.d (.int .i64 vx))))]) 1

theorem series_Check_x4_ok (ql : List api_Sample) (vx : Int) (vy2 : api_Sample) {r} (hF : series_Check_x4 ql vx vy2 = some r) : Awp prog 0 50 (cL (cR (cR (cR (cR (cL (cR (cL (cL (cR (cR (cL (cL (cR (cL (cR (cR (cB f85)))))))))))))))))) (Out 0 series_Check_x4_k (series_Check_x4_S ql vx vy2) r) (series_Check_x4_I ql vx vy2) := by
  unfold series_Check_x4 at hF
  refine cE hF (fun h14 hF => ?_) fun h14 hF => ?_
  · refine bE hF fun vy3 h15 hF => ?_
    refine bE hF fun vr2_2 h16 hF => ?_
    refine aD ?_
    refine dR 1 ?_
    refine dB h14 ?_
    refine dR 5 ?_
    refine dX (x_idx api_Sample.enc h15) ?_
    refine dR 1 ?_
    refine dC (series_byDevice_ok h16) [] [] [] ?_
    refine dR 3 ?_
    refine dE ?_
    exact oO hF [] [] rfl
  · refine aD ?_
    refine dR 1 ?_
    refine dB h14 ?_
    refine dR 11 ?_
    refine dE ?_
    exact oO hF [] [] rfl

def series_Check_x1_k : Unit ⊕ Int → AEx
  | .inl _ => .exit 0
  | .inr _ => .ret

def series_Check_x1_S (ql : List api_Sample) : Unit ⊕ Int → St
  | .inl _ => Mem.st ⟨[], []⟩ (tl []) 0
  | .inr vx7 => Mem.st ⟨[], []⟩ (tl [(2, .v (.one (.d (.int .i64 vx7))))]) 0

def series_Check_x1_H (ql : List api_Sample) : Int → St
  | vx => Mem.st ⟨[], []⟩ (tl [(0, .v (.one (.d (.lst (List.map api_Sample.enc ql))))), (8, .v (.one (.d (.lst (List.map api_Sample.enc ql))))), (9, .v (.one (.d (.int .i64 (ql.length : Int))))), (10, .v (.one (.d (.int .i64 vx))))]) 0

theorem series_Check_x1_ok (ql : List api_Sample) (vx : Int) (r : (Int) ⊕ (Unit ⊕ Int)) (hF : series_Check_x1 ql vx = some r) : Awp prog 0 50 (cL (cL (cR (cL (cR (cR (cB f85))))))) (Out 0 (kk series_Check_x1_k) (SS (series_Check_x1_H ql) (series_Check_x1_S ql)) r) (series_Check_x1_H ql vx) := by
  unfold series_Check_x1 at hF
  refine awp_seq ?_
  refine awp_region ?_
  refine aR 1 ?_
  refine aE ?_
  refine awp_seq ?_
  refine cE hF (fun h2 hF => ?_) fun h2 hF => ?_
  · refine awp_true (by kernel_rfl) h2 ?_
    refine awp_skip ?_
    refine awp_seq ?_
    refine awp_block ?_
    refine awp_seq ?_
    refine bE hF fun vy2 h3 hF => ?_
    refine awp_region ?_
    refine aR 1 ?_
    refine aX (x_idx api_Sample.enc h3) ?_
    refine aR 4 ?_
    refine aE ?_
    refine awp_block ?_
    refine awp_seq ?_
    refine awp_to (st' := series_Check_x2_I ql vx vy2) (oT [(0, 4000)] []) ?_
    refine bE hF fun vx4_1 h7 hF => ?_
    refine awp_sub (series_Check_x2_ok ql vx vy2 h7) ?_
    refine cE hF (fun h8 hF => ?_) fun h8 hF => ?_
    · refine awp_true (by kernel_rfl) h8 ?_
      refine awp_seq ?_
      refine awp_region ?_
      refine aR 1 ?_
      refine aE ?_
      refine awp_ret ?_
      exact oO hF [] [] rfl
    · refine awp_false (by kernel_rfl) h8 ?_
      refine awp_seq ?_
      refine awp_to (st' := series_Check_x3_I ql vx vy2) (oT [] []) ?_
      refine bE hF fun vx5_1 h12 hF => ?_
      refine awp_sub (series_Check_x3_ok ql vx vy2 h12) ?_
      refine cE hF (fun h13 hF => ?_) fun h13 hF => ?_
      · refine awp_true (by kernel_rfl) h13 ?_
        refine awp_seq ?_
        refine awp_region ?_
        refine aR 1 ?_
        refine aE ?_
        refine awp_ret ?_
        exact oO hF [] [] rfl
      · refine awp_false (by kernel_rfl) h13 ?_
        refine awp_seq ?_
        refine awp_to (st' := series_Check_x4_I ql vx vy2) (oT [] []) ?_
        refine bE hF fun vx6_1 h17 hF => ?_
        refine awp_sub (series_Check_x4_ok ql vx vy2 h17) ?_
        refine cE hF (fun h18 hF => ?_) fun h18 hF => ?_
        · refine awp_true (by kernel_rfl) h18 ?_
          refine awp_seq ?_
          refine awp_region ?_
          refine aR 1 ?_
          refine aE ?_
          refine awp_ret ?_
          exact oO hF [] [] rfl
        · refine awp_false (by kernel_rfl) h18 ?_
          refine awp_skip ?_
          refine awp_region ?_
          refine aR 2 ?_
          refine aE ?_
          exact oO hF [] [] rfl
  · refine awp_false (by kernel_rfl) h2 ?_
    refine awp_exit ?_
    exact oO hF [] [] rfl

def series_Check_R (ql : List api_Sample) (r : Int) : TV × Mem := (.v (.one (.d (.int .i64 r))), ⟨[], []⟩)

theorem series_Check_ok {ql : List api_Sample} {r} (hF : series_Check ql = some r) : Holds prog 85 [.v (.one (.d (.lst (List.map api_Sample.enc ql))))] ⟨[], []⟩ (Is (series_Check_R ql r)) := by
  unfold series_Check at hF
  refine holds_of_awp hΓ (fn := f85) (c := cB f85) (A := 0) (nx := 0) (by kernel_rfl) (by kernel_rfl) (by kernel_rfl) (by kernel_rfl) (by kernel_rfl) (by kernel_rfl) (lowc_of (by kernel_rfl)) ?_
  show Awp prog 0 50 (cB f85) _ _
  refine awp_seq ?_
  refine awp_region ?_
  refine aR 1 ?_
  refine aE ?_
  refine awp_seq ?_
  refine awp_seq ?_
  refine awp_region ?_
  refine aR 1 ?_
  refine aL api_Sample.enc ql ?_
  refine aR 1 ?_
  refine aE ?_
  refine cE hF (fun h1 hF => ?_) fun h1 hF => ?_
  · refine awp_true (by kernel_rfl) h1 ?_
    refine awp_seq ?_
    refine awp_region ?_
    refine aR 1 ?_
    refine aE ?_
    refine awp_ret ?_
    exact oF hF [] []
  · refine awp_false (by kernel_rfl) h1 ?_
    refine awp_skip ?_
    refine awp_seq ?_
    refine awp_seq ?_
    refine awp_region ?_
    refine aR 1 ?_
    refine aL api_Sample.enc ql ?_
    refine aR 1 ?_
    refine aE ?_
    refine awp_block ?_
    refine awp_to (st' := series_Check_x1_H ql 0) (oT [] []) ?_
    refine bE hF fun x h19 hF => ?_
    rcases x with _ | vx7_1
    · refine awp_sub (awp_loop' (series_Check_x1_H ql) series_Check_x1_k (series_Check_x1_S ql) (by intro x; rcases x with x | x <;> exact fun h => nomatch h) h19 (series_Check_x1_ok ql)) ?_
      refine awp_seq ?_
      refine awp_region ?_
      refine aR 1 ?_
      refine aE ?_
      refine awp_ret ?_
      exact oF hF [] []
    · refine awp_sub (awp_loop' (series_Check_x1_H ql) series_Check_x1_k (series_Check_x1_S ql) (by intro x; rcases x with x | x <;> exact fun h => nomatch h) h19 (series_Check_x1_ok ql)) ?_
      exact oF hF [] []

/-! ### beaconfleet/series.CheckSeries$1 -/
def series_CheckSeries_1_x1_k : Bool → AEx
  | _ => .normal

def series_CheckSeries_1_x1_S (qs : api_Sample) (qx : List api_Sample) : Bool → St
  | vx => Mem.st ⟨[], [(0, [.d (.lst (List.map api_Sample.enc qx))])]⟩ (tl [(3, .v (.one (.d (.bool vx))))]) 1

def series_CheckSeries_1_x1_I (qs : api_Sample) (qx : List api_Sample) : St := Mem.st ⟨[], [(0, [.d (.lst (List.map api_Sample.enc qx))]), (1, [.d (.str qs.Device), .d (.str qs.Metric), .d (.int .i64 qs.At), .d (.int .i64 qs.Value)])]⟩ (tl [(1, .v (.one (.box 0 0))), (2, .v (.one (.box 1 0)))]) 2

theorem series_CheckSeries_1_x1_ok (qs : api_Sample) (qx : List api_Sample) {r} (hF : series_CheckSeries_1_x1 qs qx = some r) : Awp prog 1 20 (cL (cR (cB f87))) (Out 1 series_CheckSeries_1_x1_k (series_CheckSeries_1_x1_S qs qx) r) (series_CheckSeries_1_x1_I qs qx) := by
  unfold series_CheckSeries_1_x1 at hF
  refine bE hF fun vy h1 hF => ?_
  refine cE hF (fun h2 hF => ?_) fun h2 hF => ?_
  · refine aD ?_
    refine dR 3 ?_
    refine dX (x_idx api_Sample.enc h1) ?_
    refine dR 2 ?_
    refine dB h2 ?_
    refine dR 10 ?_
    refine dE ?_
    exact oO hF [] [] rfl
  · refine aD ?_
    refine dR 3 ?_
    refine dX (x_idx api_Sample.enc h1) ?_
    refine dR 2 ?_
    refine dB h2 ?_
    refine dR 4 ?_
    refine dX (x_idx api_Sample.enc h1) ?_
    refine dR 5 ?_
    refine dE ?_
    exact oO hF [] [] rfl

def series_CheckSeries_1_R (qs : api_Sample) (qx : List api_Sample) (r : Bool) : TV × Mem := (.v (.one (.d (.bool r))), ⟨[], [(0, [.d (.lst (List.map api_Sample.enc qx))])]⟩)

theorem series_CheckSeries_1_ok {qs : api_Sample} {qx : List api_Sample} {r} (hF : series_CheckSeries_1 qs qx = some r) : Holds prog 87 [.v (.agg [.d (.str qs.Device), .d (.str qs.Metric), .d (.int .i64 qs.At), .d (.int .i64 qs.Value)]), .v (.one (.box 0 0))] ⟨[], [(0, [.d (.lst (List.map api_Sample.enc qx))])]⟩ (Is (series_CheckSeries_1_R qs qx r)) := by
  unfold series_CheckSeries_1 at hF
  refine holds_of_awp hΓ (fn := f87) (c := cB f87) (A := 1) (nx := 1) (by kernel_rfl) (by kernel_rfl) (by kernel_rfl) (by kernel_rfl) (by kernel_rfl) (by kernel_rfl) (lowc_of (by kernel_rfl)) ?_
  show Awp prog 1 20 (cB f87) _ _
  refine awp_seq ?_
  refine awp_region ?_
  refine aR 2 ?_
  refine aE ?_
  refine awp_seq ?_
  refine awp_to (st' := series_CheckSeries_1_x1_I qs qx) (oT [] []) ?_
  refine bE hF fun vx1 h3 hF => ?_
  refine awp_sub (series_CheckSeries_1_x1_ok qs qx h3) ?_
  refine awp_ret ?_
  exact oF hF [] []

/-! ### slices.IndexFunc[[]beaconfleet/api.Sample,beaconfleet/api.Sample] -/
def slices_IndexFunc_api_Sample_api_Sample_f1_series_CheckSeries_1_x1_k : Unit ⊕ Int → AEx
  | .inl _ => .exit 0
  | .inr _ => .ret

def slices_IndexFunc_api_Sample_api_Sample_f1_series_CheckSeries_1_x1_S (qs : List api_Sample) : Unit ⊕ Int → St
  | .inl _ => Mem.st ⟨[], [(0, [.d (.lst (List.map api_Sample.enc qs))])]⟩ (tl []) 1
  | .inr vx1 => Mem.st ⟨[], [(0, [.d (.lst (List.map api_Sample.enc qs))])]⟩ (tl [(4, .v (.one (.d (.int .i64 vx1))))]) 1

def slices_IndexFunc_api_Sample_api_Sample_f1_series_CheckSeries_1_x1_H (qs : List api_Sample) : Int → St
  | vx => Mem.st ⟨[], [(0, [.d (.lst (List.map api_Sample.enc qs))])]⟩ (tl [(0, .v (.one (.d (.lst (List.map api_Sample.enc qs))))), (1, .v (.one (.fn 87 [0]))), (7, .v (.one (.d (.int .i64 (qs.length : Int))))), (8, .v (.one (.d (.int .i64 vx))))]) 1

theorem slices_IndexFunc_api_Sample_api_Sample_f1_series_CheckSeries_1_x1_ok (qs : List api_Sample) (vx : Int) (r : (Int) ⊕ (Unit ⊕ Int)) (hF : slices_IndexFunc_api_Sample_api_Sample_f1_series_CheckSeries_1_x1 qs vx = some r) : Awp prog 1 19 (cL (cL (cR (cL (cR (cB f112)))))) (Out 1 (kk slices_IndexFunc_api_Sample_api_Sample_f1_series_CheckSeries_1_x1_k) (SS (slices_IndexFunc_api_Sample_api_Sample_f1_series_CheckSeries_1_x1_H qs) (slices_IndexFunc_api_Sample_api_Sample_f1_series_CheckSeries_1_x1_S qs)) r) (slices_IndexFunc_api_Sample_api_Sample_f1_series_CheckSeries_1_x1_H qs vx) := by
  unfold slices_IndexFunc_api_Sample_api_Sample_f1_series_CheckSeries_1_x1 at hF
  refine awp_seq ?_
  refine awp_region ?_
  refine aR 1 ?_
  refine aE ?_
  refine awp_seq ?_
  refine cE hF (fun h1 hF => ?_) fun h1 hF => ?_
  · refine awp_true (by kernel_rfl) h1 ?_
    refine awp_skip ?_
    refine awp_seq ?_
    refine awp_block ?_
    refine awp_seq ?_
    refine awp_region ?_
    refine aR 2 ?_
    refine aE ?_
    refine awp_seq ?_
    refine bE hF fun vy1 h2 hF => ?_
    refine bE hF fun vr1 h3 hF => ?_
    refine awp_region ?_
    refine aR 3 ?_
    refine aX (x_idx api_Sample.enc h2) ?_
    refine aR 1 ?_
    refine aC (series_CheckSeries_1_ok h3) [] [] [] ?_
    refine aE ?_
    refine cE hF (fun h4 hF => ?_) fun h4 hF => ?_
    · refine awp_true (by kernel_rfl) h4 ?_
      refine awp_seq ?_
      refine awp_region ?_
      refine aR 2 ?_
      refine aE ?_
      refine awp_ret ?_
      exact oO hF [] [] rfl
    · refine awp_false (by kernel_rfl) h4 ?_
      refine awp_skip ?_
      refine awp_region ?_
      refine aR 2 ?_
      refine aE ?_
      exact oO hF [] [] rfl
  · refine awp_false (by kernel_rfl) h1 ?_
    refine awp_exit ?_
    exact oO hF [] [] rfl

def slices_IndexFunc_api_Sample_api_Sample_f1_series_CheckSeries_1_R (qs : List api_Sample) (r : Int) : TV × Mem := (.v (.one (.d (.int .i64 r))), ⟨[], [(0, [.d (.lst (List.map api_Sample.enc qs))])]⟩)

theorem slices_IndexFunc_api_Sample_api_Sample_f1_series_CheckSeries_1_ok {qs : List api_Sample} {r} (hF : slices_IndexFunc_api_Sample_api_Sample_f1_series_CheckSeries_1 qs = some r) : Holds prog 112 [.v (.one (.d (.lst (List.map api_Sample.enc qs)))), .v (.one (.fn 87 [0]))] ⟨[], [(0, [.d (.lst (List.map api_Sample.enc qs))])]⟩ (Is (slices_IndexFunc_api_Sample_api_Sample_f1_series_CheckSeries_1_R qs r)) := by
  unfold slices_IndexFunc_api_Sample_api_Sample_f1_series_CheckSeries_1 at hF
  refine holds_of_awp hΓ (fn := f112) (c := cB f112) (A := 1) (nx := 1) (by kernel_rfl) (by kernel_rfl) (by kernel_rfl) (by kernel_rfl) (by kernel_rfl) (by kernel_rfl) (lowc_of (by kernel_rfl)) ?_
  show Awp prog 1 19 (cB f112) _ _
  refine awp_seq ?_
  refine awp_region ?_
  refine aR 1 ?_
  refine aE ?_
  refine awp_seq ?_
  refine awp_seq ?_
  refine awp_region ?_
  refine aR 1 ?_
  refine aL api_Sample.enc qs ?_
  refine aR 1 ?_
  refine aE ?_
  refine awp_block ?_
  refine awp_to (st' := slices_IndexFunc_api_Sample_api_Sample_f1_series_CheckSeries_1_x1_H qs 0) (oT [] []) ?_
  refine bE hF fun x h5 hF => ?_
  rcases x with _ | vx1_1
  · refine awp_sub (awp_loop' (slices_IndexFunc_api_Sample_api_Sample_f1_series_CheckSeries_1_x1_H qs) slices_IndexFunc_api_Sample_api_Sample_f1_series_CheckSeries_1_x1_k (slices_IndexFunc_api_Sample_api_Sample_f1_series_CheckSeries_1_x1_S qs) (by intro x; rcases x with x | x <;> exact fun h => nomatch h) h5 (slices_IndexFunc_api_Sample_api_Sample_f1_series_CheckSeries_1_x1_ok qs)) ?_
    refine awp_seq ?_
    refine awp_region ?_
    refine aR 1 ?_
    refine aE ?_
    refine awp_ret ?_
    exact oF hF [] []
  · refine awp_sub (awp_loop' (slices_IndexFunc_api_Sample_api_Sample_f1_series_CheckSeries_1_x1_H qs) slices_IndexFunc_api_Sample_api_Sample_f1_series_CheckSeries_1_x1_k (slices_IndexFunc_api_Sample_api_Sample_f1_series_CheckSeries_1_x1_S qs) (by intro x; rcases x with x | x <;> exact fun h => nomatch h) h5 (slices_IndexFunc_api_Sample_api_Sample_f1_series_CheckSeries_1_x1_ok qs)) ?_
    exact oF hF [] []

/-! ### slices.ContainsFunc[[]beaconfleet/api.Sample,beaconfleet/api.Sample] -/
def slices_ContainsFunc_api_Sample_api_Sample_f1_series_CheckSeries_1_R (qs : List api_Sample) (r : Bool) : TV × Mem := (.v (.one (.d (.bool r))), ⟨[], [(0, [.d (.lst (List.map api_Sample.enc qs))])]⟩)

theorem slices_ContainsFunc_api_Sample_api_Sample_f1_series_CheckSeries_1_ok {qs : List api_Sample} {r} (hF : slices_ContainsFunc_api_Sample_api_Sample_f1_series_CheckSeries_1 qs = some r) : Holds prog 86 [.v (.one (.d (.lst (List.map api_Sample.enc qs)))), .v (.one (.fn 87 [0]))] ⟨[], [(0, [.d (.lst (List.map api_Sample.enc qs))])]⟩ (Is (slices_ContainsFunc_api_Sample_api_Sample_f1_series_CheckSeries_1_R qs r)) := by
  unfold slices_ContainsFunc_api_Sample_api_Sample_f1_series_CheckSeries_1 at hF
  refine holds_of_awp hΓ (fn := f86) (c := cB f86) (A := 1) (nx := 1) (by kernel_rfl) (by kernel_rfl) (by kernel_rfl) (by kernel_rfl) (by kernel_rfl) (by kernel_rfl) (lowc_of (by kernel_rfl)) ?_
  show Awp prog 1 9 (cB f86) _ _
  refine awp_seq ?_
  refine awp_region ?_
  refine aR 1 ?_
  refine aE ?_
  refine awp_seq ?_
  refine bE hF fun vr2 h1 hF => ?_
  refine awp_region ?_
  refine aR 2 ?_
  refine aC (slices_IndexFunc_api_Sample_api_Sample_f1_series_CheckSeries_1_ok h1) [] [] [] ?_
  refine aR 2 ?_
  refine aE ?_
  refine awp_ret ?_
  exact oF hF [] []

/-! ### beaconfleet/series.CheckSeries -/
def series_CheckSeries_R (ql : List api_Sample) (r : Int) : TV × Mem := (.v (.one (.d (.int .i64 r))), ⟨[], []⟩)

theorem series_CheckSeries_ok {ql : List api_Sample} {r} (hF : series_CheckSeries ql = some r) : Holds prog 47 [.v (.one (.d (.lst (List.map api_Sample.enc ql))))] ⟨[], []⟩ (Is (series_CheckSeries_R ql r)) := by
  unfold series_CheckSeries at hF
  refine holds_of_awp hΓ (fn := f47) (c := cB f47) (A := 0) (nx := 0) (by kernel_rfl) (by kernel_rfl) (by kernel_rfl) (by kernel_rfl) (by kernel_rfl) (by kernel_rfl) (lowc_of (by kernel_rfl)) ?_
  show Awp prog 0 12 (cB f47) _ _
  refine awp_seq ?_
  refine awp_region ?_
  refine aR 2 ?_
  refine aE ?_
  refine awp_seq ?_
  refine awp_seq ?_
  refine bE hF fun vr6 h1 hF => ?_
  refine awp_region ?_
  refine aR 1 ?_
  refine aC (series_Check_ok h1) [] [] [] ?_
  refine aR 1 ?_
  refine aE ?_
  refine awp_seq ?_
  refine awp_region ?_
  refine aR 2 ?_
  refine aE ?_
  refine cE hF (fun h2 hF => ?_) fun h2 hF => ?_
  · refine awp_true (by kernel_rfl) h2 ?_
    refine awp_seq ?_
    refine awp_region ?_
    refine aR 2 ?_
    refine aE ?_
    refine awp_ret ?_
    exact oF hF [] []
  · refine awp_false (by kernel_rfl) h2 ?_
    refine awp_skip ?_
    refine awp_seq ?_
    refine awp_seq ?_
    refine bE hF fun vr h3 hF => ?_
    refine awp_region ?_
    refine aR 2 ?_
    refine aC (slices_ContainsFunc_api_Sample_api_Sample_f1_series_CheckSeries_1_ok h3) [] [] [] ?_
    refine aE ?_
    refine cE hF (fun h4 hF => ?_) fun h4 hF => ?_
    · refine awp_true (by kernel_rfl) h4 ?_
      refine awp_seq ?_
      refine awp_region ?_
      refine aR 1 ?_
      refine aE ?_
      refine awp_ret ?_
      exact oF hF [] []
    · refine awp_false (by kernel_rfl) h4 ?_
      refine awp_skip ?_
      refine awp_seq ?_
      refine awp_region ?_
      refine aR 1 ?_
      refine aE ?_
      refine awp_ret ?_
      exact oF hF [] []

/-! ### beaconfleet/series.seven -/
def series_seven_n0_x1_k : ((List Int) × Int) → AEx
  | _ => .exit 0

def series_seven_n0_x1_S : ((List Int) × Int) → St
  | (vb1, vn1) => Mem.st ⟨[(0, ⟨5, 1, List.map (encI .u8) vb1⟩)], []⟩ (tl [(0, .v (.one (.own 0 none))), (1, .v (.one (.d (.int .u64 vn1))))]) 1

def series_seven_n0_x1_H : (List Int) × Int → St
  | (vb, vn) => Mem.st ⟨[(0, ⟨5, 1, List.map (encI .u8) vb⟩)], []⟩ (tl [(0, .v (.one (.own 0 none))), (1, .v (.one (.d (.int .u64 vn))))]) 1

theorem series_seven_n0_x1_ok (s : (List Int) × Int) (r : ((List Int) × Int) ⊕ (((List Int) × Int))) (hF : series_seven_n0_x1  s = some r) : Awp prog 0 21 (cL (cL (cL (cR (cB f88))))) (Out 0 (kk series_seven_n0_x1_k) (SS (series_seven_n0_x1_H ) (series_seven_n0_x1_S )) r) (series_seven_n0_x1_H  s) := by
  obtain ⟨vb, vn⟩ := s
  unfold series_seven_n0_x1 at hF
  refine awp_seq ?_
  refine awp_seq ?_
  refine awp_region ?_
  refine aR 2 ?_
  refine aE ?_
  refine cE hF (fun h1 hF => ?_) fun h1 hF => ?_
  · refine awp_true (by kernel_rfl) h1 ?_
    refine awp_skip ?_
    refine awp_block ?_
    refine gE hF fun h2 hF => ?_
    refine awp_region ?_
    refine aR 6 ?_
    refine aX (x_app (encI .u8) 0 h2) ?_
    refine aR 4 ?_
    refine aE ?_
    exact oO hF [(0, 8001)] [] rfl
  · refine awp_false (by kernel_rfl) h1 ?_
    refine awp_exit ?_
    exact oO hF [] [] rfl

def series_seven_n0_R (qn : Int) (r : (List Int)) : TV × Mem := (.v (.one (.own 0 none)), ⟨[(0, ⟨5, 1, List.map (encI .u8) r⟩)], []⟩)

theorem series_seven_n0_ok {qn : Int} {r} (hF : series_seven_n0 qn = some r) : Holds prog 88 [.v (.one (.nil)), .v (.one (.d (.int .u64 qn)))] ⟨[], []⟩ (Is (series_seven_n0_R qn r)) := by
  unfold series_seven_n0 at hF
  refine holds_of_awp hΓ (fn := f88) (c := cB f88) (A := 0) (nx := 0) (by kernel_rfl) (by kernel_rfl) (by kernel_rfl) (by kernel_rfl) (by kernel_rfl) (by kernel_rfl) (lowc_of (by kernel_rfl)) ?_
  show Awp prog 0 21 (cB f88) _ _
  refine awp_seq ?_
  refine awp_region ?_
  refine aR 1 ?_
  refine aE ?_
  refine awp_seq ?_
  refine awp_block ?_
  refine awp_to (st' := series_seven_n0_x1_H  ([], qn)) (oT [] [0]) ?_
  refine bE hF fun x h3 hF => ?_
  obtain ⟨vb1_1, vn1_1⟩ := x
  refine awp_sub (awp_loop' (series_seven_n0_x1_H ) series_seven_n0_x1_k (series_seven_n0_x1_S ) (by intro x; exact fun h => nomatch h) h3 (series_seven_n0_x1_ok )) ?_
  refine awp_seq ?_
  refine gE hF fun h4 hF => ?_
  refine awp_region ?_
  refine aR 4 ?_
  refine aX (x_app (encI .u8) 0 h4) ?_
  refine aR 1 ?_
  refine aE ?_
  refine awp_ret ?_
  exact oF hF [(0, 4001)] []

/-! ### beaconfleet/series.doubled -/
def series_doubled_R (qn : Int) (r : Int) : TV × Mem := (.v (.one (.d (.int .u64 r))), ⟨[], []⟩)

theorem series_doubled_ok {qn : Int} {r} (hF : series_doubled qn = some r) : Holds prog 89 [.v (.one (.d (.int .i64 qn)))] ⟨[], []⟩ (Is (series_doubled_R qn r)) := by
  unfold series_doubled at hF
  refine holds_of_awp hΓ (fn := f89) (c := cB f89) (A := 0) (nx := 0) (by kernel_rfl) (by kernel_rfl) (by kernel_rfl) (by kernel_rfl) (by kernel_rfl) (by kernel_rfl) (lowc_of (by kernel_rfl)) ?_
  show Awp prog 0 12 (cB f89) _ _
  refine awp_seq ?_
  refine awp_region ?_
  refine aR 1 ?_
  refine aE ?_
  refine awp_seq ?_
  refine awp_seq ?_
  refine awp_region ?_
  refine aR 2 ?_
  refine aE ?_
  refine cE hF (fun h1 hF => ?_) fun h1 hF => ?_
  · refine awp_true (by kernel_rfl) h1 ?_
    refine awp_seq ?_
    refine awp_region ?_
    refine aR 5 ?_
    refine aE ?_
    refine awp_ret ?_
    exact oF hF [] []
  · refine awp_false (by kernel_rfl) h1 ?_
    refine awp_skip ?_
    refine awp_seq ?_
    refine awp_region ?_
    refine aR 4 ?_
    refine aE ?_
    refine awp_ret ?_
    exact oF hF [] []

/-! ### beaconfleet/series.seven -/
def series_seven_o0_x1_k : ((List Int) × Int) → AEx
  | _ => .exit 0

def series_seven_o0_x1_S : ((List Int) × Int) → St
  | (vb1, vn1) => Mem.st ⟨[(1, ⟨5, 1, List.map (encI .u8) vb1⟩)], []⟩ (tl [(0, .v (.one (.own 1 none))), (1, .v (.one (.d (.int .u64 vn1))))]) 2

def series_seven_o0_x1_H : (List Int) × Int → St
  | (vb, vn) => Mem.st ⟨[(1, ⟨5, 1, List.map (encI .u8) vb⟩)], []⟩ (tl [(0, .v (.one (.own 1 none))), (1, .v (.one (.d (.int .u64 vn))))]) 2

theorem series_seven_o0_x1_ok (s : (List Int) × Int) (r : ((List Int) × Int) ⊕ (((List Int) × Int))) (hF : series_seven_o0_x1  s = some r) : Awp prog 1 21 (cL (cL (cL (cR (cB f88))))) (Out 1 (kk series_seven_o0_x1_k) (SS (series_seven_o0_x1_H ) (series_seven_o0_x1_S )) r) (series_seven_o0_x1_H  s) := by
  obtain ⟨vb, vn⟩ := s
  unfold series_seven_o0_x1 at hF
  refine awp_seq ?_
  refine awp_seq ?_
  refine awp_region ?_
  refine aR 2 ?_
  refine aE ?_
  refine cE hF (fun h1 hF => ?_) fun h1 hF => ?_
  · refine awp_true (by kernel_rfl) h1 ?_
    refine awp_skip ?_
    refine awp_block ?_
    refine gE hF fun h2 hF => ?_
    refine awp_region ?_
    refine aR 6 ?_
    refine aX (x_app (encI .u8) 1 h2) ?_
    refine aR 4 ?_
    refine aE ?_
    exact oO hF [(1, 8002)] [] rfl
  · refine awp_false (by kernel_rfl) h1 ?_
    refine awp_exit ?_
    exact oO hF [] [] rfl

def series_seven_o0_R (qb : List Int) (qn : Int) (r : (List Int)) : TV × Mem := (.v (.one (.own 1 none)), ⟨[(1, ⟨5, 1, List.map (encI .u8) r⟩)], []⟩)

theorem series_seven_o0_ok {qb : List Int} {qn : Int} {r} (hF : series_seven_o0 qb qn = some r) : Holds prog 88 [.v (.one (.own 0 none)), .v (.one (.d (.int .u64 qn)))] ⟨[(0, ⟨5, 1, List.map (encI .u8) qb⟩)], []⟩ (Is (series_seven_o0_R qb qn r)) := by
  unfold series_seven_o0 at hF
  refine holds_of_awp hΓ (fn := f88) (c := cB f88) (A := 1) (nx := 1) (by kernel_rfl) (by kernel_rfl) (by kernel_rfl) (by kernel_rfl) (by kernel_rfl) (by kernel_rfl) (lowc_of (by kernel_rfl)) ?_
  show Awp prog 1 21 (cB f88) _ _
  refine awp_seq ?_
  refine awp_region ?_
  refine aR 1 ?_
  refine aE ?_
  refine awp_seq ?_
  refine awp_block ?_
  refine awp_to (st' := series_seven_o0_x1_H  (qb, qn)) (oT [(1, 0)] []) ?_
  refine bE hF fun x h3 hF => ?_
  obtain ⟨vb1_1, vn1_1⟩ := x
  refine awp_sub (awp_loop' (series_seven_o0_x1_H ) series_seven_o0_x1_k (series_seven_o0_x1_S ) (by intro x; exact fun h => nomatch h) h3 (series_seven_o0_x1_ok )) ?_
  refine awp_seq ?_
  refine gE hF fun h4 hF => ?_
  refine awp_region ?_
  refine aR 4 ?_
  refine aX (x_app (encI .u8) 1 h4) ?_
  refine aR 1 ?_
  refine aE ?_
  refine awp_ret ?_
  exact oF hF [(1, 4002)] []

/-! ### beaconfleet/series.pack -/
def series_pack_x2_k : Int → AEx
  | _ => .normal

def series_pack_x2_S (ql : List api_Sample) (vat : Int) (vby : Int) (vx : Int) (vy1 : api_Sample) (vr8 : List Int) : Int → St
  | vby2 => Mem.st ⟨[(0, ⟨5, 1, List.map (encI .u8) vr8⟩)], [(1, [.d (.str vy1.Device), .d (.str vy1.Metric), .d (.int .i64 vy1.At), .d (.int .i64 vy1.Value)])]⟩ (tl [(3, .v (.one (.own 0 none))), (5, .v (.one (.d (.int .i64 vby2)))), (8, .v (.one (.box 1 0))), (14, .v (.one (.d (.lst (List.map api_Sample.enc ql))))), (15, .v (.one (.d (.int .i64 (ql.length : Int))))), (16, .v (.one (.d (.int .i64 vx))))]) 2

def series_pack_x2_I (ql : List api_Sample) (vat : Int) (vby : Int) (vx : Int) (vy1 : api_Sample) (vr8 : List Int) : St := Mem.st ⟨[(0, ⟨5, 1, List.map (encI .u8) vr8⟩)], [(1, [.d (.str vy1.Device), .d (.str vy1.Metric), .d (.int .i64 vy1.At), .d (.int .i64 vy1.Value)])]⟩ (tl [(3, .v (.one (.own 0 none))), (5, .v (.one (.d (.int .i64 vby)))), (7, .v (.one (.d (.int .i64 vx)))), (8, .v (.one (.box 1 0))), (9, .v (.one (.d (.int .i64 (IntKind.wrap .i64 (vy1.At - vat)))))), (14, .v (.one (.d (.lst (List.map api_Sample.enc ql))))), (15, .v (.one (.d (.int .i64 (ql.length : Int))))), (16, .v (.one (.d (.int .i64 vx))))]) 2

theorem series_pack_x2_ok (ql : List api_Sample) (vat : Int) (vby : Int) (vx : Int) (vy1 : api_Sample) (vr8 : List Int) {r} (hF : series_pack_x2 vat vby vx vy1 = some r) : Awp prog 0 47 (cL (cR (cR (cR (cR (cL (cL (cR (cR (cL (cL (cR (cL (cR (cR (cR (cB f48))))))))))))))))) (Out 0 series_pack_x2_k (series_pack_x2_S ql vat vby vx vy1 vr8) r) (series_pack_x2_I ql vat vby vx vy1 vr8) := by
  unfold series_pack_x2 at hF
  refine awp_seq ?_
  refine awp_region ?_
  refine aR 2 ?_
  refine aE ?_
  refine cE hF (fun h8 hF => ?_) fun h8 hF => ?_
  · refine awp_true (by kernel_rfl) h8 ?_
    refine awp_region ?_
    refine aR 2 ?_
    refine aE ?_
    exact oO hF [] [] rfl
  · refine awp_false (by kernel_rfl) h8 ?_
    refine awp_skip ?_
    exact oO hF [] [] rfl

def series_pack_x1_k : (List Int) → AEx
  | _ => .exit 0

def series_pack_x1_S (ql : List api_Sample) : (List Int) → St
  | vout1 => Mem.st ⟨[(0, ⟨5, 1, List.map (encI .u8) vout1⟩)], []⟩ (tl [(3, .v (.one (.own 0 none)))]) 1

def series_pack_x1_H (ql : List api_Sample) : (List Int) × Int × Int × Int × Int → St
  | (vout, vat, vby, vvalue, vx) => Mem.st ⟨[(0, ⟨5, 1, List.map (encI .u8) vout⟩)], []⟩ (tl [(3, .v (.one (.own 0 none))), (4, .v (.one (.d (.int .i64 vat)))), (5, .v (.one (.d (.int .i64 vby)))), (6, .v (.one (.d (.int .i64 vvalue)))), (14, .v (.one (.d (.lst (List.map api_Sample.enc ql))))), (15, .v (.one (.d (.int .i64 (ql.length : Int))))), (16, .v (.one (.d (.int .i64 vx))))]) 1

theorem series_pack_x1_ok (ql : List api_Sample) (s : (List Int) × Int × Int × Int × Int) (r : ((List Int) × Int × Int × Int × Int) ⊕ ((List Int))) (hF : series_pack_x1 ql s = some r) : Awp prog 0 47 (cL (cL (cR (cL (cR (cR (cR (cB f48)))))))) (Out 0 (kk series_pack_x1_k) (SS (series_pack_x1_H ql) (series_pack_x1_S ql)) r) (series_pack_x1_H ql s) := by
  obtain ⟨vout, vat, vby, vvalue, vx⟩ := s
  unfold series_pack_x1 at hF
  refine awp_seq ?_
  refine awp_region ?_
  refine aR 1 ?_
  refine aE ?_
  refine awp_seq ?_
  refine cE hF (fun h2 hF => ?_) fun h2 hF => ?_
  · refine awp_true (by kernel_rfl) h2 ?_
    refine awp_skip ?_
    refine awp_seq ?_
    refine awp_block ?_
    refine awp_seq ?_
    refine bE hF fun vy1 h3 hF => ?_
    refine awp_region ?_
    refine aR 1 ?_
    refine aX (x_idx api_Sample.enc h3) ?_
    refine aR 4 ?_
    refine aE ?_
    refine awp_seq ?_
    refine awp_region ?_
    refine aR 5 ?_
    refine aE ?_
    refine awp_seq ?_
    refine bE hF fun vr5 h4 hF => ?_
    refine bE hF fun vr6 h5 hF => ?_
    refine awp_region ?_
    refine aR 4 ?_
    refine aC (series_doubled_ok h4) [] [] [] ?_
    refine aC (series_seven_o0_ok h5) [] [] [] ?_
    refine aR 1 ?_
    refine aE ?_
    refine awp_seq ?_
    refine bE hF fun vr7 h6 hF => ?_
    refine bE hF fun vr8 h7 hF => ?_
    refine awp_region ?_
    refine aR 5 ?_
    refine aC (series_doubled_ok h6) [] [] [] ?_
    refine aC (series_seven_o0_ok h7) [(0, 17002)] [] [] ?_
    refine aR 1 ?_
    refine aE ?_
    refine awp_seq ?_
    refine awp_to (st' := series_pack_x2_I ql vat vby vx vy1 vr8) (oT [(0, 25002), (1, 4001)] []) ?_
    refine bE hF fun vby2_1 h9 hF => ?_
    refine awp_sub (series_pack_x2_ok ql vat vby vx vy1 vr8 h9) ?_
    refine aD ?_
    refine dR 6 ?_
    refine dE ?_
    refine awp_region ?_
    refine aR 2 ?_
    refine aE ?_
    exact oO hF [] [] rfl
  · refine awp_false (by kernel_rfl) h2 ?_
    refine awp_exit ?_
    exact oO hF [] [] rfl

def series_pack_R (ql : List api_Sample) (r : (List Int)) : TV × Mem := (.v (.one (.own 0 none)), ⟨[(0, ⟨5, 1, List.map (encI .u8) r⟩)], []⟩)

theorem series_pack_ok {ql : List api_Sample} {r} (hF : series_pack ql = some r) : Holds prog 48 [.v (.one (.d (.lst (List.map api_Sample.enc ql))))] ⟨[], []⟩ (Is (series_pack_R ql r)) := by
  unfold series_pack at hF
  refine holds_of_awp hΓ (fn := f48) (c := cB f48) (A := 0) (nx := 0) (by kernel_rfl) (by kernel_rfl) (by kernel_rfl) (by kernel_rfl) (by kernel_rfl) (by kernel_rfl) (lowc_of (by kernel_rfl)) ?_
  show Awp prog 0 47 (cB f48) _ _
  refine awp_seq ?_
  refine awp_region ?_
  refine aR 1 ?_
  refine aE ?_
  refine awp_seq ?_
  refine bE hF fun vr h1 hF => ?_
  refine awp_region ?_
  refine aR 1 ?_
  refine aL api_Sample.enc ql ?_
  refine aR 1 ?_
  refine aC (series_seven_n0_ok h1) [] [] [] ?_
  refine aR 1 ?_
  refine aE ?_
  refine awp_seq ?_
  refine awp_region ?_
  refine aR 3 ?_
  refine aE ?_
  refine awp_seq ?_
  refine awp_seq ?_
  refine awp_region ?_
  refine aR 1 ?_
  refine aL api_Sample.enc ql ?_
  refine aR 1 ?_
  refine aE ?_
  refine awp_block ?_
  refine awp_to (st' := series_pack_x1_H ql (vr, 0, 0, 0, 0)) (oT [(0, 4000)] []) ?_
  refine bE hF fun vout1_1 h10 hF => ?_
  refine awp_sub (awp_loop' (series_pack_x1_H ql) series_pack_x1_k (series_pack_x1_S ql) (by intro x; exact fun h => nomatch h) h10 (series_pack_x1_ok ql)) ?_
  refine awp_seq ?_
  refine awp_region ?_
  refine aR 2 ?_
  refine aE ?_
  refine awp_ret ?_
  exact oF hF [] []

/-! ### beaconfleet/series.Pack -/
def series_Pack_o0_R (ql : List api_Sample) (r : (List Int) × Int) : TV × Mem := (.tup [.one (.own 1 none), .one (.d (.int .i64 r.2))], ⟨[(1, ⟨5, 1, List.map (encI .u8) r.1⟩)], []⟩)

theorem series_Pack_o0_ok {ql : List api_Sample} {r} (hF : series_Pack_o0 ql = some r) : Holds prog 28 [.v (.one (.own 0 none))] ⟨[(0, ⟨78, 4, List.map api_Sample.enc ql⟩)], []⟩ (Is (series_Pack_o0_R ql r)) := by
  unfold series_Pack_o0 at hF
  refine holds_of_awp hΓ (fn := f28) (c := cB f28) (A := 1) (nx := 1) (by kernel_rfl) (by kernel_rfl) (by kernel_rfl) (by kernel_rfl) (by kernel_rfl) (by kernel_rfl) (lowc_of (by kernel_rfl)) ?_
  show Awp prog 1 12 (cB f28) _ _
  refine awp_seq ?_
  refine awp_region ?_
  refine aR 2 ?_
  refine aE ?_
  refine awp_to (oT (m := ⟨[], []⟩) (ts := [(0, .v (.one (.d (.lst (List.map api_Sample.enc ql)))))]) (nx := 1) [] []) ?_
  refine awp_seq ?_
  refine awp_seq ?_
  refine bE hF fun vr1 h1 hF => ?_
  refine awp_region ?_
  refine aR 1 ?_
  refine aC (series_CheckSeries_ok h1) [] [] [] ?_
  refine aR 1 ?_
  refine aE ?_
  refine awp_seq ?_
  refine awp_region ?_
  refine aR 2 ?_
  refine aE ?_
  refine cE hF (fun h2 hF => ?_) fun h2 hF => ?_
  · refine awp_true (by kernel_rfl) h2 ?_
    refine awp_seq ?_
    refine awp_region ?_
    refine aR 3 ?_
    refine aE ?_
    refine awp_ret ?_
    exact oF hF [] [1]
  · refine awp_false (by kernel_rfl) h2 ?_
    refine awp_skip ?_
    refine awp_seq ?_
    refine bE hF fun vr9 h3 hF => ?_
    refine awp_region ?_
    refine aR 1 ?_
    refine aC (series_pack_ok h3) [] [] [] ?_
    refine aR 2 ?_
    refine aE ?_
    refine awp_ret ?_
    exact oF hF [(1, 6001)] []

/-! ### strings.Index -/
def strings_Index_R (qs : List UInt8) (qsubstr : List UInt8) (r : Int) : TV × Mem := (.v (.one (.d (.int .i64 r))), ⟨[], []⟩)

theorem strings_Index_ok {qs : List UInt8} {qsubstr : List UInt8} {r} (hF : strings_Index qs qsubstr = some r) : Holds prog 117 [.v (.one (.d (.str qs))), .v (.one (.d (.str qsubstr)))] ⟨[], []⟩ (Is (strings_Index_R qs qsubstr r)) := by
  unfold strings_Index at hF
  refine holds_of_awp hΓ (fn := f117) (c := cB f117) (A := 0) (nx := 0) (by kernel_rfl) (by kernel_rfl) (by kernel_rfl) (by kernel_rfl) (by kernel_rfl) (by kernel_rfl) (lowc_of (by kernel_rfl)) ?_
  show Awp prog 0 8 (cB f117) _ _
  refine awp_seq ?_
  refine awp_region ?_
  refine aR 1 ?_
  refine aE ?_
  refine awp_seq ?_
  refine bE hF fun vr h1 hF => ?_
  refine awp_region ?_
  refine aR 2 ?_
  refine aC (stringslite_Index_ok h1) [] [] [] ?_
  refine aR 1 ?_
  refine aE ?_
  refine awp_ret ?_
  exact oF hF [] []

/-! ### strings.Count -/
def strings_Count_x1_k : Int → AEx
  | _ => .ret

def strings_Count_x1_S (qsubstr : List UInt8) : Int → St
  | vx => Mem.st ⟨[], []⟩ (tl [(4, .v (.one (.d (.int .i64 vx))))]) 0

def strings_Count_x1_H (qsubstr : List UInt8) : (List UInt8) × Int → St
  | (vs, vn) => Mem.st ⟨[], []⟩ (tl [(0, .v (.one (.d (.str vs)))), (1, .v (.one (.d (.str qsubstr)))), (5, .v (.one (.d (.int .i64 vn))))]) 0

theorem strings_Count_x1_ok (qsubstr : List UInt8) (s : (List UInt8) × Int) (r : ((List UInt8) × Int) ⊕ (Int)) (hF : strings_Count_x1 qsubstr s = some r) : Awp prog 0 34 (cL (cL (cR (cR (cR (cR (cB f116))))))) (Out 0 (kk strings_Count_x1_k) (SS (strings_Count_x1_H qsubstr) (strings_Count_x1_S qsubstr)) r) (strings_Count_x1_H qsubstr s) := by
  obtain ⟨vs, vn⟩ := s
  unfold strings_Count_x1 at hF
  refine awp_block ?_
  refine awp_seq ?_
  refine bE hF fun vr1_1 h4 hF => ?_
  refine awp_region ?_
  refine aR 2 ?_
  refine aC (strings_Index_ok h4) [] [] [] ?_
  refine aR 1 ?_
  refine aE ?_
  refine awp_seq ?_
  refine awp_seq ?_
  refine awp_region ?_
  refine aR 2 ?_
  refine aE ?_
  refine cE hF (fun h5 hF => ?_) fun h5 hF => ?_
  · refine awp_true (by kernel_rfl) h5 ?_
    refine awp_seq ?_
    refine awp_region ?_
    refine aR 2 ?_
    refine aE ?_
    refine awp_ret ?_
    exact oO hF [] [] rfl
  · refine awp_false (by kernel_rfl) h5 ?_
    refine awp_skip ?_
    refine awp_seq ?_
    refine awp_region ?_
    refine aR 3 ?_
    refine aE ?_
    refine bE hF fun vs2 h6 hF => ?_
    refine awp_region ?_
    refine aR 5 ?_
    refine aX (x_sliceS h6) ?_
    refine aR 1 ?_
    refine aE ?_
    exact oO hF [] [] rfl

def strings_Count_R (qs : List UInt8) (qsubstr : List UInt8) (r : Int) : TV × Mem := (.v (.one (.d (.int .i64 r))), ⟨[], []⟩)

theorem strings_Count_ok {qs : List UInt8} {qsubstr : List UInt8} {r} (hF : strings_Count qs qsubstr = some r) : Holds prog 116 [.v (.one (.d (.str qs))), .v (.one (.d (.str qsubstr)))] ⟨[], []⟩ (Is (strings_Count_R qs qsubstr r)) := by
  unfold strings_Count at hF
  refine holds_of_awp hΓ (fn := f116) (c := cB f116) (A := 0) (nx := 0) (by kernel_rfl) (by kernel_rfl) (by kernel_rfl) (by kernel_rfl) (by kernel_rfl) (by kernel_rfl) (lowc_of (by kernel_rfl)) ?_
  show Awp prog 0 34 (cB f116) _ _
  refine awp_seq ?_
  refine awp_region ?_
  refine aR 1 ?_
  refine aE ?_
  refine awp_seq ?_
  refine awp_seq ?_
  refine awp_region ?_
  refine aR 3 ?_
  refine aE ?_
  refine cE hF (fun h1 hF => ?_) fun h1 hF => ?_
  · refine awp_true (by kernel_rfl) h1 ?_
    refine awp_seq ?_
    exact nE hF
  · refine awp_false (by kernel_rfl) h1 ?_
    refine awp_skip ?_
    refine awp_seq ?_
    refine awp_seq ?_
    refine awp_region ?_
    refine aR 3 ?_
    refine aE ?_
    refine cE hF (fun h2 hF => ?_) fun h2 hF => ?_
    · refine awp_true (by kernel_rfl) h2 ?_
      refine awp_seq ?_
      refine bE hF fun vc h3 hF => ?_
      refine awp_region ?_
      refine aR 2 ?_
      refine aX (x_idxS h3) ?_
      refine aS (does_count (g := 150) (fn := f150) (a := qs) (c := (vc.toNat : Int)) rfl (by kernel_rfl) (by kernel_rfl) (by kernel_rfl) (by kernel_rfl) (by kernel_rfl) (by kernel_rfl)) ?_
      refine aR 1 ?_
      refine aE ?_
      refine awp_ret ?_
      exact oF hF [] []
    · refine awp_false (by kernel_rfl) h2 ?_
      refine awp_skip ?_
      refine awp_seq ?_
      refine awp_region ?_
      refine aR 1 ?_
      refine aE ?_
      refine awp_block ?_
      refine awp_to (st' := strings_Count_x1_H qsubstr (qs, 0)) (oT [] []) ?_
      refine bE hF fun vx1 h7 hF => ?_
      refine awp_sub (awp_loop' (strings_Count_x1_H qsubstr) strings_Count_x1_k (strings_Count_x1_S qsubstr) (by intro x; exact fun h => nomatch h) h7 (strings_Count_x1_ok qsubstr)) ?_
      exact oF hF [] []

/-! ### strings.genSplit -/
def strings_genSplit_x1_k : Int → AEx
  | _ => .normal

def strings_genSplit_x1_S (qx : List UInt8) (qx1 : List UInt8) (qx2 : Int) (qx3 : Int) : Int → St
  | vx => Mem.st ⟨[], []⟩ (tl [(0, .v (.one (.d (.str qx)))), (1, .v (.one (.d (.str qx1)))), (2, .v (.one (.d (.int .i64 qx2)))), (3, .v (.one (.d (.int .i64 vx))))]) 0

def strings_genSplit_x1_I (qx : List UInt8) (qx1 : List UInt8) (qx2 : Int) (qx3 : Int) : St := Mem.st ⟨[], []⟩ (tl [(0, .v (.one (.d (.str qx)))), (1, .v (.one (.d (.str qx1)))), (2, .v (.one (.d (.int .i64 qx2)))), (3, .v (.one (.d (.int .i64 qx3))))]) 0

theorem strings_genSplit_x1_ok (qx : List UInt8) (qx1 : List UInt8) (qx2 : Int) (qx3 : Int) {r} (hF : strings_genSplit_x1 qx qx1 qx3 = some r) : Awp prog 0 66 (cL (cR (cR (cR (cB f91))))) (Out 0 strings_genSplit_x1_k (strings_genSplit_x1_S qx qx1 qx2 qx3) r) (strings_genSplit_x1_I qx qx1 qx2 qx3) := by
  unfold strings_genSplit_x1 at hF
  refine awp_seq ?_
  refine awp_region ?_
  refine aR 2 ?_
  refine aE ?_
  refine cE hF (fun h3 hF => ?_) fun h3 hF => ?_
  · refine awp_true (by kernel_rfl) h3 ?_
    refine bE hF fun vr h4 hF => ?_
    refine awp_region ?_
    refine aR 2 ?_
    refine aC (strings_Count_ok h4) [] [] [] ?_
    refine aR 2 ?_
    refine aE ?_
    exact oO hF [] [] rfl
  · refine awp_false (by kernel_rfl) h3 ?_
    refine awp_skip ?_
    exact oO hF [] [] rfl

def strings_genSplit_x2_k : ((List UInt8) × (List (List UInt8)) × Int) → AEx
  | _ => .exit 0

def strings_genSplit_x2_S (qx : List UInt8) (qx1 : List UInt8) (qx2 : Int) (vx1 : Int) : ((List UInt8) × (List (List UInt8)) × Int) → St
  | (vx5, vx6, vx7) => Mem.st ⟨[(0, ⟨9, 1, List.map encS vx6⟩)], []⟩ (tl [(0, .v (.one (.d (.str vx5)))), (9, .v (.one (.own 0 none))), (10, .v (.one (.d (.int .i64 vx7))))]) 1

def strings_genSplit_x2_H (qx : List UInt8) (qx1 : List UInt8) (qx2 : Int) (vx1 : Int) : (List UInt8) × (List (List UInt8)) × Int → St
  | (vx2, vx3, vx4) => Mem.st ⟨[(0, ⟨9, 1, List.map encS vx3⟩)], []⟩ (tl [(0, .v (.one (.d (.str vx2)))), (1, .v (.one (.d (.str qx1)))), (2, .v (.one (.d (.int .i64 qx2)))), (3, .v (.one (.d (.int .i64 (IntKind.wrap .i64 ((imin vx1 (IntKind.wrap .i64 ((qx.length : Int) + 1))) - 1)))))), (9, .v (.one (.own 0 none))), (10, .v (.one (.d (.int .i64 vx4))))]) 1

theorem strings_genSplit_x2_ok (qx : List UInt8) (qx1 : List UInt8) (qx2 : Int) (vx1 : Int) (s : (List UInt8) × (List (List UInt8)) × Int) (r : ((List UInt8) × (List (List UInt8)) × Int) ⊕ (((List UInt8) × (List (List UInt8)) × Int))) (hF : strings_genSplit_x2 qx qx1 qx2 vx1 s = some r) : Awp prog 0 66 (cL (cL (cL (cR (cR (cR (cR (cR (cR (cR (cR (cB f91)))))))))))) (Out 0 (kk strings_genSplit_x2_k) (SS (strings_genSplit_x2_H qx qx1 qx2 vx1) (strings_genSplit_x2_S qx qx1 qx2 vx1)) r) (strings_genSplit_x2_H qx qx1 qx2 vx1 s) := by
  obtain ⟨vx2, vx3, vx4⟩ := s
  unfold strings_genSplit_x2 at hF
  refine awp_seq ?_
  refine awp_seq ?_
  refine awp_region ?_
  refine aR 3 ?_
  refine aE ?_
  refine cE hF (fun h7 hF => ?_) fun h7 hF => ?_
  · refine awp_true (by kernel_rfl) h7 ?_
    refine awp_skip ?_
    refine awp_block ?_
    refine awp_seq ?_
    refine bE hF fun vr1_1 h8 hF => ?_
    refine awp_region ?_
    refine aR 2 ?_
    refine aC (strings_Index_ok h8) [] [] [] ?_
    refine aR 1 ?_
    refine aE ?_
    refine awp_seq ?_
    refine awp_seq ?_
    refine awp_region ?_
    refine aR 2 ?_
    refine aE ?_
    refine cE hF (fun h9 hF => ?_) fun h9 hF => ?_
    · refine awp_true (by kernel_rfl) h9 ?_
      refine awp_exit ?_
      exact oO hF [] [] rfl
    · refine awp_false (by kernel_rfl) h9 ?_
      refine awp_skip ?_
      refine awp_seq ?_
      refine bE hF fun vs2 h10 hF => ?_
      refine bE hF fun vy1 h11 hF => ?_
      refine awp_region ?_
      refine aR 6 ?_
      refine aX (x_sliceS h10) ?_
      refine aX (x_idxO encS 0 h11) ?_
      refine aX (x_stE encS vs2 h11) ?_
      refine aE ?_
      refine awp_seq ?_
      refine bE hF fun vs3 h12 hF => ?_
      refine awp_region ?_
      refine aR 5 ?_
      refine aX (x_sliceS h12) ?_
      refine aR 1 ?_
      refine aE ?_
      refine awp_region ?_
      refine aR 3 ?_
      refine aE ?_
      exact oO hF [] [] rfl
  · refine awp_false (by kernel_rfl) h7 ?_
    refine awp_exit ?_
    exact oO hF [] [] rfl

def strings_genSplit_R (qx : List UInt8) (qx1 : List UInt8) (qx2 : Int) (qx3 : Int) (r : (List (List UInt8))) : TV × Mem := (.v (.one (.own 0 none)), ⟨[(0, ⟨9, 1, List.map encS r⟩)], []⟩)

theorem strings_genSplit_ok {qx : List UInt8} {qx1 : List UInt8} {qx2 : Int} {qx3 : Int} {r} (hF : strings_genSplit qx qx1 qx2 qx3 = some r) : Holds prog 91 [.v (.one (.d (.str qx))), .v (.one (.d (.str qx1))), .v (.one (.d (.int .i64 qx2))), .v (.one (.d (.int .i64 qx3)))] ⟨[], []⟩ (Is (strings_genSplit_R qx qx1 qx2 qx3 r)) := by
  unfold strings_genSplit at hF
  refine holds_of_awp hΓ (fn := f91) (c := cB f91) (A := 0) (nx := 0) (by kernel_rfl) (by kernel_rfl) (by kernel_rfl) (by kernel_rfl) (by kernel_rfl) (by kernel_rfl) (lowc_of (by kernel_rfl)) ?_
  show Awp prog 0 66 (cB f91) _ _
  refine awp_seq ?_
  refine awp_region ?_
  refine aR 1 ?_
  refine aE ?_
  refine awp_seq ?_
  refine awp_seq ?_
  refine awp_region ?_
  refine aR 2 ?_
  refine aE ?_
  refine cE hF (fun h1 hF => ?_) fun h1 hF => ?_
  · refine awp_true (by kernel_rfl) h1 ?_
    refine awp_seq ?_
    refine awp_region ?_
    refine aR 1 ?_
    refine aE ?_
    refine awp_ret ?_
    exact oF hF [] [0]
  · refine awp_false (by kernel_rfl) h1 ?_
    refine awp_skip ?_
    refine awp_seq ?_
    refine awp_seq ?_
    refine awp_region ?_
    refine aR 2 ?_
    refine aE ?_
    refine cE hF (fun h2 hF => ?_) fun h2 hF => ?_
    · refine awp_true (by kernel_rfl) h2 ?_
      refine awp_seq ?_
      exact nE hF
    · refine awp_false (by kernel_rfl) h2 ?_
      refine awp_skip ?_
      refine awp_seq ?_
      refine awp_to (st' := strings_genSplit_x1_I qx qx1 qx2 qx3) (oT [] []) ?_
      refine bE hF fun vx1 h5 hF => ?_
      refine awp_sub (strings_genSplit_x1_ok qx qx1 qx2 qx3 h5) ?_
      refine awp_seq ?_
      refine awp_region ?_
      refine aR 6 ?_
      refine aE ?_
      refine awp_seq ?_
      refine gE hF fun h6 hF => ?_
      refine awp_region ?_
      refine aR 1 ?_
      refine aX (x_mk encS ([] : List UInt8) h6) ?_
      refine aR 1 ?_
      refine aE ?_
      refine awp_seq ?_
      refine awp_region ?_
      refine aR 3 ?_
      refine aE ?_
      refine awp_seq ?_
      refine awp_region ?_
      refine aR 1 ?_
      refine aE ?_
      refine awp_seq ?_
      refine awp_block ?_
      refine awp_to (st' := strings_genSplit_x2_H qx qx1 qx2 vx1 (qx, List.replicate (imin vx1 (IntKind.wrap .i64 ((qx.length : Int) + 1))).toNat ([] : List UInt8), 0)) (oT [(0, 7000)] []) ?_
      refine bE hF fun x h13 hF => ?_
      obtain ⟨vx5_1, vx6_1, vx7_1⟩ := x
      refine awp_sub (awp_loop' (strings_genSplit_x2_H qx qx1 qx2 vx1) strings_genSplit_x2_k (strings_genSplit_x2_S qx qx1 qx2 vx1) (by intro x; exact fun h => nomatch h) h13 (strings_genSplit_x2_ok qx qx1 qx2 vx1)) ?_
      refine awp_seq ?_
      refine bE hF fun vy2 h14 hF => ?_
      refine awp_region ?_
      refine aR 3 ?_
      refine aX (x_idxO encS 0 h14) ?_
      refine aX (x_stE encS vx5_1 h14) ?_
      refine aE ?_
      refine awp_seq ?_
      refine gE hF fun h15 hF => ?_
      refine awp_region ?_
      refine aR 3 ?_
      refine aT encS 0 h15 rfl ?_
      refine aR 1 ?_
      refine aE ?_
      refine awp_ret ?_
      exact oF hF [(0, 8001)] []

/-! ### strings.Split -/
def strings_Split_R (qs : List UInt8) (qsep : List UInt8) (r : (List (List UInt8))) : TV × Mem := (.v (.one (.own 0 none)), ⟨[(0, ⟨9, 1, List.map encS r⟩)], []⟩)

theorem strings_Split_ok {qs : List UInt8} {qsep : List UInt8} {r} (hF : strings_Split qs qsep = some r) : Holds prog 50 [.v (.one (.d (.str qs))), .v (.one (.d (.str qsep)))] ⟨[], []⟩ (Is (strings_Split_R qs qsep r)) := by
  unfold strings_Split at hF
  refine holds_of_awp hΓ (fn := f50) (c := cB f50) (A := 0) (nx := 0) (by kernel_rfl) (by kernel_rfl) (by kernel_rfl) (by kernel_rfl) (by kernel_rfl) (by kernel_rfl) (lowc_of (by kernel_rfl)) ?_
  show Awp prog 0 8 (cB f50) _ _
  refine awp_seq ?_
  refine awp_region ?_
  refine aR 1 ?_
  refine aE ?_
  refine awp_seq ?_
  refine bE hF fun vr2 h1 hF => ?_
  refine awp_region ?_
  refine aR 2 ?_
  refine aC (strings_genSplit_ok h1) [] [] [] ?_
  refine aR 1 ?_
  refine aE ?_
  refine awp_ret ?_
  exact oF hF [(0, 3000)] []

/-! ### internal/stringslite.HasPrefix -/
def stringslite_HasPrefix_x1_k : Bool → AEx
  | _ => .normal

def stringslite_HasPrefix_x1_S (qs : List UInt8) (qprefix : List UInt8) : Bool → St
  | vx => Mem.st ⟨[], []⟩ (tl [(4, .v (.one (.d (.bool vx))))]) 0

def stringslite_HasPrefix_x1_I (qs : List UInt8) (qprefix : List UInt8) : St := Mem.st ⟨[], []⟩ (tl [(0, .v (.one (.d (.str qs)))), (1, .v (.one (.d (.str qprefix))))]) 0

theorem stringslite_HasPrefix_x1_ok (qs : List UInt8) (qprefix : List UInt8) {r} (hF : stringslite_HasPrefix_x1 qs qprefix = some r) : Awp prog 0 18 (cL (cR (cB f165))) (Out 0 stringslite_HasPrefix_x1_k (stringslite_HasPrefix_x1_S qs qprefix) r) (stringslite_HasPrefix_x1_I qs qprefix) := by
  unfold stringslite_HasPrefix_x1 at hF
  refine cE hF (fun h1 hF => ?_) fun h1 hF => ?_
  · refine bE hF fun vs h2 hF => ?_
    refine awp_region ?_
    refine aR 4 ?_
    refine aB h1 ?_
    refine aR 4 ?_
    refine aX (x_sliceS h2) ?_
    refine aR 4 ?_
    refine aE ?_
    exact oO hF [] [] rfl
  · refine awp_region ?_
    refine aR 4 ?_
    refine aB h1 ?_
    refine aR 9 ?_
    refine aE ?_
    exact oO hF [] [] rfl

def stringslite_HasPrefix_R (qs : List UInt8) (qprefix : List UInt8) (r : Bool) : TV × Mem := (.v (.one (.d (.bool r))), ⟨[], []⟩)

theorem stringslite_HasPrefix_ok {qs : List UInt8} {qprefix : List UInt8} {r} (hF : stringslite_HasPrefix qs qprefix = some r) : Holds prog 165 [.v (.one (.d (.str qs))), .v (.one (.d (.str qprefix)))] ⟨[], []⟩ (Is (stringslite_HasPrefix_R qs qprefix r)) := by
  unfold stringslite_HasPrefix at hF
  refine holds_of_awp hΓ (fn := f165) (c := cB f165) (A := 0) (nx := 0) (by kernel_rfl) (by kernel_rfl) (by kernel_rfl) (by kernel_rfl) (by kernel_rfl) (by kernel_rfl) (lowc_of (by kernel_rfl)) ?_
  show Awp prog 0 18 (cB f165) _ _
  refine awp_seq ?_
  refine awp_region ?_
  refine aR 1 ?_
  refine aE ?_
  refine awp_seq ?_
  refine awp_to (st' := stringslite_HasPrefix_x1_I qs qprefix) (oT [] []) ?_
  refine bE hF fun vx1 h3 hF => ?_
  refine awp_sub (stringslite_HasPrefix_x1_ok qs qprefix h3) ?_
  refine awp_ret ?_
  exact oF hF [] []

/-! ### internal/stringslite.TrimPrefix -/
def stringslite_TrimPrefix_R (qs : List UInt8) (qprefix : List UInt8) (r : (List UInt8)) : TV × Mem := (.v (.one (.d (.str r))), ⟨[], []⟩)

theorem stringslite_TrimPrefix_ok {qs : List UInt8} {qprefix : List UInt8} {r} (hF : stringslite_TrimPrefix qs qprefix = some r) : Holds prog 145 [.v (.one (.d (.str qs))), .v (.one (.d (.str qprefix)))] ⟨[], []⟩ (Is (stringslite_TrimPrefix_R qs qprefix r)) := by
  unfold stringslite_TrimPrefix at hF
  refine holds_of_awp hΓ (fn := f145) (c := cB f145) (A := 0) (nx := 0) (by kernel_rfl) (by kernel_rfl) (by kernel_rfl) (by kernel_rfl) (by kernel_rfl) (by kernel_rfl) (lowc_of (by kernel_rfl)) ?_
  show Awp prog 0 13 (cB f145) _ _
  refine awp_seq ?_
  refine awp_region ?_
  refine aR 1 ?_
  refine aE ?_
  refine awp_seq ?_
  refine awp_seq ?_
  refine bE hF fun vr h1 hF => ?_
  refine awp_region ?_
  refine aR 2 ?_
  refine aC (stringslite_HasPrefix_ok h1) [] [] [] ?_
  refine aE ?_
  refine cE hF (fun h2 hF => ?_) fun h2 hF => ?_
  · refine awp_true (by kernel_rfl) h2 ?_
    refine awp_seq ?_
    refine bE hF fun vs h3 hF => ?_
    refine awp_region ?_
    refine aR 3 ?_
    refine aX (x_sliceS h3) ?_
    refine aR 1 ?_
    refine aE ?_
    refine awp_ret ?_
    exact oF hF [] []
  · refine awp_false (by kernel_rfl) h2 ?_
    refine awp_skip ?_
    refine awp_seq ?_
    refine awp_region ?_
    refine aR 2 ?_
    refine aE ?_
    refine awp_ret ?_
    exact oF hF [] []

/-! ### strings.TrimPrefix -/
def strings_TrimPrefix_R (qs : List UInt8) (qprefix : List UInt8) (r : (List UInt8)) : TV × Mem := (.v (.one (.d (.str r))), ⟨[], []⟩)

theorem strings_TrimPrefix_ok {qs : List UInt8} {qprefix : List UInt8} {r} (hF : strings_TrimPrefix qs qprefix = some r) : Holds prog 113 [.v (.one (.d (.str qs))), .v (.one (.d (.str qprefix)))] ⟨[], []⟩ (Is (strings_TrimPrefix_R qs qprefix r)) := by
  unfold strings_TrimPrefix at hF
  refine holds_of_awp hΓ (fn := f113) (c := cB f113) (A := 0) (nx := 0) (by kernel_rfl) (by kernel_rfl) (by kernel_rfl) (by kernel_rfl) (by kernel_rfl) (by kernel_rfl) (lowc_of (by kernel_rfl)) ?_
  show Awp prog 0 8 (cB f113) _ _
  refine awp_seq ?_
  refine awp_region ?_
  refine aR 1 ?_
  refine aE ?_
  refine awp_seq ?_
  refine bE hF fun vr1 h1 hF => ?_
  refine awp_region ?_
  refine aR 2 ?_
  refine aC (stringslite_TrimPrefix_ok h1) [] [] [] ?_
  refine aR 1 ?_
  refine aE ?_
  refine awp_ret ?_
  exact oF hF [] []

/-! ### internal/strconv.lower -/
def strconv_lower_R (qc : Int) (r : Unit) : TV × Mem := (.v (.one (.d (.int .u8 (ibits .or .u8 qc 32)))), ⟨[], []⟩)

theorem strconv_lower_ok {qc : Int} {r} (hF : strconv_lower qc = some r) : Holds prog 184 [.v (.one (.d (.int .u8 qc)))] ⟨[], []⟩ (Is (strconv_lower_R qc r)) := by
  unfold strconv_lower at hF
  refine holds_of_awp hΓ (fn := f184) (c := cB f184) (A := 0) (nx := 0) (by kernel_rfl) (by kernel_rfl) (by kernel_rfl) (by kernel_rfl) (by kernel_rfl) (by kernel_rfl) (lowc_of (by kernel_rfl)) ?_
  show Awp prog 0 5 (cB f184) _ _
  refine awp_seq ?_
  refine awp_region ?_
  refine aR 1 ?_
  refine aE ?_
  refine awp_seq ?_
  refine awp_region ?_
  refine aR 3 ?_
  refine aE ?_
  refine awp_ret ?_
  exact oF hF [] []

end Go.Eng
