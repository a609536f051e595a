/-
The code of the Go functions that the law TopVisitsFromPlainTracks reaches does what the plain functions say, part 1.
-/
import Derived.Test.YtnolfbkibkgolaaGreatDoorGenF

import Derived.Test.YtnolfbkibkgolaaGreatDoorEng9

import Derived.Test.YtnolfbkibkgolaaGreatDoorProg

import Derived.KernelRfl

namespace Go.Eng

open Go Go.Proofs.Tryz

set_option linter.unusedVariables false

set_option maxRecDepth 20000

set_option maxHeartbeats 0

def ti2 : TI := ⟨1, 8, [.d (.int .i64 0)], false, .int .i64⟩

def ti3 : TI := ⟨1, 8, [.d (.int .i64 0)], false, .int .i64⟩

def ti4 : TI := ⟨1, 1, [.d (.bool false)], false, .bool⟩

def ti5 : TI := ⟨1, 1, [.d (.int .u8 0)], false, .int .u8⟩

def ti9 : TI := ⟨1, 16, [.d (.str [])], false, .str⟩

def ti12 : TI := ⟨1, 8, [.d (.int .u64 0)], false, .int .u64⟩

def ti21 : TI := ⟨1, 4, [.d (.int .i32 0)], false, .int .i32⟩

def ti22 : TI := ⟨1, 24, [.nil], false, .slice 3⟩

def ti25 : TI := ⟨2, 32, [.nil, .d (.int .i64 0)], true, .struct [(0, 22), (1, 3)]⟩

def ti26 : TI := ⟨1, 24, [.nil], false, .slice 52⟩

def ti28 : TI := ⟨2, 40, [.d (.str []), .nil], true, .struct [(0, 9), (1, 26)]⟩

def ti30 : TI := ⟨1, 24, [.nil], false, .slice 33⟩

def ti33 : TI := ⟨5, 48, [.d (.str []), .d (.int .i64 0), .d (.int .i64 0), .d (.int .i64 0), .d (.int .i64 0)], true, .struct [(0, 9), (1, 3), (2, 3), (3, 3), (4, 3)]⟩

def ti34 : TI := ⟨1, 8, [.d (.int .i64 0)], false, .int .i64⟩

def ti39 : TI := ⟨1, 24, [.nil], false, .slice 81⟩

def ti52 : TI := ⟨2, 16, [.d (.int .i64 0), .d (.int .i64 0)], true, .struct [(0, 3), (1, 3)]⟩

def ti70 : TI := ⟨1, 24, [.nil], false, .slice 4⟩

def ti71 : TI := ⟨1, 8, [.nilf], false, .other⟩

def ti73 : TI := ⟨2, 16, [.d (.int .i64 0), .d (.int .i64 0)], true, .struct [(0, 3), (1, 3)]⟩

def ti81 : TI := ⟨2, 16, [.d (.int .i64 0), .d (.int .i64 0)], true, .struct [(0, 3), (1, 3)]⟩

def ti83 : TI := ⟨1, 24, [.nil], false, .slice 5⟩

def ti87 : TI := ⟨4, 48, [.d (.str []), .d (.str []), .d (.int .i64 0), .d (.int .i64 0)], true, .struct [(0, 9), (1, 9), (2, 3), (3, 3)]⟩

def ti88 : TI := ⟨1, 24, [.nil], false, .slice 87⟩

def ti90 : TI := ⟨3, 24, [.d (.int .i64 0), .d (.int .i64 0), .d (.int .i64 0)], true, .struct [(0, 3), (1, 3), (2, 3)]⟩

def ti97 : TI := ⟨1, 24, [.nil], false, .slice 148⟩

def ti101 : TI := ⟨4, 40, [.d (.int .i64 0), .d (.bool false), .d (.int .i64 0), .d (.str [])], true, .struct [(0, 3), (1, 4), (2, 3), (3, 9)]⟩

def ti103 : TI := ⟨5, 56, [.d (.str []), .d (.int .i64 0), .d (.bool false), .d (.int .i64 0), .d (.str [])], true, .struct [(0, 9), (1, 101)]⟩

def ti104 : TI := ⟨1, 24, [.nil], false, .slice 103⟩

def ti105 : TI := ⟨1, 24, [.nil], false, .slice 109⟩

def ti109 : TI := ⟨6, 72, [.d (.str []), .d (.str []), .d (.str []), .d (.int .i64 0), .d (.int .i64 0), .d (.int .i64 0)], true, .struct [(0, 9), (1, 9), (2, 9), (3, 3), (4, 3), (5, 3)]⟩

def ti133 : TI := ⟨1, 24, [.nil], false, .slice 34⟩

def ti141 : TI := ⟨1, 24, [.nil], false, .slice 9⟩

def ti148 : TI := ⟨9, 96, [.d (.str []), .d (.int .i64 0), .d (.bool false), .d (.int .i64 0), .d (.str []), .d (.int .i64 0), .d (.bool false), .d (.int .i64 0), .d (.str [])], true, .struct [(0, 9), (1, 101), (5, 101)]⟩

def ti158 : TI := ⟨1, 8, [.d (.int .u64 0)], false, .int .u64⟩

def ti169 : TI := ⟨1, 8, [.d (.int .u64 0)], false, .int .u64⟩

def ti182 : TI := ⟨1, 24, [.nil], false, .slice 104⟩

def ti203 : TI := ⟨1, 16, [.nili], false, .other⟩

def Γ : Types := [(2, ti2), (3, ti3), (4, ti4), (5, ti5), (9, ti9), (12, ti12), (21, ti21), (22, ti22), (25, ti25), (26, ti26), (28, ti28), (30, ti30), (33, ti33), (34, ti34), (39, ti39), (52, ti52), (70, ti70), (71, ti71), (73, ti73), (81, ti81), (83, ti83), (87, ti87), (88, ti88), (90, ti90), (97, ti97), (101, ti101), (103, ti103), (104, ti104), (105, ti105), (109, ti109), (133, ti133), (141, ti141), (148, ti148), (158, ti158), (169, ti169), (182, ti182), (203, ti203)]

theorem hΓ : TypesOk prog Γ := typesOk_of (by kernel_rfl)

instance : TOk prog Γ := ⟨hΓ⟩

theorem hm : prog.follows .mixedOrders = true := by kernel_rfl

instance : Mixed prog := ⟨hm⟩

/-! ### beaconfleet/fleetmake.Below -/
def fleetmake_Below_x1_k : Int → AEx
  | _ => .normal

def fleetmake_Below_x1_S (qx : Int) (qn : Int) : Int → St
  | vx => Mem.st ⟨[], []⟩ (tl [(0, .v (.one (.d (.int .i64 vx))))]) 0

def fleetmake_Below_x1_I (qx : Int) (qn : Int) : St := Mem.st ⟨[], []⟩ (tl [(0, .v (.one (.d (.int .i64 (qx.tmod qn))))), (1, .v (.one (.d (.int .i64 qn))))]) 0

theorem fleetmake_Below_x1_ok (qx : Int) (qn : Int) {r} (hF : fleetmake_Below_x1 qx qn = some r) : Awp prog 0 16 (cL (cR (cR (cR (cB f73))))) (Out 0 fleetmake_Below_x1_k (fleetmake_Below_x1_S qx qn) r) (fleetmake_Below_x1_I qx qn) := by
  unfold fleetmake_Below_x1 at hF
  refine awp_seq ?_
  refine awp_region ?_
  refine aR 2 ?_
  refine aE ?_
  refine cE hF (fun h3 hF => ?_) fun h3 hF => ?_
  · refine awp_true (by kernel_rfl) h3 ?_
    refine awp_region ?_
    refine aR 4 ?_
    refine aE ?_
    exact oO hF [] [] rfl
  · refine awp_false (by kernel_rfl) h3 ?_
    refine awp_skip ?_
    exact oO hF [] [] rfl

def fleetmake_Below_R (qx : Int) (qn : Int) (r : Int) : TV × Mem := (.v (.one (.d (.int .i64 r))), ⟨[], []⟩)

theorem fleetmake_Below_ok {qx : Int} {qn : Int} {r} (hF : fleetmake_Below qx qn = some r) : Holds prog 73 [.v (.one (.d (.int .i64 qx))), .v (.one (.d (.int .i64 qn)))] ⟨[], []⟩ (Is (fleetmake_Below_R qx qn r)) := by
  unfold fleetmake_Below at hF
  refine holds_of_awp hΓ (fn := f73) (c := cB f73) (A := 0) (nx := 0) (by kernel_rfl) (by kernel_rfl) (by kernel_rfl) (by kernel_rfl) (by kernel_rfl) (by kernel_rfl) (lowc_of (by kernel_rfl)) ?_
  show Awp prog 0 16 (cB f73) _ _
  refine awp_seq ?_
  refine awp_region ?_
  refine aR 1 ?_
  refine aE ?_
  refine awp_seq ?_
  refine awp_seq ?_
  refine awp_region ?_
  refine aR 2 ?_
  refine aE ?_
  refine cE hF (fun h1 hF => ?_) fun h1 hF => ?_
  · refine awp_true (by kernel_rfl) h1 ?_
    refine awp_seq ?_
    refine awp_region ?_
    refine aR 1 ?_
    refine aE ?_
    refine awp_ret ?_
    exact oF hF [] []
  · refine awp_false (by kernel_rfl) h1 ?_
    refine awp_skip ?_
    refine awp_seq ?_
    refine gE hF fun h2 hF => ?_
    refine awp_region ?_
    refine aR 2 ?_
    refine aX (x_rem h2) ?_
    refine aR 1 ?_
    refine aE ?_
    refine awp_seq ?_
    refine awp_to (st' := fleetmake_Below_x1_I qx qn) (oT [] []) ?_
    refine bE hF fun vx1 h4 hF => ?_
    refine awp_sub (fleetmake_Below_x1_ok qx qn h4) ?_
    refine awp_seq ?_
    refine awp_region ?_
    refine aR 2 ?_
    refine aE ?_
    refine awp_ret ?_
    exact oF hF [] []

/-! ### (*beaconfleet/fleetmake.Stream).Next -/
def fleetmake_Stream_Next_R (qs : fleetmake_Stream) (qn : Int) (r : Int) : TV × Mem := (.v (.one (.d (.int .i64 r))), ⟨[], [(0, [.d (.lst (List.map (encI .i64) qs.L)), .d (.int .i64 (IntKind.wrap .i64 (qs.at_ + 1)))])]⟩)

theorem fleetmake_Stream_Next_ok {qs : fleetmake_Stream} {qn : Int} {r} (hF : fleetmake_Stream_Next qs qn = some r) : Holds prog 31 [.v (.one (.box 0 0)), .v (.one (.d (.int .i64 qn)))] ⟨[], [(0, [.d (.lst (List.map (encI .i64) qs.L)), .d (.int .i64 qs.at_)])]⟩ (Is (fleetmake_Stream_Next_R qs qn r)) := by
  unfold fleetmake_Stream_Next at hF
  refine holds_of_awp hΓ (fn := f31) (c := cB f31) (A := 1) (nx := 1) (by kernel_rfl) (by kernel_rfl) (by kernel_rfl) (by kernel_rfl) (by kernel_rfl) (by kernel_rfl) (lowc_of (by kernel_rfl)) ?_
  show Awp prog 1 64 (cB f31) _ _
  refine awp_seq ?_
  refine awp_region ?_
  refine aR 1 ?_
  refine aE ?_
  refine awp_seq ?_
  refine awp_region ?_
  refine aR 8 ?_
  refine aE ?_
  refine awp_seq ?_
  refine awp_seq ?_
  refine awp_region ?_
  refine aR 4 ?_
  refine aL (encI .i64) qs.L ?_
  refine aR 1 ?_
  refine aE ?_
  refine cE hF (fun h1 hF => ?_) fun h1 hF => ?_
  · refine awp_true (by kernel_rfl) h1 ?_
    refine awp_seq ?_
    refine bE hF fun vr h2 hF => ?_
    refine awp_region ?_
    refine aR 6 ?_
    refine aC (fleetmake_Below_ok h2) [] [] [] ?_
    refine aR 1 ?_
    refine aE ?_
    refine awp_ret ?_
    exact oF hF [] []
  · refine awp_false (by kernel_rfl) h1 ?_
    refine awp_skip ?_
    refine awp_seq ?_
    refine gE hF fun h3 hF => ?_
    refine aD ?_
    refine dR 9 ?_
    refine dL (encI .i64) qs.L ?_
    refine dX (x_rem h3) ?_
    refine dR 1 ?_
    refine dE ?_
    refine awp_seq ?_
    refine aD ?_
    refine dR 9 ?_
    refine dL (encI .i64) qs.L ?_
    refine dX (x_quo h3) ?_
    refine dR 1 ?_
    refine dE ?_
    refine awp_seq ?_
    refine bE hF fun vy h4 hF => ?_
    refine bE hF fun vr1 h5 hF => ?_
    refine bE hF fun vr2 h6 hF => ?_
    refine awp_region ?_
    refine aR 5 ?_
    refine aX (x_idx (encI .i64) h4) ?_
    refine aR 1 ?_
    refine aC (fleetmake_Below_ok h5) [] [] [] ?_
    refine aR 6 ?_
    refine aC (fleetmake_Below_ok h6) [] [] [] ?_
    refine aR 1 ?_
    refine aE ?_
    refine awp_ret ?_
    exact oF hF [] []

/-! ### (*beaconfleet/fleetmake.Stream).Range -/
def fleetmake_Stream_Range_R (qs : fleetmake_Stream) (qlow : Int) (qhigh : Int) (r : fleetmake_Stream × Int) : TV × Mem := (.v (.one (.d (.int .i64 r.2))), ⟨[], [(0, [.d (.lst (List.map (encI .i64) r.1.L)), .d (.int .i64 r.1.at_)])]⟩)

theorem fleetmake_Stream_Range_ok {qs : fleetmake_Stream} {qlow : Int} {qhigh : Int} {r} (hF : fleetmake_Stream_Range qs qlow qhigh = some r) : Holds prog 12 [.v (.one (.box 0 0)), .v (.one (.d (.int .i64 qlow))), .v (.one (.d (.int .i64 qhigh)))] ⟨[], [(0, [.d (.lst (List.map (encI .i64) qs.L)), .d (.int .i64 qs.at_)])]⟩ (Is (fleetmake_Stream_Range_R qs qlow qhigh r)) := by
  unfold fleetmake_Stream_Range at hF
  refine holds_of_awp hΓ (fn := f12) (c := cB f12) (A := 1) (nx := 1) (by kernel_rfl) (by kernel_rfl) (by kernel_rfl) (by kernel_rfl) (by kernel_rfl) (by kernel_rfl) (lowc_of (by kernel_rfl)) ?_
  show Awp prog 1 19 (cB f12) _ _
  refine awp_seq ?_
  refine awp_region ?_
  refine aR 1 ?_
  refine aE ?_
  refine awp_seq ?_
  refine awp_seq ?_
  refine awp_region ?_
  refine aR 3 ?_
  refine aE ?_
  refine cE hF (fun h1 hF => ?_) fun h1 hF => ?_
  · refine awp_true (by kernel_rfl) h1 ?_
    refine awp_seq ?_
    refine awp_region ?_
    refine aR 2 ?_
    refine aE ?_
    refine awp_ret ?_
    exact oF hF [] []
  · refine awp_false (by kernel_rfl) h1 ?_
    refine awp_skip ?_
    refine awp_seq ?_
    refine bE hF fun vr3 h2 hF => ?_
    refine awp_region ?_
    refine aR 6 ?_
    refine aC (fleetmake_Stream_Next_ok h2) [] [] [] ?_
    refine aR 2 ?_
    refine aE ?_
    refine awp_ret ?_
    exact oF hF [] []

/-! ### (*beaconfleet/fleetmake.Stream).Pick -/
def fleetmake_Stream_Pick_o1_R (qs : fleetmake_Stream) (ql : List Int) (r : Int) : TV × Mem := (.v (.one (.d (.int .i64 r))), ⟨[], [(0, [.d (.lst (List.map (encI .i64) qs.L)), .d (.int .i64 (IntKind.wrap .i64 (qs.at_ + 1)))])]⟩)

theorem fleetmake_Stream_Pick_o1_ok {qs : fleetmake_Stream} {ql : List Int} {r} (hF : fleetmake_Stream_Pick_o1 qs ql = some r) : Holds prog 29 [.v (.one (.box 0 0)), .v (.one (.own 1 none))] ⟨[(1, ⟨3, 1, List.map (encI .i64) ql⟩)], [(0, [.d (.lst (List.map (encI .i64) qs.L)), .d (.int .i64 qs.at_)])]⟩ (Is (fleetmake_Stream_Pick_o1_R qs ql r)) := by
  unfold fleetmake_Stream_Pick_o1 at hF
  refine holds_of_awp hΓ (fn := f29) (c := cB f29) (A := 2) (nx := 2) (by kernel_rfl) (by kernel_rfl) (by kernel_rfl) (by kernel_rfl) (by kernel_rfl) (by kernel_rfl) (lowc_of (by kernel_rfl)) ?_
  show Awp prog 2 12 (cB f29) _ _
  refine awp_seq ?_
  refine awp_region ?_
  refine aR 1 ?_
  refine aE ?_
  refine awp_to (oT (m := ⟨[], [(0, [.d (.lst (List.map (encI .i64) qs.L)), .d (.int .i64 qs.at_)])]⟩) (ts := [(0, .v (.one (.box 0 0))), (1, .v (.one (.d (.lst (List.map (encI .i64) ql)))))]) (nx := 2) [] []) ?_
  refine awp_seq ?_
  refine bE hF fun vr3 h1 hF => ?_
  refine bE hF fun vy h2 hF => ?_
  refine awp_region ?_
  refine aR 3 ?_
  refine aL (encI .i64) ql ?_
  refine aC (fleetmake_Stream_Next_ok h1) [] [] [] ?_
  refine aX (x_idx (encI .i64) h2) ?_
  refine aR 2 ?_
  refine aE ?_
  refine awp_ret ?_
  exact oF hF [] []

/-! ### (*beaconfleet/fleetmake.Stream).Place -/
def fleetmake_Stream_Place_R (qs : fleetmake_Stream) (r : api_Spot) : TV × Mem := (.v (.agg [.d (.int .i64 r.X), .d (.int .i64 r.Y)]), ⟨[], [(0, [.d (.lst (List.map (encI .i64) qs.L)), .d (.int .i64 (IntKind.wrap .i64 ((IntKind.wrap .i64 (qs.at_ + 1)) + 1)))])]⟩)

theorem fleetmake_Stream_Place_ok {qs : fleetmake_Stream} {r} (hF : fleetmake_Stream_Place qs = some r) : Holds prog 27 [.v (.one (.box 0 0))] ⟨[], [(0, [.d (.lst (List.map (encI .i64) qs.L)), .d (.int .i64 qs.at_)])]⟩ (Is (fleetmake_Stream_Place_R qs r)) := by
  unfold fleetmake_Stream_Place at hF
  refine holds_of_awp hΓ (fn := f27) (c := cB f27) (A := 1) (nx := 1) (by kernel_rfl) (by kernel_rfl) (by kernel_rfl) (by kernel_rfl) (by kernel_rfl) (by kernel_rfl) (lowc_of (by kernel_rfl)) ?_
  show Awp prog 1 10 (cB f27) _ _
  refine awp_seq ?_
  refine awp_region ?_
  refine aR 1 ?_
  refine aE ?_
  refine awp_seq ?_
  refine bE hF fun vr h1 hF => ?_
  refine bE hF fun vr1 h2 hF => ?_
  refine awp_region ?_
  refine aR 2 ?_
  refine aC (fleetmake_Stream_Pick_o1_ok h1) [(1, 2001)] [] [] ?_
  refine aR 2 ?_
  refine aC (fleetmake_Stream_Pick_o1_ok h2) [(1, 5001)] [] [] ?_
  refine aR 2 ?_
  refine aE ?_
  refine awp_ret ?_
  exact oF hF [] []

/-! ### (*beaconfleet/fleetmake.Stream).Flip -/
def fleetmake_Stream_Flip_R (qs : fleetmake_Stream) (qn : Int) (r : Bool) : TV × Mem := (.v (.one (.d (.bool r))), ⟨[], [(0, [.d (.lst (List.map (encI .i64) qs.L)), .d (.int .i64 (IntKind.wrap .i64 (qs.at_ + 1)))])]⟩)

theorem fleetmake_Stream_Flip_ok {qs : fleetmake_Stream} {qn : Int} {r} (hF : fleetmake_Stream_Flip qs qn = some r) : Holds prog 28 [.v (.one (.box 0 0)), .v (.one (.d (.int .i64 qn)))] ⟨[], [(0, [.d (.lst (List.map (encI .i64) qs.L)), .d (.int .i64 qs.at_)])]⟩ (Is (fleetmake_Stream_Flip_R qs qn r)) := by
  unfold fleetmake_Stream_Flip at hF
  refine holds_of_awp hΓ (fn := f28) (c := cB f28) (A := 1) (nx := 1) (by kernel_rfl) (by kernel_rfl) (by kernel_rfl) (by kernel_rfl) (by kernel_rfl) (by kernel_rfl) (lowc_of (by kernel_rfl)) ?_
  show Awp prog 1 9 (cB f28) _ _
  refine awp_seq ?_
  refine awp_region ?_
  refine aR 1 ?_
  refine aE ?_
  refine awp_seq ?_
  refine bE hF fun vr3 h1 hF => ?_
  refine awp_region ?_
  refine aR 2 ?_
  refine aC (fleetmake_Stream_Next_ok h1) [] [] [] ?_
  refine aR 2 ?_
  refine aE ?_
  refine awp_ret ?_
  exact oF hF [] []

/-! ### beaconfleet/fleetref2.in -/
def fleetref2_in_x1_k : Bool → AEx
  | _ => .normal

def fleetref2_in_x1_S (qn : Int) (qlow : Int) (qhigh : Int) : Bool → St
  | vx => Mem.st ⟨[], []⟩ (tl [(6, .v (.one (.d (.bool vx))))]) 0

def fleetref2_in_x1_I (qn : Int) (qlow : Int) (qhigh : Int) : St := Mem.st ⟨[], []⟩ (tl [(0, .v (.one (.d (.int .i64 qn)))), (1, .v (.one (.d (.int .i64 qlow)))), (2, .v (.one (.d (.int .i64 qhigh))))]) 0

theorem fleetref2_in_x1_ok (qn : Int) (qlow : Int) (qhigh : Int) {r} (hF : fleetref2_in_x1 qn qlow qhigh = some r) : Awp prog 0 15 (cL (cR (cB f111))) (Out 0 fleetref2_in_x1_k (fleetref2_in_x1_S qn qlow qhigh) r) (fleetref2_in_x1_I qn qlow qhigh) := by
  unfold fleetref2_in_x1 at hF
  refine cE hF (fun h1 hF => ?_) fun h1 hF => ?_
  · refine awp_region ?_
    refine aR 2 ?_
    refine aB h1 ?_
    refine aR 6 ?_
    refine aE ?_
    exact oO hF [] [] rfl
  · refine awp_region ?_
    refine aR 2 ?_
    refine aB h1 ?_
    refine aR 6 ?_
    refine aE ?_
    exact oO hF [] [] rfl

def fleetref2_in_R (qn : Int) (qlow : Int) (qhigh : Int) (r : Bool) : TV × Mem := (.v (.one (.d (.bool r))), ⟨[], []⟩)

theorem fleetref2_in_ok {qn : Int} {qlow : Int} {qhigh : Int} {r} (hF : fleetref2_in qn qlow qhigh = some r) : Holds prog 111 [.v (.one (.d (.int .i64 qn))), .v (.one (.d (.int .i64 qlow))), .v (.one (.d (.int .i64 qhigh)))] ⟨[], []⟩ (Is (fleetref2_in_R qn qlow qhigh r)) := by
  unfold fleetref2_in at hF
  refine holds_of_awp hΓ (fn := f111) (c := cB f111) (A := 0) (nx := 0) (by kernel_rfl) (by kernel_rfl) (by kernel_rfl) (by kernel_rfl) (by kernel_rfl) (by kernel_rfl) (lowc_of (by kernel_rfl)) ?_
  show Awp prog 0 15 (cB f111) _ _
  refine awp_seq ?_
  refine awp_region ?_
  refine aR 1 ?_
  refine aE ?_
  refine awp_seq ?_
  refine awp_to (st' := fleetref2_in_x1_I qn qlow qhigh) (oT [] []) ?_
  refine bE hF fun vx1 h2 hF => ?_
  refine awp_sub (fleetref2_in_x1_ok qn qlow qhigh h2) ?_
  refine awp_ret ?_
  exact oF hF [] []

/-! ### beaconfleet/fleetref2.SpotFault -/
def fleetref2_SpotFault_x1_k : Bool → AEx
  | _ => .normal

def fleetref2_SpotFault_x1_S (qs : api_Spot) : Bool → St
  | vx => Mem.st ⟨[], []⟩ (tl [(12, .v (.one (.d (.bool vx))))]) 0

def fleetref2_SpotFault_x1_I (qs : api_Spot) : St := Mem.st ⟨[], [(0, [.d (.int .i64 qs.X), .d (.int .i64 qs.Y)])]⟩ (tl [(1, .v (.one (.box 0 0)))]) 1

theorem fleetref2_SpotFault_x1_ok (qs : api_Spot) {r} (hF : fleetref2_SpotFault_x1 qs = some r) : Awp prog 0 13 (cL (cL (cR (cB f68)))) (Out 0 fleetref2_SpotFault_x1_k (fleetref2_SpotFault_x1_S qs) r) (fleetref2_SpotFault_x1_I qs) := by
  unfold fleetref2_SpotFault_x1 at hF
  refine bE hF fun vr h1 hF => ?_
  refine cE hF (fun h2 hF => ?_) fun h2 hF => ?_
  · refine awp_region ?_
    refine aR 2 ?_
    refine aC (fleetref2_in_ok h1) [] [] [] ?_
    refine aB h2 ?_
    refine aR 6 ?_
    refine aE ?_
    exact oO hF [] [] rfl
  · refine bE hF fun vr1 h3 hF => ?_
    refine awp_region ?_
    refine aR 2 ?_
    refine aC (fleetref2_in_ok h1) [] [] [] ?_
    refine aB h2 ?_
    refine aR 3 ?_
    refine aC (fleetref2_in_ok h3) [] [] [] ?_
    refine aR 2 ?_
    refine aE ?_
    exact oO hF [] [] rfl

def fleetref2_SpotFault_R (qs : api_Spot) (r : Int) : TV × Mem := (.v (.one (.d (.int .i64 r))), ⟨[], []⟩)

theorem fleetref2_SpotFault_ok {qs : api_Spot} {r} (hF : fleetref2_SpotFault qs = some r) : Holds prog 68 [.v (.agg [.d (.int .i64 qs.X), .d (.int .i64 qs.Y)])] ⟨[], []⟩ (Is (fleetref2_SpotFault_R qs r)) := by
  unfold fleetref2_SpotFault at hF
  refine holds_of_awp hΓ (fn := f68) (c := cB f68) (A := 0) (nx := 0) (by kernel_rfl) (by kernel_rfl) (by kernel_rfl) (by kernel_rfl) (by kernel_rfl) (by kernel_rfl) (lowc_of (by kernel_rfl)) ?_
  show Awp prog 0 13 (cB f68) _ _
  refine awp_seq ?_
  refine awp_region ?_
  refine aR 2 ?_
  refine aE ?_
  refine awp_seq ?_
  refine awp_seq ?_
  refine awp_to (st' := fleetref2_SpotFault_x1_I qs) (oT [] []) ?_
  refine bE hF fun vx1 h4 hF => ?_
  refine awp_sub (fleetref2_SpotFault_x1_ok qs h4) ?_
  refine cE hF (fun h5 hF => ?_) fun h5 hF => ?_
  · refine awp_true (by kernel_rfl) h5 ?_
    refine awp_seq ?_
    refine awp_region ?_
    refine aR 1 ?_
    refine aE ?_
    refine awp_ret ?_
    exact oF hF [] []
  · refine awp_false (by kernel_rfl) h5 ?_
    refine awp_skip ?_
    refine awp_seq ?_
    refine awp_region ?_
    refine aR 1 ?_
    refine aE ?_
    refine awp_ret ?_
    exact oF hF [] []

/-! ### slices.Index[[]beaconfleet/api.Spot,beaconfleet/api.Spot] -/
def slices_Index_api_Spot_api_Spot_x1_k : Unit ⊕ Int → AEx
  | .inl _ => .exit 0
  | .inr _ => .ret

def slices_Index_api_Spot_api_Spot_x1_S (qs : List api_Spot) (qv : api_Spot) : Unit ⊕ Int → St
  | .inl _ => Mem.st ⟨[], []⟩ (tl []) 0
  | .inr vx1 => Mem.st ⟨[], []⟩ (tl [(4, .v (.one (.d (.int .i64 vx1))))]) 0

def slices_Index_api_Spot_api_Spot_x1_H (qs : List api_Spot) (qv : api_Spot) : Int → St
  | vx => Mem.st ⟨[], [(0, [.d (.int .i64 qv.X), .d (.int .i64 qv.Y)])]⟩ (tl [(0, .v (.one (.d (.lst (List.map api_Spot.enc qs))))), (3, .v (.one (.box 0 0))), (7, .v (.one (.d (.int .i64 (qs.length : Int))))), (8, .v (.one (.d (.int .i64 vx))))]) 1

theorem slices_Index_api_Spot_api_Spot_x1_ok (qs : List api_Spot) (qv : api_Spot) (vx : Int) (r : (Int) ⊕ (Unit ⊕ Int)) (hF : slices_Index_api_Spot_api_Spot_x1 qs qv vx = some r) : Awp prog 0 19 (cL (cL (cR (cL (cR (cB f112)))))) (Out 0 (kk slices_Index_api_Spot_api_Spot_x1_k) (SS (slices_Index_api_Spot_api_Spot_x1_H qs qv) (slices_Index_api_Spot_api_Spot_x1_S qs qv)) r) (slices_Index_api_Spot_api_Spot_x1_H qs qv vx) := by
  unfold slices_Index_api_Spot_api_Spot_x1 at hF
  refine awp_seq ?_
  refine awp_region ?_
  refine aR 1 ?_
  refine aE ?_
  refine awp_seq ?_
  refine cE hF (fun h1 hF => ?_) fun h1 hF => ?_
  · refine awp_true (by kernel_rfl) h1 ?_
    refine awp_skip ?_
    refine awp_seq ?_
    refine awp_block ?_
    refine awp_seq ?_
    refine awp_region ?_
    refine aR 2 ?_
    refine aE ?_
    refine awp_seq ?_
    refine bE hF fun vy1 h2 hF => ?_
    refine aD ?_
    refine dR 3 ?_
    refine dX (x_idx api_Spot.enc h2) ?_
    refine dR 1 ?_
    refine dS (U := []) (stable_eqS (op := .eql) (xs := [.int .i64 qv.X, .int .i64 qv.Y]) (ys := [.int .i64 vy1.X, .int .i64 vy1.Y]) (b := (decide (qv.X = vy1.X) && (decide (qv.Y = vy1.Y) && true))) (c := (decide (qv.X = vy1.X) && (decide (qv.Y = vy1.Y) && true))) rfl (.inl ⟨rfl, rfl⟩) (by kernel_rfl) (by kernel_rfl) (by kernel_rfl) (by kernel_rfl) (by kernel_rfl) (by kernel_rfl)) ?_
    refine dE ?_
    refine cE hF (fun h3 hF => ?_) fun h3 hF => ?_
    · refine awp_true (by kernel_rfl) h3 ?_
      refine awp_seq ?_
      refine awp_region ?_
      refine aR 2 ?_
      refine aE ?_
      refine awp_ret ?_
      exact oO hF [] [] rfl
    · refine awp_false (by kernel_rfl) h3 ?_
      refine awp_skip ?_
      refine awp_region ?_
      refine aR 2 ?_
      refine aE ?_
      exact oO hF [] [] rfl
  · refine awp_false (by kernel_rfl) h1 ?_
    refine awp_exit ?_
    exact oO hF [] [] rfl

def slices_Index_api_Spot_api_Spot_R (qs : List api_Spot) (qv : api_Spot) (r : Int) : TV × Mem := (.v (.one (.d (.int .i64 r))), ⟨[], []⟩)

theorem slices_Index_api_Spot_api_Spot_ok {qs : List api_Spot} {qv : api_Spot} {r} (hF : slices_Index_api_Spot_api_Spot qs qv = some r) : Holds prog 112 [.v (.one (.d (.lst (List.map api_Spot.enc qs)))), .v (.agg [.d (.int .i64 qv.X), .d (.int .i64 qv.Y)])] ⟨[], []⟩ (Is (slices_Index_api_Spot_api_Spot_R qs qv r)) := by
  unfold slices_Index_api_Spot_api_Spot at hF
  refine holds_of_awp hΓ (fn := f112) (c := cB f112) (A := 0) (nx := 0) (by kernel_rfl) (by kernel_rfl) (by kernel_rfl) (by kernel_rfl) (by kernel_rfl) (by kernel_rfl) (lowc_of (by kernel_rfl)) ?_
  show Awp prog 0 19 (cB f112) _ _
  refine awp_seq ?_
  refine awp_region ?_
  refine aR 2 ?_
  refine aE ?_
  refine awp_seq ?_
  refine awp_seq ?_
  refine awp_region ?_
  refine aR 1 ?_
  refine aL api_Spot.enc qs ?_
  refine aR 1 ?_
  refine aE ?_
  refine awp_block ?_
  refine awp_to (st' := slices_Index_api_Spot_api_Spot_x1_H qs qv 0) (oT [] []) ?_
  refine bE hF fun x h4 hF => ?_
  rcases x with _ | vx1_1
  · refine awp_sub (awp_loop' (slices_Index_api_Spot_api_Spot_x1_H qs qv) slices_Index_api_Spot_api_Spot_x1_k (slices_Index_api_Spot_api_Spot_x1_S qs qv) (by intro x; rcases x with x | x <;> exact fun h => nomatch h) h4 (slices_Index_api_Spot_api_Spot_x1_ok qs qv)) ?_
    refine awp_seq ?_
    refine awp_region ?_
    refine aR 1 ?_
    refine aE ?_
    refine awp_ret ?_
    exact oF hF [] []
  · refine awp_sub (awp_loop' (slices_Index_api_Spot_api_Spot_x1_H qs qv) slices_Index_api_Spot_api_Spot_x1_k (slices_Index_api_Spot_api_Spot_x1_S qs qv) (by intro x; rcases x with x | x <;> exact fun h => nomatch h) h4 (slices_Index_api_Spot_api_Spot_x1_ok qs qv)) ?_
    exact oF hF [] []

/-! ### slices.Contains[[]beaconfleet/api.Spot,beaconfleet/api.Spot] -/
def slices_Contains_api_Spot_api_Spot_R (qs : List api_Spot) (qv : api_Spot) (r : Bool) : TV × Mem := (.v (.one (.d (.bool r))), ⟨[], []⟩)

theorem slices_Contains_api_Spot_api_Spot_ok {qs : List api_Spot} {qv : api_Spot} {r} (hF : slices_Contains_api_Spot_api_Spot qs qv = some r) : Holds prog 69 [.v (.one (.d (.lst (List.map api_Spot.enc qs)))), .v (.agg [.d (.int .i64 qv.X), .d (.int .i64 qv.Y)])] ⟨[], []⟩ (Is (slices_Contains_api_Spot_api_Spot_R qs qv r)) := by
  unfold slices_Contains_api_Spot_api_Spot at hF
  refine holds_of_awp hΓ (fn := f69) (c := cB f69) (A := 0) (nx := 0) (by kernel_rfl) (by kernel_rfl) (by kernel_rfl) (by kernel_rfl) (by kernel_rfl) (by kernel_rfl) (lowc_of (by kernel_rfl)) ?_
  show Awp prog 0 9 (cB f69) _ _
  refine awp_seq ?_
  refine awp_region ?_
  refine aR 2 ?_
  refine aE ?_
  refine awp_seq ?_
  refine bE hF fun vr h1 hF => ?_
  refine awp_region ?_
  refine aR 2 ?_
  refine aC (slices_Index_api_Spot_api_Spot_ok h1) [] [] [] ?_
  refine aR 2 ?_
  refine aE ?_
  refine awp_ret ?_
  exact oF hF [] []

/-! ### beaconfleet/fleetref2.edge -/
def fleetref2_edge_R (ql : List api_Spot) (qi : Int) (r : api_Spot × api_Spot) : TV × Mem := (.tup [.agg [.d (.int .i64 r.1.X), .d (.int .i64 r.1.Y)], .agg [.d (.int .i64 r.2.X), .d (.int .i64 r.2.Y)]], ⟨[], []⟩)

theorem fleetref2_edge_ok {ql : List api_Spot} {qi : Int} {r} (hF : fleetref2_edge ql qi = some r) : Holds prog 70 [.v (.one (.d (.lst (List.map api_Spot.enc ql)))), .v (.one (.d (.int .i64 qi)))] ⟨[], []⟩ (Is (fleetref2_edge_R ql qi r)) := by
  unfold fleetref2_edge at hF
  refine holds_of_awp hΓ (fn := f70) (c := cB f70) (A := 0) (nx := 0) (by kernel_rfl) (by kernel_rfl) (by kernel_rfl) (by kernel_rfl) (by kernel_rfl) (by kernel_rfl) (lowc_of (by kernel_rfl)) ?_
  show Awp prog 0 18 (cB f70) _ _
  refine awp_seq ?_
  refine awp_region ?_
  refine aR 2 ?_
  refine aE ?_
  refine awp_seq ?_
  refine bE hF fun vy h1 hF => ?_
  refine gE hF fun h2 hF => ?_
  refine bE hF fun vy1 h3 hF => ?_
  refine aD ?_
  refine dR 2 ?_
  refine dX (x_idx api_Spot.enc h1) ?_
  refine dR 5 ?_
  refine dL api_Spot.enc ql ?_
  refine dX (x_rem h2) ?_
  refine dX (x_idx api_Spot.enc h3) ?_
  refine dR 3 ?_
  refine dE ?_
  refine awp_ret ?_
  exact oF hF [] []

/-! ### beaconfleet/fleetref2.minus -/
def fleetref2_minus_R (qa : api_Spot) (qb : api_Spot) (r : Unit) : TV × Mem := (.v (.agg [.d (.int .i64 (IntKind.wrap .i64 (qa.X - qb.X))), .d (.int .i64 (IntKind.wrap .i64 (qa.Y - qb.Y)))]), ⟨[], []⟩)

theorem fleetref2_minus_ok {qa : api_Spot} {qb : api_Spot} {r} (hF : fleetref2_minus qa qb = some r) : Holds prog 115 [.v (.agg [.d (.int .i64 qa.X), .d (.int .i64 qa.Y)]), .v (.agg [.d (.int .i64 qb.X), .d (.int .i64 qb.Y)])] ⟨[], []⟩ (Is (fleetref2_minus_R qa qb r)) := by
  unfold fleetref2_minus at hF
  refine holds_of_awp hΓ (fn := f115) (c := cB f115) (A := 0) (nx := 0) (by kernel_rfl) (by kernel_rfl) (by kernel_rfl) (by kernel_rfl) (by kernel_rfl) (by kernel_rfl) (lowc_of (by kernel_rfl)) ?_
  show Awp prog 0 16 (cB f115) _ _
  refine awp_seq ?_
  refine awp_region ?_
  refine aR 3 ?_
  refine aE ?_
  refine awp_seq ?_
  refine awp_region ?_
  refine aR 12 ?_
  refine aE ?_
  refine awp_ret ?_
  exact oF hF [] []

/-! ### beaconfleet/fleetref2.cross -/
def fleetref2_cross_R (qa : api_Spot) (qb : api_Spot) (r : Unit) : TV × Mem := (.v (.one (.d (.int .i64 (IntKind.wrap .i64 ((IntKind.wrap .i64 (qa.X * qb.Y)) - (IntKind.wrap .i64 (qa.Y * qb.X))))))), ⟨[], []⟩)

theorem fleetref2_cross_ok {qa : api_Spot} {qb : api_Spot} {r} (hF : fleetref2_cross qa qb = some r) : Holds prog 154 [.v (.agg [.d (.int .i64 qa.X), .d (.int .i64 qa.Y)]), .v (.agg [.d (.int .i64 qb.X), .d (.int .i64 qb.Y)])] ⟨[], []⟩ (Is (fleetref2_cross_R qa qb r)) := by
  unfold fleetref2_cross at hF
  refine holds_of_awp hΓ (fn := f154) (c := cB f154) (A := 0) (nx := 0) (by kernel_rfl) (by kernel_rfl) (by kernel_rfl) (by kernel_rfl) (by kernel_rfl) (by kernel_rfl) (lowc_of (by kernel_rfl)) ?_
  show Awp prog 0 16 (cB f154) _ _
  refine awp_seq ?_
  refine awp_region ?_
  refine aR 3 ?_
  refine aE ?_
  refine awp_seq ?_
  refine awp_region ?_
  refine aR 12 ?_
  refine aE ?_
  refine awp_ret ?_
  exact oF hF [] []

/-! ### beaconfleet/fleetref2.sign -/
def fleetref2_sign_R (qn : Int) (r : Int) : TV × Mem := (.v (.one (.d (.int .i64 r))), ⟨[], []⟩)

theorem fleetref2_sign_ok {qn : Int} {r} (hF : fleetref2_sign qn = some r) : Holds prog 153 [.v (.one (.d (.int .i64 qn)))] ⟨[], []⟩ (Is (fleetref2_sign_R qn r)) := by
  unfold fleetref2_sign at hF
  refine holds_of_awp hΓ (fn := f153) (c := cB f153) (A := 0) (nx := 0) (by kernel_rfl) (by kernel_rfl) (by kernel_rfl) (by kernel_rfl) (by kernel_rfl) (by kernel_rfl) (lowc_of (by kernel_rfl)) ?_
  show Awp prog 0 9 (cB f153) _ _
  refine awp_seq ?_
  refine awp_region ?_
  refine aR 1 ?_
  refine aE ?_
  refine awp_seq ?_
  refine awp_block ?_
  refine awp_seq ?_
  refine awp_region ?_
  refine aR 3 ?_
  refine aE ?_
  refine cE hF (fun h1 hF => ?_) fun h1 hF => ?_
  · refine awp_true (by kernel_rfl) h1 ?_
    refine awp_seq ?_
    refine awp_region ?_
    refine aR 1 ?_
    refine aE ?_
    refine awp_ret ?_
    exact oF hF [] []
  · refine awp_false (by kernel_rfl) h1 ?_
    refine awp_seq ?_
    refine awp_region ?_
    refine aR 3 ?_
    refine aE ?_
    refine cE hF (fun h2 hF => ?_) fun h2 hF => ?_
    · refine awp_true (by kernel_rfl) h2 ?_
      refine awp_seq ?_
      refine awp_region ?_
      refine aR 1 ?_
      refine aE ?_
      refine awp_ret ?_
      exact oF hF [] []
    · refine awp_false (by kernel_rfl) h2 ?_
      refine awp_skip ?_
      refine awp_seq ?_
      refine awp_region ?_
      refine aR 1 ?_
      refine aE ?_
      refine awp_ret ?_
      exact oF hF [] []

/-! ### beaconfleet/fleetref2.side -/
def fleetref2_side_R (qa : api_Spot) (qb : api_Spot) (qs : api_Spot) (r : Int) : TV × Mem := (.v (.one (.d (.int .i64 r))), ⟨[], []⟩)

theorem fleetref2_side_ok {qa : api_Spot} {qb : api_Spot} {qs : api_Spot} {r} (hF : fleetref2_side qa qb qs = some r) : Holds prog 113 [.v (.agg [.d (.int .i64 qa.X), .d (.int .i64 qa.Y)]), .v (.agg [.d (.int .i64 qb.X), .d (.int .i64 qb.Y)]), .v (.agg [.d (.int .i64 qs.X), .d (.int .i64 qs.Y)])] ⟨[], []⟩ (Is (fleetref2_side_R qa qb qs r)) := by
  unfold fleetref2_side at hF
  refine holds_of_awp hΓ (fn := f113) (c := cB f113) (A := 0) (nx := 0) (by kernel_rfl) (by kernel_rfl) (by kernel_rfl) (by kernel_rfl) (by kernel_rfl) (by kernel_rfl) (lowc_of (by kernel_rfl)) ?_
  show Awp prog 0 15 (cB f113) _ _
  refine awp_seq ?_
  refine awp_region ?_
  refine aR 4 ?_
  refine aE ?_
  refine awp_seq ?_
  refine bE hF fun _ h1 hF => ?_
  refine bE hF fun _ h2 hF => ?_
  refine bE hF fun _ h3 hF => ?_
  refine bE hF fun vr h4 hF => ?_
  refine aD ?_
  refine dR 2 ?_
  refine dC (fleetref2_minus_ok h1) [] [] [] ?_
  refine dR 2 ?_
  refine dC (fleetref2_minus_ok h2) [] [] [] ?_
  refine dC (fleetref2_cross_ok h3) [] [] [] ?_
  refine dC (fleetref2_sign_ok h4) [] [] [] ?_
  refine dR 1 ?_
  refine dE ?_
  refine awp_ret ?_
  exact oF hF [] []

/-! ### beaconfleet/fleetref2.dot -/
def fleetref2_dot_R (qa : api_Spot) (qb : api_Spot) (r : Unit) : TV × Mem := (.v (.one (.d (.int .i64 (IntKind.wrap .i64 ((IntKind.wrap .i64 (qa.X * qb.X)) + (IntKind.wrap .i64 (qa.Y * qb.Y))))))), ⟨[], []⟩)

theorem fleetref2_dot_ok {qa : api_Spot} {qb : api_Spot} {r} (hF : fleetref2_dot qa qb = some r) : Holds prog 114 [.v (.agg [.d (.int .i64 qa.X), .d (.int .i64 qa.Y)]), .v (.agg [.d (.int .i64 qb.X), .d (.int .i64 qb.Y)])] ⟨[], []⟩ (Is (fleetref2_dot_R qa qb r)) := by
  unfold fleetref2_dot at hF
  refine holds_of_awp hΓ (fn := f114) (c := cB f114) (A := 0) (nx := 0) (by kernel_rfl) (by kernel_rfl) (by kernel_rfl) (by kernel_rfl) (by kernel_rfl) (by kernel_rfl) (lowc_of (by kernel_rfl)) ?_
  show Awp prog 0 16 (cB f114) _ _
  refine awp_seq ?_
  refine awp_region ?_
  refine aR 3 ?_
  refine aE ?_
  refine awp_seq ?_
  refine awp_region ?_
  refine aR 12 ?_
  refine aE ?_
  refine awp_ret ?_
  exact oF hF [] []

/-! ### beaconfleet/fleetref2.onWay -/
def fleetref2_onWay_x1_k : Bool → AEx
  | _ => .normal

def fleetref2_onWay_x1_S (qa : api_Spot) (qb : api_Spot) (qs : api_Spot) : Bool → St
  | vx => Mem.st ⟨[], []⟩ (tl [(6, .v (.one (.d (.bool vx))))]) 0

def fleetref2_onWay_x1_I (qa : api_Spot) (qb : api_Spot) (qs : api_Spot) : St := Mem.st ⟨[], [(0, [.d (.int .i64 qa.X), .d (.int .i64 qa.Y)]), (1, [.d (.int .i64 qb.X), .d (.int .i64 qb.Y)]), (2, [.d (.int .i64 qs.X), .d (.int .i64 qs.Y)])]⟩ (tl [(3, .v (.one (.box 0 0))), (4, .v (.one (.box 1 0))), (5, .v (.one (.box 2 0)))]) 3

theorem fleetref2_onWay_x1_ok (qa : api_Spot) (qb : api_Spot) (qs : api_Spot) {r} (hF : fleetref2_onWay_x1 qa qb qs = some r) : Awp prog 0 22 (cL (cR (cB f71))) (Out 0 fleetref2_onWay_x1_k (fleetref2_onWay_x1_S qa qb qs) r) (fleetref2_onWay_x1_I qa qb qs) := by
  unfold fleetref2_onWay_x1 at hF
  refine bE hF fun vr1 h1 hF => ?_
  refine cE hF (fun h2 hF => ?_) fun h2 hF => ?_
  · refine bE hF fun _ h3 hF => ?_
    refine bE hF fun _ h4 hF => ?_
    refine bE hF fun _ h5 hF => ?_
    refine aD ?_
    refine dR 3 ?_
    refine dC (fleetref2_side_ok h1) [] [] [] ?_
    refine dB h2 ?_
    refine dR 3 ?_
    refine dC (fleetref2_minus_ok h3) [] [] [] ?_
    refine dR 2 ?_
    refine dC (fleetref2_minus_ok h4) [] [] [] ?_
    refine dC (fleetref2_dot_ok h5) [] [] [] ?_
    refine dR 3 ?_
    refine dE ?_
    exact oO hF [] [] rfl
  · refine aD ?_
    refine dR 3 ?_
    refine dC (fleetref2_side_ok h1) [] [] [] ?_
    refine dB h2 ?_
    refine dR 11 ?_
    refine dE ?_
    exact oO hF [] [] rfl

def fleetref2_onWay_R (qa : api_Spot) (qb : api_Spot) (qs : api_Spot) (r : Bool) : TV × Mem := (.v (.one (.d (.bool r))), ⟨[], []⟩)

theorem fleetref2_onWay_ok {qa : api_Spot} {qb : api_Spot} {qs : api_Spot} {r} (hF : fleetref2_onWay qa qb qs = some r) : Holds prog 71 [.v (.agg [.d (.int .i64 qa.X), .d (.int .i64 qa.Y)]), .v (.agg [.d (.int .i64 qb.X), .d (.int .i64 qb.Y)]), .v (.agg [.d (.int .i64 qs.X), .d (.int .i64 qs.Y)])] ⟨[], []⟩ (Is (fleetref2_onWay_R qa qb qs r)) := by
  unfold fleetref2_onWay at hF
  refine holds_of_awp hΓ (fn := f71) (c := cB f71) (A := 0) (nx := 0) (by kernel_rfl) (by kernel_rfl) (by kernel_rfl) (by kernel_rfl) (by kernel_rfl) (by kernel_rfl) (lowc_of (by kernel_rfl)) ?_
  show Awp prog 0 22 (cB f71) _ _
  refine awp_seq ?_
  refine awp_region ?_
  refine aR 4 ?_
  refine aE ?_
  refine awp_seq ?_
  refine awp_to (st' := fleetref2_onWay_x1_I qa qb qs) (oT [(1, 1000), (2, 2000)] []) ?_
  refine bE hF fun vx1 h6 hF => ?_
  refine awp_sub (fleetref2_onWay_x1_ok qa qb qs h6) ?_
  refine awp_ret ?_
  exact oF hF [] []

/-! ### beaconfleet/fleetref2.touches -/
def fleetref2_touches_x1_k : Bool → AEx
  | _ => .normal

def fleetref2_touches_x1_S (qa : api_Spot) (qb : api_Spot) (qc : api_Spot) (qd : api_Spot) : Bool → St
  | vx => Mem.st ⟨[], [(0, [.d (.int .i64 qa.X), .d (.int .i64 qa.Y)]), (1, [.d (.int .i64 qb.X), .d (.int .i64 qb.Y)]), (2, [.d (.int .i64 qc.X), .d (.int .i64 qc.Y)]), (3, [.d (.int .i64 qd.X), .d (.int .i64 qd.Y)])]⟩ (tl [(4, .v (.one (.box 0 0))), (5, .v (.one (.box 1 0))), (6, .v (.one (.box 2 0))), (7, .v (.one (.box 3 0))), (30, .v (.one (.d (.bool vx))))]) 4

def fleetref2_touches_x1_I (qa : api_Spot) (qb : api_Spot) (qc : api_Spot) (qd : api_Spot) : St := Mem.st ⟨[], [(0, [.d (.int .i64 qa.X), .d (.int .i64 qa.Y)]), (1, [.d (.int .i64 qb.X), .d (.int .i64 qb.Y)]), (2, [.d (.int .i64 qc.X), .d (.int .i64 qc.Y)]), (3, [.d (.int .i64 qd.X), .d (.int .i64 qd.Y)])]⟩ (tl [(4, .v (.one (.box 0 0))), (5, .v (.one (.box 1 0))), (6, .v (.one (.box 2 0))), (7, .v (.one (.box 3 0)))]) 4

theorem fleetref2_touches_x1_ok (qa : api_Spot) (qb : api_Spot) (qc : api_Spot) (qd : api_Spot) {r} (hF : fleetref2_touches_x1 qa qb qc qd = some r) : Awp prog 0 53 (cL (cL (cR (cB f72)))) (Out 0 fleetref2_touches_x1_k (fleetref2_touches_x1_S qa qb qc qd) r) (fleetref2_touches_x1_I qa qb qc qd) := by
  unfold fleetref2_touches_x1 at hF
  refine bE hF fun vr h1 hF => ?_
  refine cE hF (fun h2 hF => ?_) fun h2 hF => ?_
  · refine awp_region ?_
    refine aR 3 ?_
    refine aCb (fleetref2_onWay_ok h1) [] [] [] h2 ?_
    refine aR 18 ?_
    refine aE ?_
    exact oO hF [] [] rfl
  · refine bE hF fun vr1 h3 hF => ?_
    refine cE hF (fun h4 hF => ?_) fun h4 hF => ?_
    · refine awp_region ?_
      refine aR 3 ?_
      refine aCb (fleetref2_onWay_ok h1) [] [] [] h2 ?_
      refine aR 4 ?_
      refine aCb (fleetref2_onWay_ok h3) [] [] [] h4 ?_
      refine aR 13 ?_
      refine aE ?_
      exact oO hF [] [] rfl
    · refine bE hF fun vr2 h5 hF => ?_
      refine cE hF (fun h6 hF => ?_) fun h6 hF => ?_
      · refine awp_region ?_
        refine aR 3 ?_
        refine aCb (fleetref2_onWay_ok h1) [] [] [] h2 ?_
        refine aR 4 ?_
        refine aCb (fleetref2_onWay_ok h3) [] [] [] h4 ?_
        refine aR 5 ?_
        refine aCb (fleetref2_onWay_ok h5) [] [] [] h6 ?_
        refine aR 7 ?_
        refine aE ?_
        exact oO hF [] [] rfl
      · refine bE hF fun vr3 h7 hF => ?_
        refine awp_region ?_
        refine aR 3 ?_
        refine aCb (fleetref2_onWay_ok h1) [] [] [] h2 ?_
        refine aR 4 ?_
        refine aCb (fleetref2_onWay_ok h3) [] [] [] h4 ?_
        refine aR 5 ?_
        refine aCb (fleetref2_onWay_ok h5) [] [] [] h6 ?_
        refine aR 5 ?_
        refine aC (fleetref2_onWay_ok h7) [] [] [] ?_
        refine aR 1 ?_
        refine aE ?_
        exact oO hF [] [] rfl

def fleetref2_touches_x2_k : Bool → AEx
  | _ => .normal

def fleetref2_touches_x2_S (qa : api_Spot) (qb : api_Spot) (qc : api_Spot) (qd : api_Spot) : Bool → St
  | vx2 => Mem.st ⟨[], []⟩ (tl [(8, .v (.one (.d (.bool vx2))))]) 0

def fleetref2_touches_x2_I (qa : api_Spot) (qb : api_Spot) (qc : api_Spot) (qd : api_Spot) : St := Mem.st ⟨[], [(0, [.d (.int .i64 qa.X), .d (.int .i64 qa.Y)]), (1, [.d (.int .i64 qb.X), .d (.int .i64 qb.Y)]), (2, [.d (.int .i64 qc.X), .d (.int .i64 qc.Y)]), (3, [.d (.int .i64 qd.X), .d (.int .i64 qd.Y)])]⟩ (tl [(4, .v (.one (.box 0 0))), (5, .v (.one (.box 1 0))), (6, .v (.one (.box 2 0))), (7, .v (.one (.box 3 0)))]) 4

theorem fleetref2_touches_x2_ok (qa : api_Spot) (qb : api_Spot) (qc : api_Spot) (qd : api_Spot) {r} (hF : fleetref2_touches_x2 qa qb qc qd = some r) : Awp prog 0 53 (cL (cR (cR (cB f72)))) (Out 0 fleetref2_touches_x2_k (fleetref2_touches_x2_S qa qb qc qd) r) (fleetref2_touches_x2_I qa qb qc qd) := by
  unfold fleetref2_touches_x2 at hF
  refine bE hF fun vr1_1 h10 hF => ?_
  refine bE hF fun vr1_2 h11 hF => ?_
  refine cE hF (fun h12 hF => ?_) fun h12 hF => ?_
  · refine bE hF fun vr1_3 h13 hF => ?_
    refine bE hF fun vr1_4 h14 hF => ?_
    refine aD ?_
    refine dR 3 ?_
    refine dC (fleetref2_side_ok h10) [] [] [] ?_
    refine dR 3 ?_
    refine dC (fleetref2_side_ok h11) [] [] [] ?_
    refine dR 1 ?_
    refine dB h12 ?_
    refine dR 4 ?_
    refine dC (fleetref2_side_ok h13) [] [] [] ?_
    refine dR 3 ?_
    refine dC (fleetref2_side_ok h14) [] [] [] ?_
    refine dR 4 ?_
    refine dE ?_
    exact oO hF [] [] rfl
  · refine aD ?_
    refine dR 3 ?_
    refine dC (fleetref2_side_ok h10) [] [] [] ?_
    refine dR 3 ?_
    refine dC (fleetref2_side_ok h11) [] [] [] ?_
    refine dR 1 ?_
    refine dB h12 ?_
    refine dR 13 ?_
    refine dE ?_
    exact oO hF [] [] rfl

def fleetref2_touches_R (qa : api_Spot) (qb : api_Spot) (qc : api_Spot) (qd : api_Spot) (r : Bool) : TV × Mem := (.v (.one (.d (.bool r))), ⟨[], []⟩)

theorem fleetref2_touches_ok {qa : api_Spot} {qb : api_Spot} {qc : api_Spot} {qd : api_Spot} {r} (hF : fleetref2_touches qa qb qc qd = some r) : Holds prog 72 [.v (.agg [.d (.int .i64 qa.X), .d (.int .i64 qa.Y)]), .v (.agg [.d (.int .i64 qb.X), .d (.int .i64 qb.Y)]), .v (.agg [.d (.int .i64 qc.X), .d (.int .i64 qc.Y)]), .v (.agg [.d (.int .i64 qd.X), .d (.int .i64 qd.Y)])] ⟨[], []⟩ (Is (fleetref2_touches_R qa qb qc qd r)) := by
  unfold fleetref2_touches at hF
  refine holds_of_awp hΓ (fn := f72) (c := cB f72) (A := 0) (nx := 0) (by kernel_rfl) (by kernel_rfl) (by kernel_rfl) (by kernel_rfl) (by kernel_rfl) (by kernel_rfl) (lowc_of (by kernel_rfl)) ?_
  show Awp prog 0 53 (cB f72) _ _
  refine awp_seq ?_
  refine awp_region ?_
  refine aR 5 ?_
  refine aE ?_
  refine awp_seq ?_
  refine awp_seq ?_
  refine awp_to (st' := fleetref2_touches_x1_I qa qb qc qd) (oT [(1, 1000), (2, 2000), (3, 3000)] []) ?_
  refine bE hF fun vx1 h8 hF => ?_
  refine awp_sub (fleetref2_touches_x1_ok qa qb qc qd h8) ?_
  refine cE hF (fun h9 hF => ?_) fun h9 hF => ?_
  · refine awp_true (by kernel_rfl) h9 ?_
    refine awp_seq ?_
    refine awp_region ?_
    refine aR 1 ?_
    refine aE ?_
    refine awp_ret ?_
    exact oF hF [] []
  · refine awp_false (by kernel_rfl) h9 ?_
    refine awp_skip ?_
    refine awp_seq ?_
    refine awp_to (st' := fleetref2_touches_x2_I qa qb qc qd) (oT [] []) ?_
    refine bE hF fun vx2_1 h15 hF => ?_
    refine awp_sub (fleetref2_touches_x2_ok qa qb qc qd h15) ?_
    refine awp_ret ?_
    exact oF hF [] []

/-! ### beaconfleet/fleetref2.CornersFault -/
def fleetref2_CornersFault_x1_k : Unit ⊕ Int → AEx
  | .inl _ => .exit 1
  | .inr _ => .ret

def fleetref2_CornersFault_x1_S (qx : List api_Spot) : Unit ⊕ Int → St
  | .inl _ => Mem.st ⟨[], []⟩ (tl [(0, .v (.one (.d (.lst (List.map api_Spot.enc qx)))))]) 0
  | .inr vx1 => Mem.st ⟨[], []⟩ (tl [(2, .v (.one (.d (.int .i64 vx1))))]) 0

def fleetref2_CornersFault_x1_H (qx : List api_Spot) : Int → St
  | vx => Mem.st ⟨[], []⟩ (tl [(0, .v (.one (.d (.lst (List.map api_Spot.enc qx))))), (20, .v (.one (.d (.lst (List.map api_Spot.enc qx))))), (21, .v (.one (.d (.int .i64 (qx.length : Int))))), (22, .v (.one (.d (.int .i64 vx))))]) 0

theorem fleetref2_CornersFault_x1_ok (qx : List api_Spot) (vx : Int) (r : (Int) ⊕ (Unit ⊕ Int)) (hF : fleetref2_CornersFault_x1 qx vx = some r) : Awp prog 0 90 (cL (cL (cR (cL (cR (cR (cB f30))))))) (Out 0 (kk fleetref2_CornersFault_x1_k) (SS (fleetref2_CornersFault_x1_H qx) (fleetref2_CornersFault_x1_S qx)) r) (fleetref2_CornersFault_x1_H qx vx) := by
  unfold fleetref2_CornersFault_x1 at hF
  refine awp_seq ?_
  refine awp_region ?_
  refine aR 1 ?_
  refine aE ?_
  refine awp_seq ?_
  refine cE hF (fun h3 hF => ?_) fun h3 hF => ?_
  · refine awp_true (by kernel_rfl) h3 ?_
    refine awp_skip ?_
    refine awp_seq ?_
    refine awp_block ?_
    refine awp_seq ?_
    refine bE hF fun vy1 h4 hF => ?_
    refine awp_region ?_
    refine aR 1 ?_
    refine aX (x_idx api_Spot.enc h4) ?_
    refine aR 4 ?_
    refine aE ?_
    refine awp_seq ?_
    refine awp_seq ?_
    refine bE hF fun vr2_1 h5 hF => ?_
    refine awp_region ?_
    refine aR 1 ?_
    refine aC (fleetref2_SpotFault_ok h5) [] [] [] ?_
    refine aR 1 ?_
    refine aE ?_
    refine awp_seq ?_
    refine awp_region ?_
    refine aR 2 ?_
    refine aE ?_
    refine cE hF (fun h6 hF => ?_) fun h6 hF => ?_
    · refine awp_true (by kernel_rfl) h6 ?_
      refine awp_seq ?_
      refine awp_region ?_
      refine aR 2 ?_
      refine aE ?_
      refine awp_ret ?_
      exact oO hF [] [] rfl
    · refine awp_false (by kernel_rfl) h6 ?_
      refine awp_skip ?_
      refine awp_seq ?_
      refine bE hF fun vl1 h7 hF => ?_
      refine bE hF fun vr1_1 h8 hF => ?_
      refine aD ?_
      refine dR 2 ?_
      refine dX (x_slice api_Spot.enc h7) ?_
      refine dR 1 ?_
      refine dC (slices_Contains_api_Spot_api_Spot_ok h8) [] [] [] ?_
      refine dE ?_
      refine cE hF (fun h9 hF => ?_) fun h9 hF => ?_
      · refine awp_true (by kernel_rfl) h9 ?_
        refine awp_seq ?_
        refine awp_region ?_
        refine aR 1 ?_
        refine aE ?_
        refine awp_ret ?_
        exact oO hF [] [] rfl
      · refine awp_false (by kernel_rfl) h9 ?_
        refine awp_skip ?_
        refine awp_region ?_
        refine aR 2 ?_
        refine aE ?_
        exact oO hF [] [] rfl
  · refine awp_false (by kernel_rfl) h3 ?_
    refine awp_exit ?_
    exact oO hF [] [] rfl

def fleetref2_CornersFault_x5_k : Bool → AEx
  | _ => .normal

def fleetref2_CornersFault_x5_S (qx : List api_Spot) (vx2 : Int) (vr9 : api_Spot) (vr1_5 : api_Spot) (vx6 : Int) (vr13 : api_Spot) (vr1_7 : api_Spot) : Bool → St
  | vx8 => Mem.st ⟨[], [(0, [.d (.int .i64 vr9.X), .d (.int .i64 vr9.Y)]), (1, [.d (.int .i64 vr1_5.X), .d (.int .i64 vr1_5.Y)])]⟩ (tl [(0, .v (.one (.d (.lst (List.map api_Spot.enc qx))))), (6, .v (.one (.d (.int .i64 vx2)))), (7, .v (.one (.box 0 0))), (8, .v (.one (.box 1 0))), (39, .v (.one (.d (.int .i64 (qx.length : Int))))), (40, .v (.one (.d (.int .i64 vx2)))), (50, .v (.one (.d (.int .i64 (qx.length : Int))))), (51, .v (.one (.d (.int .i64 vx6)))), (77, .v (.one (.d (.bool vx8))))]) 2

def fleetref2_CornersFault_x5_I (qx : List api_Spot) (vx2 : Int) (vr9 : api_Spot) (vr1_5 : api_Spot) (vx6 : Int) (vr13 : api_Spot) (vr1_7 : api_Spot) : St := Mem.st ⟨[], [(0, [.d (.int .i64 vr9.X), .d (.int .i64 vr9.Y)]), (1, [.d (.int .i64 vr1_5.X), .d (.int .i64 vr1_5.Y)]), (2, [.d (.int .i64 vr13.X), .d (.int .i64 vr13.Y)]), (3, [.d (.int .i64 vr1_7.X), .d (.int .i64 vr1_7.Y)])]⟩ (tl [(0, .v (.one (.d (.lst (List.map api_Spot.enc qx))))), (6, .v (.one (.d (.int .i64 vx2)))), (7, .v (.one (.box 0 0))), (8, .v (.one (.box 1 0))), (10, .v (.one (.box 2 0))), (11, .v (.one (.box 3 0))), (39, .v (.one (.d (.int .i64 (qx.length : Int))))), (40, .v (.one (.d (.int .i64 vx2)))), (50, .v (.one (.d (.int .i64 (qx.length : Int))))), (51, .v (.one (.d (.int .i64 vx6))))]) 4

theorem fleetref2_CornersFault_x5_ok (qx : List api_Spot) (vx2 : Int) (vr9 : api_Spot) (vr1_5 : api_Spot) (vx6 : Int) (vr13 : api_Spot) (vr1_7 : api_Spot) {r} (hF : fleetref2_CornersFault_x5 vr9 vr1_5 vr13 vr1_7 = some r) : Awp prog 0 90 (cL (cL (cR (cR (cR (cL (cR (cR (cL (cL (cR (cR (cL (cL (cR (cR (cR (cL (cL (cR (cR (cL (cL (cR (cL (cR (cR (cR (cB f30))))))))))))))))))))))))))))) (Out 0 fleetref2_CornersFault_x5_k (fleetref2_CornersFault_x5_S qx vx2 vr9 vr1_5 vx6 vr13 vr1_7) r) (fleetref2_CornersFault_x5_I qx vx2 vr9 vr1_5 vx6 vr13 vr1_7) := by
  unfold fleetref2_CornersFault_x5 at hF
  refine bE hF fun vr14 h17 hF => ?_
  refine cE hF (fun h18 hF => ?_) fun h18 hF => ?_
  · refine awp_region ?_
    refine aR 3 ?_
    refine aCb (fleetref2_onWay_ok h17) [] [] [] h18 ?_
    refine aR 6 ?_
    refine aE ?_
    exact oO hF [] [] rfl
  · refine bE hF fun vr15 h19 hF => ?_
    refine awp_region ?_
    refine aR 3 ?_
    refine aCb (fleetref2_onWay_ok h17) [] [] [] h18 ?_
    refine aR 4 ?_
    refine aC (fleetref2_onWay_ok h19) [] [] [] ?_
    refine aR 1 ?_
    refine aE ?_
    exact oO hF [] [] rfl

def fleetref2_CornersFault_x4_k : Unit ⊕ Unit → AEx
  | .inl _ => .normal
  | .inr _ => .ret

def fleetref2_CornersFault_x4_S (qx : List api_Spot) (vx2 : Int) (vr9 : api_Spot) (vr1_5 : api_Spot) (vx6 : Int) : Unit ⊕ Unit → St
  | .inl _ => Mem.st ⟨[], [(0, [.d (.int .i64 vr9.X), .d (.int .i64 vr9.Y)]), (1, [.d (.int .i64 vr1_5.X), .d (.int .i64 vr1_5.Y)])]⟩ (tl [(0, .v (.one (.d (.lst (List.map api_Spot.enc qx))))), (6, .v (.one (.d (.int .i64 vx2)))), (7, .v (.one (.box 0 0))), (8, .v (.one (.box 1 0))), (39, .v (.one (.d (.int .i64 (qx.length : Int))))), (40, .v (.one (.d (.int .i64 vx2)))), (50, .v (.one (.d (.int .i64 (qx.length : Int))))), (51, .v (.one (.d (.int .i64 vx6))))]) 2
  | .inr _ => Mem.st ⟨[], []⟩ (tl [(2, .v (.one (.d (.int .i64 13))))]) 0

def fleetref2_CornersFault_x4_I (qx : List api_Spot) (vx2 : Int) (vr9 : api_Spot) (vr1_5 : api_Spot) (vx6 : Int) : St := Mem.st ⟨[], [(0, [.d (.int .i64 vr9.X), .d (.int .i64 vr9.Y)]), (1, [.d (.int .i64 vr1_5.X), .d (.int .i64 vr1_5.Y)])]⟩ (tl [(0, .v (.one (.d (.lst (List.map api_Spot.enc qx))))), (6, .v (.one (.d (.int .i64 vx2)))), (7, .v (.one (.box 0 0))), (8, .v (.one (.box 1 0))), (39, .v (.one (.d (.int .i64 (qx.length : Int))))), (40, .v (.one (.d (.int .i64 vx2)))), (50, .v (.one (.d (.int .i64 (qx.length : Int))))), (51, .v (.one (.d (.int .i64 vx6))))]) 2

theorem fleetref2_CornersFault_x4_ok (qx : List api_Spot) (vx2 : Int) (vr9 : api_Spot) (vr1_5 : api_Spot) (vx6 : Int) {r} (hF : fleetref2_CornersFault_x4 qx vx2 vr9 vr1_5 vx6 = some r) : Awp prog 0 90 (cL (cR (cR (cL (cL (cR (cR (cR (cL (cL (cR (cR (cL (cL (cR (cL (cR (cR (cR (cB f30)))))))))))))))))))) (Out 0 fleetref2_CornersFault_x4_k (fleetref2_CornersFault_x4_S qx vx2 vr9 vr1_5 vx6) r) (fleetref2_CornersFault_x4_I qx vx2 vr9 vr1_5 vx6) := by
  unfold fleetref2_CornersFault_x4 at hF
  refine awp_block ?_
  refine awp_seq ?_
  refine awp_region ?_
  refine aR 2 ?_
  refine aE ?_
  refine awp_seq ?_
  refine bE hF fun x h14 hF => ?_
  obtain ⟨vr13, vr1_7⟩ := x
  refine awp_region ?_
  refine aR 2 ?_
  refine aC (fleetref2_edge_ok h14) [] [] [] ?_
  refine aR 7 ?_
  refine aE ?_
  refine awp_block ?_
  refine awp_seq ?_
  refine awp_region ?_
  refine aR 4 ?_
  refine aE ?_
  refine cE hF (fun h15 hF => ?_) fun h15 hF => ?_
  · refine awp_true (by kernel_rfl) h15 ?_
    refine awp_skip ?_
    exact oO hF [] [] rfl
  · refine awp_false (by kernel_rfl) h15 ?_
    refine awp_seq ?_
    refine awp_region ?_
    refine aR 2 ?_
    refine aS (does_eqS (op := .eql) (xs := [.int .i64 vr1_5.X, .int .i64 vr1_5.Y]) (ys := [.int .i64 vr13.X, .int .i64 vr13.Y]) (b := (decide (vr1_5.X = vr13.X) && (decide (vr1_5.Y = vr13.Y) && true))) (c := (decide (vr1_5.X = vr13.X) && (decide (vr1_5.Y = vr13.Y) && true))) rfl (.inl ⟨rfl, rfl⟩) (by kernel_rfl) (by kernel_rfl) (by kernel_rfl) (by kernel_rfl) (by kernel_rfl) (by kernel_rfl)) ?_
    refine aR 1 ?_
    refine aE ?_
    refine cE hF (fun h16 hF => ?_) fun h16 hF => ?_
    · refine awp_true (by kernel_rfl) h16 ?_
      refine awp_seq ?_
      refine awp_to (st' := fleetref2_CornersFault_x5_I qx vx2 vr9 vr1_5 vx6 vr13 vr1_7) (oT [(2, 8002), (3, 9002)] []) ?_
      refine bE hF fun vx8_1 h20 hF => ?_
      refine awp_sub (fleetref2_CornersFault_x5_ok qx vx2 vr9 vr1_5 vx6 vr13 vr1_7 h20) ?_
      refine cE hF (fun h21 hF => ?_) fun h21 hF => ?_
      · refine awp_true (by kernel_rfl) h21 ?_
        refine awp_seq ?_
        refine awp_region ?_
        refine aR 1 ?_
        refine aE ?_
        refine awp_ret ?_
        exact oO hF [] [] rfl
      · refine awp_false (by kernel_rfl) h21 ?_
        refine awp_skip ?_
        exact oO hF [] [] rfl
    · refine awp_false (by kernel_rfl) h16 ?_
      refine awp_seq ?_
      refine awp_region ?_
      refine aR 2 ?_
      refine aS (does_eqS (op := .eql) (xs := [.int .i64 vr1_7.X, .int .i64 vr1_7.Y]) (ys := [.int .i64 vr9.X, .int .i64 vr9.Y]) (b := (decide (vr1_7.X = vr9.X) && (decide (vr1_7.Y = vr9.Y) && true))) (c := (decide (vr1_7.X = vr9.X) && (decide (vr1_7.Y = vr9.Y) && true))) rfl (.inl ⟨rfl, rfl⟩) (by kernel_rfl) (by kernel_rfl) (by kernel_rfl) (by kernel_rfl) (by kernel_rfl) (by kernel_rfl)) ?_
      refine aR 1 ?_
      refine aE ?_
      refine cE hF (fun h22 hF => ?_) fun h22 hF => ?_
      · refine awp_true (by kernel_rfl) h22 ?_
        refine awp_skip ?_
        exact oO hF [] [] rfl
      · refine awp_false (by kernel_rfl) h22 ?_
        refine awp_seq ?_
        refine bE hF fun vr4_4 h23 hF => ?_
        refine awp_region ?_
        refine aR 4 ?_
        refine aC (fleetref2_touches_ok h23) [] [] [] ?_
        refine aR 1 ?_
        refine aE ?_
        refine cE hF (fun h24 hF => ?_) fun h24 hF => ?_
        · refine awp_true (by kernel_rfl) h24 ?_
          refine awp_seq ?_
          refine awp_region ?_
          refine aR 1 ?_
          refine aE ?_
          refine awp_ret ?_
          exact oO hF [] [] rfl
        · refine awp_false (by kernel_rfl) h24 ?_
          refine awp_skip ?_
          exact oO hF [] [] rfl

def fleetref2_CornersFault_x3_k : Unit ⊕ Unit → AEx
  | .inl _ => .exit 5
  | .inr _ => .ret

def fleetref2_CornersFault_x3_S (qx : List api_Spot) (vx2 : Int) (vr9 : api_Spot) (vr1_5 : api_Spot) : Unit ⊕ Unit → St
  | .inl _ => Mem.st ⟨[], []⟩ (tl [(0, .v (.one (.d (.lst (List.map api_Spot.enc qx))))), (39, .v (.one (.d (.int .i64 (qx.length : Int))))), (40, .v (.one (.d (.int .i64 vx2))))]) 0
  | .inr _ => Mem.st ⟨[], []⟩ (tl [(2, .v (.one (.d (.int .i64 13))))]) 0

def fleetref2_CornersFault_x3_H (qx : List api_Spot) (vx2 : Int) (vr9 : api_Spot) (vr1_5 : api_Spot) : Int → St
  | vx6 => Mem.st ⟨[], [(0, [.d (.int .i64 vr9.X), .d (.int .i64 vr9.Y)]), (1, [.d (.int .i64 vr1_5.X), .d (.int .i64 vr1_5.Y)])]⟩ (tl [(0, .v (.one (.d (.lst (List.map api_Spot.enc qx))))), (6, .v (.one (.d (.int .i64 vx2)))), (7, .v (.one (.box 0 0))), (8, .v (.one (.box 1 0))), (39, .v (.one (.d (.int .i64 (qx.length : Int))))), (40, .v (.one (.d (.int .i64 vx2)))), (50, .v (.one (.d (.int .i64 (qx.length : Int))))), (51, .v (.one (.d (.int .i64 vx6))))]) 2

theorem fleetref2_CornersFault_x3_ok (qx : List api_Spot) (vx2 : Int) (vr9 : api_Spot) (vr1_5 : api_Spot) (vx6 : Int) (r : (Int) ⊕ (Unit ⊕ Unit)) (hF : fleetref2_CornersFault_x3 qx vx2 vr9 vr1_5 vx6 = some r) : Awp prog 0 90 (cL (cL (cR (cR (cR (cL (cL (cR (cR (cL (cL (cR (cL (cR (cR (cR (cB f30))))))))))))))))) (Out 0 (kk fleetref2_CornersFault_x3_k) (SS (fleetref2_CornersFault_x3_H qx vx2 vr9 vr1_5) (fleetref2_CornersFault_x3_S qx vx2 vr9 vr1_5)) r) (fleetref2_CornersFault_x3_H qx vx2 vr9 vr1_5 vx6) := by
  unfold fleetref2_CornersFault_x3 at hF
  refine awp_seq ?_
  refine awp_region ?_
  refine aR 1 ?_
  refine aE ?_
  refine awp_seq ?_
  refine cE hF (fun h13 hF => ?_) fun h13 hF => ?_
  · refine awp_true (by kernel_rfl) h13 ?_
    refine awp_skip ?_
    refine awp_seq ?_
    refine awp_to (st' := fleetref2_CornersFault_x4_I qx vx2 vr9 vr1_5 vx6) (oT [] []) ?_
    refine bE hF fun x h25 hF => ?_
    rcases x with _ | _
    · refine awp_sub (fleetref2_CornersFault_x4_ok qx vx2 vr9 vr1_5 vx6 h25) ?_
      refine awp_region ?_
      refine aR 2 ?_
      refine aE ?_
      exact oO hF [] [] rfl
    · refine awp_sub (fleetref2_CornersFault_x4_ok qx vx2 vr9 vr1_5 vx6 h25) ?_
      exact oO hF [] [] rfl
  · refine awp_false (by kernel_rfl) h13 ?_
    refine awp_exit ?_
    exact oO hF [] [] rfl

def fleetref2_CornersFault_x2_k : Unit ⊕ Unit → AEx
  | .inl _ => .exit 3
  | .inr _ => .ret

def fleetref2_CornersFault_x2_S (qx : List api_Spot) : Unit ⊕ Unit → St
  | .inl _ => Mem.st ⟨[], []⟩ (tl []) 0
  | .inr _ => Mem.st ⟨[], []⟩ (tl [(2, .v (.one (.d (.int .i64 13))))]) 0

def fleetref2_CornersFault_x2_H (qx : List api_Spot) : Int → St
  | vx2 => Mem.st ⟨[], []⟩ (tl [(0, .v (.one (.d (.lst (List.map api_Spot.enc qx))))), (39, .v (.one (.d (.int .i64 (qx.length : Int))))), (40, .v (.one (.d (.int .i64 vx2))))]) 0

theorem fleetref2_CornersFault_x2_ok (qx : List api_Spot) (vx2 : Int) (r : (Int) ⊕ (Unit ⊕ Unit)) (hF : fleetref2_CornersFault_x2 qx vx2 = some r) : Awp prog 0 90 (cL (cL (cR (cL (cR (cR (cR (cB f30)))))))) (Out 0 (kk fleetref2_CornersFault_x2_k) (SS (fleetref2_CornersFault_x2_H qx) (fleetref2_CornersFault_x2_S qx)) r) (fleetref2_CornersFault_x2_H qx vx2) := by
  unfold fleetref2_CornersFault_x2 at hF
  refine awp_seq ?_
  refine awp_region ?_
  refine aR 1 ?_
  refine aE ?_
  refine awp_seq ?_
  refine cE hF (fun h11 hF => ?_) fun h11 hF => ?_
  · refine awp_true (by kernel_rfl) h11 ?_
    refine awp_skip ?_
    refine awp_seq ?_
    refine awp_block ?_
    refine awp_seq ?_
    refine awp_region ?_
    refine aR 2 ?_
    refine aE ?_
    refine awp_seq ?_
    refine bE hF fun x h12 hF => ?_
    obtain ⟨vr9, vr1_5⟩ := x
    refine awp_region ?_
    refine aR 2 ?_
    refine aC (fleetref2_edge_ok h12) [] [] [] ?_
    refine aR 7 ?_
    refine aE ?_
    refine awp_seq ?_
    refine awp_region ?_
    refine aR 1 ?_
    refine aL api_Spot.enc qx ?_
    refine aR 1 ?_
    refine aE ?_
    refine awp_block ?_
    refine awp_to (st' := fleetref2_CornersFault_x3_H qx vx2 vr9 vr1_5 0) (oT [(0, 9000), (1, 10000)] []) ?_
    refine bE hF fun x h26 hF => ?_
    rcases x with _ | _
    · refine awp_sub (awp_loop' (fleetref2_CornersFault_x3_H qx vx2 vr9 vr1_5) fleetref2_CornersFault_x3_k (fleetref2_CornersFault_x3_S qx vx2 vr9 vr1_5) (by intro x; rcases x with x | x <;> exact fun h => nomatch h) h26 (fleetref2_CornersFault_x3_ok qx vx2 vr9 vr1_5)) ?_
      refine awp_region ?_
      refine aR 2 ?_
      refine aE ?_
      exact oO hF [] [] rfl
    · refine awp_sub (awp_loop' (fleetref2_CornersFault_x3_H qx vx2 vr9 vr1_5) fleetref2_CornersFault_x3_k (fleetref2_CornersFault_x3_S qx vx2 vr9 vr1_5) (by intro x; rcases x with x | x <;> exact fun h => nomatch h) h26 (fleetref2_CornersFault_x3_ok qx vx2 vr9 vr1_5)) ?_
      exact oO hF [] [] rfl
  · refine awp_false (by kernel_rfl) h11 ?_
    refine awp_exit ?_
    exact oO hF [] [] rfl

def fleetref2_CornersFault_R (qx : List api_Spot) (r : Int) : TV × Mem := (.v (.one (.d (.int .i64 r))), ⟨[], []⟩)

theorem fleetref2_CornersFault_ok {qx : List api_Spot} {r} (hF : fleetref2_CornersFault qx = some r) : Holds prog 30 [.v (.one (.d (.lst (List.map api_Spot.enc qx))))] ⟨[], []⟩ (Is (fleetref2_CornersFault_R qx r)) := by
  unfold fleetref2_CornersFault at hF
  refine holds_of_awp hΓ (fn := f30) (c := cB f30) (A := 0) (nx := 0) (by kernel_rfl) (by kernel_rfl) (by kernel_rfl) (by kernel_rfl) (by kernel_rfl) (by kernel_rfl) (lowc_of (by kernel_rfl)) ?_
  show Awp prog 0 90 (cB f30) _ _
  refine awp_seq ?_
  refine awp_region ?_
  refine aR 1 ?_
  refine aE ?_
  refine awp_seq ?_
  refine awp_block ?_
  refine awp_seq ?_
  refine awp_region ?_
  refine aR 1 ?_
  refine aL api_Spot.enc qx ?_
  refine aR 2 ?_
  refine aE ?_
  refine cE hF (fun h1 hF => ?_) fun h1 hF => ?_
  · refine awp_true (by kernel_rfl) h1 ?_
    refine awp_seq ?_
    refine awp_region ?_
    refine aR 1 ?_
    refine aE ?_
    refine awp_ret ?_
    exact oF hF [] []
  · refine awp_false (by kernel_rfl) h1 ?_
    refine awp_seq ?_
    refine awp_region ?_
    refine aR 1 ?_
    refine aL api_Spot.enc qx ?_
    refine aR 2 ?_
    refine aE ?_
    refine cE hF (fun h2 hF => ?_) fun h2 hF => ?_
    · refine awp_true (by kernel_rfl) h2 ?_
      refine awp_seq ?_
      refine awp_region ?_
      refine aR 1 ?_
      refine aE ?_
      refine awp_ret ?_
      exact oF hF [] []
    · refine awp_false (by kernel_rfl) h2 ?_
      refine awp_skip ?_
      refine awp_seq ?_
      refine awp_seq ?_
      refine awp_region ?_
      refine aR 1 ?_
      refine aL api_Spot.enc qx ?_
      refine aR 1 ?_
      refine aE ?_
      refine awp_block ?_
      refine awp_to (st' := fleetref2_CornersFault_x1_H qx 0) (oT [] []) ?_
      refine bE hF fun x h10 hF => ?_
      rcases x with _ | vx1_1
      · refine awp_sub (awp_loop' (fleetref2_CornersFault_x1_H qx) fleetref2_CornersFault_x1_k (fleetref2_CornersFault_x1_S qx) (by intro x; rcases x with x | x <;> exact fun h => nomatch h) h10 (fleetref2_CornersFault_x1_ok qx)) ?_
        refine awp_seq ?_
        refine awp_seq ?_
        refine awp_region ?_
        refine aR 1 ?_
        refine aL api_Spot.enc qx ?_
        refine aR 1 ?_
        refine aE ?_
        refine awp_block ?_
        refine awp_to (st' := fleetref2_CornersFault_x2_H qx 0) (oT [] []) ?_
        refine bE hF fun x h27 hF => ?_
        rcases x with _ | _
        · refine awp_sub (awp_loop' (fleetref2_CornersFault_x2_H qx) fleetref2_CornersFault_x2_k (fleetref2_CornersFault_x2_S qx) (by intro x; rcases x with x | x <;> exact fun h => nomatch h) h27 (fleetref2_CornersFault_x2_ok qx)) ?_
          refine awp_seq ?_
          refine awp_region ?_
          refine aR 1 ?_
          refine aE ?_
          refine awp_ret ?_
          exact oF hF [] []
        · refine awp_sub (awp_loop' (fleetref2_CornersFault_x2_H qx) fleetref2_CornersFault_x2_k (fleetref2_CornersFault_x2_S qx) (by intro x; rcases x with x | x <;> exact fun h => nomatch h) h27 (fleetref2_CornersFault_x2_ok qx)) ?_
          exact oF hF [] []
      · refine awp_sub (awp_loop' (fleetref2_CornersFault_x1_H qx) fleetref2_CornersFault_x1_k (fleetref2_CornersFault_x1_S qx) (by intro x; rcases x with x | x <;> exact fun h => nomatch h) h10 (fleetref2_CornersFault_x1_ok qx)) ?_
        exact oF hF [] []

/-! ### (*beaconfleet/fleetmake.Stream).RightFence -/
def fleetmake_Stream_RightFence_x2_k : (fleetmake_Stream × (List api_Spot)) → AEx
  | _ => .exit 2

def fleetmake_Stream_RightFence_x2_S (vx : Int) (vr5 : Int) : (fleetmake_Stream × (List api_Spot)) → St
  | (vs9, vx10) => Mem.st ⟨[(3, ⟨52, 2, List.map api_Spot.enc ([api_Spot.mk 0 0, api_Spot.mk 10 0, api_Spot.mk 10 10, api_Spot.mk 0 10] : List api_Spot)⟩), (4, ⟨52, 2, List.map api_Spot.enc vx10⟩)], [(0, [.d (.lst (List.map (encI .i64) vs9.L)), .d (.int .i64 vs9.at_)]), (1, [.d (.str ([] : List UInt8)), .nil]), (2, [.d (.str ([102] : List UInt8)), .own 3 none])]⟩ (tl [(0, .v (.one (.box 0 0))), (2, .v (.one (.box 1 0))), (3, .v (.one (.box 2 0))), (4, .v (.one (.own 4 none))), (12, .v (.one (.d (.int .i64 vx))))]) 5

def fleetmake_Stream_RightFence_x2_H (vx : Int) (vr5 : Int) : fleetmake_Stream × (List api_Spot) × Int → St
  | (vs8, vx8, vx9) => Mem.st ⟨[(3, ⟨52, 2, List.map api_Spot.enc ([api_Spot.mk 0 0, api_Spot.mk 10 0, api_Spot.mk 10 10, api_Spot.mk 0 10] : List api_Spot)⟩), (4, ⟨52, 2, List.map api_Spot.enc vx8⟩)], [(0, [.d (.lst (List.map (encI .i64) vs8.L)), .d (.int .i64 vs8.at_)]), (1, [.d (.str ([] : List UInt8)), .nil]), (2, [.d (.str ([102] : List UInt8)), .own 3 none])]⟩ (tl [(0, .v (.one (.box 0 0))), (2, .v (.one (.box 1 0))), (3, .v (.one (.box 2 0))), (4, .v (.one (.own 4 none))), (12, .v (.one (.d (.int .i64 vx)))), (15, .v (.one (.d (.int .i64 vr5)))), (16, .v (.one (.d (.int .i64 vx9))))]) 5

theorem fleetmake_Stream_RightFence_x2_ok (vx : Int) (vr5 : Int) (s : fleetmake_Stream × (List api_Spot) × Int) (r : (fleetmake_Stream × (List api_Spot) × Int) ⊕ ((fleetmake_Stream × (List api_Spot)))) (hF : fleetmake_Stream_RightFence_x2 vr5 s = some r) : Awp prog 1 82 (cL (cL (cR (cL (cR (cL (cL (cR (cR (cL (cL (cR (cL (cR (cR (cB f6)))))))))))))))) (Out 1 (kk fleetmake_Stream_RightFence_x2_k) (SS (fleetmake_Stream_RightFence_x2_H vx vr5) (fleetmake_Stream_RightFence_x2_S vx vr5)) r) (fleetmake_Stream_RightFence_x2_H vx vr5 s) := by
  obtain ⟨vs8, vx8, vx9⟩ := s
  unfold fleetmake_Stream_RightFence_x2 at hF
  refine awp_seq ?_
  refine awp_region ?_
  refine aR 1 ?_
  refine aE ?_
  refine awp_seq ?_
  refine cE hF (fun h3 hF => ?_) fun h3 hF => ?_
  · refine awp_true (by kernel_rfl) h3 ?_
    refine awp_skip ?_
    refine awp_seq ?_
    refine awp_block ?_
    refine bE hF fun vr2_3 h4 hF => ?_
    refine gE hF fun h5 hF => ?_
    refine awp_region ?_
    refine aR 2 ?_
    refine aC (fleetmake_Stream_Place_ok h4) [] [] [] ?_
    refine aR 1 ?_
    refine aX (x_app api_Spot.enc 4 h5) ?_
    refine aR 1 ?_
    refine aE ?_
    refine awp_region ?_
    refine aR 2 ?_
    refine aE ?_
    exact oO hF [(4, 5005)] [] rfl
  · refine awp_false (by kernel_rfl) h3 ?_
    refine awp_exit ?_
    exact oO hF [] [] rfl

def fleetmake_Stream_RightFence_x4_k : (fleetmake_Stream × (List api_Spot)) → AEx
  | _ => .exit 4

def fleetmake_Stream_RightFence_x4_S (vx : Int) (vx10_1 : List api_Spot) : (fleetmake_Stream × (List api_Spot)) → St
  | (vs11, vx13) => Mem.st ⟨[(3, ⟨52, 2, List.map api_Spot.enc ([api_Spot.mk 0 0, api_Spot.mk 10 0, api_Spot.mk 10 10, api_Spot.mk 0 10] : List api_Spot)⟩), (4, ⟨52, 2, List.map api_Spot.enc vx13⟩)], [(0, [.d (.lst (List.map (encI .i64) vs11.L)), .d (.int .i64 vs11.at_)]), (1, [.d (.str ([] : List UInt8)), .nil]), (2, [.d (.str ([102] : List UInt8)), .own 3 none])]⟩ (tl [(0, .v (.one (.box 0 0))), (2, .v (.one (.box 1 0))), (3, .v (.one (.box 2 0))), (4, .v (.one (.own 4 none))), (12, .v (.one (.d (.int .i64 vx))))]) 5

def fleetmake_Stream_RightFence_x4_H (vx : Int) (vx10_1 : List api_Spot) : fleetmake_Stream × (List api_Spot) × Int → St
  | (vs10, vx11, vx12) => Mem.st ⟨[(3, ⟨52, 2, List.map api_Spot.enc ([api_Spot.mk 0 0, api_Spot.mk 10 0, api_Spot.mk 10 10, api_Spot.mk 0 10] : List api_Spot)⟩), (4, ⟨52, 2, List.map api_Spot.enc vx11⟩)], [(0, [.d (.lst (List.map (encI .i64) vs10.L)), .d (.int .i64 vs10.at_)]), (1, [.d (.str ([] : List UInt8)), .nil]), (2, [.d (.str ([102] : List UInt8)), .own 3 none])]⟩ (tl [(0, .v (.one (.box 0 0))), (2, .v (.one (.box 1 0))), (3, .v (.one (.box 2 0))), (4, .v (.one (.own 4 none))), (12, .v (.one (.d (.int .i64 vx)))), (27, .v (.one (.d (.int .i64 (vx10_1.length : Int))))), (28, .v (.one (.d (.int .i64 vx12))))]) 5

theorem fleetmake_Stream_RightFence_x4_ok (vx : Int) (vx10_1 : List api_Spot) (s : fleetmake_Stream × (List api_Spot) × Int) (r : (fleetmake_Stream × (List api_Spot) × Int) ⊕ ((fleetmake_Stream × (List api_Spot)))) (hF : fleetmake_Stream_RightFence_x4 vx10_1 s = some r) : Awp prog 1 82 (cL (cL (cR (cL (cR (cL (cR (cR (cL (cL (cR (cR (cL (cL (cR (cL (cR (cR (cB f6))))))))))))))))))) (Out 1 (kk fleetmake_Stream_RightFence_x4_k) (SS (fleetmake_Stream_RightFence_x4_H vx vx10_1) (fleetmake_Stream_RightFence_x4_S vx vx10_1)) r) (fleetmake_Stream_RightFence_x4_H vx vx10_1 s) := by
  obtain ⟨vs10, vx11, vx12⟩ := s
  unfold fleetmake_Stream_RightFence_x4 at hF
  refine awp_seq ?_
  refine awp_region ?_
  refine aR 1 ?_
  refine aE ?_
  refine awp_seq ?_
  refine cE hF (fun h9 hF => ?_) fun h9 hF => ?_
  · refine awp_true (by kernel_rfl) h9 ?_
    refine awp_skip ?_
    refine awp_seq ?_
    refine awp_block ?_
    refine awp_seq ?_
    refine awp_region ?_
    refine aR 2 ?_
    refine aE ?_
    refine bE hF fun vy3 h10 hF => ?_
    refine bE hF fun vr8 h11 hF => ?_
    refine aDw [4] ?_
    refine dR 2 ?_
    refine dI api_Spot.enc 4 h10 rfl ?_
    refine dR 1 ?_
    refine dX (x_ldE api_Spot.enc h10) ?_
    refine dR 2 ?_
    refine dC (fleetmake_Stream_Pick_o1_ok h11) [(1, 9005)] [] [] ?_
    refine dR 1 ?_
    refine dI api_Spot.enc 4 h10 rfl ?_
    refine dR 1 ?_
    refine dW api_Spot.enc (api_Spot.mk (IntKind.wrap .i64 (vy3.X * vr8)) vy3.Y) h10 rfl ?_
    refine dE ?_
    refine awp_region ?_
    refine aR 2 ?_
    refine aE ?_
    exact oO hF [] [] rfl
  · refine awp_false (by kernel_rfl) h9 ?_
    refine awp_exit ?_
    exact oO hF [] [] rfl

def fleetmake_Stream_RightFence_x3_k : (fleetmake_Stream × (List api_Spot)) → AEx
  | _ => .normal

def fleetmake_Stream_RightFence_x3_S (vx : Int) (vs9_1 : fleetmake_Stream) (vx10_1 : List api_Spot) : (fleetmake_Stream × (List api_Spot)) → St
  | (vs12, vx14) => Mem.st ⟨[(3, ⟨52, 2, List.map api_Spot.enc ([api_Spot.mk 0 0, api_Spot.mk 10 0, api_Spot.mk 10 10, api_Spot.mk 0 10] : List api_Spot)⟩), (4, ⟨52, 2, List.map api_Spot.enc vx14⟩)], [(0, [.d (.lst (List.map (encI .i64) vs12.L)), .d (.int .i64 vs12.at_)]), (1, [.d (.str ([] : List UInt8)), .nil]), (2, [.d (.str ([102] : List UInt8)), .own 3 none])]⟩ (tl [(0, .v (.one (.box 0 0))), (2, .v (.one (.box 1 0))), (3, .v (.one (.box 2 0))), (4, .v (.one (.own 4 none))), (12, .v (.one (.d (.int .i64 vx))))]) 5

def fleetmake_Stream_RightFence_x3_I (vx : Int) (vs9_1 : fleetmake_Stream) (vx10_1 : List api_Spot) : St := Mem.st ⟨[(3, ⟨52, 2, List.map api_Spot.enc ([api_Spot.mk 0 0, api_Spot.mk 10 0, api_Spot.mk 10 10, api_Spot.mk 0 10] : List api_Spot)⟩), (4, ⟨52, 2, List.map api_Spot.enc vx10_1⟩)], [(0, [.d (.lst (List.map (encI .i64) vs9_1.L)), .d (.int .i64 vs9_1.at_)]), (1, [.d (.str ([] : List UInt8)), .nil]), (2, [.d (.str ([102] : List UInt8)), .own 3 none])]⟩ (tl [(0, .v (.one (.box 0 0))), (2, .v (.one (.box 1 0))), (3, .v (.one (.box 2 0))), (4, .v (.one (.own 4 none))), (12, .v (.one (.d (.int .i64 vx))))]) 5

theorem fleetmake_Stream_RightFence_x3_ok (vx : Int) (vs9_1 : fleetmake_Stream) (vx10_1 : List api_Spot) {r} (hF : fleetmake_Stream_RightFence_x3 vs9_1 vx10_1 = some r) : Awp prog 1 82 (cL (cR (cR (cL (cL (cR (cR (cL (cL (cR (cL (cR (cR (cB f6)))))))))))))) (Out 1 fleetmake_Stream_RightFence_x3_k (fleetmake_Stream_RightFence_x3_S vx vs9_1 vx10_1) r) (fleetmake_Stream_RightFence_x3_I vx vs9_1 vx10_1) := by
  unfold fleetmake_Stream_RightFence_x3 at hF
  refine awp_seq ?_
  refine bE hF fun vr6 h7 hF => ?_
  refine awp_region ?_
  refine aR 1 ?_
  refine aC (fleetmake_Stream_Flip_ok h7) [] [] [] ?_
  refine aE ?_
  refine cE hF (fun h8 hF => ?_) fun h8 hF => ?_
  · refine awp_true (by kernel_rfl) h8 ?_
    refine awp_seq ?_
    refine awp_region ?_
    refine aR 1 ?_
    refine aL api_Spot.enc vx10_1 ?_
    refine aR 1 ?_
    refine aE ?_
    refine awp_block ?_
    refine awp_to (st' := fleetmake_Stream_RightFence_x4_H vx vx10_1 (fleetmake_Stream.mk vs9_1.L (IntKind.wrap .i64 (vs9_1.at_ + 1)), vx10_1, 0)) (oT [] []) ?_
    refine bE hF fun x h12 hF => ?_
    obtain ⟨vs11_1, vx13_1⟩ := x
    refine awp_sub (awp_loop' (fleetmake_Stream_RightFence_x4_H vx vx10_1) fleetmake_Stream_RightFence_x4_k (fleetmake_Stream_RightFence_x4_S vx vx10_1) (by intro x; exact fun h => nomatch h) h12 (fleetmake_Stream_RightFence_x4_ok vx vx10_1)) ?_
    exact oO hF [] [] rfl
  · refine awp_false (by kernel_rfl) h8 ?_
    refine awp_skip ?_
    exact oO hF [] [] rfl

def fleetmake_Stream_RightFence_x1_k : fleetmake_Stream ⊕ (fleetmake_Stream × (List api_Spot)) → AEx
  | .inl _ => .exit 0
  | .inr _ => .ret

def fleetmake_Stream_RightFence_x1_S : fleetmake_Stream ⊕ (fleetmake_Stream × (List api_Spot)) → St
  | .inl vs13 => Mem.st ⟨[(3, ⟨52, 2, List.map api_Spot.enc ([api_Spot.mk 0 0, api_Spot.mk 10 0, api_Spot.mk 10 10, api_Spot.mk 0 10] : List api_Spot)⟩)], [(0, [.d (.lst (List.map (encI .i64) vs13.L)), .d (.int .i64 vs13.at_)]), (1, [.d (.str ([] : List UInt8)), .nil]), (2, [.d (.str ([102] : List UInt8)), .own 3 none])]⟩ (tl [(0, .v (.one (.box 0 0))), (2, .v (.one (.box 1 0))), (3, .v (.one (.box 2 0)))]) 4
  | .inr (vs14, vx15) => Mem.st ⟨[(2, ⟨52, 2, List.map api_Spot.enc vx15⟩)], [(0, [.d (.lst (List.map (encI .i64) vs14.L)), .d (.int .i64 vs14.at_)]), (1, [.d (.str ([102] : List UInt8)), .own 2 none])]⟩ (tl [(2, .v (.one (.box 1 0)))]) 3

def fleetmake_Stream_RightFence_x1_H : fleetmake_Stream × Int → St
  | (vs, vx) => Mem.st ⟨[(3, ⟨52, 2, List.map api_Spot.enc ([api_Spot.mk 0 0, api_Spot.mk 10 0, api_Spot.mk 10 10, api_Spot.mk 0 10] : List api_Spot)⟩)], [(0, [.d (.lst (List.map (encI .i64) vs.L)), .d (.int .i64 vs.at_)]), (1, [.d (.str ([] : List UInt8)), .nil]), (2, [.d (.str ([102] : List UInt8)), .own 3 none])]⟩ (tl [(0, .v (.one (.box 0 0))), (2, .v (.one (.box 1 0))), (3, .v (.one (.box 2 0))), (12, .v (.one (.d (.int .i64 vx))))]) 4

theorem fleetmake_Stream_RightFence_x1_ok (s : fleetmake_Stream × Int) (r : (fleetmake_Stream × Int) ⊕ (fleetmake_Stream ⊕ (fleetmake_Stream × (List api_Spot)))) (hF : fleetmake_Stream_RightFence_x1  s = some r) : Awp prog 1 82 (cL (cL (cR (cL (cR (cR (cB f6))))))) (Out 1 (kk fleetmake_Stream_RightFence_x1_k) (SS (fleetmake_Stream_RightFence_x1_H ) (fleetmake_Stream_RightFence_x1_S )) r) (fleetmake_Stream_RightFence_x1_H  s) := by
  obtain ⟨vs, vx⟩ := s
  unfold fleetmake_Stream_RightFence_x1 at hF
  refine awp_seq ?_
  refine awp_region ?_
  refine aR 1 ?_
  refine aE ?_
  refine awp_seq ?_
  refine cE hF (fun h1 hF => ?_) fun h1 hF => ?_
  · refine awp_true (by kernel_rfl) h1 ?_
    refine awp_skip ?_
    refine awp_seq ?_
    refine awp_block ?_
    refine awp_seq ?_
    refine awp_region ?_
    refine aR 1 ?_
    refine aE ?_
    refine awp_seq ?_
    refine awp_seq ?_
    refine bE hF fun x h2 hF => ?_
    obtain ⟨vs7, vr5⟩ := x
    refine awp_region ?_
    refine aR 1 ?_
    refine aC (fleetmake_Stream_Range_ok h2) [] [] [] ?_
    refine aR 1 ?_
    refine aE ?_
    refine awp_block ?_
    refine awp_to (st' := fleetmake_Stream_RightFence_x2_H vx vr5 (vs7, [], 0)) (oT [] [4]) ?_
    refine bE hF fun x h6 hF => ?_
    obtain ⟨vs9_1, vx10_1⟩ := x
    refine awp_sub (awp_loop' (fleetmake_Stream_RightFence_x2_H vx vr5) fleetmake_Stream_RightFence_x2_k (fleetmake_Stream_RightFence_x2_S vx vr5) (by intro x; exact fun h => nomatch h) h6 (fleetmake_Stream_RightFence_x2_ok vx vr5)) ?_
    refine awp_seq ?_
    refine awp_to (st' := fleetmake_Stream_RightFence_x3_I vx vs9_1 vx10_1) (oT [] []) ?_
    refine bE hF fun x h13 hF => ?_
    obtain ⟨vs12_1, vx14_1⟩ := x
    refine awp_sub (fleetmake_Stream_RightFence_x3_ok vx vs9_1 vx10_1 h13) ?_
    refine awp_seq ?_
    refine bE hF fun vr16_1 h14 hF => ?_
    refine awp_region ?_
    refine aR 1 ?_
    refine aC (fleetref2_CornersFault_ok h14) [] [] [4] ?_
    refine aR 1 ?_
    refine aE ?_
    refine cE hF (fun h15 hF => ?_) fun h15 hF => ?_
    · refine awp_true (by kernel_rfl) h15 ?_
      refine awp_seq ?_
      refine awp_region ?_
      refine aR 3 ?_
      refine aE ?_
      refine awp_seq ?_
      refine awp_region ?_
      refine aR 2 ?_
      refine aE ?_
      refine awp_ret ?_
      exact oO hF [(2, 4)] [] rfl
    · refine awp_false (by kernel_rfl) h15 ?_
      refine awp_skip ?_
      refine awp_region ?_
      refine aR 2 ?_
      refine aE ?_
      exact oO hF [] [] rfl
  · refine awp_false (by kernel_rfl) h1 ?_
    refine awp_exit ?_
    exact oO hF [] [] rfl

def fleetmake_Stream_RightFence_x5_k : (List api_Spot) → AEx
  | _ => .normal

def fleetmake_Stream_RightFence_x5_S (vs13_1 : fleetmake_Stream) : (List api_Spot) → St
  | vx16 => Mem.st ⟨[(3, ⟨52, 2, List.map api_Spot.enc vx16⟩)], [(0, [.d (.lst (List.map (encI .i64) vs13_1.L)), .d (.int .i64 (IntKind.wrap .i64 (vs13_1.at_ + 1)))]), (1, [.d (.str ([] : List UInt8)), .nil]), (2, [.d (.str ([102] : List UInt8)), .own 3 none])]⟩ (tl [(2, .v (.one (.box 1 0))), (3, .v (.one (.box 2 0)))]) 4

def fleetmake_Stream_RightFence_x5_I (vs13_1 : fleetmake_Stream) : St := Mem.st ⟨[(3, ⟨52, 2, List.map api_Spot.enc ([api_Spot.mk 0 0, api_Spot.mk 10 0, api_Spot.mk 10 10, api_Spot.mk 0 10] : List api_Spot)⟩)], [(0, [.d (.lst (List.map (encI .i64) vs13_1.L)), .d (.int .i64 vs13_1.at_)]), (1, [.d (.str ([] : List UInt8)), .nil]), (2, [.d (.str ([102] : List UInt8)), .own 3 none])]⟩ (tl [(0, .v (.one (.box 0 0))), (2, .v (.one (.box 1 0))), (3, .v (.one (.box 2 0)))]) 4

theorem fleetmake_Stream_RightFence_x5_ok (vs13_1 : fleetmake_Stream) {r} (hF : fleetmake_Stream_RightFence_x5 vs13_1 = some r) : Awp prog 1 82 (cL (cR (cR (cR (cB f6))))) (Out 1 fleetmake_Stream_RightFence_x5_k (fleetmake_Stream_RightFence_x5_S vs13_1) r) (fleetmake_Stream_RightFence_x5_I vs13_1) := by
  unfold fleetmake_Stream_RightFence_x5 at hF
  refine awp_seq ?_
  refine bE hF fun vr3_1 h17 hF => ?_
  refine awp_region ?_
  refine aR 1 ?_
  refine aC (fleetmake_Stream_Next_ok h17) [] [] [] ?_
  refine aE ?_
  refine awp_block ?_
  refine awp_seq ?_
  refine awp_region ?_
  refine aR 2 ?_
  refine aE ?_
  refine cE hF (fun h18 hF => ?_) fun h18 hF => ?_
  · refine awp_true (by kernel_rfl) h18 ?_
    refine awp_region ?_
    refine aR 8 ?_
    refine aE ?_
    exact oO hF [(3, 9004)] [] rfl
  · refine awp_false (by kernel_rfl) h18 ?_
    refine awp_seq ?_
    refine awp_region ?_
    refine aR 2 ?_
    refine aE ?_
    refine cE hF (fun h19 hF => ?_) fun h19 hF => ?_
    · refine awp_true (by kernel_rfl) h19 ?_
      refine awp_region ?_
      refine aR 7 ?_
      refine aE ?_
      exact oO hF [(3, 10004)] [] rfl
    · refine awp_false (by kernel_rfl) h19 ?_
      refine awp_seq ?_
      refine awp_region ?_
      refine aR 2 ?_
      refine aE ?_
      refine cE hF (fun h20 hF => ?_) fun h20 hF => ?_
      · refine awp_true (by kernel_rfl) h20 ?_
        refine awp_region ?_
        refine aR 11 ?_
        refine aE ?_
        exact oO hF [(3, 16004)] [] rfl
      · refine awp_false (by kernel_rfl) h20 ?_
        refine awp_skip ?_
        exact oO hF [] [] rfl

def fleetmake_Stream_RightFence_R (qx : fleetmake_Stream) (r : fleetmake_Stream × (List api_Spot)) : TV × Mem := (.v (.agg [.d (.str ([102] : List UInt8)), .own 1 none]), ⟨[(1, ⟨52, 2, List.map api_Spot.enc r.2⟩)], [(0, [.d (.lst (List.map (encI .i64) r.1.L)), .d (.int .i64 r.1.at_)])]⟩)

theorem fleetmake_Stream_RightFence_ok {qx : fleetmake_Stream} {r} (hF : fleetmake_Stream_RightFence qx = some r) : Holds prog 6 [.v (.one (.box 0 0))] ⟨[], [(0, [.d (.lst (List.map (encI .i64) qx.L)), .d (.int .i64 qx.at_)])]⟩ (Is (fleetmake_Stream_RightFence_R qx r)) := by
  unfold fleetmake_Stream_RightFence at hF
  refine holds_of_awp hΓ (fn := f6) (c := cB f6) (A := 1) (nx := 1) (by kernel_rfl) (by kernel_rfl) (by kernel_rfl) (by kernel_rfl) (by kernel_rfl) (by kernel_rfl) (lowc_of (by kernel_rfl)) ?_
  show Awp prog 1 82 (cB f6) _ _
  refine awp_seq ?_
  refine awp_region ?_
  refine aR 1 ?_
  refine aE ?_
  refine awp_seq ?_
  refine awp_region ?_
  refine aR 8 ?_
  refine aE ?_
  refine awp_seq ?_
  refine awp_seq ?_
  refine awp_region ?_
  refine aR 1 ?_
  refine aE ?_
  refine awp_block ?_
  refine awp_to (st' := fleetmake_Stream_RightFence_x1_H  (qx, 0)) (oT [(2, 7001), (3, 5001)] []) ?_
  refine bE hF fun x h16 hF => ?_
  rcases x with vs13_1 | ⟨vs14_1, vx15_1⟩
  · refine awp_sub (awp_loop' (fleetmake_Stream_RightFence_x1_H ) fleetmake_Stream_RightFence_x1_k (fleetmake_Stream_RightFence_x1_S ) (by intro x; rcases x with x | x <;> exact fun h => nomatch h) h16 (fleetmake_Stream_RightFence_x1_ok )) ?_
    refine awp_seq ?_
    refine awp_to (st' := fleetmake_Stream_RightFence_x5_I vs13_1) (oT [] []) ?_
    refine bE hF fun vx16_1 h21 hF => ?_
    refine awp_sub (fleetmake_Stream_RightFence_x5_ok vs13_1 h21) ?_
    refine awp_seq ?_
    refine awp_region ?_
    refine aR 2 ?_
    refine aE ?_
    refine awp_ret ?_
    exact oF hF [(1, 3)] []
  · refine awp_sub (awp_loop' (fleetmake_Stream_RightFence_x1_H ) fleetmake_Stream_RightFence_x1_k (fleetmake_Stream_RightFence_x1_S ) (by intro x; rcases x with x | x <;> exact fun h => nomatch h) h16 (fleetmake_Stream_RightFence_x1_ok )) ?_
    exact oF hF [(1, 2)] []

/-! ### (*beaconfleet/fleetmake.Stream).RightTrack -/
def fleetmake_Stream_RightTrack_x2_k : (fleetmake_Stream × api_Spot) → AEx
  | _ => .normal

def fleetmake_Stream_RightTrack_x2_S (vr : Int) (vs1 : fleetmake_Stream) (vp : api_Spot) (vout : List api_Fix) (vat : Int) (vx : Int) (vr9 : Int) : (fleetmake_Stream × api_Spot) → St
  | (vs8, vp2) => Mem.st ⟨[(2, ⟨33, 5, List.map api_Fix.enc vout⟩)], [(0, [.d (.lst (List.map (encI .i64) vs8.L)), .d (.int .i64 vs8.at_)]), (1, [.d (.int .i64 vp2.X), .d (.int .i64 vp2.Y)])]⟩ (tl [(0, .v (.one (.box 0 0))), (5, .v (.one (.own 2 none))), (6, .v (.one (.d (.int .i64 (IntKind.wrap .i64 (vat + vr9)))))), (7, .v (.one (.box 1 0))), (13, .v (.one (.d (.int .i64 vr)))), (14, .v (.one (.d (.int .i64 vx))))]) 3

def fleetmake_Stream_RightTrack_x2_I (vr : Int) (vs1 : fleetmake_Stream) (vp : api_Spot) (vout : List api_Fix) (vat : Int) (vx : Int) (vr9 : Int) : St := Mem.st ⟨[(2, ⟨33, 5, List.map api_Fix.enc vout⟩)], [(0, [.d (.lst (List.map (encI .i64) vs1.L)), .d (.int .i64 (IntKind.wrap .i64 (vs1.at_ + 1)))]), (1, [.d (.int .i64 vp.X), .d (.int .i64 vp.Y)])]⟩ (tl [(0, .v (.one (.box 0 0))), (5, .v (.one (.own 2 none))), (6, .v (.one (.d (.int .i64 (IntKind.wrap .i64 (vat + vr9)))))), (7, .v (.one (.box 1 0))), (13, .v (.one (.d (.int .i64 vr)))), (14, .v (.one (.d (.int .i64 vx))))]) 3

theorem fleetmake_Stream_RightTrack_x2_ok (vr : Int) (vs1 : fleetmake_Stream) (vp : api_Spot) (vout : List api_Fix) (vat : Int) (vx : Int) (vr9 : Int) {r} (hF : fleetmake_Stream_RightTrack_x2 vs1 vp = some r) : Awp prog 1 57 (cL (cR (cL (cL (cR (cR (cL (cL (cR (cL (cR (cR (cR (cR (cB f7))))))))))))))) (Out 1 fleetmake_Stream_RightTrack_x2_k (fleetmake_Stream_RightTrack_x2_S vr vs1 vp vout vat vx vr9) r) (fleetmake_Stream_RightTrack_x2_I vr vs1 vp vout vat vx vr9) := by
  unfold fleetmake_Stream_RightTrack_x2 at hF
  refine awp_seq ?_
  refine bE hF fun vr10 h5 hF => ?_
  refine awp_region ?_
  refine aR 1 ?_
  refine aC (fleetmake_Stream_Flip_ok h5) [] [] [] ?_
  refine aE ?_
  refine cE hF (fun h6 hF => ?_) fun h6 hF => ?_
  · refine awp_true (by kernel_rfl) h6 ?_
    refine bE hF fun vr2_2 h7 hF => ?_
    refine awp_region ?_
    refine aR 1 ?_
    refine aC (fleetmake_Stream_Place_ok h7) [] [] [] ?_
    refine aR 1 ?_
    refine aE ?_
    exact oO hF [] [] rfl
  · refine awp_false (by kernel_rfl) h6 ?_
    refine bE hF fun x h8 hF => ?_
    obtain ⟨vs6, vr11⟩ := x
    refine bE hF fun x h9 hF => ?_
    obtain ⟨vs7, vr12⟩ := x
    refine aD ?_
    refine dR 3 ?_
    refine dC (fleetmake_Stream_Range_ok h8) [] [] [] ?_
    refine dR 4 ?_
    refine dC (fleetmake_Stream_Range_ok h9) [] [] [] ?_
    refine dR 3 ?_
    refine dE ?_
    exact oO hF [] [] rfl

def fleetmake_Stream_RightTrack_x3_k : (fleetmake_Stream × api_Fix) → AEx
  | _ => .normal

def fleetmake_Stream_RightTrack_x3_S (vr : Int) (vout : List api_Fix) (vat : Int) (vx : Int) (vr9 : Int) (vs8_1 : fleetmake_Stream) (vp2_1 : api_Spot) (vr13 : Int) : (fleetmake_Stream × api_Fix) → St
  | (vs9, vx2) => Mem.st ⟨[(3, ⟨33, 5, List.map api_Fix.enc vout⟩)], [(0, [.d (.lst (List.map (encI .i64) vs9.L)), .d (.int .i64 vs9.at_)]), (1, [.d (.int .i64 vp2_1.X), .d (.int .i64 vp2_1.Y)]), (2, [.d (.str vx2.Device), .d (.int .i64 vx2.At), .d (.int .i64 vx2.X), .d (.int .i64 vx2.Y), .d (.int .i64 vx2.Error)])]⟩ (tl [(0, .v (.one (.box 0 0))), (5, .v (.one (.own 3 none))), (6, .v (.one (.d (.int .i64 (IntKind.wrap .i64 (vat + vr9)))))), (7, .v (.one (.box 1 0))), (8, .v (.one (.box 2 0))), (13, .v (.one (.d (.int .i64 vr)))), (14, .v (.one (.d (.int .i64 vx))))]) 4

def fleetmake_Stream_RightTrack_x3_I (vr : Int) (vout : List api_Fix) (vat : Int) (vx : Int) (vr9 : Int) (vs8_1 : fleetmake_Stream) (vp2_1 : api_Spot) (vr13 : Int) : St := Mem.st ⟨[(3, ⟨33, 5, List.map api_Fix.enc vout⟩)], [(0, [.d (.lst (List.map (encI .i64) vs8_1.L)), .d (.int .i64 (IntKind.wrap .i64 (vs8_1.at_ + 1)))]), (1, [.d (.int .i64 vp2_1.X), .d (.int .i64 vp2_1.Y)]), (2, [.d (.str ([100] : List UInt8)), .d (.int .i64 (IntKind.wrap .i64 (vat + vr9))), .d (.int .i64 vp2_1.X), .d (.int .i64 vp2_1.Y), .d (.int .i64 vr13)])]⟩ (tl [(0, .v (.one (.box 0 0))), (5, .v (.one (.own 3 none))), (6, .v (.one (.d (.int .i64 (IntKind.wrap .i64 (vat + vr9)))))), (7, .v (.one (.box 1 0))), (8, .v (.one (.box 2 0))), (13, .v (.one (.d (.int .i64 vr)))), (14, .v (.one (.d (.int .i64 vx))))]) 4

theorem fleetmake_Stream_RightTrack_x3_ok (vr : Int) (vout : List api_Fix) (vat : Int) (vx : Int) (vr9 : Int) (vs8_1 : fleetmake_Stream) (vp2_1 : api_Spot) (vr13 : Int) {r} (hF : fleetmake_Stream_RightTrack_x3 vat vr9 vs8_1 vp2_1 vr13 = some r) : Awp prog 1 57 (cL (cR (cR (cR (cL (cL (cR (cR (cL (cL (cR (cL (cR (cR (cR (cR (cB f7))))))))))))))))) (Out 1 fleetmake_Stream_RightTrack_x3_k (fleetmake_Stream_RightTrack_x3_S vr vout vat vx vr9 vs8_1 vp2_1 vr13) r) (fleetmake_Stream_RightTrack_x3_I vr vout vat vx vr9 vs8_1 vp2_1 vr13) := by
  unfold fleetmake_Stream_RightTrack_x3 at hF
  refine awp_seq ?_
  refine bE hF fun vr14 h12 hF => ?_
  refine awp_region ?_
  refine aR 1 ?_
  refine aC (fleetmake_Stream_Flip_ok h12) [] [] [] ?_
  refine aE ?_
  refine cE hF (fun h13 hF => ?_) fun h13 hF => ?_
  · refine awp_true (by kernel_rfl) h13 ?_
    refine bE hF fun vr15 h14 hF => ?_
    refine awp_region ?_
    refine aR 2 ?_
    refine aC (fleetmake_Stream_Pick_o1_ok h14) [(1, 3004)] [] [] ?_
    refine aR 2 ?_
    refine aE ?_
    exact oO hF [] [] rfl
  · refine awp_false (by kernel_rfl) h13 ?_
    refine awp_skip ?_
    exact oO hF [] [] rfl

def fleetmake_Stream_RightTrack_x1_k : (fleetmake_Stream × (List api_Fix)) → AEx
  | _ => .exit 0

def fleetmake_Stream_RightTrack_x1_S (vr : Int) : (fleetmake_Stream × (List api_Fix)) → St
  | (vs10, vout1) => Mem.st ⟨[(1, ⟨33, 5, List.map api_Fix.enc vout1⟩)], [(0, [.d (.lst (List.map (encI .i64) vs10.L)), .d (.int .i64 vs10.at_)])]⟩ (tl [(5, .v (.one (.own 1 none)))]) 2

def fleetmake_Stream_RightTrack_x1_H (vr : Int) : fleetmake_Stream × api_Spot × (List api_Fix) × Int × Int → St
  | (vs1, vp, vout, vat, vx) => Mem.st ⟨[(2, ⟨33, 5, List.map api_Fix.enc vout⟩)], [(0, [.d (.lst (List.map (encI .i64) vs1.L)), .d (.int .i64 vs1.at_)]), (1, [.d (.int .i64 vp.X), .d (.int .i64 vp.Y)])]⟩ (tl [(0, .v (.one (.box 0 0))), (5, .v (.one (.own 2 none))), (6, .v (.one (.d (.int .i64 vat)))), (7, .v (.one (.box 1 0))), (13, .v (.one (.d (.int .i64 vr)))), (14, .v (.one (.d (.int .i64 vx))))]) 3

theorem fleetmake_Stream_RightTrack_x1_ok (vr : Int) (s : fleetmake_Stream × api_Spot × (List api_Fix) × Int × Int) (r : (fleetmake_Stream × api_Spot × (List api_Fix) × Int × Int) ⊕ ((fleetmake_Stream × (List api_Fix)))) (hF : fleetmake_Stream_RightTrack_x1 vr s = some r) : Awp prog 1 57 (cL (cL (cR (cL (cR (cR (cR (cR (cB f7))))))))) (Out 1 (kk fleetmake_Stream_RightTrack_x1_k) (SS (fleetmake_Stream_RightTrack_x1_H vr) (fleetmake_Stream_RightTrack_x1_S vr)) r) (fleetmake_Stream_RightTrack_x1_H vr s) := by
  obtain ⟨vs1, vp, vout, vat, vx⟩ := s
  unfold fleetmake_Stream_RightTrack_x1 at hF
  refine awp_seq ?_
  refine awp_region ?_
  refine aR 1 ?_
  refine aE ?_
  refine awp_seq ?_
  refine cE hF (fun h3 hF => ?_) fun h3 hF => ?_
  · refine awp_true (by kernel_rfl) h3 ?_
    refine awp_skip ?_
    refine awp_seq ?_
    refine awp_block ?_
    refine awp_seq ?_
    refine bE hF fun vr9 h4 hF => ?_
    refine awp_region ?_
    refine aR 3 ?_
    refine aC (fleetmake_Stream_Pick_o1_ok h4) [(1, 3003)] [] [] ?_
    refine aR 2 ?_
    refine aE ?_
    refine awp_seq ?_
    refine awp_to (st' := fleetmake_Stream_RightTrack_x2_I vr vs1 vp vout vat vx vr9) (oT [] []) ?_
    refine bE hF fun x h10 hF => ?_
    obtain ⟨vs8_1, vp2_1⟩ := x
    refine awp_sub (fleetmake_Stream_RightTrack_x2_ok vr vs1 vp vout vat vx vr9 h10) ?_
    refine awp_seq ?_
    refine bE hF fun vr13 h11 hF => ?_
    refine aD ?_
    refine dR 7 ?_
    refine dC (fleetmake_Stream_Pick_o1_ok h11) [(1, 6003)] [] [] ?_
    refine dR 3 ?_
    refine dE ?_
    refine awp_seq ?_
    refine awp_to (st' := fleetmake_Stream_RightTrack_x3_I vr vout vat vx vr9 vs8_1 vp2_1 vr13) (oT [(2, 9003), (3, 2)] []) ?_
    refine bE hF fun x h15 hF => ?_
    obtain ⟨vs9_1, vx2_1⟩ := x
    refine awp_sub (fleetmake_Stream_RightTrack_x3_ok vr vout vat vx vr9 vs8_1 vp2_1 vr13 h15) ?_
    refine gE hF fun h16 hF => ?_
    refine awp_region ?_
    refine aR 3 ?_
    refine aX (x_app api_Fix.enc 3 h16) ?_
    refine aR 1 ?_
    refine aE ?_
    refine awp_region ?_
    refine aR 2 ?_
    refine aE ?_
    exact oO hF [(2, 3004)] [] rfl
  · refine awp_false (by kernel_rfl) h3 ?_
    refine awp_exit ?_
    exact oO hF [(1, 2)] [] rfl

def fleetmake_Stream_RightTrack_R (qs : fleetmake_Stream) (qmost : Int) (r : fleetmake_Stream × (List api_Fix)) : TV × Mem := (.v (.one (.own 1 none)), ⟨[(1, ⟨33, 5, List.map api_Fix.enc r.2⟩)], [(0, [.d (.lst (List.map (encI .i64) r.1.L)), .d (.int .i64 r.1.at_)])]⟩)

theorem fleetmake_Stream_RightTrack_ok {qs : fleetmake_Stream} {qmost : Int} {r} (hF : fleetmake_Stream_RightTrack qs qmost = some r) : Holds prog 7 [.v (.one (.box 0 0)), .v (.one (.d (.int .i64 qmost)))] ⟨[], [(0, [.d (.lst (List.map (encI .i64) qs.L)), .d (.int .i64 qs.at_)])]⟩ (Is (fleetmake_Stream_RightTrack_R qs qmost r)) := by
  unfold fleetmake_Stream_RightTrack at hF
  refine holds_of_awp hΓ (fn := f7) (c := cB f7) (A := 1) (nx := 1) (by kernel_rfl) (by kernel_rfl) (by kernel_rfl) (by kernel_rfl) (by kernel_rfl) (by kernel_rfl) (lowc_of (by kernel_rfl)) ?_
  show Awp prog 1 57 (cB f7) _ _
  refine awp_seq ?_
  refine awp_region ?_
  refine aR 1 ?_
  refine aE ?_
  refine awp_seq ?_
  refine awp_region ?_
  refine aR 1 ?_
  refine aE ?_
  refine awp_seq ?_
  refine awp_region ?_
  refine aR 1 ?_
  refine aE ?_
  refine awp_seq ?_
  refine bE hF fun vr2 h1 hF => ?_
  refine awp_region ?_
  refine aR 1 ?_
  refine aC (fleetmake_Stream_Place_ok h1) [] [] [] ?_
  refine aR 2 ?_
  refine aE ?_
  refine awp_seq ?_
  refine awp_seq ?_
  refine bE hF fun x h2 hF => ?_
  obtain ⟨vs, vr⟩ := x
  refine awp_region ?_
  refine aR 2 ?_
  refine aC (fleetmake_Stream_Range_ok h2) [] [] [] ?_
  refine aR 1 ?_
  refine aE ?_
  refine awp_block ?_
  refine awp_to (st' := fleetmake_Stream_RightTrack_x1_H vr (vs, vr2, [], 0, 0)) (oT [(1, 5001)] [2]) ?_
  refine bE hF fun x h17 hF => ?_
  obtain ⟨vs10_1, vout1_1⟩ := x
  refine awp_sub (awp_loop' (fleetmake_Stream_RightTrack_x1_H vr) fleetmake_Stream_RightTrack_x1_k (fleetmake_Stream_RightTrack_x1_S vr) (by intro x; exact fun h => nomatch h) h17 (fleetmake_Stream_RightTrack_x1_ok vr)) ?_
  refine awp_seq ?_
  refine awp_region ?_
  refine aR 2 ?_
  refine aE ?_
  refine awp_ret ?_
  exact oF hF [] []

/-! ### beaconfleet/base.Key -/
def base_Key_x1_k : Bool → AEx
  | _ => .normal

def base_Key_x1_S (qs : List UInt8) : Bool → St
  | vx => Mem.st ⟨[], []⟩ (tl [(0, .v (.one (.d (.str qs)))), (21, .v (.one (.d (.bool vx))))]) 0

def base_Key_x1_I (qs : List UInt8) : St := Mem.st ⟨[], []⟩ (tl [(0, .v (.one (.d (.str qs))))]) 0

theorem base_Key_x1_ok (qs : List UInt8) {r} (hF : base_Key_x1 qs = some r) : Awp prog 0 54 (cL (cL (cR (cB f66)))) (Out 0 base_Key_x1_k (base_Key_x1_S qs) r) (base_Key_x1_I qs) := by
  unfold base_Key_x1 at hF
  refine cE hF (fun h1 hF => ?_) fun h1 hF => ?_
  · refine awp_region ?_
    refine aR 1 ?_
    refine aB h1 ?_
    refine aR 15 ?_
    refine aE ?_
    exact oO hF [] [] rfl
  · refine cE hF (fun h2 hF => ?_) fun h2 hF => ?_
    · refine awp_region ?_
      refine aR 1 ?_
      refine aB h1 ?_
      refine aR 3 ?_
      refine aB h2 ?_
      refine aR 11 ?_
      refine aE ?_
      exact oO hF [] [] rfl
    · refine bE hF fun vc h3 hF => ?_
      refine cE hF (fun h4 hF => ?_) fun h4 hF => ?_
      · refine awp_region ?_
        refine aR 1 ?_
        refine aB h1 ?_
        refine aR 3 ?_
        refine aB h2 ?_
        refine aR 3 ?_
        refine aX (x_idxS h3) ?_
        refine aB h4 ?_
        refine aR 6 ?_
        refine aE ?_
        exact oO hF [] [] rfl
      · refine awp_region ?_
        refine aR 1 ?_
        refine aB h1 ?_
        refine aR 3 ?_
        refine aB h2 ?_
        refine aR 3 ?_
        refine aX (x_idxS h3) ?_
        refine aB h4 ?_
        refine aR 3 ?_
        refine aX (x_idxS h3) ?_
        refine aR 2 ?_
        refine aE ?_
        exact oO hF [] [] rfl

def base_Key_x3_k : Bool → AEx
  | _ => .normal

def base_Key_x3_S (qs : List UInt8) (vx2 : Int) (vc2 : UInt8) : Bool → St
  | vx4 => Mem.st ⟨[], []⟩ (tl [(0, .v (.one (.d (.str qs)))), (23, .v (.one (.d (.int .i64 (qs.length : Int))))), (24, .v (.one (.d (.int .i64 vx2)))), (52, .v (.one (.d (.bool vx4))))]) 0

def base_Key_x3_I (qs : List UInt8) (vx2 : Int) (vc2 : UInt8) : St := Mem.st ⟨[], []⟩ (tl [(0, .v (.one (.d (.str qs)))), (4, .v (.one (.d (.int .u8 (vc2.toNat : Int))))), (23, .v (.one (.d (.int .i64 (qs.length : Int))))), (24, .v (.one (.d (.int .i64 vx2))))]) 0

theorem base_Key_x3_ok (qs : List UInt8) (vx2 : Int) (vc2 : UInt8) {r} (hF : base_Key_x3 vc2 = some r) : Awp prog 0 54 (cL (cR (cR (cL (cL (cR (cR (cL (cL (cR (cL (cR (cR (cB f66)))))))))))))) (Out 0 base_Key_x3_k (base_Key_x3_S qs vx2 vc2) r) (base_Key_x3_I qs vx2 vc2) := by
  unfold base_Key_x3 at hF
  refine cE hF (fun h9 hF => ?_) fun h9 hF => ?_
  · refine cE hF (fun h10 hF => ?_) fun h10 hF => ?_
    · refine awp_region ?_
      refine aR 1 ?_
      refine aB h9 ?_
      refine aR 2 ?_
      refine aB h10 ?_
      refine aR 18 ?_
      refine aE ?_
      exact oO hF [] [] rfl
    · refine cE hF (fun h11 hF => ?_) fun h11 hF => ?_
      · refine cE hF (fun h12 hF => ?_) fun h12 hF => ?_
        · refine awp_region ?_
          refine aR 1 ?_
          refine aB h9 ?_
          refine aR 2 ?_
          refine aB h10 ?_
          refine aR 3 ?_
          refine aB h11 ?_
          refine aR 2 ?_
          refine aB h12 ?_
          refine aR 11 ?_
          refine aE ?_
          exact oO hF [] [] rfl
        · refine cE hF (fun h13 hF => ?_) fun h13 hF => ?_
          · refine awp_region ?_
            refine aR 1 ?_
            refine aB h9 ?_
            refine aR 2 ?_
            refine aB h10 ?_
            refine aR 3 ?_
            refine aB h11 ?_
            refine aR 2 ?_
            refine aB h12 ?_
            refine aR 4 ?_
            refine aB h13 ?_
            refine aR 6 ?_
            refine aE ?_
            exact oO hF [] [] rfl
          · refine awp_region ?_
            refine aR 1 ?_
            refine aB h9 ?_
            refine aR 2 ?_
            refine aB h10 ?_
            refine aR 3 ?_
            refine aB h11 ?_
            refine aR 2 ?_
            refine aB h12 ?_
            refine aR 4 ?_
            refine aB h13 ?_
            refine aR 6 ?_
            refine aE ?_
            exact oO hF [] [] rfl
      · refine cE hF (fun h14 hF => ?_) fun h14 hF => ?_
        · refine awp_region ?_
          refine aR 1 ?_
          refine aB h9 ?_
          refine aR 2 ?_
          refine aB h10 ?_
          refine aR 3 ?_
          refine aB h11 ?_
          refine aR 7 ?_
          refine aB h14 ?_
          refine aR 6 ?_
          refine aE ?_
          exact oO hF [] [] rfl
        · refine awp_region ?_
          refine aR 1 ?_
          refine aB h9 ?_
          refine aR 2 ?_
          refine aB h10 ?_
          refine aR 3 ?_
          refine aB h11 ?_
          refine aR 7 ?_
          refine aB h14 ?_
          refine aR 6 ?_
          refine aE ?_
          exact oO hF [] [] rfl
  · refine cE hF (fun h15 hF => ?_) fun h15 hF => ?_
    · refine cE hF (fun h16 hF => ?_) fun h16 hF => ?_
      · refine awp_region ?_
        refine aR 1 ?_
        refine aB h9 ?_
        refine aR 6 ?_
        refine aB h15 ?_
        refine aR 2 ?_
        refine aB h16 ?_
        refine aR 11 ?_
        refine aE ?_
        exact oO hF [] [] rfl
      · refine cE hF (fun h17 hF => ?_) fun h17 hF => ?_
        · refine awp_region ?_
          refine aR 1 ?_
          refine aB h9 ?_
          refine aR 6 ?_
          refine aB h15 ?_
          refine aR 2 ?_
          refine aB h16 ?_
          refine aR 4 ?_
          refine aB h17 ?_
          refine aR 6 ?_
          refine aE ?_
          exact oO hF [] [] rfl
        · refine awp_region ?_
          refine aR 1 ?_
          refine aB h9 ?_
          refine aR 6 ?_
          refine aB h15 ?_
          refine aR 2 ?_
          refine aB h16 ?_
          refine aR 4 ?_
          refine aB h17 ?_
          refine aR 6 ?_
          refine aE ?_
          exact oO hF [] [] rfl
    · refine cE hF (fun h18 hF => ?_) fun h18 hF => ?_
      · refine awp_region ?_
        refine aR 1 ?_
        refine aB h9 ?_
        refine aR 6 ?_
        refine aB h15 ?_
        refine aR 7 ?_
        refine aB h18 ?_
        refine aR 6 ?_
        refine aE ?_
        exact oO hF [] [] rfl
      · refine awp_region ?_
        refine aR 1 ?_
        refine aB h9 ?_
        refine aR 6 ?_
        refine aB h15 ?_
        refine aR 7 ?_
        refine aB h18 ?_
        refine aR 6 ?_
        refine aE ?_
        exact oO hF [] [] rfl

def base_Key_x2_k : Unit ⊕ Unit → AEx
  | .inl _ => .exit 0
  | .inr _ => .ret

def base_Key_x2_S (qs : List UInt8) : Unit ⊕ Unit → St
  | .inl _ => Mem.st ⟨[], []⟩ (tl []) 0
  | .inr _ => Mem.st ⟨[], []⟩ (tl [(2, .v (.one (.d (.bool false))))]) 0

def base_Key_x2_H (qs : List UInt8) : Int → St
  | vx2 => Mem.st ⟨[], []⟩ (tl [(0, .v (.one (.d (.str qs)))), (23, .v (.one (.d (.int .i64 (qs.length : Int))))), (24, .v (.one (.d (.int .i64 vx2))))]) 0

theorem base_Key_x2_ok (qs : List UInt8) (vx2 : Int) (r : (Int) ⊕ (Unit ⊕ Unit)) (hF : base_Key_x2 qs vx2 = some r) : Awp prog 0 54 (cL (cL (cR (cL (cR (cR (cB f66))))))) (Out 0 (kk base_Key_x2_k) (SS (base_Key_x2_H qs) (base_Key_x2_S qs)) r) (base_Key_x2_H qs vx2) := by
  unfold base_Key_x2 at hF
  refine awp_seq ?_
  refine awp_region ?_
  refine aR 1 ?_
  refine aE ?_
  refine awp_seq ?_
  refine cE hF (fun h7 hF => ?_) fun h7 hF => ?_
  · refine awp_true (by kernel_rfl) h7 ?_
    refine awp_skip ?_
    refine awp_seq ?_
    refine awp_block ?_
    refine awp_seq ?_
    refine awp_region ?_
    refine aR 2 ?_
    refine aE ?_
    refine awp_seq ?_
    refine bE hF fun vc2 h8 hF => ?_
    refine awp_region ?_
    refine aR 2 ?_
    refine aX (x_idxS h8) ?_
    refine aR 1 ?_
    refine aE ?_
    refine awp_seq ?_
    refine awp_to (st' := base_Key_x3_I qs vx2 vc2) (oT [] []) ?_
    refine bE hF fun vx4_1 h19 hF => ?_
    refine awp_sub (base_Key_x3_ok qs vx2 vc2 h19) ?_
    refine cE hF (fun h20 hF => ?_) fun h20 hF => ?_
    · refine awp_true (by kernel_rfl) h20 ?_
      refine awp_seq ?_
      refine awp_region ?_
      refine aR 1 ?_
      refine aE ?_
      refine awp_ret ?_
      exact oO hF [] [] rfl
    · refine awp_false (by kernel_rfl) h20 ?_
      refine awp_skip ?_
      refine awp_region ?_
      refine aR 2 ?_
      refine aE ?_
      exact oO hF [] [] rfl
  · refine awp_false (by kernel_rfl) h7 ?_
    refine awp_exit ?_
    exact oO hF [] [] rfl

def base_Key_R (qs : List UInt8) (r : Bool) : TV × Mem := (.v (.one (.d (.bool r))), ⟨[], []⟩)

theorem base_Key_ok {qs : List UInt8} {r} (hF : base_Key qs = some r) : Holds prog 66 [.v (.one (.d (.str qs)))] ⟨[], []⟩ (Is (base_Key_R qs r)) := by
  unfold base_Key at hF
  refine holds_of_awp hΓ (fn := f66) (c := cB f66) (A := 0) (nx := 0) (by kernel_rfl) (by kernel_rfl) (by kernel_rfl) (by kernel_rfl) (by kernel_rfl) (by kernel_rfl) (lowc_of (by kernel_rfl)) ?_
  show Awp prog 0 54 (cB f66) _ _
  refine awp_seq ?_
  refine awp_region ?_
  refine aR 1 ?_
  refine aE ?_
  refine awp_seq ?_
  refine awp_seq ?_
  refine awp_to (st' := base_Key_x1_I qs) (oT [] []) ?_
  refine bE hF fun vx1 h5 hF => ?_
  refine awp_sub (base_Key_x1_ok qs h5) ?_
  refine cE hF (fun h6 hF => ?_) fun h6 hF => ?_
  · refine awp_true (by kernel_rfl) h6 ?_
    refine awp_seq ?_
    refine awp_region ?_
    refine aR 1 ?_
    refine aE ?_
    refine awp_ret ?_
    exact oF hF [] []
  · refine awp_false (by kernel_rfl) h6 ?_
    refine awp_skip ?_
    refine awp_seq ?_
    refine awp_seq ?_
    refine awp_region ?_
    refine aR 3 ?_
    refine aE ?_
    refine awp_block ?_
    refine awp_to (st' := base_Key_x2_H qs 0) (oT [] []) ?_
    refine bE hF fun x h21 hF => ?_
    rcases x with _ | _
    · refine awp_sub (awp_loop' (base_Key_x2_H qs) base_Key_x2_k (base_Key_x2_S qs) (by intro x; rcases x with x | x <;> exact fun h => nomatch h) h21 (base_Key_x2_ok qs)) ?_
      refine awp_seq ?_
      refine awp_region ?_
      refine aR 1 ?_
      refine aE ?_
      refine awp_ret ?_
      exact oF hF [] []
    · refine awp_sub (awp_loop' (base_Key_x2_H qs) base_Key_x2_k (base_Key_x2_S qs) (by intro x; rcases x with x | x <;> exact fun h => nomatch h) h21 (base_Key_x2_ok qs)) ?_
      exact oF hF [] []

/-! ### beaconfleet/base.Out -/
def base_Out_x1_k : Bool → AEx
  | _ => .normal

def base_Out_x1_S (qn : Int) (qlow : Int) (qhigh : Int) : Bool → St
  | vx => Mem.st ⟨[], []⟩ (tl [(6, .v (.one (.d (.bool vx))))]) 0

def base_Out_x1_I (qn : Int) (qlow : Int) (qhigh : Int) : St := Mem.st ⟨[], []⟩ (tl [(0, .v (.one (.d (.int .i64 qn)))), (1, .v (.one (.d (.int .i64 qlow)))), (2, .v (.one (.d (.int .i64 qhigh))))]) 0

theorem base_Out_x1_ok (qn : Int) (qlow : Int) (qhigh : Int) {r} (hF : base_Out_x1 qn qlow qhigh = some r) : Awp prog 0 15 (cL (cR (cB f33))) (Out 0 base_Out_x1_k (base_Out_x1_S qn qlow qhigh) r) (base_Out_x1_I qn qlow qhigh) := by
  unfold base_Out_x1 at hF
  refine cE hF (fun h1 hF => ?_) fun h1 hF => ?_
  · refine awp_region ?_
    refine aR 2 ?_
    refine aB h1 ?_
    refine aR 6 ?_
    refine aE ?_
    exact oO hF [] [] rfl
  · refine awp_region ?_
    refine aR 2 ?_
    refine aB h1 ?_
    refine aR 6 ?_
    refine aE ?_
    exact oO hF [] [] rfl

def base_Out_R (qn : Int) (qlow : Int) (qhigh : Int) (r : Bool) : TV × Mem := (.v (.one (.d (.bool r))), ⟨[], []⟩)

theorem base_Out_ok {qn : Int} {qlow : Int} {qhigh : Int} {r} (hF : base_Out qn qlow qhigh = some r) : Holds prog 33 [.v (.one (.d (.int .i64 qn))), .v (.one (.d (.int .i64 qlow))), .v (.one (.d (.int .i64 qhigh)))] ⟨[], []⟩ (Is (base_Out_R qn qlow qhigh r)) := by
  unfold base_Out at hF
  refine holds_of_awp hΓ (fn := f33) (c := cB f33) (A := 0) (nx := 0) (by kernel_rfl) (by kernel_rfl) (by kernel_rfl) (by kernel_rfl) (by kernel_rfl) (by kernel_rfl) (lowc_of (by kernel_rfl)) ?_
  show Awp prog 0 15 (cB f33) _ _
  refine awp_seq ?_
  refine awp_region ?_
  refine aR 1 ?_
  refine aE ?_
  refine awp_seq ?_
  refine awp_to (st' := base_Out_x1_I qn qlow qhigh) (oT [] []) ?_
  refine bE hF fun vx1 h2 hF => ?_
  refine awp_sub (base_Out_x1_ok qn qlow qhigh h2) ?_
  refine awp_ret ?_
  exact oF hF [] []

/-! ### beaconfleet/base.Moment -/
def base_Moment_R (qn : Int) (r : Bool) : TV × Mem := (.v (.one (.d (.bool r))), ⟨[], []⟩)

theorem base_Moment_ok {qn : Int} {r} (hF : base_Moment qn = some r) : Holds prog 103 [.v (.one (.d (.int .i64 qn)))] ⟨[], []⟩ (Is (base_Moment_R qn r)) := by
  unfold base_Moment at hF
  refine holds_of_awp hΓ (fn := f103) (c := cB f103) (A := 0) (nx := 0) (by kernel_rfl) (by kernel_rfl) (by kernel_rfl) (by kernel_rfl) (by kernel_rfl) (by kernel_rfl) (lowc_of (by kernel_rfl)) ?_
  show Awp prog 0 6 (cB f103) _ _
  refine awp_seq ?_
  refine awp_region ?_
  refine aR 1 ?_
  refine aE ?_
  refine awp_seq ?_
  refine bE hF fun vr h1 hF => ?_
  refine awp_region ?_
  refine aR 1 ?_
  refine aC (base_Out_ok h1) [] [] [] ?_
  refine aR 2 ?_
  refine aE ?_
  refine awp_ret ?_
  exact oF hF [] []

/-! ### beaconfleet/place.spot -/
def place_spot_R (qx : api_Fix) (r : Unit) : TV × Mem := (.v (.agg [.d (.int .i64 qx.X), .d (.int .i64 qx.Y)]), ⟨[], []⟩)

theorem place_spot_ok {qx : api_Fix} {r} (hF : place_spot qx = some r) : Holds prog 36 [.v (.agg [.d (.str qx.Device), .d (.int .i64 qx.At), .d (.int .i64 qx.X), .d (.int .i64 qx.Y), .d (.int .i64 qx.Error)])] ⟨[], []⟩ (Is (place_spot_R qx r)) := by
  unfold place_spot at hF
  refine holds_of_awp hΓ (fn := f36) (c := cB f36) (A := 0) (nx := 0) (by kernel_rfl) (by kernel_rfl) (by kernel_rfl) (by kernel_rfl) (by kernel_rfl) (by kernel_rfl) (lowc_of (by kernel_rfl)) ?_
  show Awp prog 0 8 (cB f36) _ _
  refine awp_seq ?_
  refine awp_region ?_
  refine aR 2 ?_
  refine aE ?_
  refine awp_seq ?_
  refine awp_region ?_
  refine aR 6 ?_
  refine aE ?_
  refine awp_ret ?_
  exact oF hF [] []

/-! ### beaconfleet/place.isSpot -/
def place_isSpot_x1_k : Bool → AEx
  | _ => .normal

def place_isSpot_x1_S (qs : api_Spot) : Bool → St
  | vx => Mem.st ⟨[], []⟩ (tl [(2, .v (.one (.d (.bool vx))))]) 0

def place_isSpot_x1_I (qs : api_Spot) : St := Mem.st ⟨[], [(0, [.d (.int .i64 qs.X), .d (.int .i64 qs.Y)])]⟩ (tl [(1, .v (.one (.box 0 0)))]) 1

theorem place_isSpot_x1_ok (qs : api_Spot) {r} (hF : place_isSpot_x1 qs = some r) : Awp prog 0 13 (cL (cR (cB f53))) (Out 0 place_isSpot_x1_k (place_isSpot_x1_S qs) r) (place_isSpot_x1_I qs) := by
  unfold place_isSpot_x1 at hF
  refine bE hF fun vr h1 hF => ?_
  refine cE hF (fun h2 hF => ?_) fun h2 hF => ?_
  · refine bE hF fun vr1 h3 hF => ?_
    refine awp_region ?_
    refine aR 2 ?_
    refine aC (base_Out_ok h1) [] [] [] ?_
    refine aB h2 ?_
    refine aR 3 ?_
    refine aC (base_Out_ok h3) [] [] [] ?_
    refine aR 3 ?_
    refine aE ?_
    exact oO hF [] [] rfl
  · refine awp_region ?_
    refine aR 2 ?_
    refine aC (base_Out_ok h1) [] [] [] ?_
    refine aB h2 ?_
    refine aR 7 ?_
    refine aE ?_
    exact oO hF [] [] rfl

def place_isSpot_R (qs : api_Spot) (r : Bool) : TV × Mem := (.v (.one (.d (.bool r))), ⟨[], []⟩)

theorem place_isSpot_ok {qs : api_Spot} {r} (hF : place_isSpot qs = some r) : Holds prog 53 [.v (.agg [.d (.int .i64 qs.X), .d (.int .i64 qs.Y)])] ⟨[], []⟩ (Is (place_isSpot_R qs r)) := by
  unfold place_isSpot at hF
  refine holds_of_awp hΓ (fn := f53) (c := cB f53) (A := 0) (nx := 0) (by kernel_rfl) (by kernel_rfl) (by kernel_rfl) (by kernel_rfl) (by kernel_rfl) (by kernel_rfl) (lowc_of (by kernel_rfl)) ?_
  show Awp prog 0 13 (cB f53) _ _
  refine awp_seq ?_
  refine awp_region ?_
  refine aR 2 ?_
  refine aE ?_
  refine awp_seq ?_
  refine awp_to (st' := place_isSpot_x1_I qs) (oT [] []) ?_
  refine bE hF fun vx1 h4 hF => ?_
  refine awp_sub (place_isSpot_x1_ok qs h4) ?_
  refine awp_ret ?_
  exact oF hF [] []

/-! ### internal/bytealg.CompareString -/
def bytealg_CompareString_R (qa : List UInt8) (qb : List UInt8) (r : Unit) : TV × Mem := (.v (.one (.d (.int .i64 (Lib.compareBytes qa qb)))), ⟨[], []⟩)

theorem bytealg_CompareString_ok {qa : List UInt8} {qb : List UInt8} {r} (hF : bytealg_CompareString qa qb = some r) : Holds prog 152 [.v (.one (.d (.str qa))), .v (.one (.d (.str qb)))] ⟨[], []⟩ (Is (bytealg_CompareString_R qa qb r)) := by
  unfold bytealg_CompareString at hF
  refine holds_of_awp hΓ (fn := f152) (c := cB f152) (A := 0) (nx := 0) (by kernel_rfl) (by kernel_rfl) (by kernel_rfl) (by kernel_rfl) (by kernel_rfl) (by kernel_rfl) (lowc_of (by kernel_rfl)) ?_
  show Awp prog 0 8 (cB f152) _ _
  refine awp_seq ?_
  refine awp_region ?_
  refine aR 1 ?_
  refine aE ?_
  refine awp_seq ?_
  refine awp_region ?_
  refine aR 2 ?_
  refine aS (does_cmpstring (g := 181) (fn := f181) (a := qa) (b := qb) rfl (by kernel_rfl) (by kernel_rfl) (by kernel_rfl) (by kernel_rfl) (by kernel_rfl) (by kernel_rfl)) ?_
  refine aR 1 ?_
  refine aE ?_
  refine awp_ret ?_
  exact oF hF [] []

/-! ### strings.Compare -/
def strings_Compare_R (qa : List UInt8) (qb : List UInt8) (r : Unit) : TV × Mem := (.v (.one (.d (.int .i64 (Lib.compareBytes qa qb)))), ⟨[], []⟩)

theorem strings_Compare_ok {qa : List UInt8} {qb : List UInt8} {r} (hF : strings_Compare qa qb = some r) : Holds prog 106 [.v (.one (.d (.str qa))), .v (.one (.d (.str qb)))] ⟨[], []⟩ (Is (strings_Compare_R qa qb r)) := by
  unfold strings_Compare at hF
  refine holds_of_awp hΓ (fn := f106) (c := cB f106) (A := 0) (nx := 0) (by kernel_rfl) (by kernel_rfl) (by kernel_rfl) (by kernel_rfl) (by kernel_rfl) (by kernel_rfl) (lowc_of (by kernel_rfl)) ?_
  show Awp prog 0 8 (cB f106) _ _
  refine awp_seq ?_
  refine awp_region ?_
  refine aR 1 ?_
  refine aE ?_
  refine awp_seq ?_
  refine bE hF fun _ h1 hF => ?_
  refine awp_region ?_
  refine aR 2 ?_
  refine aC (bytealg_CompareString_ok h1) [] [] [] ?_
  refine aR 1 ?_
  refine aE ?_
  refine awp_ret ?_
  exact oF hF [] []

/-! ### cmp.isNaN[int] -/
def cmp_isNaN_int_R (qx : Int) (r : Unit) : TV × Mem := (.v (.one (.d (.bool (!decide (qx = qx))))), ⟨[], []⟩)

theorem cmp_isNaN_int_ok {qx : Int} {r} (hF : cmp_isNaN_int qx = some r) : Holds prog 87 [.v (.one (.d (.int .i64 qx)))] ⟨[], []⟩ (Is (cmp_isNaN_int_R qx r)) := by
  unfold cmp_isNaN_int at hF
  refine holds_of_awp hΓ (fn := f87) (c := cB f87) (A := 0) (nx := 0) (by kernel_rfl) (by kernel_rfl) (by kernel_rfl) (by kernel_rfl) (by kernel_rfl) (by kernel_rfl) (lowc_of (by kernel_rfl)) ?_
  show Awp prog 0 6 (cB f87) _ _
  refine awp_seq ?_
  refine awp_region ?_
  refine aR 1 ?_
  refine aE ?_
  refine awp_seq ?_
  refine awp_region ?_
  refine aR 4 ?_
  refine aE ?_
  refine awp_ret ?_
  exact oF hF [] []

/-! ### cmp.Compare[int] -/
def cmp_Compare_int_R (qx : Int) (qy : Int) (r : Int) : TV × Mem := (.v (.one (.d (.int .i64 r))), ⟨[], []⟩)

theorem cmp_Compare_int_ok {qx : Int} {qy : Int} {r} (hF : cmp_Compare_int qx qy = some r) : Holds prog 101 [.v (.one (.d (.int .i64 qx))), .v (.one (.d (.int .i64 qy)))] ⟨[], []⟩ (Is (cmp_Compare_int_R qx qy r)) := by
  unfold cmp_Compare_int at hF
  refine holds_of_awp hΓ (fn := f101) (c := cB f101) (A := 0) (nx := 0) (by kernel_rfl) (by kernel_rfl) (by kernel_rfl) (by kernel_rfl) (by kernel_rfl) (by kernel_rfl) (lowc_of (by kernel_rfl)) ?_
  show Awp prog 0 20 (cB f101) _ _
  refine awp_seq ?_
  refine awp_region ?_
  refine aR 1 ?_
  refine aE ?_
  refine awp_seq ?_
  refine bE hF fun _ h1 hF => ?_
  refine awp_region ?_
  refine aR 1 ?_
  refine aC (cmp_isNaN_int_ok h1) [] [] [] ?_
  refine aR 1 ?_
  refine aE ?_
  refine awp_seq ?_
  refine bE hF fun _ h2 hF => ?_
  refine awp_region ?_
  refine aR 1 ?_
  refine aC (cmp_isNaN_int_ok h2) [] [] [] ?_
  refine aR 1 ?_
  refine aE ?_
  refine awp_seq ?_
  refine awp_seq ?_
  refine awp_region ?_
  refine aR 1 ?_
  refine aE ?_
  refine cE hF (fun h3 hF => ?_) fun h3 hF => ?_
  · refine awp_true (by kernel_rfl) h3 ?_
    refine awp_seq ?_
    refine awp_seq ?_
    refine awp_region ?_
    refine aR 1 ?_
    refine aE ?_
    refine cE hF (fun h4 hF => ?_) fun h4 hF => ?_
    · refine awp_true (by kernel_rfl) h4 ?_
      refine awp_seq ?_
      refine awp_region ?_
      refine aR 1 ?_
      refine aE ?_
      refine awp_ret ?_
      exact oF hF [] []
    · refine awp_false (by kernel_rfl) h4 ?_
      refine awp_skip ?_
      refine awp_seq ?_
      refine awp_region ?_
      refine aR 1 ?_
      refine aE ?_
      refine awp_ret ?_
      exact oF hF [] []
  · refine awp_false (by kernel_rfl) h3 ?_
    refine awp_skip ?_
    refine awp_seq ?_
    refine awp_seq ?_
    refine awp_region ?_
    refine aR 1 ?_
    refine aE ?_
    refine cE hF (fun h5 hF => ?_) fun h5 hF => ?_
    · refine awp_true (by kernel_rfl) h5 ?_
      refine awp_seq ?_
      refine awp_region ?_
      refine aR 1 ?_
      refine aE ?_
      refine awp_ret ?_
      exact oF hF [] []
    · refine awp_false (by kernel_rfl) h5 ?_
      refine awp_skip ?_
      refine awp_seq ?_
      refine awp_seq ?_
      refine awp_region ?_
      refine aR 3 ?_
      refine aE ?_
      refine cE hF (fun h6 hF => ?_) fun h6 hF => ?_
      · refine awp_true (by kernel_rfl) h6 ?_
        refine awp_seq ?_
        refine awp_region ?_
        refine aR 1 ?_
        refine aE ?_
        refine awp_ret ?_
        exact oF hF [] []
      · refine awp_false (by kernel_rfl) h6 ?_
        refine awp_skip ?_
        refine awp_seq ?_
        refine awp_seq ?_
        refine awp_region ?_
        refine aR 3 ?_
        refine aE ?_
        refine cE hF (fun h7 hF => ?_) fun h7 hF => ?_
        · refine awp_true (by kernel_rfl) h7 ?_
          refine awp_seq ?_
          refine awp_region ?_
          refine aR 1 ?_
          refine aE ?_
          refine awp_ret ?_
          exact oF hF [] []
        · refine awp_false (by kernel_rfl) h7 ?_
          refine awp_skip ?_
          refine awp_seq ?_
          refine awp_region ?_
          refine aR 1 ?_
          refine aE ?_
          refine awp_ret ?_
          exact oF hF [] []

/-! ### cmp.Or[int] -/
def cmp_Or_int_x1_k : Unit ⊕ Int → AEx
  | .inl _ => .exit 0
  | .inr _ => .ret

def cmp_Or_int_x1_S (qvals : List Int) : Unit ⊕ Int → St
  | .inl _ => Mem.st ⟨[], []⟩ (tl [(3, .v (.one (.d (.int .i64 0))))]) 0
  | .inr vx1 => Mem.st ⟨[], []⟩ (tl [(2, .v (.one (.d (.int .i64 vx1))))]) 0

def cmp_Or_int_x1_H (qvals : List Int) : Int → St
  | vx => Mem.st ⟨[], []⟩ (tl [(3, .v (.one (.d (.int .i64 0)))), (6, .v (.one (.d (.lst (List.map (encI .i64) qvals))))), (7, .v (.one (.d (.int .i64 (qvals.length : Int))))), (8, .v (.one (.d (.int .i64 vx))))]) 0

theorem cmp_Or_int_x1_ok (qvals : List Int) (vx : Int) (r : (Int) ⊕ (Unit ⊕ Int)) (hF : cmp_Or_int_x1 qvals vx = some r) : Awp prog 0 18 (cL (cL (cR (cL (cR (cR (cB f100))))))) (Out 0 (kk cmp_Or_int_x1_k) (SS (cmp_Or_int_x1_H qvals) (cmp_Or_int_x1_S qvals)) r) (cmp_Or_int_x1_H qvals vx) := by
  unfold cmp_Or_int_x1 at hF
  refine awp_seq ?_
  refine awp_region ?_
  refine aR 1 ?_
  refine aE ?_
  refine awp_seq ?_
  refine cE hF (fun h1 hF => ?_) fun h1 hF => ?_
  · refine awp_true (by kernel_rfl) h1 ?_
    refine awp_skip ?_
    refine awp_seq ?_
    refine awp_block ?_
    refine awp_seq ?_
    refine bE hF fun vy1 h2 hF => ?_
    refine awp_region ?_
    refine aX (x_idx (encI .i64) h2) ?_
    refine aR 2 ?_
    refine aE ?_
    refine awp_seq ?_
    refine awp_region ?_
    refine aR 3 ?_
    refine aE ?_
    refine cE hF (fun h3 hF => ?_) fun h3 hF => ?_
    · refine awp_true (by kernel_rfl) h3 ?_
      refine awp_seq ?_
      refine awp_region ?_
      refine aR 2 ?_
      refine aE ?_
      refine awp_ret ?_
      exact oO hF [] [] rfl
    · refine awp_false (by kernel_rfl) h3 ?_
      refine awp_skip ?_
      refine awp_region ?_
      refine aR 2 ?_
      refine aE ?_
      exact oO hF [] [] rfl
  · refine awp_false (by kernel_rfl) h1 ?_
    refine awp_exit ?_
    exact oO hF [] [] rfl

def cmp_Or_int_R (qvals : List Int) (r : Int) : TV × Mem := (.v (.one (.d (.int .i64 r))), ⟨[], []⟩)

theorem cmp_Or_int_ok {qvals : List Int} {r} (hF : cmp_Or_int qvals = some r) : Holds prog 100 [.v (.one (.d (.lst (List.map (encI .i64) qvals))))] ⟨[], []⟩ (Is (cmp_Or_int_R qvals r)) := by
  unfold cmp_Or_int at hF
  refine holds_of_awp hΓ (fn := f100) (c := cB f100) (A := 0) (nx := 0) (by kernel_rfl) (by kernel_rfl) (by kernel_rfl) (by kernel_rfl) (by kernel_rfl) (by kernel_rfl) (lowc_of (by kernel_rfl)) ?_
  show Awp prog 0 18 (cB f100) _ _
  refine awp_seq ?_
  refine awp_region ?_
  refine aR 1 ?_
  refine aE ?_
  refine awp_seq ?_
  refine awp_region ?_
  refine aR 1 ?_
  refine aE ?_
  refine awp_seq ?_
  refine awp_seq ?_
  refine awp_region ?_
  refine aR 1 ?_
  refine aL (encI .i64) qvals ?_
  refine aR 1 ?_
  refine aE ?_
  refine awp_block ?_
  refine awp_to (st' := cmp_Or_int_x1_H qvals 0) (oT [] []) ?_
  refine bE hF fun x h4 hF => ?_
  rcases x with _ | vx1_1
  · refine awp_sub (awp_loop' (cmp_Or_int_x1_H qvals) cmp_Or_int_x1_k (cmp_Or_int_x1_S qvals) (by intro x; rcases x with x | x <;> exact fun h => nomatch h) h4 (cmp_Or_int_x1_ok qvals)) ?_
    refine awp_seq ?_
    refine awp_region ?_
    refine aR 2 ?_
    refine aE ?_
    refine awp_ret ?_
    exact oF hF [] []
  · refine awp_sub (awp_loop' (cmp_Or_int_x1_H qvals) cmp_Or_int_x1_k (cmp_Or_int_x1_S qvals) (by intro x; rcases x with x | x <;> exact fun h => nomatch h) h4 (cmp_Or_int_x1_ok qvals)) ?_
    exact oF hF [] []

/-! ### beaconfleet/place.byDevice -/
def place_byDevice_R (qa : api_Fix) (qb : api_Fix) (r : Int) : TV × Mem := (.v (.one (.d (.int .i64 r))), ⟨[], []⟩)

theorem place_byDevice_ok {qa : api_Fix} {qb : api_Fix} {r} (hF : place_byDevice qa qb = some r) : Holds prog 64 [.v (.agg [.d (.str qa.Device), .d (.int .i64 qa.At), .d (.int .i64 qa.X), .d (.int .i64 qa.Y), .d (.int .i64 qa.Error)]), .v (.agg [.d (.str qb.Device), .d (.int .i64 qb.At), .d (.int .i64 qb.X), .d (.int .i64 qb.Y), .d (.int .i64 qb.Error)])] ⟨[], []⟩ (Is (place_byDevice_R qa qb r)) := by
  unfold place_byDevice at hF
  refine holds_of_awp hΓ (fn := f64) (c := cB f64) (A := 0) (nx := 0) (by kernel_rfl) (by kernel_rfl) (by kernel_rfl) (by kernel_rfl) (by kernel_rfl) (by kernel_rfl) (lowc_of (by kernel_rfl)) ?_
  show Awp prog 0 17 (cB f64) _ _
  refine awp_seq ?_
  refine awp_region ?_
  refine aR 3 ?_
  refine aE ?_
  refine awp_seq ?_
  refine bE hF fun _ h1 hF => ?_
  refine bE hF fun vr h2 hF => ?_
  refine bE hF fun vr1 h3 hF => ?_
  refine aD ?_
  refine dR 4 ?_
  refine dC (strings_Compare_ok h1) [] [] [] ?_
  refine dR 4 ?_
  refine dC (cmp_Compare_int_ok h2) [] [] [] ?_
  refine dR 1 ?_
  refine dC (cmp_Or_int_ok h3) [] [] [13000] ?_
  refine dR 1 ?_
  refine dE ?_
  refine awp_ret ?_
  exact oF hF [] []

/-! ### beaconfleet/place.CheckFixes -/
def place_CheckFixes_x2_k : Bool → AEx
  | _ => .normal

def place_CheckFixes_x2_S (ql : List api_Fix) (vx : Int) (vy2 : api_Fix) : Bool → St
  | vx3 => Mem.st ⟨[], [(0, [.d (.str vy2.Device), .d (.int .i64 vy2.At), .d (.int .i64 vy2.X), .d (.int .i64 vy2.Y), .d (.int .i64 vy2.Error)])]⟩ (tl [(0, .v (.one (.d (.lst (List.map api_Fix.enc ql))))), (3, .v (.one (.d (.int .i64 vx)))), (4, .v (.one (.box 0 0))), (8, .v (.one (.d (.lst (List.map api_Fix.enc ql))))), (9, .v (.one (.d (.int .i64 (ql.length : Int))))), (10, .v (.one (.d (.int .i64 vx)))), (20, .v (.one (.d (.bool vx3))))]) 1

def place_CheckFixes_x2_I (ql : List api_Fix) (vx : Int) (vy2 : api_Fix) : St := Mem.st ⟨[], [(0, [.d (.str vy2.Device), .d (.int .i64 vy2.At), .d (.int .i64 vy2.X), .d (.int .i64 vy2.Y), .d (.int .i64 vy2.Error)])]⟩ (tl [(0, .v (.one (.d (.lst (List.map api_Fix.enc ql))))), (3, .v (.one (.d (.int .i64 vx)))), (4, .v (.one (.box 0 0))), (8, .v (.one (.d (.lst (List.map api_Fix.enc ql))))), (9, .v (.one (.d (.int .i64 (ql.length : Int))))), (10, .v (.one (.d (.int .i64 vx))))]) 1

theorem place_CheckFixes_x2_ok (ql : List api_Fix) (vx : Int) (vy2 : api_Fix) {r} (hF : place_CheckFixes_x2 vy2 = some r) : Awp prog 0 50 (cL (cR (cR (cL (cR (cL (cL (cR (cR (cL (cL (cR (cL (cR (cR (cB f61)))))))))))))))) (Out 0 place_CheckFixes_x2_k (place_CheckFixes_x2_S ql vx vy2) r) (place_CheckFixes_x2_I ql vx vy2) := by
  unfold place_CheckFixes_x2 at hF
  refine bE hF fun vr1_1 h6 hF => ?_
  refine cE hF (fun h7 hF => ?_) fun h7 hF => ?_
  · refine awp_region ?_
    refine aR 2 ?_
    refine aC (base_Moment_ok h6) [] [] [] ?_
    refine aB h7 ?_
    refine aR 12 ?_
    refine aE ?_
    exact oO hF [] [] rfl
  · refine bE hF fun _ h8 hF => ?_
    refine bE hF fun vr2_2 h9 hF => ?_
    refine cE hF (fun h10 hF => ?_) fun h10 hF => ?_
    · refine awp_region ?_
      refine aR 2 ?_
      refine aC (base_Moment_ok h6) [] [] [] ?_
      refine aB h7 ?_
      refine aR 2 ?_
      refine aC (place_spot_ok h8) [] [] [] ?_
      refine aC (place_isSpot_ok h9) [] [] [] ?_
      refine aB h10 ?_
      refine aR 7 ?_
      refine aE ?_
      exact oO hF [] [] rfl
    · refine bE hF fun vr5 h11 hF => ?_
      refine awp_region ?_
      refine aR 2 ?_
      refine aC (base_Moment_ok h6) [] [] [] ?_
      refine aB h7 ?_
      refine aR 2 ?_
      refine aC (place_spot_ok h8) [] [] [] ?_
      refine aC (place_isSpot_ok h9) [] [] [] ?_
      refine aB h10 ?_
      refine aR 4 ?_
      refine aC (base_Out_ok h11) [] [] [] ?_
      refine aR 2 ?_
      refine aE ?_
      exact oO hF [] [] rfl

def place_CheckFixes_x3_k : Bool → AEx
  | _ => .normal

def place_CheckFixes_x3_S (ql : List api_Fix) (vx : Int) (vy2 : api_Fix) : Bool → St
  | vx4 => Mem.st ⟨[], []⟩ (tl [(0, .v (.one (.d (.lst (List.map api_Fix.enc ql))))), (8, .v (.one (.d (.lst (List.map api_Fix.enc ql))))), (9, .v (.one (.d (.int .i64 (ql.length : Int))))), (10, .v (.one (.d (.int .i64 vx)))), (36, .v (.one (.d (.bool vx4))))]) 0

def place_CheckFixes_x3_I (ql : List api_Fix) (vx : Int) (vy2 : api_Fix) : St := Mem.st ⟨[], [(0, [.d (.str vy2.Device), .d (.int .i64 vy2.At), .d (.int .i64 vy2.X), .d (.int .i64 vy2.Y), .d (.int .i64 vy2.Error)])]⟩ (tl [(0, .v (.one (.d (.lst (List.map api_Fix.enc ql))))), (3, .v (.one (.d (.int .i64 vx)))), (4, .v (.one (.box 0 0))), (8, .v (.one (.d (.lst (List.map api_Fix.enc ql))))), (9, .v (.one (.d (.int .i64 (ql.length : Int))))), (10, .v (.one (.d (.int .i64 vx))))]) 1

theorem place_CheckFixes_x3_ok (ql : List api_Fix) (vx : Int) (vy2 : api_Fix) {r} (hF : place_CheckFixes_x3 ql vx vy2 = some r) : Awp prog 0 50 (cL (cR (cR (cR (cR (cL (cR (cL (cL (cR (cR (cL (cL (cR (cL (cR (cR (cB f61)))))))))))))))))) (Out 0 place_CheckFixes_x3_k (place_CheckFixes_x3_S ql vx vy2) r) (place_CheckFixes_x3_I ql vx vy2) := by
  unfold place_CheckFixes_x3 at hF
  refine cE hF (fun h14 hF => ?_) fun h14 hF => ?_
  · refine bE hF fun vy3 h15 hF => ?_
    refine bE hF fun vr2_3 h16 hF => ?_
    refine aD ?_
    refine dR 1 ?_
    refine dB h14 ?_
    refine dR 5 ?_
    refine dX (x_idx api_Fix.enc h15) ?_
    refine dR 1 ?_
    refine dC (place_byDevice_ok h16) [] [] [] ?_
    refine dR 3 ?_
    refine dE ?_
    exact oO hF [] [] rfl
  · refine aD ?_
    refine dR 1 ?_
    refine dB h14 ?_
    refine dR 11 ?_
    refine dE ?_
    exact oO hF [] [] rfl

def place_CheckFixes_x1_k : Unit ⊕ Int → AEx
  | .inl _ => .exit 0
  | .inr _ => .ret

def place_CheckFixes_x1_S (ql : List api_Fix) : Unit ⊕ Int → St
  | .inl _ => Mem.st ⟨[], []⟩ (tl []) 0
  | .inr vx5 => Mem.st ⟨[], []⟩ (tl [(2, .v (.one (.d (.int .i64 vx5))))]) 0

def place_CheckFixes_x1_H (ql : List api_Fix) : Int → St
  | vx => Mem.st ⟨[], []⟩ (tl [(0, .v (.one (.d (.lst (List.map api_Fix.enc ql))))), (8, .v (.one (.d (.lst (List.map api_Fix.enc ql))))), (9, .v (.one (.d (.int .i64 (ql.length : Int))))), (10, .v (.one (.d (.int .i64 vx))))]) 0

theorem place_CheckFixes_x1_ok (ql : List api_Fix) (vx : Int) (r : (Int) ⊕ (Unit ⊕ Int)) (hF : place_CheckFixes_x1 ql vx = some r) : Awp prog 0 50 (cL (cL (cR (cL (cR (cR (cB f61))))))) (Out 0 (kk place_CheckFixes_x1_k) (SS (place_CheckFixes_x1_H ql) (place_CheckFixes_x1_S ql)) r) (place_CheckFixes_x1_H ql vx) := by
  unfold place_CheckFixes_x1 at hF
  refine awp_seq ?_
  refine awp_region ?_
  refine aR 1 ?_
  refine aE ?_
  refine awp_seq ?_
  refine cE hF (fun h2 hF => ?_) fun h2 hF => ?_
  · refine awp_true (by kernel_rfl) h2 ?_
    refine awp_skip ?_
    refine awp_seq ?_
    refine awp_block ?_
    refine awp_seq ?_
    refine bE hF fun vy2 h3 hF => ?_
    refine awp_region ?_
    refine aR 1 ?_
    refine aX (x_idx api_Fix.enc h3) ?_
    refine aR 4 ?_
    refine aE ?_
    refine awp_block ?_
    refine awp_seq ?_
    refine bE hF fun vr4 h4 hF => ?_
    refine awp_region ?_
    refine aR 2 ?_
    refine aC (base_Key_ok h4) [] [] [] ?_
    refine aR 2 ?_
    refine aE ?_
    refine cE hF (fun h5 hF => ?_) fun h5 hF => ?_
    · refine awp_true (by kernel_rfl) h5 ?_
      refine awp_seq ?_
      refine awp_region ?_
      refine aR 1 ?_
      refine aE ?_
      refine awp_ret ?_
      exact oO hF [] [] rfl
    · refine awp_false (by kernel_rfl) h5 ?_
      refine awp_seq ?_
      refine awp_to (st' := place_CheckFixes_x2_I ql vx vy2) (oT [(0, 4000)] []) ?_
      refine bE hF fun vx3_1 h12 hF => ?_
      refine awp_sub (place_CheckFixes_x2_ok ql vx vy2 h12) ?_
      refine cE hF (fun h13 hF => ?_) fun h13 hF => ?_
      · refine awp_true (by kernel_rfl) h13 ?_
        refine awp_seq ?_
        refine awp_region ?_
        refine aR 1 ?_
        refine aE ?_
        refine awp_ret ?_
        exact oO hF [] [] rfl
      · refine awp_false (by kernel_rfl) h13 ?_
        refine awp_seq ?_
        refine awp_to (st' := place_CheckFixes_x3_I ql vx vy2) (oT [] []) ?_
        refine bE hF fun vx4_1 h17 hF => ?_
        refine awp_sub (place_CheckFixes_x3_ok ql vx vy2 h17) ?_
        refine cE hF (fun h18 hF => ?_) fun h18 hF => ?_
        · refine awp_true (by kernel_rfl) h18 ?_
          refine awp_seq ?_
          refine awp_region ?_
          refine aR 1 ?_
          refine aE ?_
          refine awp_ret ?_
          exact oO hF [] [] rfl
        · refine awp_false (by kernel_rfl) h18 ?_
          refine awp_skip ?_
          refine awp_region ?_
          refine aR 2 ?_
          refine aE ?_
          exact oO hF [] [] rfl
  · refine awp_false (by kernel_rfl) h2 ?_
    refine awp_exit ?_
    exact oO hF [] [] rfl

def place_CheckFixes_R (ql : List api_Fix) (r : Int) : TV × Mem := (.v (.one (.d (.int .i64 r))), ⟨[], []⟩)

theorem place_CheckFixes_ok {ql : List api_Fix} {r} (hF : place_CheckFixes ql = some r) : Holds prog 61 [.v (.one (.d (.lst (List.map api_Fix.enc ql))))] ⟨[], []⟩ (Is (place_CheckFixes_R ql r)) := by
  unfold place_CheckFixes at hF
  refine holds_of_awp hΓ (fn := f61) (c := cB f61) (A := 0) (nx := 0) (by kernel_rfl) (by kernel_rfl) (by kernel_rfl) (by kernel_rfl) (by kernel_rfl) (by kernel_rfl) (lowc_of (by kernel_rfl)) ?_
  show Awp prog 0 50 (cB f61) _ _
  refine awp_seq ?_
  refine awp_region ?_
  refine aR 1 ?_
  refine aE ?_
  refine awp_seq ?_
  refine awp_seq ?_
  refine awp_region ?_
  refine aR 1 ?_
  refine aL api_Fix.enc ql ?_
  refine aR 1 ?_
  refine aE ?_
  refine cE hF (fun h1 hF => ?_) fun h1 hF => ?_
  · refine awp_true (by kernel_rfl) h1 ?_
    refine awp_seq ?_
    refine awp_region ?_
    refine aR 1 ?_
    refine aE ?_
    refine awp_ret ?_
    exact oF hF [] []
  · refine awp_false (by kernel_rfl) h1 ?_
    refine awp_skip ?_
    refine awp_seq ?_
    refine awp_seq ?_
    refine awp_region ?_
    refine aR 1 ?_
    refine aL api_Fix.enc ql ?_
    refine aR 1 ?_
    refine aE ?_
    refine awp_block ?_
    refine awp_to (st' := place_CheckFixes_x1_H ql 0) (oT [] []) ?_
    refine bE hF fun x h19 hF => ?_
    rcases x with _ | vx5_1
    · refine awp_sub (awp_loop' (place_CheckFixes_x1_H ql) place_CheckFixes_x1_k (place_CheckFixes_x1_S ql) (by intro x; rcases x with x | x <;> exact fun h => nomatch h) h19 (place_CheckFixes_x1_ok ql)) ?_
      refine awp_seq ?_
      refine awp_region ?_
      refine aR 1 ?_
      refine aE ?_
      refine awp_ret ?_
      exact oF hF [] []
    · refine awp_sub (awp_loop' (place_CheckFixes_x1_H ql) place_CheckFixes_x1_k (place_CheckFixes_x1_S ql) (by intro x; rcases x with x | x <;> exact fun h => nomatch h) h19 (place_CheckFixes_x1_ok ql)) ?_
      exact oF hF [] []

/-! ### beaconfleet/place.trackFault$1 -/
def place_trackFault_1_R (qx : api_Fix) (qx1 : List api_Fix) (r : Bool) : TV × Mem := (.v (.one (.d (.bool r))), ⟨[], [(0, [.d (.lst (List.map api_Fix.enc qx1))])]⟩)

theorem place_trackFault_1_ok {qx : api_Fix} {qx1 : List api_Fix} {r} (hF : place_trackFault_1 qx qx1 = some r) : Holds prog 75 [.v (.agg [.d (.str qx.Device), .d (.int .i64 qx.At), .d (.int .i64 qx.X), .d (.int .i64 qx.Y), .d (.int .i64 qx.Error)]), .v (.one (.box 0 0))] ⟨[], [(0, [.d (.lst (List.map api_Fix.enc qx1))])]⟩ (Is (place_trackFault_1_R qx qx1 r)) := by
  unfold place_trackFault_1 at hF
  refine holds_of_awp hΓ (fn := f75) (c := cB f75) (A := 1) (nx := 1) (by kernel_rfl) (by kernel_rfl) (by kernel_rfl) (by kernel_rfl) (by kernel_rfl) (by kernel_rfl) (lowc_of (by kernel_rfl)) ?_
  show Awp prog 1 11 (cB f75) _ _
  refine awp_seq ?_
  refine awp_region ?_
  refine aR 2 ?_
  refine aE ?_
  refine awp_seq ?_
  refine bE hF fun vy h1 hF => ?_
  refine aD ?_
  refine dR 3 ?_
  refine dX (x_idx api_Fix.enc h1) ?_
  refine dR 4 ?_
  refine dE ?_
  refine awp_ret ?_
  exact oF hF [] []

/-! ### slices.IndexFunc[[]beaconfleet/api.Fix,beaconfleet/api.Fix] -/
def slices_IndexFunc_api_Fix_api_Fix_f1_place_trackFault_1_x1_k : Unit ⊕ Int → AEx
  | .inl _ => .exit 0
  | .inr _ => .ret

def slices_IndexFunc_api_Fix_api_Fix_f1_place_trackFault_1_x1_S (qs : List api_Fix) : Unit ⊕ Int → St
  | .inl _ => Mem.st ⟨[], [(0, [.d (.lst (List.map api_Fix.enc qs))])]⟩ (tl []) 1
  | .inr vx1 => Mem.st ⟨[], [(0, [.d (.lst (List.map api_Fix.enc qs))])]⟩ (tl [(4, .v (.one (.d (.int .i64 vx1))))]) 1

def slices_IndexFunc_api_Fix_api_Fix_f1_place_trackFault_1_x1_H (qs : List api_Fix) : Int → St
  | vx => Mem.st ⟨[], [(0, [.d (.lst (List.map api_Fix.enc qs))])]⟩ (tl [(0, .v (.one (.d (.lst (List.map api_Fix.enc qs))))), (1, .v (.one (.fn 75 [0]))), (7, .v (.one (.d (.int .i64 (qs.length : Int))))), (8, .v (.one (.d (.int .i64 vx))))]) 1

theorem slices_IndexFunc_api_Fix_api_Fix_f1_place_trackFault_1_x1_ok (qs : List api_Fix) (vx : Int) (r : (Int) ⊕ (Unit ⊕ Int)) (hF : slices_IndexFunc_api_Fix_api_Fix_f1_place_trackFault_1_x1 qs vx = some r) : Awp prog 1 19 (cL (cL (cR (cL (cR (cB f116)))))) (Out 1 (kk slices_IndexFunc_api_Fix_api_Fix_f1_place_trackFault_1_x1_k) (SS (slices_IndexFunc_api_Fix_api_Fix_f1_place_trackFault_1_x1_H qs) (slices_IndexFunc_api_Fix_api_Fix_f1_place_trackFault_1_x1_S qs)) r) (slices_IndexFunc_api_Fix_api_Fix_f1_place_trackFault_1_x1_H qs vx) := by
  unfold slices_IndexFunc_api_Fix_api_Fix_f1_place_trackFault_1_x1 at hF
  refine awp_seq ?_
  refine awp_region ?_
  refine aR 1 ?_
  refine aE ?_
  refine awp_seq ?_
  refine cE hF (fun h1 hF => ?_) fun h1 hF => ?_
  · refine awp_true (by kernel_rfl) h1 ?_
    refine awp_skip ?_
    refine awp_seq ?_
    refine awp_block ?_
    refine awp_seq ?_
    refine awp_region ?_
    refine aR 2 ?_
    refine aE ?_
    refine awp_seq ?_
    refine bE hF fun vy1 h2 hF => ?_
    refine bE hF fun vr1 h3 hF => ?_
    refine awp_region ?_
    refine aR 3 ?_
    refine aX (x_idx api_Fix.enc h2) ?_
    refine aR 1 ?_
    refine aC (place_trackFault_1_ok h3) [] [] [] ?_
    refine aE ?_
    refine cE hF (fun h4 hF => ?_) fun h4 hF => ?_
    · refine awp_true (by kernel_rfl) h4 ?_
      refine awp_seq ?_
      refine awp_region ?_
      refine aR 2 ?_
      refine aE ?_
      refine awp_ret ?_
      exact oO hF [] [] rfl
    · refine awp_false (by kernel_rfl) h4 ?_
      refine awp_skip ?_
      refine awp_region ?_
      refine aR 2 ?_
      refine aE ?_
      exact oO hF [] [] rfl
  · refine awp_false (by kernel_rfl) h1 ?_
    refine awp_exit ?_
    exact oO hF [] [] rfl

def slices_IndexFunc_api_Fix_api_Fix_f1_place_trackFault_1_R (qs : List api_Fix) (r : Int) : TV × Mem := (.v (.one (.d (.int .i64 r))), ⟨[], [(0, [.d (.lst (List.map api_Fix.enc qs))])]⟩)

theorem slices_IndexFunc_api_Fix_api_Fix_f1_place_trackFault_1_ok {qs : List api_Fix} {r} (hF : slices_IndexFunc_api_Fix_api_Fix_f1_place_trackFault_1 qs = some r) : Holds prog 116 [.v (.one (.d (.lst (List.map api_Fix.enc qs)))), .v (.one (.fn 75 [0]))] ⟨[], [(0, [.d (.lst (List.map api_Fix.enc qs))])]⟩ (Is (slices_IndexFunc_api_Fix_api_Fix_f1_place_trackFault_1_R qs r)) := by
  unfold slices_IndexFunc_api_Fix_api_Fix_f1_place_trackFault_1 at hF
  refine holds_of_awp hΓ (fn := f116) (c := cB f116) (A := 1) (nx := 1) (by kernel_rfl) (by kernel_rfl) (by kernel_rfl) (by kernel_rfl) (by kernel_rfl) (by kernel_rfl) (lowc_of (by kernel_rfl)) ?_
  show Awp prog 1 19 (cB f116) _ _
  refine awp_seq ?_
  refine awp_region ?_
  refine aR 1 ?_
  refine aE ?_
  refine awp_seq ?_
  refine awp_seq ?_
  refine awp_region ?_
  refine aR 1 ?_
  refine aL api_Fix.enc qs ?_
  refine aR 1 ?_
  refine aE ?_
  refine awp_block ?_
  refine awp_to (st' := slices_IndexFunc_api_Fix_api_Fix_f1_place_trackFault_1_x1_H qs 0) (oT [] []) ?_
  refine bE hF fun x h5 hF => ?_
  rcases x with _ | vx1_1
  · refine awp_sub (awp_loop' (slices_IndexFunc_api_Fix_api_Fix_f1_place_trackFault_1_x1_H qs) slices_IndexFunc_api_Fix_api_Fix_f1_place_trackFault_1_x1_k (slices_IndexFunc_api_Fix_api_Fix_f1_place_trackFault_1_x1_S qs) (by intro x; rcases x with x | x <;> exact fun h => nomatch h) h5 (slices_IndexFunc_api_Fix_api_Fix_f1_place_trackFault_1_x1_ok qs)) ?_
    refine awp_seq ?_
    refine awp_region ?_
    refine aR 1 ?_
    refine aE ?_
    refine awp_ret ?_
    exact oF hF [] []
  · refine awp_sub (awp_loop' (slices_IndexFunc_api_Fix_api_Fix_f1_place_trackFault_1_x1_H qs) slices_IndexFunc_api_Fix_api_Fix_f1_place_trackFault_1_x1_k (slices_IndexFunc_api_Fix_api_Fix_f1_place_trackFault_1_x1_S qs) (by intro x; rcases x with x | x <;> exact fun h => nomatch h) h5 (slices_IndexFunc_api_Fix_api_Fix_f1_place_trackFault_1_x1_ok qs)) ?_
    exact oF hF [] []

/-! ### slices.ContainsFunc[[]beaconfleet/api.Fix,beaconfleet/api.Fix] -/
def slices_ContainsFunc_api_Fix_api_Fix_f1_place_trackFault_1_R (qs : List api_Fix) (r : Bool) : TV × Mem := (.v (.one (.d (.bool r))), ⟨[], [(0, [.d (.lst (List.map api_Fix.enc qs))])]⟩)

theorem slices_ContainsFunc_api_Fix_api_Fix_f1_place_trackFault_1_ok {qs : List api_Fix} {r} (hF : slices_ContainsFunc_api_Fix_api_Fix_f1_place_trackFault_1 qs = some r) : Holds prog 74 [.v (.one (.d (.lst (List.map api_Fix.enc qs)))), .v (.one (.fn 75 [0]))] ⟨[], [(0, [.d (.lst (List.map api_Fix.enc qs))])]⟩ (Is (slices_ContainsFunc_api_Fix_api_Fix_f1_place_trackFault_1_R qs r)) := by
  unfold slices_ContainsFunc_api_Fix_api_Fix_f1_place_trackFault_1 at hF
  refine holds_of_awp hΓ (fn := f74) (c := cB f74) (A := 1) (nx := 1) (by kernel_rfl) (by kernel_rfl) (by kernel_rfl) (by kernel_rfl) (by kernel_rfl) (by kernel_rfl) (lowc_of (by kernel_rfl)) ?_
  show Awp prog 1 9 (cB f74) _ _
  refine awp_seq ?_
  refine awp_region ?_
  refine aR 1 ?_
  refine aE ?_
  refine awp_seq ?_
  refine bE hF fun vr2 h1 hF => ?_
  refine awp_region ?_
  refine aR 2 ?_
  refine aC (slices_IndexFunc_api_Fix_api_Fix_f1_place_trackFault_1_ok h1) [] [] [] ?_
  refine aR 2 ?_
  refine aE ?_
  refine awp_ret ?_
  exact oF hF [] []

/-! ### beaconfleet/place.trackFault -/
def place_trackFault_R (ql : List api_Fix) (r : Int) : TV × Mem := (.v (.one (.d (.int .i64 r))), ⟨[], []⟩)

theorem place_trackFault_ok {ql : List api_Fix} {r} (hF : place_trackFault ql = some r) : Holds prog 32 [.v (.one (.d (.lst (List.map api_Fix.enc ql))))] ⟨[], []⟩ (Is (place_trackFault_R ql r)) := by
  unfold place_trackFault at hF
  refine holds_of_awp hΓ (fn := f32) (c := cB f32) (A := 0) (nx := 0) (by kernel_rfl) (by kernel_rfl) (by kernel_rfl) (by kernel_rfl) (by kernel_rfl) (by kernel_rfl) (lowc_of (by kernel_rfl)) ?_
  show Awp prog 0 12 (cB f32) _ _
  refine awp_seq ?_
  refine awp_region ?_
  refine aR 2 ?_
  refine aE ?_
  refine awp_seq ?_
  refine awp_seq ?_
  refine bE hF fun vr6 h1 hF => ?_
  refine awp_region ?_
  refine aR 1 ?_
  refine aC (place_CheckFixes_ok h1) [] [] [] ?_
  refine aR 1 ?_
  refine aE ?_
  refine awp_seq ?_
  refine awp_region ?_
  refine aR 2 ?_
  refine aE ?_
  refine cE hF (fun h2 hF => ?_) fun h2 hF => ?_
  · refine awp_true (by kernel_rfl) h2 ?_
    refine awp_seq ?_
    refine awp_region ?_
    refine aR 2 ?_
    refine aE ?_
    refine awp_ret ?_
    exact oF hF [] []
  · refine awp_false (by kernel_rfl) h2 ?_
    refine awp_skip ?_
    refine awp_seq ?_
    refine awp_seq ?_
    refine bE hF fun vr h3 hF => ?_
    refine awp_region ?_
    refine aR 2 ?_
    refine aC (slices_ContainsFunc_api_Fix_api_Fix_f1_place_trackFault_1_ok h3) [] [] [] ?_
    refine aE ?_
    refine cE hF (fun h4 hF => ?_) fun h4 hF => ?_
    · refine awp_true (by kernel_rfl) h4 ?_
      refine awp_seq ?_
      refine awp_region ?_
      refine aR 1 ?_
      refine aE ?_
      refine awp_ret ?_
      exact oF hF [] []
    · refine awp_false (by kernel_rfl) h4 ?_
      refine awp_skip ?_
      refine awp_seq ?_
      refine awp_region ?_
      refine aR 1 ?_
      refine aE ?_
      refine awp_ret ?_
      exact oF hF [] []

/-! ### beaconfleet/place.square -/
def place_square_R (qa : api_Spot) (qb : api_Spot) (r : Unit) : TV × Mem := (.v (.one (.d (.int .i64 (IntKind.wrap .i64 ((IntKind.wrap .i64 ((IntKind.wrap .i64 (qa.X - qb.X)) * (IntKind.wrap .i64 (qa.X - qb.X)))) + (IntKind.wrap .i64 ((IntKind.wrap .i64 (qa.Y - qb.Y)) * (IntKind.wrap .i64 (qa.Y - qb.Y))))))))), ⟨[], []⟩)

theorem place_square_ok {qa : api_Spot} {qb : api_Spot} {r} (hF : place_square qa qb = some r) : Holds prog 39 [.v (.agg [.d (.int .i64 qa.X), .d (.int .i64 qa.Y)]), .v (.agg [.d (.int .i64 qb.X), .d (.int .i64 qb.Y)])] ⟨[], []⟩ (Is (place_square_R qa qb r)) := by
  unfold place_square at hF
  refine holds_of_awp hΓ (fn := f39) (c := cB f39) (A := 0) (nx := 0) (by kernel_rfl) (by kernel_rfl) (by kernel_rfl) (by kernel_rfl) (by kernel_rfl) (by kernel_rfl) (lowc_of (by kernel_rfl)) ?_
  show Awp prog 0 28 (cB f39) _ _
  refine awp_seq ?_
  refine awp_region ?_
  refine aR 3 ?_
  refine aE ?_
  refine awp_seq ?_
  refine awp_region ?_
  refine aR 24 ?_
  refine aE ?_
  refine awp_ret ?_
  exact oF hF [] []

/-! ### beaconfleet/place.side -/
def place_side_R (qa : api_Spot) (qb : api_Spot) (qs : api_Spot) (r : Unit) : TV × Mem := (.v (.one (.d (.int .i64 (IntKind.wrap .i64 ((IntKind.wrap .i64 ((IntKind.wrap .i64 (qb.X - qa.X)) * (IntKind.wrap .i64 (qs.Y - qa.Y)))) - (IntKind.wrap .i64 ((IntKind.wrap .i64 (qb.Y - qa.Y)) * (IntKind.wrap .i64 (qs.X - qa.X))))))))), ⟨[], []⟩)

theorem place_side_ok {qa : api_Spot} {qb : api_Spot} {qs : api_Spot} {r} (hF : place_side qa qb qs = some r) : Holds prog 76 [.v (.agg [.d (.int .i64 qa.X), .d (.int .i64 qa.Y)]), .v (.agg [.d (.int .i64 qb.X), .d (.int .i64 qb.Y)]), .v (.agg [.d (.int .i64 qs.X), .d (.int .i64 qs.Y)])] ⟨[], []⟩ (Is (place_side_R qa qb qs r)) := by
  unfold place_side at hF
  refine holds_of_awp hΓ (fn := f76) (c := cB f76) (A := 0) (nx := 0) (by kernel_rfl) (by kernel_rfl) (by kernel_rfl) (by kernel_rfl) (by kernel_rfl) (by kernel_rfl) (lowc_of (by kernel_rfl)) ?_
  show Awp prog 0 30 (cB f76) _ _
  refine awp_seq ?_
  refine awp_region ?_
  refine aR 4 ?_
  refine aE ?_
  refine awp_seq ?_
  refine awp_region ?_
  refine aR 24 ?_
  refine aE ?_
  refine awp_ret ?_
  exact oF hF [] []

/-! ### beaconfleet/base.Gcd -/
def base_Gcd_x1_k : Int → AEx
  | _ => .exit 0

def base_Gcd_x1_S : Int → St
  | va1 => Mem.st ⟨[], []⟩ (tl [(0, .v (.one (.d (.int .i64 va1))))]) 0

def base_Gcd_x1_H : Int × Int → St
  | (va, vb) => Mem.st ⟨[], []⟩ (tl [(0, .v (.one (.d (.int .i64 va)))), (1, .v (.one (.d (.int .i64 vb))))]) 0

theorem base_Gcd_x1_ok (s : Int × Int) (r : (Int × Int) ⊕ (Int)) (hF : base_Gcd_x1  s = some r) : Awp prog 0 12 (cL (cL (cL (cR (cB f117))))) (Out 0 (kk base_Gcd_x1_k) (SS (base_Gcd_x1_H ) (base_Gcd_x1_S )) r) (base_Gcd_x1_H  s) := by
  obtain ⟨va, vb⟩ := s
  unfold base_Gcd_x1 at hF
  refine awp_seq ?_
  refine awp_seq ?_
  refine awp_region ?_
  refine aR 2 ?_
  refine aE ?_
  refine cE hF (fun h1 hF => ?_) fun h1 hF => ?_
  · refine awp_true (by kernel_rfl) h1 ?_
    refine awp_skip ?_
    refine awp_block ?_
    refine gE hF fun h2 hF => ?_
    refine aD ?_
    refine dR 3 ?_
    refine dX (x_rem h2) ?_
    refine dR 2 ?_
    refine dE ?_
    exact oO hF [] [] rfl
  · refine awp_false (by kernel_rfl) h1 ?_
    refine awp_exit ?_
    exact oO hF [] [] rfl

def base_Gcd_R (qa : Int) (qb : Int) (r : Int) : TV × Mem := (.v (.one (.d (.int .i64 r))), ⟨[], []⟩)

theorem base_Gcd_ok {qa : Int} {qb : Int} {r} (hF : base_Gcd qa qb = some r) : Holds prog 117 [.v (.one (.d (.int .i64 qa))), .v (.one (.d (.int .i64 qb)))] ⟨[], []⟩ (Is (base_Gcd_R qa qb r)) := by
  unfold base_Gcd at hF
  refine holds_of_awp hΓ (fn := f117) (c := cB f117) (A := 0) (nx := 0) (by kernel_rfl) (by kernel_rfl) (by kernel_rfl) (by kernel_rfl) (by kernel_rfl) (by kernel_rfl) (lowc_of (by kernel_rfl)) ?_
  show Awp prog 0 12 (cB f117) _ _
  refine awp_seq ?_
  refine awp_region ?_
  refine aR 1 ?_
  refine aE ?_
  refine awp_seq ?_
  refine awp_block ?_
  refine awp_to (st' := base_Gcd_x1_H  (qa, qb)) (oT [] []) ?_
  refine bE hF fun va1_1 h3 hF => ?_
  refine awp_sub (awp_loop' (base_Gcd_x1_H ) base_Gcd_x1_k (base_Gcd_x1_S ) (by intro x; exact fun h => nomatch h) h3 (base_Gcd_x1_ok )) ?_
  refine awp_seq ?_
  refine awp_region ?_
  refine aR 2 ?_
  refine aE ?_
  refine awp_ret ?_
  exact oF hF [] []

/-! ### beaconfleet/base.Fraction -/
def base_Fraction_R (qnum : Int) (qden : Int) (r : api_Fraction) : TV × Mem := (.v (.agg [.d (.int .i64 r.Num), .d (.int .i64 r.Den)]), ⟨[], []⟩)

theorem base_Fraction_ok {qnum : Int} {qden : Int} {r} (hF : base_Fraction qnum qden = some r) : Holds prog 77 [.v (.one (.d (.int .i64 qnum))), .v (.one (.d (.int .i64 qden)))] ⟨[], []⟩ (Is (base_Fraction_R qnum qden r)) := by
  unfold base_Fraction at hF
  refine holds_of_awp hΓ (fn := f77) (c := cB f77) (A := 0) (nx := 0) (by kernel_rfl) (by kernel_rfl) (by kernel_rfl) (by kernel_rfl) (by kernel_rfl) (by kernel_rfl) (lowc_of (by kernel_rfl)) ?_
  show Awp prog 0 19 (cB f77) _ _
  refine awp_seq ?_
  refine awp_region ?_
  refine aR 1 ?_
  refine aE ?_
  refine awp_seq ?_
  refine bE hF fun vr h1 hF => ?_
  refine awp_region ?_
  refine aR 5 ?_
  refine aC (base_Gcd_ok h1) [] [] [] ?_
  refine aR 1 ?_
  refine aE ?_
  refine awp_seq ?_
  refine gE hF fun h2 hF => ?_
  refine aD ?_
  refine dR 2 ?_
  refine dX (x_quo h2) ?_
  refine dR 2 ?_
  refine dX (x_quo h2) ?_
  refine dR 2 ?_
  refine dE ?_
  refine awp_ret ?_
  exact oF hF [] []

/-! ### beaconfleet/place.far -/
def place_far_R (qa : api_Spot) (qb : api_Spot) (qs : api_Spot) (r : api_Fraction) : TV × Mem := (.v (.agg [.d (.int .i64 r.Num), .d (.int .i64 r.Den)]), ⟨[], []⟩)

theorem place_far_ok {qa : api_Spot} {qb : api_Spot} {qs : api_Spot} {r} (hF : place_far qa qb qs = some r) : Holds prog 35 [.v (.agg [.d (.int .i64 qa.X), .d (.int .i64 qa.Y)]), .v (.agg [.d (.int .i64 qb.X), .d (.int .i64 qb.Y)]), .v (.agg [.d (.int .i64 qs.X), .d (.int .i64 qs.Y)])] ⟨[], []⟩ (Is (place_far_R qa qb qs r)) := by
  unfold place_far at hF
  refine holds_of_awp hΓ (fn := f35) (c := cB f35) (A := 0) (nx := 0) (by kernel_rfl) (by kernel_rfl) (by kernel_rfl) (by kernel_rfl) (by kernel_rfl) (by kernel_rfl) (lowc_of (by kernel_rfl)) ?_
  show Awp prog 0 60 (cB f35) _ _
  refine awp_seq ?_
  refine awp_region ?_
  refine aR 4 ?_
  refine aE ?_
  refine awp_seq ?_
  refine bE hF fun _ h1 hF => ?_
  refine awp_region ?_
  refine aR 2 ?_
  refine aC (place_square_ok h1) [] [] [] ?_
  refine aR 1 ?_
  refine aE ?_
  refine awp_seq ?_
  refine awp_region ?_
  refine aR 24 ?_
  refine aE ?_
  refine awp_seq ?_
  refine awp_block ?_
  refine awp_seq ?_
  refine awp_region ?_
  refine aR 3 ?_
  refine aE ?_
  refine cE hF (fun h2 hF => ?_) fun h2 hF => ?_
  · refine awp_true (by kernel_rfl) h2 ?_
    refine awp_seq ?_
    refine bE hF fun _ h3 hF => ?_
    refine awp_region ?_
    refine aR 2 ?_
    refine aC (place_square_ok h3) [] [] [] ?_
    refine aR 2 ?_
    refine aE ?_
    refine awp_ret ?_
    exact oF hF [] []
  · refine awp_false (by kernel_rfl) h2 ?_
    refine awp_seq ?_
    refine awp_region ?_
    refine aR 4 ?_
    refine aE ?_
    refine cE hF (fun h4 hF => ?_) fun h4 hF => ?_
    · refine awp_true (by kernel_rfl) h4 ?_
      refine awp_seq ?_
      refine bE hF fun _ h5 hF => ?_
      refine awp_region ?_
      refine aR 2 ?_
      refine aC (place_square_ok h5) [] [] [] ?_
      refine aR 2 ?_
      refine aE ?_
      refine awp_ret ?_
      exact oF hF [] []
    · refine awp_false (by kernel_rfl) h4 ?_
      refine awp_skip ?_
      refine awp_seq ?_
      refine bE hF fun _ h6 hF => ?_
      refine awp_region ?_
      refine aR 3 ?_
      refine aC (place_side_ok h6) [] [] [] ?_
      refine aR 1 ?_
      refine aE ?_
      refine awp_seq ?_
      refine bE hF fun vr1 h7 hF => ?_
      refine awp_region ?_
      refine aR 4 ?_
      refine aC (base_Fraction_ok h7) [] [] [] ?_
      refine aR 1 ?_
      refine aE ?_
      refine awp_ret ?_
      exact oF hF [] []

/-! ### math/bits.Mul64 -/
def bits_Mul64_R (qx : Int) (qy : Int) (r : Unit) : TV × Mem := (.tup [.one (.d (.int .u64 (IntKind.wrap .u64 ((IntKind.wrap .u64 ((IntKind.wrap .u64 ((ishr .u64 qx 32) * (ishr .u64 qy 32))) + (ishr .u64 (IntKind.wrap .u64 ((IntKind.wrap .u64 ((ishr .u64 qx 32) * (ibits .and .u64 qy 4294967295))) + (ishr .u64 (IntKind.wrap .u64 ((ibits .and .u64 qx 4294967295) * (ibits .and .u64 qy 4294967295))) 32))) 32))) + (ishr .u64 (IntKind.wrap .u64 ((ibits .and .u64 (IntKind.wrap .u64 ((IntKind.wrap .u64 ((ishr .u64 qx 32) * (ibits .and .u64 qy 4294967295))) + (ishr .u64 (IntKind.wrap .u64 ((ibits .and .u64 qx 4294967295) * (ibits .and .u64 qy 4294967295))) 32))) 4294967295) + (IntKind.wrap .u64 ((ibits .and .u64 qx 4294967295) * (ishr .u64 qy 32))))) 32))))), .one (.d (.int .u64 (IntKind.wrap .u64 (qx * qy))))], ⟨[], []⟩)

theorem bits_Mul64_ok {qx : Int} {qy : Int} {r} (hF : bits_Mul64 qx qy = some r) : Holds prog 118 [.v (.one (.d (.int .u64 qx))), .v (.one (.d (.int .u64 qy)))] ⟨[], []⟩ (Is (bits_Mul64_R qx qy r)) := by
  unfold bits_Mul64 at hF
  refine holds_of_awp hΓ (fn := f118) (c := cB f118) (A := 0) (nx := 0) (by kernel_rfl) (by kernel_rfl) (by kernel_rfl) (by kernel_rfl) (by kernel_rfl) (by kernel_rfl) (lowc_of (by kernel_rfl)) ?_
  show Awp prog 0 51 (cB f118) _ _
  refine awp_seq ?_
  refine awp_region ?_
  refine aR 2 ?_
  refine aE ?_
  refine awp_seq ?_
  refine awp_region ?_
  refine aR 3 ?_
  refine aE ?_
  refine awp_seq ?_
  refine awp_region ?_
  refine aR 3 ?_
  refine aE ?_
  refine awp_seq ?_
  refine awp_region ?_
  refine aR 3 ?_
  refine aE ?_
  refine awp_seq ?_
  refine awp_region ?_
  refine aR 3 ?_
  refine aE ?_
  refine awp_seq ?_
  refine awp_region ?_
  refine aR 4 ?_
  refine aE ?_
  refine awp_seq ?_
  refine awp_region ?_
  refine aR 7 ?_
  refine aE ?_
  refine awp_seq ?_
  refine awp_region ?_
  refine aR 3 ?_
  refine aE ?_
  refine awp_seq ?_
  refine awp_region ?_
  refine aR 3 ?_
  refine aE ?_
  refine awp_seq ?_
  refine awp_region ?_
  refine aR 6 ?_
  refine aE ?_
  refine awp_seq ?_
  refine awp_region ?_
  refine aR 9 ?_
  refine aE ?_
  refine awp_seq ?_
  refine awp_region ?_
  refine aR 4 ?_
  refine aE ?_
  refine awp_ret ?_
  exact oF hF [] []

/-! ### beaconfleet/base.CompareProducts -/
def base_CompareProducts_x2_k : Bool → AEx
  | _ => .normal

def base_CompareProducts_x2_S (qa : Int) (qb : Int) (qc : Int) (qd : Int) : Bool → St
  | vx => Mem.st ⟨[], []⟩ (tl [(9, .v (.one (.d (.int .u64 (IntKind.wrap .u64 ((IntKind.wrap .u64 ((IntKind.wrap .u64 ((ishr .u64 (IntKind.wrap .u64 (qa)) 32) * (ishr .u64 (IntKind.wrap .u64 (qb)) 32))) + (ishr .u64 (IntKind.wrap .u64 ((IntKind.wrap .u64 ((ishr .u64 (IntKind.wrap .u64 (qa)) 32) * (ibits .and .u64 (IntKind.wrap .u64 (qb)) 4294967295))) + (ishr .u64 (IntKind.wrap .u64 ((ibits .and .u64 (IntKind.wrap .u64 (qa)) 4294967295) * (ibits .and .u64 (IntKind.wrap .u64 (qb)) 4294967295))) 32))) 32))) + (ishr .u64 (IntKind.wrap .u64 ((ibits .and .u64 (IntKind.wrap .u64 ((IntKind.wrap .u64 ((ishr .u64 (IntKind.wrap .u64 (qa)) 32) * (ibits .and .u64 (IntKind.wrap .u64 (qb)) 4294967295))) + (ishr .u64 (IntKind.wrap .u64 ((ibits .and .u64 (IntKind.wrap .u64 (qa)) 4294967295) * (ibits .and .u64 (IntKind.wrap .u64 (qb)) 4294967295))) 32))) 4294967295) + (IntKind.wrap .u64 ((ibits .and .u64 (IntKind.wrap .u64 (qa)) 4294967295) * (ishr .u64 (IntKind.wrap .u64 (qb)) 32))))) 32))))))), (10, .v (.one (.d (.int .u64 (IntKind.wrap .u64 ((IntKind.wrap .u64 (qa)) * (IntKind.wrap .u64 (qb)))))))), (11, .v (.one (.d (.int .u64 (IntKind.wrap .u64 ((IntKind.wrap .u64 ((IntKind.wrap .u64 ((ishr .u64 (IntKind.wrap .u64 (qc)) 32) * (ishr .u64 (IntKind.wrap .u64 (qd)) 32))) + (ishr .u64 (IntKind.wrap .u64 ((IntKind.wrap .u64 ((ishr .u64 (IntKind.wrap .u64 (qc)) 32) * (ibits .and .u64 (IntKind.wrap .u64 (qd)) 4294967295))) + (ishr .u64 (IntKind.wrap .u64 ((ibits .and .u64 (IntKind.wrap .u64 (qc)) 4294967295) * (ibits .and .u64 (IntKind.wrap .u64 (qd)) 4294967295))) 32))) 32))) + (ishr .u64 (IntKind.wrap .u64 ((ibits .and .u64 (IntKind.wrap .u64 ((IntKind.wrap .u64 ((ishr .u64 (IntKind.wrap .u64 (qc)) 32) * (ibits .and .u64 (IntKind.wrap .u64 (qd)) 4294967295))) + (ishr .u64 (IntKind.wrap .u64 ((ibits .and .u64 (IntKind.wrap .u64 (qc)) 4294967295) * (ibits .and .u64 (IntKind.wrap .u64 (qd)) 4294967295))) 32))) 4294967295) + (IntKind.wrap .u64 ((ibits .and .u64 (IntKind.wrap .u64 (qc)) 4294967295) * (ishr .u64 (IntKind.wrap .u64 (qd)) 32))))) 32))))))), (12, .v (.one (.d (.int .u64 (IntKind.wrap .u64 ((IntKind.wrap .u64 (qc)) * (IntKind.wrap .u64 (qd)))))))), (29, .v (.one (.d (.bool vx))))]) 0

def base_CompareProducts_x2_I (qa : Int) (qb : Int) (qc : Int) (qd : Int) : St := Mem.st ⟨[], []⟩ (tl [(9, .v (.one (.d (.int .u64 (IntKind.wrap .u64 ((IntKind.wrap .u64 ((IntKind.wrap .u64 ((ishr .u64 (IntKind.wrap .u64 (qa)) 32) * (ishr .u64 (IntKind.wrap .u64 (qb)) 32))) + (ishr .u64 (IntKind.wrap .u64 ((IntKind.wrap .u64 ((ishr .u64 (IntKind.wrap .u64 (qa)) 32) * (ibits .and .u64 (IntKind.wrap .u64 (qb)) 4294967295))) + (ishr .u64 (IntKind.wrap .u64 ((ibits .and .u64 (IntKind.wrap .u64 (qa)) 4294967295) * (ibits .and .u64 (IntKind.wrap .u64 (qb)) 4294967295))) 32))) 32))) + (ishr .u64 (IntKind.wrap .u64 ((ibits .and .u64 (IntKind.wrap .u64 ((IntKind.wrap .u64 ((ishr .u64 (IntKind.wrap .u64 (qa)) 32) * (ibits .and .u64 (IntKind.wrap .u64 (qb)) 4294967295))) + (ishr .u64 (IntKind.wrap .u64 ((ibits .and .u64 (IntKind.wrap .u64 (qa)) 4294967295) * (ibits .and .u64 (IntKind.wrap .u64 (qb)) 4294967295))) 32))) 4294967295) + (IntKind.wrap .u64 ((ibits .and .u64 (IntKind.wrap .u64 (qa)) 4294967295) * (ishr .u64 (IntKind.wrap .u64 (qb)) 32))))) 32))))))), (10, .v (.one (.d (.int .u64 (IntKind.wrap .u64 ((IntKind.wrap .u64 (qa)) * (IntKind.wrap .u64 (qb)))))))), (11, .v (.one (.d (.int .u64 (IntKind.wrap .u64 ((IntKind.wrap .u64 ((IntKind.wrap .u64 ((ishr .u64 (IntKind.wrap .u64 (qc)) 32) * (ishr .u64 (IntKind.wrap .u64 (qd)) 32))) + (ishr .u64 (IntKind.wrap .u64 ((IntKind.wrap .u64 ((ishr .u64 (IntKind.wrap .u64 (qc)) 32) * (ibits .and .u64 (IntKind.wrap .u64 (qd)) 4294967295))) + (ishr .u64 (IntKind.wrap .u64 ((ibits .and .u64 (IntKind.wrap .u64 (qc)) 4294967295) * (ibits .and .u64 (IntKind.wrap .u64 (qd)) 4294967295))) 32))) 32))) + (ishr .u64 (IntKind.wrap .u64 ((ibits .and .u64 (IntKind.wrap .u64 ((IntKind.wrap .u64 ((ishr .u64 (IntKind.wrap .u64 (qc)) 32) * (ibits .and .u64 (IntKind.wrap .u64 (qd)) 4294967295))) + (ishr .u64 (IntKind.wrap .u64 ((ibits .and .u64 (IntKind.wrap .u64 (qc)) 4294967295) * (ibits .and .u64 (IntKind.wrap .u64 (qd)) 4294967295))) 32))) 4294967295) + (IntKind.wrap .u64 ((ibits .and .u64 (IntKind.wrap .u64 (qc)) 4294967295) * (ishr .u64 (IntKind.wrap .u64 (qd)) 32))))) 32))))))), (12, .v (.one (.d (.int .u64 (IntKind.wrap .u64 ((IntKind.wrap .u64 (qc)) * (IntKind.wrap .u64 (qd))))))))]) 0

theorem base_CompareProducts_x2_ok (qa : Int) (qb : Int) (qc : Int) (qd : Int) {r} (hF : base_CompareProducts_x2 qa qb qc qd = some r) : Awp prog 0 55 (cL (cL (cL (cL (cR (cR (cR (cB f78)))))))) (Out 0 base_CompareProducts_x2_k (base_CompareProducts_x2_S qa qb qc qd) r) (base_CompareProducts_x2_I qa qb qc qd) := by
  unfold base_CompareProducts_x2 at hF
  refine cE hF (fun h3 hF => ?_) fun h3 hF => ?_
  · refine awp_region ?_
    refine aR 2 ?_
    refine aB h3 ?_
    refine aR 6 ?_
    refine aE ?_
    exact oO hF [] [] rfl
  · refine awp_region ?_
    refine aR 2 ?_
    refine aB h3 ?_
    refine aR 6 ?_
    refine aE ?_
    exact oO hF [] [] rfl

def base_CompareProducts_x1_k : Bool → AEx
  | _ => .normal

def base_CompareProducts_x1_S (qa : Int) (qb : Int) (qc : Int) (qd : Int) : Bool → St
  | vx2 => Mem.st ⟨[], []⟩ (tl [(9, .v (.one (.d (.int .u64 (IntKind.wrap .u64 ((IntKind.wrap .u64 ((IntKind.wrap .u64 ((ishr .u64 (IntKind.wrap .u64 (qa)) 32) * (ishr .u64 (IntKind.wrap .u64 (qb)) 32))) + (ishr .u64 (IntKind.wrap .u64 ((IntKind.wrap .u64 ((ishr .u64 (IntKind.wrap .u64 (qa)) 32) * (ibits .and .u64 (IntKind.wrap .u64 (qb)) 4294967295))) + (ishr .u64 (IntKind.wrap .u64 ((ibits .and .u64 (IntKind.wrap .u64 (qa)) 4294967295) * (ibits .and .u64 (IntKind.wrap .u64 (qb)) 4294967295))) 32))) 32))) + (ishr .u64 (IntKind.wrap .u64 ((ibits .and .u64 (IntKind.wrap .u64 ((IntKind.wrap .u64 ((ishr .u64 (IntKind.wrap .u64 (qa)) 32) * (ibits .and .u64 (IntKind.wrap .u64 (qb)) 4294967295))) + (ishr .u64 (IntKind.wrap .u64 ((ibits .and .u64 (IntKind.wrap .u64 (qa)) 4294967295) * (ibits .and .u64 (IntKind.wrap .u64 (qb)) 4294967295))) 32))) 4294967295) + (IntKind.wrap .u64 ((ibits .and .u64 (IntKind.wrap .u64 (qa)) 4294967295) * (ishr .u64 (IntKind.wrap .u64 (qb)) 32))))) 32))))))), (10, .v (.one (.d (.int .u64 (IntKind.wrap .u64 ((IntKind.wrap .u64 (qa)) * (IntKind.wrap .u64 (qb)))))))), (11, .v (.one (.d (.int .u64 (IntKind.wrap .u64 ((IntKind.wrap .u64 ((IntKind.wrap .u64 ((ishr .u64 (IntKind.wrap .u64 (qc)) 32) * (ishr .u64 (IntKind.wrap .u64 (qd)) 32))) + (ishr .u64 (IntKind.wrap .u64 ((IntKind.wrap .u64 ((ishr .u64 (IntKind.wrap .u64 (qc)) 32) * (ibits .and .u64 (IntKind.wrap .u64 (qd)) 4294967295))) + (ishr .u64 (IntKind.wrap .u64 ((ibits .and .u64 (IntKind.wrap .u64 (qc)) 4294967295) * (ibits .and .u64 (IntKind.wrap .u64 (qd)) 4294967295))) 32))) 32))) + (ishr .u64 (IntKind.wrap .u64 ((ibits .and .u64 (IntKind.wrap .u64 ((IntKind.wrap .u64 ((ishr .u64 (IntKind.wrap .u64 (qc)) 32) * (ibits .and .u64 (IntKind.wrap .u64 (qd)) 4294967295))) + (ishr .u64 (IntKind.wrap .u64 ((ibits .and .u64 (IntKind.wrap .u64 (qc)) 4294967295) * (ibits .and .u64 (IntKind.wrap .u64 (qd)) 4294967295))) 32))) 4294967295) + (IntKind.wrap .u64 ((ibits .and .u64 (IntKind.wrap .u64 (qc)) 4294967295) * (ishr .u64 (IntKind.wrap .u64 (qd)) 32))))) 32))))))), (12, .v (.one (.d (.int .u64 (IntKind.wrap .u64 ((IntKind.wrap .u64 (qc)) * (IntKind.wrap .u64 (qd)))))))), (29, .v (.one (.d (.bool vx2))))]) 0

def base_CompareProducts_x1_I (qa : Int) (qb : Int) (qc : Int) (qd : Int) : St := Mem.st ⟨[], []⟩ (tl [(9, .v (.one (.d (.int .u64 (IntKind.wrap .u64 ((IntKind.wrap .u64 ((IntKind.wrap .u64 ((ishr .u64 (IntKind.wrap .u64 (qa)) 32) * (ishr .u64 (IntKind.wrap .u64 (qb)) 32))) + (ishr .u64 (IntKind.wrap .u64 ((IntKind.wrap .u64 ((ishr .u64 (IntKind.wrap .u64 (qa)) 32) * (ibits .and .u64 (IntKind.wrap .u64 (qb)) 4294967295))) + (ishr .u64 (IntKind.wrap .u64 ((ibits .and .u64 (IntKind.wrap .u64 (qa)) 4294967295) * (ibits .and .u64 (IntKind.wrap .u64 (qb)) 4294967295))) 32))) 32))) + (ishr .u64 (IntKind.wrap .u64 ((ibits .and .u64 (IntKind.wrap .u64 ((IntKind.wrap .u64 ((ishr .u64 (IntKind.wrap .u64 (qa)) 32) * (ibits .and .u64 (IntKind.wrap .u64 (qb)) 4294967295))) + (ishr .u64 (IntKind.wrap .u64 ((ibits .and .u64 (IntKind.wrap .u64 (qa)) 4294967295) * (ibits .and .u64 (IntKind.wrap .u64 (qb)) 4294967295))) 32))) 4294967295) + (IntKind.wrap .u64 ((ibits .and .u64 (IntKind.wrap .u64 (qa)) 4294967295) * (ishr .u64 (IntKind.wrap .u64 (qb)) 32))))) 32))))))), (10, .v (.one (.d (.int .u64 (IntKind.wrap .u64 ((IntKind.wrap .u64 (qa)) * (IntKind.wrap .u64 (qb)))))))), (11, .v (.one (.d (.int .u64 (IntKind.wrap .u64 ((IntKind.wrap .u64 ((IntKind.wrap .u64 ((ishr .u64 (IntKind.wrap .u64 (qc)) 32) * (ishr .u64 (IntKind.wrap .u64 (qd)) 32))) + (ishr .u64 (IntKind.wrap .u64 ((IntKind.wrap .u64 ((ishr .u64 (IntKind.wrap .u64 (qc)) 32) * (ibits .and .u64 (IntKind.wrap .u64 (qd)) 4294967295))) + (ishr .u64 (IntKind.wrap .u64 ((ibits .and .u64 (IntKind.wrap .u64 (qc)) 4294967295) * (ibits .and .u64 (IntKind.wrap .u64 (qd)) 4294967295))) 32))) 32))) + (ishr .u64 (IntKind.wrap .u64 ((ibits .and .u64 (IntKind.wrap .u64 ((IntKind.wrap .u64 ((ishr .u64 (IntKind.wrap .u64 (qc)) 32) * (ibits .and .u64 (IntKind.wrap .u64 (qd)) 4294967295))) + (ishr .u64 (IntKind.wrap .u64 ((ibits .and .u64 (IntKind.wrap .u64 (qc)) 4294967295) * (ibits .and .u64 (IntKind.wrap .u64 (qd)) 4294967295))) 32))) 4294967295) + (IntKind.wrap .u64 ((ibits .and .u64 (IntKind.wrap .u64 (qc)) 4294967295) * (ishr .u64 (IntKind.wrap .u64 (qd)) 32))))) 32))))))), (12, .v (.one (.d (.int .u64 (IntKind.wrap .u64 ((IntKind.wrap .u64 (qc)) * (IntKind.wrap .u64 (qd))))))))]) 0

theorem base_CompareProducts_x1_ok (qa : Int) (qb : Int) (qc : Int) (qd : Int) {r} (hF : base_CompareProducts_x1 qa qb qc qd = some r) : Awp prog 0 55 (cL (cL (cL (cR (cR (cR (cB f78))))))) (Out 0 base_CompareProducts_x1_k (base_CompareProducts_x1_S qa qb qc qd) r) (base_CompareProducts_x1_I qa qb qc qd) := by
  unfold base_CompareProducts_x1 at hF
  refine awp_seq ?_
  refine awp_to (st' := base_CompareProducts_x2_I qa qb qc qd) (oT [] []) ?_
  refine bE hF fun vx1 h4 hF => ?_
  refine awp_sub (base_CompareProducts_x2_ok qa qb qc qd h4) ?_
  refine cE hF (fun h5 hF => ?_) fun h5 hF => ?_
  · refine awp_true (by kernel_rfl) h5 ?_
    refine awp_skip ?_
    exact oO hF [] [] rfl
  · refine awp_false (by kernel_rfl) h5 ?_
    refine cE hF (fun h6 hF => ?_) fun h6 hF => ?_
    · refine awp_region ?_
      refine aR 2 ?_
      refine aB h6 ?_
      refine aR 6 ?_
      refine aE ?_
      exact oO hF [] [] rfl
    · refine awp_region ?_
      refine aR 2 ?_
      refine aB h6 ?_
      refine aR 6 ?_
      refine aE ?_
      exact oO hF [] [] rfl

def base_CompareProducts_x3_k : Bool → AEx
  | _ => .normal

def base_CompareProducts_x3_S (qa : Int) (qb : Int) (qc : Int) (qd : Int) : Bool → St
  | vx3 => Mem.st ⟨[], []⟩ (tl [(46, .v (.one (.d (.bool vx3))))]) 0

def base_CompareProducts_x3_I (qa : Int) (qb : Int) (qc : Int) (qd : Int) : St := Mem.st ⟨[], []⟩ (tl [(9, .v (.one (.d (.int .u64 (IntKind.wrap .u64 ((IntKind.wrap .u64 ((IntKind.wrap .u64 ((ishr .u64 (IntKind.wrap .u64 (qa)) 32) * (ishr .u64 (IntKind.wrap .u64 (qb)) 32))) + (ishr .u64 (IntKind.wrap .u64 ((IntKind.wrap .u64 ((ishr .u64 (IntKind.wrap .u64 (qa)) 32) * (ibits .and .u64 (IntKind.wrap .u64 (qb)) 4294967295))) + (ishr .u64 (IntKind.wrap .u64 ((ibits .and .u64 (IntKind.wrap .u64 (qa)) 4294967295) * (ibits .and .u64 (IntKind.wrap .u64 (qb)) 4294967295))) 32))) 32))) + (ishr .u64 (IntKind.wrap .u64 ((ibits .and .u64 (IntKind.wrap .u64 ((IntKind.wrap .u64 ((ishr .u64 (IntKind.wrap .u64 (qa)) 32) * (ibits .and .u64 (IntKind.wrap .u64 (qb)) 4294967295))) + (ishr .u64 (IntKind.wrap .u64 ((ibits .and .u64 (IntKind.wrap .u64 (qa)) 4294967295) * (ibits .and .u64 (IntKind.wrap .u64 (qb)) 4294967295))) 32))) 4294967295) + (IntKind.wrap .u64 ((ibits .and .u64 (IntKind.wrap .u64 (qa)) 4294967295) * (ishr .u64 (IntKind.wrap .u64 (qb)) 32))))) 32))))))), (10, .v (.one (.d (.int .u64 (IntKind.wrap .u64 ((IntKind.wrap .u64 (qa)) * (IntKind.wrap .u64 (qb)))))))), (11, .v (.one (.d (.int .u64 (IntKind.wrap .u64 ((IntKind.wrap .u64 ((IntKind.wrap .u64 ((ishr .u64 (IntKind.wrap .u64 (qc)) 32) * (ishr .u64 (IntKind.wrap .u64 (qd)) 32))) + (ishr .u64 (IntKind.wrap .u64 ((IntKind.wrap .u64 ((ishr .u64 (IntKind.wrap .u64 (qc)) 32) * (ibits .and .u64 (IntKind.wrap .u64 (qd)) 4294967295))) + (ishr .u64 (IntKind.wrap .u64 ((ibits .and .u64 (IntKind.wrap .u64 (qc)) 4294967295) * (ibits .and .u64 (IntKind.wrap .u64 (qd)) 4294967295))) 32))) 32))) + (ishr .u64 (IntKind.wrap .u64 ((ibits .and .u64 (IntKind.wrap .u64 ((IntKind.wrap .u64 ((ishr .u64 (IntKind.wrap .u64 (qc)) 32) * (ibits .and .u64 (IntKind.wrap .u64 (qd)) 4294967295))) + (ishr .u64 (IntKind.wrap .u64 ((ibits .and .u64 (IntKind.wrap .u64 (qc)) 4294967295) * (ibits .and .u64 (IntKind.wrap .u64 (qd)) 4294967295))) 32))) 4294967295) + (IntKind.wrap .u64 ((ibits .and .u64 (IntKind.wrap .u64 (qc)) 4294967295) * (ishr .u64 (IntKind.wrap .u64 (qd)) 32))))) 32))))))), (12, .v (.one (.d (.int .u64 (IntKind.wrap .u64 ((IntKind.wrap .u64 (qc)) * (IntKind.wrap .u64 (qd))))))))]) 0

theorem base_CompareProducts_x3_ok (qa : Int) (qb : Int) (qc : Int) (qd : Int) {r} (hF : base_CompareProducts_x3 qa qb qc qd = some r) : Awp prog 0 55 (cL (cR (cR (cL (cL (cR (cR (cR (cB f78))))))))) (Out 0 base_CompareProducts_x3_k (base_CompareProducts_x3_S qa qb qc qd) r) (base_CompareProducts_x3_I qa qb qc qd) := by
  unfold base_CompareProducts_x3 at hF
  refine cE hF (fun h9 hF => ?_) fun h9 hF => ?_
  · refine awp_region ?_
    refine aR 2 ?_
    refine aB h9 ?_
    refine aR 6 ?_
    refine aE ?_
    exact oO hF [] [] rfl
  · refine awp_region ?_
    refine aR 2 ?_
    refine aB h9 ?_
    refine aR 6 ?_
    refine aE ?_
    exact oO hF [] [] rfl

def base_CompareProducts_R (qa : Int) (qb : Int) (qc : Int) (qd : Int) (r : Int) : TV × Mem := (.v (.one (.d (.int .i64 r))), ⟨[], []⟩)

theorem base_CompareProducts_ok {qa : Int} {qb : Int} {qc : Int} {qd : Int} {r} (hF : base_CompareProducts qa qb qc qd = some r) : Holds prog 78 [.v (.one (.d (.int .i64 qa))), .v (.one (.d (.int .i64 qb))), .v (.one (.d (.int .i64 qc))), .v (.one (.d (.int .i64 qd)))] ⟨[], []⟩ (Is (base_CompareProducts_R qa qb qc qd r)) := by
  unfold base_CompareProducts at hF
  refine holds_of_awp hΓ (fn := f78) (c := cB f78) (A := 0) (nx := 0) (by kernel_rfl) (by kernel_rfl) (by kernel_rfl) (by kernel_rfl) (by kernel_rfl) (by kernel_rfl) (lowc_of (by kernel_rfl)) ?_
  show Awp prog 0 55 (cB f78) _ _
  refine awp_seq ?_
  refine awp_region ?_
  refine aR 1 ?_
  refine aE ?_
  refine awp_seq ?_
  refine bE hF fun _ h1 hF => ?_
  refine awp_region ?_
  refine aR 4 ?_
  refine aC (bits_Mul64_ok h1) [] [] [] ?_
  refine aR 5 ?_
  refine aE ?_
  refine awp_seq ?_
  refine bE hF fun _ h2 hF => ?_
  refine awp_region ?_
  refine aR 4 ?_
  refine aC (bits_Mul64_ok h2) [] [] [] ?_
  refine aR 5 ?_
  refine aE ?_
  refine awp_seq ?_
  refine awp_block ?_
  refine awp_seq ?_
  refine awp_to (st' := base_CompareProducts_x1_I qa qb qc qd) (oT [] []) ?_
  refine bE hF fun vx2_1 h7 hF => ?_
  refine awp_sub (base_CompareProducts_x1_ok qa qb qc qd h7) ?_
  refine cE hF (fun h8 hF => ?_) fun h8 hF => ?_
  · refine awp_true (by kernel_rfl) h8 ?_
    refine awp_seq ?_
    refine awp_region ?_
    refine aR 1 ?_
    refine aE ?_
    refine awp_ret ?_
    exact oF hF [] []
  · refine awp_false (by kernel_rfl) h8 ?_
    refine awp_seq ?_
    refine awp_to (st' := base_CompareProducts_x3_I qa qb qc qd) (oT [] []) ?_
    refine bE hF fun vx3_1 h10 hF => ?_
    refine awp_sub (base_CompareProducts_x3_ok qa qb qc qd h10) ?_
    refine cE hF (fun h11 hF => ?_) fun h11 hF => ?_
    · refine awp_true (by kernel_rfl) h11 ?_
      refine awp_seq ?_
      refine awp_region ?_
      refine aR 1 ?_
      refine aE ?_
      refine awp_ret ?_
      exact oF hF [] []
    · refine awp_false (by kernel_rfl) h11 ?_
      refine awp_skip ?_
      refine awp_seq ?_
      refine awp_region ?_
      refine aR 1 ?_
      refine aE ?_
      refine awp_ret ?_
      exact oF hF [] []

/-! ### beaconfleet/place.less -/
def place_less_R (qa : api_Fraction) (qb : api_Fraction) (r : Bool) : TV × Mem := (.v (.one (.d (.bool r))), ⟨[], []⟩)

theorem place_less_ok {qa : api_Fraction} {qb : api_Fraction} {r} (hF : place_less qa qb = some r) : Holds prog 37 [.v (.agg [.d (.int .i64 qa.Num), .d (.int .i64 qa.Den)]), .v (.agg [.d (.int .i64 qb.Num), .d (.int .i64 qb.Den)])] ⟨[], []⟩ (Is (place_less_R qa qb r)) := by
  unfold place_less at hF
  refine holds_of_awp hΓ (fn := f37) (c := cB f37) (A := 0) (nx := 0) (by kernel_rfl) (by kernel_rfl) (by kernel_rfl) (by kernel_rfl) (by kernel_rfl) (by kernel_rfl) (lowc_of (by kernel_rfl)) ?_
  show Awp prog 0 15 (cB f37) _ _
  refine awp_seq ?_
  refine awp_region ?_
  refine aR 3 ?_
  refine aE ?_
  refine awp_seq ?_
  refine bE hF fun vr h1 hF => ?_
  refine awp_region ?_
  refine aR 8 ?_
  refine aC (base_CompareProducts_ok h1) [] [] [] ?_
  refine aR 2 ?_
  refine aE ?_
  refine awp_ret ?_
  exact oF hF [] []

/-! ### beaconfleet/place.Plain$1 -/
def place_Plain_1_b0o_R (qi : Int) (qk : Int) (qx : List Bool) (qx1 : Int) (qx2 : List api_Fix) (r : (List Bool)) : TV × Mem := (.tup [], ⟨[(5, ⟨4, 1, List.map encB r⟩)], [(0, [.own 5 none]), (1, [.d (.int .i64 qx1)]), (2, [.d (.lst (List.map api_Fix.enc qx2))]), (3, [.fn 34 [0, 1, 2, 3]])]⟩)

def place_Plain_1_b0o_x2_k : (api_Fraction × Int) → AEx
  | _ => .normal

def place_Plain_1_b0o_x2_S (qi : Int) (qk : Int) (qx : List Bool) (qx1 : Int) (qx2 : List api_Fix) (vaway : api_Fraction) (vbest : Int) (vm : Int) : (api_Fraction × Int) → St
  | (vaway2, vbest2) => Mem.st ⟨[(5, ⟨4, 1, List.map encB ((qx.set qi.toNat true).set qk.toNat true)⟩)], [(0, [.own 5 none]), (1, [.d (.int .i64 qx1)]), (2, [.d (.lst (List.map api_Fix.enc qx2))]), (3, [.fn 34 [0, 1, 2, 3]]), (6, [.d (.int .i64 vaway2.Num), .d (.int .i64 vaway2.Den)])]⟩ (tl [(0, .v (.one (.d (.int .i64 qi)))), (1, .v (.one (.d (.int .i64 qk)))), (4, .v (.one (.box 2 0))), (5, .v (.one (.box 3 0))), (8, .v (.one (.d (.int .i64 vbest2)))), (9, .v (.one (.box 6 0))), (10, .v (.one (.d (.int .i64 vm))))]) 7

def place_Plain_1_b0o_x2_I (qi : Int) (qk : Int) (qx : List Bool) (qx1 : Int) (qx2 : List api_Fix) (vaway : api_Fraction) (vbest : Int) (vm : Int) : St := Mem.st ⟨[(5, ⟨4, 1, List.map encB ((qx.set qi.toNat true).set qk.toNat true)⟩)], [(0, [.own 5 none]), (1, [.d (.int .i64 qx1)]), (2, [.d (.lst (List.map api_Fix.enc qx2))]), (3, [.fn 34 [0, 1, 2, 3]]), (6, [.d (.int .i64 vaway.Num), .d (.int .i64 vaway.Den)])]⟩ (tl [(0, .v (.one (.d (.int .i64 qi)))), (1, .v (.one (.d (.int .i64 qk)))), (4, .v (.one (.box 2 0))), (5, .v (.one (.box 3 0))), (8, .v (.one (.d (.int .i64 vbest)))), (9, .v (.one (.box 6 0))), (10, .v (.one (.d (.int .i64 vm))))]) 7

theorem place_Plain_1_b0o_x2_ok {recF : Int → Int → (List Bool) → Int → (List api_Fix) → Option ((List Bool))} (ih : ∀ {qi : Int} {qk : Int} {qx : List Bool} {qx1 : Int} {qx2 : List api_Fix} {r}, recF qi qk qx qx1 qx2 = some r → Holds prog 34 [.v (.one (.d (.int .i64 qi))), .v (.one (.d (.int .i64 qk))), .v (.one (.box 0 0)), .v (.one (.box 1 0)), .v (.one (.box 2 0)), .v (.one (.box 3 0))] ⟨[(4, ⟨4, 1, List.map encB qx⟩)], [(0, [.own 4 none]), (1, [.d (.int .i64 qx1)]), (2, [.d (.lst (List.map api_Fix.enc qx2))]), (3, [.fn 34 [0, 1, 2, 3]])]⟩ (Is (place_Plain_1_b0o_R qi qk qx qx1 qx2 r))) (qi : Int) (qk : Int) (qx : List Bool) (qx1 : Int) (qx2 : List api_Fix) (vaway : api_Fraction) (vbest : Int) (vm : Int) {r} (hF : place_Plain_1_b0o_x2 recF qi qk qx2 vaway vbest vm = some r) : Awp prog 5 60 (cL (cR (cL (cL (cR (cL (cR (cR (cB f34))))))))) (Out 5 place_Plain_1_b0o_x2_k (place_Plain_1_b0o_x2_S qi qk qx qx1 qx2 vaway vbest vm) r) (place_Plain_1_b0o_x2_I qi qk qx qx1 qx2 vaway vbest vm) := by
  unfold place_Plain_1_b0o_x2 at hF
  refine awp_block ?_
  refine awp_seq ?_
  refine bE hF fun vy5 h4 hF => ?_
  refine bE hF fun _ h5 hF => ?_
  refine bE hF fun vy6 h6 hF => ?_
  refine bE hF fun _ h7 hF => ?_
  refine bE hF fun vy7 h8 hF => ?_
  refine bE hF fun _ h9 hF => ?_
  refine bE hF fun vr2 h10 hF => ?_
  refine aD ?_
  refine dR 2 ?_
  refine dX (x_idx api_Fix.enc h4) ?_
  refine dR 1 ?_
  refine dC (place_spot_ok h5) [] [] [] ?_
  refine dR 2 ?_
  refine dX (x_idx api_Fix.enc h6) ?_
  refine dR 1 ?_
  refine dC (place_spot_ok h7) [] [] [] ?_
  refine dR 2 ?_
  refine dX (x_idx api_Fix.enc h8) ?_
  refine dR 1 ?_
  refine dC (place_spot_ok h9) [] [] [] ?_
  refine dC (place_far_ok h10) [] [] [] ?_
  refine dR 2 ?_
  refine dE ?_
  refine awp_seq ?_
  refine bE hF fun vr1_1 h11 hF => ?_
  refine awp_region ?_
  refine aR 2 ?_
  refine aC (place_less_ok h11) [] [] [] ?_
  refine aE ?_
  refine cE hF (fun h12 hF => ?_) fun h12 hF => ?_
  · refine awp_true (by kernel_rfl) h12 ?_
    refine aD ?_
    refine dR 4 ?_
    refine dE ?_
    exact oO hF [] [] rfl
  · refine awp_false (by kernel_rfl) h12 ?_
    refine awp_skip ?_
    exact oO hF [] [] rfl

def place_Plain_1_b0o_x1_k : Int → AEx
  | _ => .exit 0

def place_Plain_1_b0o_x1_S (qi : Int) (qk : Int) (qx : List Bool) (qx1 : Int) (qx2 : List api_Fix) : Int → St
  | vbest3 => Mem.st ⟨[(5, ⟨4, 1, List.map encB ((qx.set qi.toNat true).set qk.toNat true)⟩)], [(0, [.own 5 none]), (1, [.d (.int .i64 qx1)]), (2, [.d (.lst (List.map api_Fix.enc qx2))]), (3, [.fn 34 [0, 1, 2, 3]])]⟩ (tl [(0, .v (.one (.d (.int .i64 qi)))), (1, .v (.one (.d (.int .i64 qk)))), (5, .v (.one (.box 3 0))), (8, .v (.one (.d (.int .i64 vbest3))))]) 6

def place_Plain_1_b0o_x1_H (qi : Int) (qk : Int) (qx : List Bool) (qx1 : Int) (qx2 : List api_Fix) : api_Fraction × Int × Int → St
  | (vaway, vbest, vm) => Mem.st ⟨[(5, ⟨4, 1, List.map encB ((qx.set qi.toNat true).set qk.toNat true)⟩)], [(0, [.own 5 none]), (1, [.d (.int .i64 qx1)]), (2, [.d (.lst (List.map api_Fix.enc qx2))]), (3, [.fn 34 [0, 1, 2, 3]]), (6, [.d (.int .i64 vaway.Num), .d (.int .i64 vaway.Den)])]⟩ (tl [(0, .v (.one (.d (.int .i64 qi)))), (1, .v (.one (.d (.int .i64 qk)))), (4, .v (.one (.box 2 0))), (5, .v (.one (.box 3 0))), (8, .v (.one (.d (.int .i64 vbest)))), (9, .v (.one (.box 6 0))), (10, .v (.one (.d (.int .i64 vm))))]) 7

theorem place_Plain_1_b0o_x1_ok {recF : Int → Int → (List Bool) → Int → (List api_Fix) → Option ((List Bool))} (ih : ∀ {qi : Int} {qk : Int} {qx : List Bool} {qx1 : Int} {qx2 : List api_Fix} {r}, recF qi qk qx qx1 qx2 = some r → Holds prog 34 [.v (.one (.d (.int .i64 qi))), .v (.one (.d (.int .i64 qk))), .v (.one (.box 0 0)), .v (.one (.box 1 0)), .v (.one (.box 2 0)), .v (.one (.box 3 0))] ⟨[(4, ⟨4, 1, List.map encB qx⟩)], [(0, [.own 4 none]), (1, [.d (.int .i64 qx1)]), (2, [.d (.lst (List.map api_Fix.enc qx2))]), (3, [.fn 34 [0, 1, 2, 3]])]⟩ (Is (place_Plain_1_b0o_R qi qk qx qx1 qx2 r))) (qi : Int) (qk : Int) (qx : List Bool) (qx1 : Int) (qx2 : List api_Fix) (s : api_Fraction × Int × Int) (r : (api_Fraction × Int × Int) ⊕ (Int)) (hF : place_Plain_1_b0o_x1 recF qi qk qx2 s = some r) : Awp prog 5 60 (cL (cL (cR (cL (cR (cR (cB f34))))))) (Out 5 (kk place_Plain_1_b0o_x1_k) (SS (place_Plain_1_b0o_x1_H qi qk qx qx1 qx2) (place_Plain_1_b0o_x1_S qi qk qx qx1 qx2)) r) (place_Plain_1_b0o_x1_H qi qk qx qx1 qx2 s) := by
  obtain ⟨vaway, vbest, vm⟩ := s
  unfold place_Plain_1_b0o_x1 at hF
  refine awp_seq ?_
  refine awp_seq ?_
  refine awp_region ?_
  refine aR 3 ?_
  refine aE ?_
  refine cE hF (fun h3 hF => ?_) fun h3 hF => ?_
  · refine awp_true (by kernel_rfl) h3 ?_
    refine awp_skip ?_
    refine awp_seq ?_
    refine awp_to (st' := place_Plain_1_b0o_x2_I qi qk qx qx1 qx2 vaway vbest vm) (oT [] []) ?_
    refine bE hF fun x h13 hF => ?_
    obtain ⟨vaway2_1, vbest2_1⟩ := x
    refine awp_sub (place_Plain_1_b0o_x2_ok @ih qi qk qx qx1 qx2 vaway vbest vm h13) ?_
    refine awp_region ?_
    refine aR 3 ?_
    refine aE ?_
    exact oO hF [] [] rfl
  · refine awp_false (by kernel_rfl) h3 ?_
    refine awp_exit ?_
    exact oO hF [] [] rfl

theorem place_Plain_1_b0o_n_ok (n : Nat) : ∀ {qi : Int} {qk : Int} {qx : List Bool} {qx1 : Int} {qx2 : List api_Fix} {r}, place_Plain_1_b0o_n n qi qk qx qx1 qx2 = some r → Holds prog 34 [.v (.one (.d (.int .i64 qi))), .v (.one (.d (.int .i64 qk))), .v (.one (.box 0 0)), .v (.one (.box 1 0)), .v (.one (.box 2 0)), .v (.one (.box 3 0))] ⟨[(4, ⟨4, 1, List.map encB qx⟩)], [(0, [.own 4 none]), (1, [.d (.int .i64 qx1)]), (2, [.d (.lst (List.map api_Fix.enc qx2))]), (3, [.fn 34 [0, 1, 2, 3]])]⟩ (Is (place_Plain_1_b0o_R qi qk qx qx1 qx2 r)) := by
  induction n with
  | zero => intro qi qk qx qx1 qx2 r hF; exact nE hF
  | succ n ih =>
    intro qi qk qx qx1 qx2 r hF
    unfold place_Plain_1_b0o_n at hF
    refine holds_of_awp hΓ (fn := f34) (c := cB f34) (A := 5) (nx := 5) (by kernel_rfl) (by kernel_rfl) (by kernel_rfl) (by kernel_rfl) (by kernel_rfl) (by kernel_rfl) (lowc_of (by kernel_rfl)) ?_
    show Awp prog 5 60 (cB f34) _ _
    refine awp_seq ?_
    refine bE hF fun vy h1 hF => ?_
    refine bE hF fun vy1 h2 hF => ?_
    refine aDw [4] ?_
    refine dR 4 ?_
    refine dI encB 4 h1 rfl ?_
    refine dW encB true h1 rfl ?_
    refine dI encB 4 h2 rfl ?_
    refine dW encB true h2 rfl ?_
    refine dE ?_
    refine awp_seq ?_
    refine aD ?_
    refine dR 7 ?_
    refine dE ?_
    refine awp_seq ?_
    refine awp_seq ?_
    refine awp_region ?_
    refine aR 3 ?_
    refine aE ?_
    refine awp_block ?_
    refine awp_to (st' := place_Plain_1_b0o_x1_H qi qk qx qx1 qx2 (api_Fraction.mk (IntKind.wrap .i64 (qx1 * qx1)) 1, (-1), IntKind.wrap .i64 (qi + 1))) (oT [(5, 4), (6, 12005)] []) ?_
    refine bE hF fun vbest3_1 h14 hF => ?_
    refine awp_sub (awp_loop' (place_Plain_1_b0o_x1_H qi qk qx qx1 qx2) place_Plain_1_b0o_x1_k (place_Plain_1_b0o_x1_S qi qk qx qx1 qx2) (by intro x; exact fun h => nomatch h) h14 (place_Plain_1_b0o_x1_ok @ih qi qk qx qx1 qx2)) ?_
    refine awp_seq ?_
    refine awp_region ?_
    refine aR 2 ?_
    refine aE ?_
    refine cE hF (fun h15 hF => ?_) fun h15 hF => ?_
    · refine awp_true (by kernel_rfl) h15 ?_
      refine awp_seq ?_
      refine bE hF fun vs h16 hF => ?_
      refine awp_region ?_
      refine aR 3 ?_
      refine aC (ih h16) [(4, 5)] [] [] ?_
      refine aE ?_
      refine bE hF fun vs1 h17 hF => ?_
      refine awp_region ?_
      refine aR 3 ?_
      refine aC (ih h17) [(4, 5011)] [] [] ?_
      refine aE ?_
      exact oF hF [(5, 9011)] []
    · refine awp_false (by kernel_rfl) h15 ?_
      refine awp_skip ?_
      exact oF hF [] []

theorem place_Plain_1_b0o_ok {qi : Int} {qk : Int} {qx : List Bool} {qx1 : Int} {qx2 : List api_Fix} {r} (hF : place_Plain_1_b0o qi qk qx qx1 qx2 = some r) : Holds prog 34 [.v (.one (.d (.int .i64 qi))), .v (.one (.d (.int .i64 qk))), .v (.one (.box 0 0)), .v (.one (.box 1 0)), .v (.one (.box 2 0)), .v (.one (.box 3 0))] ⟨[(4, ⟨4, 1, List.map encB qx⟩)], [(0, [.own 4 none]), (1, [.d (.int .i64 qx1)]), (2, [.d (.lst (List.map api_Fix.enc qx2))]), (3, [.fn 34 [0, 1, 2, 3]])]⟩ (Is (place_Plain_1_b0o_R qi qk qx qx1 qx2 r)) :=
  let ⟨n, h⟩ := fixO_some hF
  place_Plain_1_b0o_n_ok n h

/-! ### beaconfleet/place.Plain -/
def place_Plain_x1_k : (List Bool) → AEx
  | _ => .normal

def place_Plain_x1_S (ql : List api_Fix) (qmost : Int) : (List Bool) → St
  | vkeep => Mem.st ⟨[(1, ⟨4, 1, List.map encB vkeep⟩)], [(0, [.own 1 none])]⟩ (tl [(7, .v (.one (.box 0 0)))]) 2

def place_Plain_x1_I (ql : List api_Fix) (qmost : Int) : St := Mem.st ⟨[(2, ⟨4, 1, List.map encB (List.replicate (ql.length : Int).toNat false)⟩)], [(0, [.d (.lst (List.map api_Fix.enc ql))]), (1, [.own 2 none]), (3, [.fn 34 [1, 4, 0, 3]]), (4, [.d (.int .i64 qmost)])]⟩ (tl [(2, .v (.one (.box 0 0))), (7, .v (.one (.box 1 0))), (8, .v (.one (.box 3 0)))]) 5

theorem place_Plain_x1_ok (ql : List api_Fix) (qmost : Int) {r} (hF : place_Plain_x1 ql qmost = some r) : Awp prog 0 45 (cL (cR (cR (cR (cR (cR (cR (cB f8)))))))) (Out 0 place_Plain_x1_k (place_Plain_x1_S ql qmost) r) (place_Plain_x1_I ql qmost) := by
  unfold place_Plain_x1 at hF
  refine awp_seq ?_
  refine awp_region ?_
  refine aR 1 ?_
  refine aL api_Fix.enc ql ?_
  refine aR 1 ?_
  refine aE ?_
  refine cE hF (fun h6 hF => ?_) fun h6 hF => ?_
  · refine awp_true (by kernel_rfl) h6 ?_
    refine bE hF fun vs2 h7 hF => ?_
    refine awp_region ?_
    refine aR 2 ?_
    refine aL api_Fix.enc ql ?_
    refine aR 1 ?_
    refine aC (place_Plain_1_b0o_ok h7) [(0, 1), (1, 4), (2, 0), (4, 2)] [] [] ?_
    refine aE ?_
    exact oO hF [(0, 1), (1, 7010)] [] rfl
  · refine awp_false (by kernel_rfl) h6 ?_
    refine awp_skip ?_
    exact oO hF [(0, 1), (1, 2)] [] rfl

def place_Plain_x3_k : (List Int) → AEx
  | _ => .normal

def place_Plain_x3_S (vkeep1 : List Bool) (vout : List Int) (vx : Int) : (List Int) → St
  | vout2 => Mem.st ⟨[(0, ⟨3, 1, List.map (encI .i64) vout2⟩)], []⟩ (tl [(9, .v (.one (.own 0 none))), (31, .v (.one (.d (.lst (List.map encB vkeep1))))), (32, .v (.one (.d (.int .i64 (vkeep1.length : Int))))), (33, .v (.one (.d (.int .i64 vx))))]) 1

def place_Plain_x3_I (vkeep1 : List Bool) (vout : List Int) (vx : Int) : St := Mem.st ⟨[(0, ⟨3, 1, List.map (encI .i64) vout⟩)], []⟩ (tl [(9, .v (.one (.own 0 none))), (31, .v (.one (.d (.lst (List.map encB vkeep1))))), (32, .v (.one (.d (.int .i64 (vkeep1.length : Int))))), (33, .v (.one (.d (.int .i64 vx))))]) 1

theorem place_Plain_x3_ok (vkeep1 : List Bool) (vout : List Int) (vx : Int) {r} (hF : place_Plain_x3 vkeep1 vout vx = some r) : Awp prog 0 45 (cL (cR (cR (cL (cL (cR (cL (cR (cR (cR (cR (cR (cR (cR (cR (cB f8)))))))))))))))) (Out 0 place_Plain_x3_k (place_Plain_x3_S vkeep1 vout vx) r) (place_Plain_x3_I vkeep1 vout vx) := by
  unfold place_Plain_x3 at hF
  refine awp_block ?_
  refine awp_seq ?_
  refine bE hF fun vy1 h10 hF => ?_
  refine awp_region ?_
  refine aR 1 ?_
  refine aX (x_idx encB h10) ?_
  refine aR 3 ?_
  refine aE ?_
  refine awp_seq ?_
  refine awp_region ?_
  refine aR 1 ?_
  refine aE ?_
  refine cE hF (fun h11 hF => ?_) fun h11 hF => ?_
  · refine awp_true (by kernel_rfl) h11 ?_
    refine gE hF fun h12 hF => ?_
    refine awp_region ?_
    refine aR 3 ?_
    refine aX (x_app (encI .i64) 0 h12) ?_
    refine aR 1 ?_
    refine aE ?_
    exact oO hF [(0, 9001)] [] rfl
  · refine awp_false (by kernel_rfl) h11 ?_
    refine awp_skip ?_
    exact oO hF [] [] rfl

def place_Plain_x2_k : (List Int) → AEx
  | _ => .exit 0

def place_Plain_x2_S (vkeep1 : List Bool) : (List Int) → St
  | vout3 => Mem.st ⟨[(0, ⟨3, 1, List.map (encI .i64) vout3⟩)], []⟩ (tl [(9, .v (.one (.own 0 none)))]) 1

def place_Plain_x2_H (vkeep1 : List Bool) : (List Int) × Int → St
  | (vout, vx) => Mem.st ⟨[(0, ⟨3, 1, List.map (encI .i64) vout⟩)], []⟩ (tl [(9, .v (.one (.own 0 none))), (31, .v (.one (.d (.lst (List.map encB vkeep1))))), (32, .v (.one (.d (.int .i64 (vkeep1.length : Int))))), (33, .v (.one (.d (.int .i64 vx))))]) 1

theorem place_Plain_x2_ok (vkeep1 : List Bool) (s : (List Int) × Int) (r : ((List Int) × Int) ⊕ ((List Int))) (hF : place_Plain_x2 vkeep1 s = some r) : Awp prog 0 45 (cL (cL (cR (cL (cR (cR (cR (cR (cR (cR (cR (cR (cB f8))))))))))))) (Out 0 (kk place_Plain_x2_k) (SS (place_Plain_x2_H vkeep1) (place_Plain_x2_S vkeep1)) r) (place_Plain_x2_H vkeep1 s) := by
  obtain ⟨vout, vx⟩ := s
  unfold place_Plain_x2 at hF
  refine awp_seq ?_
  refine awp_region ?_
  refine aR 1 ?_
  refine aE ?_
  refine awp_seq ?_
  refine cE hF (fun h9 hF => ?_) fun h9 hF => ?_
  · refine awp_true (by kernel_rfl) h9 ?_
    refine awp_skip ?_
    refine awp_seq ?_
    refine awp_to (st' := place_Plain_x3_I vkeep1 vout vx) (oT [] []) ?_
    refine bE hF fun vout2_1 h13 hF => ?_
    refine awp_sub (place_Plain_x3_ok vkeep1 vout vx h13) ?_
    refine awp_region ?_
    refine aR 2 ?_
    refine aE ?_
    exact oO hF [] [] rfl
  · refine awp_false (by kernel_rfl) h9 ?_
    refine awp_exit ?_
    exact oO hF [] [] rfl

def place_Plain_R (ql : List api_Fix) (qmost : Int) (r : (List Int) × Int) : TV × Mem := (.tup [.one (.own 0 none), .one (.d (.int .i64 r.2))], ⟨[(0, ⟨3, 1, List.map (encI .i64) r.1⟩)], []⟩)

theorem place_Plain_ok {ql : List api_Fix} {qmost : Int} {r} (hF : place_Plain ql qmost = some r) : Holds prog 8 [.v (.one (.d (.lst (List.map api_Fix.enc ql)))), .v (.one (.d (.int .i64 qmost)))] ⟨[], []⟩ (Is (place_Plain_R ql qmost r)) := by
  unfold place_Plain at hF
  refine holds_of_awp hΓ (fn := f8) (c := cB f8) (A := 0) (nx := 0) (by kernel_rfl) (by kernel_rfl) (by kernel_rfl) (by kernel_rfl) (by kernel_rfl) (by kernel_rfl) (lowc_of (by kernel_rfl)) ?_
  show Awp prog 0 45 (cB f8) _ _
  refine awp_seq ?_
  refine awp_region ?_
  refine aR 4 ?_
  refine aE ?_
  refine awp_seq ?_
  refine awp_seq ?_
  refine bE hF fun vr1 h1 hF => ?_
  refine awp_region ?_
  refine aR 1 ?_
  refine aC (place_trackFault_ok h1) [] [] [] ?_
  refine aR 1 ?_
  refine aE ?_
  refine awp_seq ?_
  refine awp_region ?_
  refine aR 2 ?_
  refine aE ?_
  refine cE hF (fun h2 hF => ?_) fun h2 hF => ?_
  · refine awp_true (by kernel_rfl) h2 ?_
    refine awp_seq ?_
    refine awp_region ?_
    refine aR 3 ?_
    refine aE ?_
    refine awp_ret ?_
    exact oF hF [] [0]
  · refine awp_false (by kernel_rfl) h2 ?_
    refine awp_skip ?_
    refine awp_seq ?_
    refine awp_seq ?_
    refine bE hF fun vr h3 hF => ?_
    refine awp_region ?_
    refine aR 1 ?_
    refine aC (base_Out_ok h3) [] [] [] ?_
    refine aE ?_
    refine cE hF (fun h4 hF => ?_) fun h4 hF => ?_
    · refine awp_true (by kernel_rfl) h4 ?_
      refine awp_seq ?_
      refine awp_region ?_
      refine aR 2 ?_
      refine aE ?_
      refine awp_ret ?_
      exact oF hF [] [0]
    · refine awp_false (by kernel_rfl) h4 ?_
      refine awp_skip ?_
      refine awp_seq ?_
      refine gE hF fun h5 hF => ?_
      refine awp_region ?_
      refine aR 1 ?_
      refine aL api_Fix.enc ql ?_
      refine aX (x_mk encB false h5) ?_
      refine aR 2 ?_
      refine aE ?_
      refine awp_seq ?_
      refine awp_region ?_
      refine aR 1 ?_
      refine aE ?_
      refine awp_seq ?_
      refine awp_region ?_
      refine aR 2 ?_
      refine aE ?_
      refine awp_seq ?_
      refine awp_to (st' := place_Plain_x1_I ql qmost) (oT [(1, 14000), (2, 13000), (3, 16000), (4, 1000)] []) ?_
      refine bE hF fun vkeep1 h8 hF => ?_
      refine awp_sub (place_Plain_x1_ok ql qmost h8) ?_
      refine awp_seq ?_
      refine awp_region ?_
      refine aR 1 ?_
      refine aE ?_
      refine awp_seq ?_
      refine awp_seq ?_
      refine awp_region ?_
      refine aR 1 ?_
      refine aL encB vkeep1 ?_
      refine aR 1 ?_
      refine aE ?_
      refine awp_to (oT (m := ⟨[], []⟩) (ts := [(9, .v (.one (.nil))), (31, .v (.one (.d (.lst (List.map encB vkeep1))))), (32, .v (.one (.d (.int .i64 (vkeep1.length : Int))))), (33, .v (.one (.d (.int .i64 0))))]) (nx := 0) [] []) ?_
      refine awp_block ?_
      refine awp_to (st' := place_Plain_x2_H vkeep1 ([], 0)) (oT [] [0]) ?_
      refine bE hF fun vout3_1 h14 hF => ?_
      refine awp_sub (awp_loop' (place_Plain_x2_H vkeep1) place_Plain_x2_k (place_Plain_x2_S vkeep1) (by intro x; exact fun h => nomatch h) h14 (place_Plain_x2_ok vkeep1)) ?_
      refine awp_seq ?_
      refine awp_region ?_
      refine aR 3 ?_
      refine aE ?_
      refine awp_ret ?_
      exact oF hF [] []

/-! ### beaconfleet/place.root -/
def place_root_x1_k : Int → AEx
  | _ => .exit 0

def place_root_x1_S (qn : Int) : Int → St
  | vlow1 => Mem.st ⟨[], []⟩ (tl [(3, .v (.one (.d (.int .i64 vlow1))))]) 0

def place_root_x1_H (qn : Int) : Int × Int → St
  | (vlow, vhigh) => Mem.st ⟨[], []⟩ (tl [(0, .v (.one (.d (.int .i64 qn)))), (3, .v (.one (.d (.int .i64 vlow)))), (4, .v (.one (.d (.int .i64 vhigh))))]) 0

theorem place_root_x1_ok (qn : Int) (s : Int × Int) (r : (Int × Int) ⊕ (Int)) (hF : place_root_x1 qn s = some r) : Awp prog 0 22 (cL (cL (cL (cR (cR (cB f38)))))) (Out 0 (kk place_root_x1_k) (SS (place_root_x1_H qn) (place_root_x1_S qn)) r) (place_root_x1_H qn s) := by
  obtain ⟨vlow, vhigh⟩ := s
  unfold place_root_x1 at hF
  refine awp_seq ?_
  refine awp_seq ?_
  refine awp_region ?_
  refine aR 4 ?_
  refine aE ?_
  refine cE hF (fun h1 hF => ?_) fun h1 hF => ?_
  · refine awp_true (by kernel_rfl) h1 ?_
    refine awp_skip ?_
    refine awp_block ?_
    refine awp_seq ?_
    refine awp_region ?_
    refine aR 5 ?_
    refine aE ?_
    refine awp_seq ?_
    refine awp_region ?_
    refine aR 5 ?_
    refine aE ?_
    refine cE hF (fun h2 hF => ?_) fun h2 hF => ?_
    · refine awp_true (by kernel_rfl) h2 ?_
      refine awp_region ?_
      refine aR 2 ?_
      refine aE ?_
      exact oO hF [] [] rfl
    · refine awp_false (by kernel_rfl) h2 ?_
      refine awp_region ?_
      refine aR 2 ?_
      refine aE ?_
      exact oO hF [] [] rfl
  · refine awp_false (by kernel_rfl) h1 ?_
    refine awp_exit ?_
    exact oO hF [] [] rfl

def place_root_R (qn : Int) (r : Int) : TV × Mem := (.v (.one (.d (.int .i64 r))), ⟨[], []⟩)

theorem place_root_ok {qn : Int} {r} (hF : place_root qn = some r) : Holds prog 38 [.v (.one (.d (.int .i64 qn)))] ⟨[], []⟩ (Is (place_root_R qn r)) := by
  unfold place_root at hF
  refine holds_of_awp hΓ (fn := f38) (c := cB f38) (A := 0) (nx := 0) (by kernel_rfl) (by kernel_rfl) (by kernel_rfl) (by kernel_rfl) (by kernel_rfl) (by kernel_rfl) (lowc_of (by kernel_rfl)) ?_
  show Awp prog 0 22 (cB f38) _ _
  refine awp_seq ?_
  refine awp_region ?_
  refine aR 1 ?_
  refine aE ?_
  refine awp_seq ?_
  refine awp_region ?_
  refine aR 2 ?_
  refine aE ?_
  refine awp_seq ?_
  refine awp_block ?_
  refine awp_to (st' := place_root_x1_H qn (0, 2147483648)) (oT [] []) ?_
  refine bE hF fun vlow1_1 h3 hF => ?_
  refine awp_sub (awp_loop' (place_root_x1_H qn) place_root_x1_k (place_root_x1_S qn) (by intro x; exact fun h => nomatch h) h3 (place_root_x1_ok qn)) ?_
  refine awp_seq ?_
  refine awp_region ?_
  refine aR 2 ?_
  refine aE ?_
  refine awp_ret ?_
  exact oF hF [] []

/-! ### beaconfleet/place.Length -/
def place_Length_x1_k : Int → AEx
  | _ => .exit 0

def place_Length_x1_S (ql : List api_Fix) : Int → St
  | vn1 => Mem.st ⟨[], []⟩ (tl [(5, .v (.one (.d (.int .i64 vn1))))]) 0

def place_Length_x1_H (ql : List api_Fix) : Int × Int → St
  | (vn, vi) => Mem.st ⟨[], []⟩ (tl [(0, .v (.one (.d (.lst (List.map api_Fix.enc ql))))), (5, .v (.one (.d (.int .i64 vn)))), (6, .v (.one (.d (.int .i64 vi))))]) 0

theorem place_Length_x1_ok (ql : List api_Fix) (s : Int × Int) (r : (Int × Int) ⊕ (Int)) (hF : place_Length_x1 ql s = some r) : Awp prog 0 34 (cL (cL (cR (cL (cR (cR (cR (cB f9)))))))) (Out 0 (kk place_Length_x1_k) (SS (place_Length_x1_H ql) (place_Length_x1_S ql)) r) (place_Length_x1_H ql s) := by
  obtain ⟨vn, vi⟩ := s
  unfold place_Length_x1 at hF
  refine awp_seq ?_
  refine awp_seq ?_
  refine awp_region ?_
  refine aR 2 ?_
  refine aL api_Fix.enc ql ?_
  refine aR 1 ?_
  refine aE ?_
  refine cE hF (fun h3 hF => ?_) fun h3 hF => ?_
  · refine awp_true (by kernel_rfl) h3 ?_
    refine awp_skip ?_
    refine awp_seq ?_
    refine awp_block ?_
    refine bE hF fun vy2 h4 hF => ?_
    refine bE hF fun _ h5 hF => ?_
    refine bE hF fun vy3 h6 hF => ?_
    refine bE hF fun _ h7 hF => ?_
    refine bE hF fun _ h8 hF => ?_
    refine bE hF fun vr2 h9 hF => ?_
    refine aD ?_
    refine dR 4 ?_
    refine dX (x_idx api_Fix.enc h4) ?_
    refine dR 1 ?_
    refine dC (place_spot_ok h5) [] [] [] ?_
    refine dR 2 ?_
    refine dX (x_idx api_Fix.enc h6) ?_
    refine dR 1 ?_
    refine dC (place_spot_ok h7) [] [] [] ?_
    refine dC (place_square_ok h8) [] [] [] ?_
    refine dC (place_root_ok h9) [] [] [] ?_
    refine dR 2 ?_
    refine dE ?_
    refine awp_region ?_
    refine aR 3 ?_
    refine aE ?_
    exact oO hF [] [] rfl
  · refine awp_false (by kernel_rfl) h3 ?_
    refine awp_exit ?_
    exact oO hF [] [] rfl

def place_Length_R (ql : List api_Fix) (r : Int × Int) : TV × Mem := (.tup [.one (.d (.int .i64 r.1)), .one (.d (.int .i64 r.2))], ⟨[], []⟩)

theorem place_Length_ok {ql : List api_Fix} {r} (hF : place_Length ql = some r) : Holds prog 9 [.v (.one (.d (.lst (List.map api_Fix.enc ql))))] ⟨[], []⟩ (Is (place_Length_R ql r)) := by
  unfold place_Length at hF
  refine holds_of_awp hΓ (fn := f9) (c := cB f9) (A := 0) (nx := 0) (by kernel_rfl) (by kernel_rfl) (by kernel_rfl) (by kernel_rfl) (by kernel_rfl) (by kernel_rfl) (lowc_of (by kernel_rfl)) ?_
  show Awp prog 0 34 (cB f9) _ _
  refine awp_seq ?_
  refine awp_region ?_
  refine aR 2 ?_
  refine aE ?_
  refine awp_seq ?_
  refine awp_seq ?_
  refine bE hF fun vr1 h1 hF => ?_
  refine awp_region ?_
  refine aR 1 ?_
  refine aC (place_trackFault_ok h1) [] [] [] ?_
  refine aR 1 ?_
  refine aE ?_
  refine awp_seq ?_
  refine awp_region ?_
  refine aR 2 ?_
  refine aE ?_
  refine cE hF (fun h2 hF => ?_) fun h2 hF => ?_
  · refine awp_true (by kernel_rfl) h2 ?_
    refine awp_seq ?_
    refine awp_region ?_
    refine aR 3 ?_
    refine aE ?_
    refine awp_ret ?_
    exact oF hF [] []
  · refine awp_false (by kernel_rfl) h2 ?_
    refine awp_skip ?_
    refine awp_seq ?_
    refine awp_region ?_
    refine aR 1 ?_
    refine aE ?_
    refine awp_seq ?_
    refine awp_seq ?_
    refine awp_region ?_
    refine aR 1 ?_
    refine aE ?_
    refine awp_block ?_
    refine awp_to (st' := place_Length_x1_H ql (0, 1)) (oT [] []) ?_
    refine bE hF fun vn1_1 h10 hF => ?_
    refine awp_sub (awp_loop' (place_Length_x1_H ql) place_Length_x1_k (place_Length_x1_S ql) (by intro x; exact fun h => nomatch h) h10 (place_Length_x1_ok ql)) ?_
    refine awp_seq ?_
    refine awp_region ?_
    refine aR 3 ?_
    refine aE ?_
    refine awp_ret ?_
    exact oF hF [] []

/-! ### beaconfleet/place.on -/
def place_on_x1_k : Bool → AEx
  | _ => .normal

def place_on_x1_S (qa : api_Spot) (qb : api_Spot) (qs : api_Spot) : Bool → St
  | vx => Mem.st ⟨[], []⟩ (tl [(6, .v (.one (.d (.bool vx))))]) 0

def place_on_x1_I (qa : api_Spot) (qb : api_Spot) (qs : api_Spot) : St := Mem.st ⟨[], [(0, [.d (.int .i64 qa.X), .d (.int .i64 qa.Y)]), (1, [.d (.int .i64 qb.X), .d (.int .i64 qb.Y)]), (2, [.d (.int .i64 qs.X), .d (.int .i64 qs.Y)])]⟩ (tl [(3, .v (.one (.box 0 0))), (4, .v (.one (.box 1 0))), (5, .v (.one (.box 2 0)))]) 3

theorem place_on_x1_ok (qa : api_Spot) (qb : api_Spot) (qs : api_Spot) {r} (hF : place_on_x1 qa qb qs = some r) : Awp prog 0 52 (cL (cR (cB f119))) (Out 0 place_on_x1_k (place_on_x1_S qa qb qs) r) (place_on_x1_I qa qb qs) := by
  unfold place_on_x1 at hF
  refine bE hF fun _ h1 hF => ?_
  refine cE hF (fun h2 hF => ?_) fun h2 hF => ?_
  · refine cE hF (fun h3 hF => ?_) fun h3 hF => ?_
    · refine cE hF (fun h4 hF => ?_) fun h4 hF => ?_
      · refine cE hF (fun h5 hF => ?_) fun h5 hF => ?_
        · refine awp_region ?_
          refine aR 3 ?_
          refine aC (place_side_ok h1) [] [] [] ?_
          refine aB h2 ?_
          refine aR 8 ?_
          refine aB h3 ?_
          refine aR 9 ?_
          refine aB h4 ?_
          refine aR 9 ?_
          refine aB h5 ?_
          refine aR 12 ?_
          refine aE ?_
          exact oO hF [] [] rfl
        · refine awp_region ?_
          refine aR 3 ?_
          refine aC (place_side_ok h1) [] [] [] ?_
          refine aB h2 ?_
          refine aR 8 ?_
          refine aB h3 ?_
          refine aR 9 ?_
          refine aB h4 ?_
          refine aR 9 ?_
          refine aB h5 ?_
          refine aR 12 ?_
          refine aE ?_
          exact oO hF [] [] rfl
      · refine awp_region ?_
        refine aR 3 ?_
        refine aC (place_side_ok h1) [] [] [] ?_
        refine aB h2 ?_
        refine aR 8 ?_
        refine aB h3 ?_
        refine aR 9 ?_
        refine aB h4 ?_
        refine aR 22 ?_
        refine aE ?_
        exact oO hF [] [] rfl
    · refine awp_region ?_
      refine aR 3 ?_
      refine aC (place_side_ok h1) [] [] [] ?_
      refine aB h2 ?_
      refine aR 8 ?_
      refine aB h3 ?_
      refine aR 32 ?_
      refine aE ?_
      exact oO hF [] [] rfl
  · refine awp_region ?_
    refine aR 3 ?_
    refine aC (place_side_ok h1) [] [] [] ?_
    refine aB h2 ?_
    refine aR 41 ?_
    refine aE ?_
    exact oO hF [] [] rfl

def place_on_R (qa : api_Spot) (qb : api_Spot) (qs : api_Spot) (r : Bool) : TV × Mem := (.v (.one (.d (.bool r))), ⟨[], []⟩)

theorem place_on_ok {qa : api_Spot} {qb : api_Spot} {qs : api_Spot} {r} (hF : place_on qa qb qs = some r) : Holds prog 119 [.v (.agg [.d (.int .i64 qa.X), .d (.int .i64 qa.Y)]), .v (.agg [.d (.int .i64 qb.X), .d (.int .i64 qb.Y)]), .v (.agg [.d (.int .i64 qs.X), .d (.int .i64 qs.Y)])] ⟨[], []⟩ (Is (place_on_R qa qb qs r)) := by
  unfold place_on at hF
  refine holds_of_awp hΓ (fn := f119) (c := cB f119) (A := 0) (nx := 0) (by kernel_rfl) (by kernel_rfl) (by kernel_rfl) (by kernel_rfl) (by kernel_rfl) (by kernel_rfl) (lowc_of (by kernel_rfl)) ?_
  show Awp prog 0 52 (cB f119) _ _
  refine awp_seq ?_
  refine awp_region ?_
  refine aR 4 ?_
  refine aE ?_
  refine awp_seq ?_
  refine awp_to (st' := place_on_x1_I qa qb qs) (oT [(1, 1000), (2, 2000)] []) ?_
  refine bE hF fun vx1 h6 hF => ?_
  refine awp_sub (place_on_x1_ok qa qb qs h6) ?_
  refine awp_ret ?_
  exact oF hF [] []

/-! ### beaconfleet/place.meets -/
def place_meets_x1_k : Bool → AEx
  | _ => .normal

def place_meets_x1_S (qx : api_Spot) (qx1 : api_Spot) (qx2 : api_Spot) (qx3 : api_Spot) : Bool → St
  | vx => Mem.st ⟨[], [(0, [.d (.int .i64 qx.X), .d (.int .i64 qx.Y)]), (1, [.d (.int .i64 qx1.X), .d (.int .i64 qx1.Y)]), (2, [.d (.int .i64 qx2.X), .d (.int .i64 qx2.Y)]), (3, [.d (.int .i64 qx3.X), .d (.int .i64 qx3.Y)])]⟩ (tl [(4, .v (.one (.box 0 0))), (5, .v (.one (.box 1 0))), (6, .v (.one (.box 2 0))), (7, .v (.one (.box 3 0))), (34, .v (.one (.d (.bool vx))))]) 4

def place_meets_x1_I (qx : api_Spot) (qx1 : api_Spot) (qx2 : api_Spot) (qx3 : api_Spot) : St := Mem.st ⟨[], [(0, [.d (.int .i64 qx.X), .d (.int .i64 qx.Y)]), (1, [.d (.int .i64 qx1.X), .d (.int .i64 qx1.Y)]), (2, [.d (.int .i64 qx2.X), .d (.int .i64 qx2.Y)]), (3, [.d (.int .i64 qx3.X), .d (.int .i64 qx3.Y)])]⟩ (tl [(4, .v (.one (.box 0 0))), (5, .v (.one (.box 1 0))), (6, .v (.one (.box 2 0))), (7, .v (.one (.box 3 0)))]) 4

theorem place_meets_x1_ok (qx : api_Spot) (qx1 : api_Spot) (qx2 : api_Spot) (qx3 : api_Spot) {r} (hF : place_meets_x1 qx qx1 qx2 qx3 = some r) : Awp prog 0 65 (cL (cL (cR (cB f110)))) (Out 0 place_meets_x1_k (place_meets_x1_S qx qx1 qx2 qx3) r) (place_meets_x1_I qx qx1 qx2 qx3) := by
  unfold place_meets_x1 at hF
  refine bE hF fun vr h1 hF => ?_
  refine cE hF (fun h2 hF => ?_) fun h2 hF => ?_
  · refine awp_region ?_
    refine aR 3 ?_
    refine aCb (place_on_ok h1) [] [] [] h2 ?_
    refine aR 18 ?_
    refine aE ?_
    exact oO hF [] [] rfl
  · refine bE hF fun vr1 h3 hF => ?_
    refine cE hF (fun h4 hF => ?_) fun h4 hF => ?_
    · refine awp_region ?_
      refine aR 3 ?_
      refine aCb (place_on_ok h1) [] [] [] h2 ?_
      refine aR 4 ?_
      refine aCb (place_on_ok h3) [] [] [] h4 ?_
      refine aR 13 ?_
      refine aE ?_
      exact oO hF [] [] rfl
    · refine bE hF fun vr2 h5 hF => ?_
      refine cE hF (fun h6 hF => ?_) fun h6 hF => ?_
      · refine awp_region ?_
        refine aR 3 ?_
        refine aCb (place_on_ok h1) [] [] [] h2 ?_
        refine aR 4 ?_
        refine aCb (place_on_ok h3) [] [] [] h4 ?_
        refine aR 5 ?_
        refine aCb (place_on_ok h5) [] [] [] h6 ?_
        refine aR 7 ?_
        refine aE ?_
        exact oO hF [] [] rfl
      · refine bE hF fun vr3 h7 hF => ?_
        refine awp_region ?_
        refine aR 3 ?_
        refine aCb (place_on_ok h1) [] [] [] h2 ?_
        refine aR 4 ?_
        refine aCb (place_on_ok h3) [] [] [] h4 ?_
        refine aR 5 ?_
        refine aCb (place_on_ok h5) [] [] [] h6 ?_
        refine aR 5 ?_
        refine aC (place_on_ok h7) [] [] [] ?_
        refine aR 1 ?_
        refine aE ?_
        exact oO hF [] [] rfl

def place_meets_x2_k : Bool → AEx
  | _ => .normal

def place_meets_x2_S (vr4 : Int) (vr5 : Int) (vr6 : Int) (vr7 : Int) : Bool → St
  | vx2 => Mem.st ⟨[], []⟩ (tl [(8, .v (.one (.d (.bool vx2))))]) 0

def place_meets_x2_I (vr4 : Int) (vr5 : Int) (vr6 : Int) (vr7 : Int) : St := Mem.st ⟨[], []⟩ (tl [(9, .v (.one (.d (.int .i64 vr4)))), (10, .v (.one (.d (.int .i64 vr5)))), (11, .v (.one (.d (.int .i64 vr6)))), (12, .v (.one (.d (.int .i64 vr7))))]) 0

theorem place_meets_x2_ok (vr4 : Int) (vr5 : Int) (vr6 : Int) (vr7 : Int) {r} (hF : place_meets_x2 vr4 vr5 vr6 vr7 = some r) : Awp prog 0 65 (cL (cR (cR (cR (cB f110))))) (Out 0 place_meets_x2_k (place_meets_x2_S vr4 vr5 vr6 vr7) r) (place_meets_x2_I vr4 vr5 vr6 vr7) := by
  unfold place_meets_x2 at hF
  refine cE hF (fun h18 hF => ?_) fun h18 hF => ?_
  · refine awp_region ?_
    refine aR 3 ?_
    refine aB h18 ?_
    refine aR 7 ?_
    refine aE ?_
    exact oO hF [] [] rfl
  · refine awp_region ?_
    refine aR 3 ?_
    refine aB h18 ?_
    refine aR 7 ?_
    refine aE ?_
    exact oO hF [] [] rfl

def place_meets_R (qx : api_Spot) (qx1 : api_Spot) (qx2 : api_Spot) (qx3 : api_Spot) (r : Bool) : TV × Mem := (.v (.one (.d (.bool r))), ⟨[], []⟩)

theorem place_meets_ok {qx : api_Spot} {qx1 : api_Spot} {qx2 : api_Spot} {qx3 : api_Spot} {r} (hF : place_meets qx qx1 qx2 qx3 = some r) : Holds prog 110 [.v (.agg [.d (.int .i64 qx.X), .d (.int .i64 qx.Y)]), .v (.agg [.d (.int .i64 qx1.X), .d (.int .i64 qx1.Y)]), .v (.agg [.d (.int .i64 qx2.X), .d (.int .i64 qx2.Y)]), .v (.agg [.d (.int .i64 qx3.X), .d (.int .i64 qx3.Y)])] ⟨[], []⟩ (Is (place_meets_R qx qx1 qx2 qx3 r)) := by
  unfold place_meets at hF
  refine holds_of_awp hΓ (fn := f110) (c := cB f110) (A := 0) (nx := 0) (by kernel_rfl) (by kernel_rfl) (by kernel_rfl) (by kernel_rfl) (by kernel_rfl) (by kernel_rfl) (lowc_of (by kernel_rfl)) ?_
  show Awp prog 0 65 (cB f110) _ _
  refine awp_seq ?_
  refine awp_region ?_
  refine aR 5 ?_
  refine aE ?_
  refine awp_seq ?_
  refine awp_seq ?_
  refine awp_to (st' := place_meets_x1_I qx qx1 qx2 qx3) (oT [(1, 1000), (2, 2000), (3, 3000)] []) ?_
  refine bE hF fun vx1 h8 hF => ?_
  refine awp_sub (place_meets_x1_ok qx qx1 qx2 qx3 h8) ?_
  refine cE hF (fun h9 hF => ?_) fun h9 hF => ?_
  · refine awp_true (by kernel_rfl) h9 ?_
    refine awp_seq ?_
    refine awp_region ?_
    refine aR 1 ?_
    refine aE ?_
    refine awp_ret ?_
    exact oF hF [] []
  · refine awp_false (by kernel_rfl) h9 ?_
    refine awp_skip ?_
    refine awp_seq ?_
    refine bE hF fun _ h10 hF => ?_
    refine bE hF fun vr4 h11 hF => ?_
    refine bE hF fun _ h12 hF => ?_
    refine bE hF fun vr5 h13 hF => ?_
    refine bE hF fun _ h14 hF => ?_
    refine bE hF fun vr6 h15 hF => ?_
    refine bE hF fun _ h16 hF => ?_
    refine bE hF fun vr7 h17 hF => ?_
    refine aD ?_
    refine dR 3 ?_
    refine dC (place_side_ok h10) [] [] [] ?_
    refine dC (cmp_Compare_int_ok h11) [] [] [] ?_
    refine dR 3 ?_
    refine dC (place_side_ok h12) [] [] [] ?_
    refine dC (cmp_Compare_int_ok h13) [] [] [] ?_
    refine dR 3 ?_
    refine dC (place_side_ok h14) [] [] [] ?_
    refine dC (cmp_Compare_int_ok h15) [] [] [] ?_
    refine dR 3 ?_
    refine dC (place_side_ok h16) [] [] [] ?_
    refine dC (cmp_Compare_int_ok h17) [] [] [] ?_
    refine dR 4 ?_
    refine dE ?_
    refine awp_seq ?_
    refine awp_to (st' := place_meets_x2_I vr4 vr5 vr6 vr7) (oT [] []) ?_
    refine bE hF fun vx2_1 h19 hF => ?_
    refine awp_sub (place_meets_x2_ok vr4 vr5 vr6 vr7 h19) ?_
    refine awp_ret ?_
    exact oF hF [] []

/-! ### beaconfleet/place.crossed -/
def place_crossed_x3_k : Bool → AEx
  | _ => .normal

def place_crossed_x3_S (qx : List api_Spot) (vx : Int) (vy6 : api_Spot) (vy7 : api_Spot) (vx8 : Int) (vy10 : api_Spot) (vy11 : api_Spot) : Bool → St
  | vx12 => Mem.st ⟨[], [(0, [.d (.int .i64 vy6.X), .d (.int .i64 vy6.Y)]), (1, [.d (.int .i64 vy7.X), .d (.int .i64 vy7.Y)]), (2, [.d (.int .i64 vy10.X), .d (.int .i64 vy10.Y)]), (3, [.d (.int .i64 vy11.X), .d (.int .i64 vy11.Y)])]⟩ (tl [(0, .v (.one (.d (.lst (List.map api_Spot.enc qx))))), (3, .v (.one (.d (.int .i64 (qx.length : Int))))), (4, .v (.one (.d (.int .i64 vx)))), (5, .v (.one (.box 0 0))), (6, .v (.one (.box 1 0))), (7, .v (.one (.d (.int .i64 vx8)))), (8, .v (.one (.box 2 0))), (9, .v (.one (.box 3 0))), (10, .v (.one (.d (.bool (decide (vx8 = (IntKind.wrap .i64 (vx + 1)))))))), (11, .v (.one (.d (.bool (decide (((IntKind.wrap .i64 (vx8 + 1)).tmod (qx.length : Int)) = vx)))))), (14, .v (.one (.d (.lst (List.map api_Spot.enc qx))))), (15, .v (.one (.d (.int .i64 (qx.length : Int))))), (16, .v (.one (.d (.int .i64 vx)))), (56, .v (.one (.d (.bool vx12))))]) 4

def place_crossed_x3_I (qx : List api_Spot) (vx : Int) (vy6 : api_Spot) (vy7 : api_Spot) (vx8 : Int) (vy10 : api_Spot) (vy11 : api_Spot) : St := Mem.st ⟨[], [(0, [.d (.int .i64 vy6.X), .d (.int .i64 vy6.Y)]), (1, [.d (.int .i64 vy7.X), .d (.int .i64 vy7.Y)]), (2, [.d (.int .i64 vy10.X), .d (.int .i64 vy10.Y)]), (3, [.d (.int .i64 vy11.X), .d (.int .i64 vy11.Y)])]⟩ (tl [(0, .v (.one (.d (.lst (List.map api_Spot.enc qx))))), (3, .v (.one (.d (.int .i64 (qx.length : Int))))), (4, .v (.one (.d (.int .i64 vx)))), (5, .v (.one (.box 0 0))), (6, .v (.one (.box 1 0))), (7, .v (.one (.d (.int .i64 vx8)))), (8, .v (.one (.box 2 0))), (9, .v (.one (.box 3 0))), (10, .v (.one (.d (.bool (decide (vx8 = (IntKind.wrap .i64 (vx + 1)))))))), (11, .v (.one (.d (.bool (decide (((IntKind.wrap .i64 (vx8 + 1)).tmod (qx.length : Int)) = vx)))))), (14, .v (.one (.d (.lst (List.map api_Spot.enc qx))))), (15, .v (.one (.d (.int .i64 (qx.length : Int))))), (16, .v (.one (.d (.int .i64 vx))))]) 4

theorem place_crossed_x3_ok (qx : List api_Spot) (vx : Int) (vy6 : api_Spot) (vy7 : api_Spot) (vx8 : Int) (vy10 : api_Spot) (vy11 : api_Spot) {r} (hF : place_crossed_x3 qx vx vy6 vy7 vx8 vy10 vy11 = some r) : Awp prog 0 99 (cL (cL (cR (cR (cL (cL (cR (cL (cL (cR (cR (cR (cL (cL (cR (cR (cL (cL (cR (cL (cR (cR (cB f79))))))))))))))))))))))) (Out 0 place_crossed_x3_k (place_crossed_x3_S qx vx vy6 vy7 vx8 vy10 vy11) r) (place_crossed_x3_I qx vx vy6 vy7 vx8 vy10 vy11) := by
  unfold place_crossed_x3 at hF
  refine cE hF (fun h9 hF => ?_) fun h9 hF => ?_
  · refine cE hF (fun h10 hF => ?_) fun h10 hF => ?_
    · refine bE hF fun vr8_3 h11 hF => ?_
      refine awp_region ?_
      refine aR 1 ?_
      refine aB h9 ?_
      refine aR 2 ?_
      refine aB h10 ?_
      refine aR 6 ?_
      refine aC (place_meets_ok h11) [] [] [] ?_
      refine aR 2 ?_
      refine aE ?_
      exact oO hF [] [] rfl
    · refine awp_region ?_
      refine aR 1 ?_
      refine aB h9 ?_
      refine aR 2 ?_
      refine aB h10 ?_
      refine aR 9 ?_
      refine aE ?_
      exact oO hF [] [] rfl
  · refine awp_region ?_
    refine aR 1 ?_
    refine aB h9 ?_
    refine aR 12 ?_
    refine aE ?_
    exact oO hF [] [] rfl

def place_crossed_x4_k : Bool → AEx
  | _ => .normal

def place_crossed_x4_S (qx : List api_Spot) (vx : Int) (vy6 : api_Spot) (vy7 : api_Spot) (vx8 : Int) (vy10 : api_Spot) (vy11 : api_Spot) : Bool → St
  | vx13 => Mem.st ⟨[], [(0, [.d (.int .i64 vy6.X), .d (.int .i64 vy6.Y)]), (1, [.d (.int .i64 vy7.X), .d (.int .i64 vy7.Y)]), (2, [.d (.int .i64 vy10.X), .d (.int .i64 vy10.Y)]), (3, [.d (.int .i64 vy11.X), .d (.int .i64 vy11.Y)])]⟩ (tl [(0, .v (.one (.d (.lst (List.map api_Spot.enc qx))))), (3, .v (.one (.d (.int .i64 (qx.length : Int))))), (4, .v (.one (.d (.int .i64 vx)))), (5, .v (.one (.box 0 0))), (6, .v (.one (.box 1 0))), (7, .v (.one (.d (.int .i64 vx8)))), (8, .v (.one (.box 2 0))), (9, .v (.one (.box 3 0))), (11, .v (.one (.d (.bool (decide (((IntKind.wrap .i64 (vx8 + 1)).tmod (qx.length : Int)) = vx)))))), (14, .v (.one (.d (.lst (List.map api_Spot.enc qx))))), (15, .v (.one (.d (.int .i64 (qx.length : Int))))), (16, .v (.one (.d (.int .i64 vx)))), (70, .v (.one (.d (.bool vx13))))]) 4

def place_crossed_x4_I (qx : List api_Spot) (vx : Int) (vy6 : api_Spot) (vy7 : api_Spot) (vx8 : Int) (vy10 : api_Spot) (vy11 : api_Spot) : St := Mem.st ⟨[], [(0, [.d (.int .i64 vy6.X), .d (.int .i64 vy6.Y)]), (1, [.d (.int .i64 vy7.X), .d (.int .i64 vy7.Y)]), (2, [.d (.int .i64 vy10.X), .d (.int .i64 vy10.Y)]), (3, [.d (.int .i64 vy11.X), .d (.int .i64 vy11.Y)])]⟩ (tl [(0, .v (.one (.d (.lst (List.map api_Spot.enc qx))))), (3, .v (.one (.d (.int .i64 (qx.length : Int))))), (4, .v (.one (.d (.int .i64 vx)))), (5, .v (.one (.box 0 0))), (6, .v (.one (.box 1 0))), (7, .v (.one (.d (.int .i64 vx8)))), (8, .v (.one (.box 2 0))), (9, .v (.one (.box 3 0))), (10, .v (.one (.d (.bool (decide (vx8 = (IntKind.wrap .i64 (vx + 1)))))))), (11, .v (.one (.d (.bool (decide (((IntKind.wrap .i64 (vx8 + 1)).tmod (qx.length : Int)) = vx)))))), (14, .v (.one (.d (.lst (List.map api_Spot.enc qx))))), (15, .v (.one (.d (.int .i64 (qx.length : Int))))), (16, .v (.one (.d (.int .i64 vx))))]) 4

theorem place_crossed_x4_ok (qx : List api_Spot) (vx : Int) (vy6 : api_Spot) (vy7 : api_Spot) (vx8 : Int) (vy10 : api_Spot) (vy11 : api_Spot) {r} (hF : place_crossed_x4 vx vy6 vy7 vx8 vy10 vy11 = some r) : Awp prog 0 99 (cL (cR (cR (cL (cR (cR (cL (cL (cR (cL (cL (cR (cR (cR (cL (cL (cR (cR (cL (cL (cR (cL (cR (cR (cB f79))))))))))))))))))))))))) (Out 0 place_crossed_x4_k (place_crossed_x4_S qx vx vy6 vy7 vx8 vy10 vy11) r) (place_crossed_x4_I qx vx vy6 vy7 vx8 vy10 vy11) := by
  unfold place_crossed_x4 at hF
  refine cE hF (fun h14 hF => ?_) fun h14 hF => ?_
  · refine bE hF fun vr13 h15 hF => ?_
    refine cE hF (fun h16 hF => ?_) fun h16 hF => ?_
    · refine awp_region ?_
      refine aB h14 ?_
      refine aR 4 ?_
      refine aCb (place_on_ok h15) [] [] [] h16 ?_
      refine aR 8 ?_
      refine aE ?_
      exact oO hF [] [] rfl
    · refine bE hF fun vr14 h17 hF => ?_
      refine awp_region ?_
      refine aB h14 ?_
      refine aR 4 ?_
      refine aCb (place_on_ok h15) [] [] [] h16 ?_
      refine aR 4 ?_
      refine aC (place_on_ok h17) [] [] [] ?_
      refine aR 3 ?_
      refine aE ?_
      exact oO hF [] [] rfl
  · refine awp_region ?_
    refine aB h14 ?_
    refine aR 13 ?_
    refine aE ?_
    exact oO hF [] [] rfl

def place_crossed_x5_k : Bool → AEx
  | _ => .normal

def place_crossed_x5_S (qx : List api_Spot) (vx : Int) (vy6 : api_Spot) (vy7 : api_Spot) (vx8 : Int) (vy10 : api_Spot) (vy11 : api_Spot) : Bool → St
  | vx14 => Mem.st ⟨[], [(0, [.d (.int .i64 vy6.X), .d (.int .i64 vy6.Y)]), (1, [.d (.int .i64 vy7.X), .d (.int .i64 vy7.Y)])]⟩ (tl [(0, .v (.one (.d (.lst (List.map api_Spot.enc qx))))), (3, .v (.one (.d (.int .i64 (qx.length : Int))))), (4, .v (.one (.d (.int .i64 vx)))), (5, .v (.one (.box 0 0))), (6, .v (.one (.box 1 0))), (7, .v (.one (.d (.int .i64 vx8)))), (14, .v (.one (.d (.lst (List.map api_Spot.enc qx))))), (15, .v (.one (.d (.int .i64 (qx.length : Int))))), (16, .v (.one (.d (.int .i64 vx)))), (84, .v (.one (.d (.bool vx14))))]) 2

def place_crossed_x5_I (qx : List api_Spot) (vx : Int) (vy6 : api_Spot) (vy7 : api_Spot) (vx8 : Int) (vy10 : api_Spot) (vy11 : api_Spot) : St := Mem.st ⟨[], [(0, [.d (.int .i64 vy6.X), .d (.int .i64 vy6.Y)]), (1, [.d (.int .i64 vy7.X), .d (.int .i64 vy7.Y)]), (2, [.d (.int .i64 vy10.X), .d (.int .i64 vy10.Y)]), (3, [.d (.int .i64 vy11.X), .d (.int .i64 vy11.Y)])]⟩ (tl [(0, .v (.one (.d (.lst (List.map api_Spot.enc qx))))), (3, .v (.one (.d (.int .i64 (qx.length : Int))))), (4, .v (.one (.d (.int .i64 vx)))), (5, .v (.one (.box 0 0))), (6, .v (.one (.box 1 0))), (7, .v (.one (.d (.int .i64 vx8)))), (8, .v (.one (.box 2 0))), (9, .v (.one (.box 3 0))), (11, .v (.one (.d (.bool (decide (((IntKind.wrap .i64 (vx8 + 1)).tmod (qx.length : Int)) = vx)))))), (14, .v (.one (.d (.lst (List.map api_Spot.enc qx))))), (15, .v (.one (.d (.int .i64 (qx.length : Int))))), (16, .v (.one (.d (.int .i64 vx))))]) 4

theorem place_crossed_x5_ok (qx : List api_Spot) (vx : Int) (vy6 : api_Spot) (vy7 : api_Spot) (vx8 : Int) (vy10 : api_Spot) (vy11 : api_Spot) {r} (hF : place_crossed_x5 qx vx vy6 vy7 vx8 vy10 vy11 = some r) : Awp prog 0 99 (cL (cR (cR (cR (cR (cL (cR (cR (cL (cL (cR (cL (cL (cR (cR (cR (cL (cL (cR (cR (cL (cL (cR (cL (cR (cR (cB f79))))))))))))))))))))))))))) (Out 0 place_crossed_x5_k (place_crossed_x5_S qx vx vy6 vy7 vx8 vy10 vy11) r) (place_crossed_x5_I qx vx vy6 vy7 vx8 vy10 vy11) := by
  unfold place_crossed_x5 at hF
  refine cE hF (fun h20 hF => ?_) fun h20 hF => ?_
  · refine bE hF fun vr15 h21 hF => ?_
    refine cE hF (fun h22 hF => ?_) fun h22 hF => ?_
    · refine awp_region ?_
      refine aB h20 ?_
      refine aR 4 ?_
      refine aCb (place_on_ok h21) [] [] [] h22 ?_
      refine aR 8 ?_
      refine aE ?_
      exact oO hF [] [] rfl
    · refine bE hF fun vr16 h23 hF => ?_
      refine awp_region ?_
      refine aB h20 ?_
      refine aR 4 ?_
      refine aCb (place_on_ok h21) [] [] [] h22 ?_
      refine aR 4 ?_
      refine aC (place_on_ok h23) [] [] [] ?_
      refine aR 3 ?_
      refine aE ?_
      exact oO hF [] [] rfl
  · refine awp_region ?_
    refine aB h20 ?_
    refine aR 13 ?_
    refine aE ?_
    exact oO hF [] [] rfl

def place_crossed_x2_k : Unit ⊕ Unit → AEx
  | .inl _ => .exit 2
  | .inr _ => .ret

def place_crossed_x2_S (qx : List api_Spot) (vx : Int) (vy6 : api_Spot) (vy7 : api_Spot) : Unit ⊕ Unit → St
  | .inl _ => Mem.st ⟨[], []⟩ (tl [(0, .v (.one (.d (.lst (List.map api_Spot.enc qx))))), (3, .v (.one (.d (.int .i64 (qx.length : Int))))), (14, .v (.one (.d (.lst (List.map api_Spot.enc qx))))), (15, .v (.one (.d (.int .i64 (qx.length : Int))))), (16, .v (.one (.d (.int .i64 vx))))]) 0
  | .inr _ => Mem.st ⟨[], []⟩ (tl [(2, .v (.one (.d (.bool true))))]) 0

def place_crossed_x2_H (qx : List api_Spot) (vx : Int) (vy6 : api_Spot) (vy7 : api_Spot) : Int → St
  | vx8 => Mem.st ⟨[], [(0, [.d (.int .i64 vy6.X), .d (.int .i64 vy6.Y)]), (1, [.d (.int .i64 vy7.X), .d (.int .i64 vy7.Y)])]⟩ (tl [(0, .v (.one (.d (.lst (List.map api_Spot.enc qx))))), (3, .v (.one (.d (.int .i64 (qx.length : Int))))), (4, .v (.one (.d (.int .i64 vx)))), (5, .v (.one (.box 0 0))), (6, .v (.one (.box 1 0))), (7, .v (.one (.d (.int .i64 vx8)))), (14, .v (.one (.d (.lst (List.map api_Spot.enc qx))))), (15, .v (.one (.d (.int .i64 (qx.length : Int))))), (16, .v (.one (.d (.int .i64 vx))))]) 2

theorem place_crossed_x2_ok (qx : List api_Spot) (vx : Int) (vy6 : api_Spot) (vy7 : api_Spot) (vx8 : Int) (r : (Int) ⊕ (Unit ⊕ Unit)) (hF : place_crossed_x2 qx vx vy6 vy7 vx8 = some r) : Awp prog 0 99 (cL (cL (cR (cR (cR (cL (cL (cR (cR (cL (cL (cR (cL (cR (cR (cB f79)))))))))))))))) (Out 0 (kk place_crossed_x2_k) (SS (place_crossed_x2_H qx vx vy6 vy7) (place_crossed_x2_S qx vx vy6 vy7)) r) (place_crossed_x2_H qx vx vy6 vy7 vx8) := by
  unfold place_crossed_x2 at hF
  refine awp_seq ?_
  refine awp_seq ?_
  refine awp_region ?_
  refine aR 3 ?_
  refine aE ?_
  refine cE hF (fun h5 hF => ?_) fun h5 hF => ?_
  · refine awp_true (by kernel_rfl) h5 ?_
    refine awp_skip ?_
    refine awp_seq ?_
    refine awp_block ?_
    refine awp_seq ?_
    refine bE hF fun vy10 h6 hF => ?_
    refine gE hF fun h7 hF => ?_
    refine bE hF fun vy11 h8 hF => ?_
    refine aD ?_
    refine dR 2 ?_
    refine dX (x_idx api_Spot.enc h6) ?_
    refine dR 5 ?_
    refine dX (x_rem h7) ?_
    refine dX (x_idx api_Spot.enc h8) ?_
    refine dR 5 ?_
    refine dE ?_
    refine awp_seq ?_
    refine aD ?_
    refine dR 7 ?_
    refine dX (x_rem h7) ?_
    refine dR 4 ?_
    refine dE ?_
    refine awp_block ?_
    refine awp_seq ?_
    refine awp_to (st' := place_crossed_x3_I qx vx vy6 vy7 vx8 vy10 vy11) (oT [(2, 14002), (3, 15002)] []) ?_
    refine bE hF fun vx12_1 h12 hF => ?_
    refine awp_sub (place_crossed_x3_ok qx vx vy6 vy7 vx8 vy10 vy11 h12) ?_
    refine cE hF (fun h13 hF => ?_) fun h13 hF => ?_
    · refine awp_true (by kernel_rfl) h13 ?_
      refine awp_seq ?_
      refine awp_region ?_
      refine aR 1 ?_
      refine aE ?_
      refine awp_ret ?_
      exact oO hF [] [] rfl
    · refine awp_false (by kernel_rfl) h13 ?_
      refine awp_seq ?_
      refine awp_to (st' := place_crossed_x4_I qx vx vy6 vy7 vx8 vy10 vy11) (oT [] []) ?_
      refine bE hF fun vx13_1 h18 hF => ?_
      refine awp_sub (place_crossed_x4_ok qx vx vy6 vy7 vx8 vy10 vy11 h18) ?_
      refine cE hF (fun h19 hF => ?_) fun h19 hF => ?_
      · refine awp_true (by kernel_rfl) h19 ?_
        refine awp_seq ?_
        refine awp_region ?_
        refine aR 1 ?_
        refine aE ?_
        refine awp_ret ?_
        exact oO hF [] [] rfl
      · refine awp_false (by kernel_rfl) h19 ?_
        refine awp_seq ?_
        refine awp_to (st' := place_crossed_x5_I qx vx vy6 vy7 vx8 vy10 vy11) (oT [] []) ?_
        refine bE hF fun vx14_1 h24 hF => ?_
        refine awp_sub (place_crossed_x5_ok qx vx vy6 vy7 vx8 vy10 vy11 h24) ?_
        refine cE hF (fun h25 hF => ?_) fun h25 hF => ?_
        · refine awp_true (by kernel_rfl) h25 ?_
          refine awp_seq ?_
          refine awp_region ?_
          refine aR 1 ?_
          refine aE ?_
          refine awp_ret ?_
          exact oO hF [] [] rfl
        · refine awp_false (by kernel_rfl) h25 ?_
          refine awp_skip ?_
          refine awp_region ?_
          refine aR 3 ?_
          refine aE ?_
          exact oO hF [] [] rfl
  · refine awp_false (by kernel_rfl) h5 ?_
    refine awp_exit ?_
    exact oO hF [] [] rfl

def place_crossed_x1_k : Unit ⊕ Unit → AEx
  | .inl _ => .exit 0
  | .inr _ => .ret

def place_crossed_x1_S (qx : List api_Spot) : Unit ⊕ Unit → St
  | .inl _ => Mem.st ⟨[], []⟩ (tl []) 0
  | .inr _ => Mem.st ⟨[], []⟩ (tl [(2, .v (.one (.d (.bool true))))]) 0

def place_crossed_x1_H (qx : List api_Spot) : Int → St
  | vx => Mem.st ⟨[], []⟩ (tl [(0, .v (.one (.d (.lst (List.map api_Spot.enc qx))))), (3, .v (.one (.d (.int .i64 (qx.length : Int))))), (14, .v (.one (.d (.lst (List.map api_Spot.enc qx))))), (15, .v (.one (.d (.int .i64 (qx.length : Int))))), (16, .v (.one (.d (.int .i64 vx))))]) 0

theorem place_crossed_x1_ok (qx : List api_Spot) (vx : Int) (r : (Int) ⊕ (Unit ⊕ Unit)) (hF : place_crossed_x1 qx vx = some r) : Awp prog 0 99 (cL (cL (cR (cL (cR (cR (cB f79))))))) (Out 0 (kk place_crossed_x1_k) (SS (place_crossed_x1_H qx) (place_crossed_x1_S qx)) r) (place_crossed_x1_H qx vx) := by
  unfold place_crossed_x1 at hF
  refine awp_seq ?_
  refine awp_region ?_
  refine aR 1 ?_
  refine aE ?_
  refine awp_seq ?_
  refine cE hF (fun h1 hF => ?_) fun h1 hF => ?_
  · refine awp_true (by kernel_rfl) h1 ?_
    refine awp_skip ?_
    refine awp_seq ?_
    refine awp_block ?_
    refine awp_seq ?_
    refine bE hF fun vy6 h2 hF => ?_
    refine awp_region ?_
    refine aR 1 ?_
    refine aX (x_idx api_Spot.enc h2) ?_
    refine aR 4 ?_
    refine aE ?_
    refine awp_seq ?_
    refine gE hF fun h3 hF => ?_
    refine bE hF fun vy7 h4 hF => ?_
    refine awp_region ?_
    refine aR 4 ?_
    refine aX (x_rem h3) ?_
    refine aX (x_idx api_Spot.enc h4) ?_
    refine aR 3 ?_
    refine aE ?_
    refine awp_seq ?_
    refine awp_region ?_
    refine aR 3 ?_
    refine aE ?_
    refine awp_block ?_
    refine awp_to (st' := place_crossed_x2_H qx vx vy6 vy7 (IntKind.wrap .i64 (vx + 1))) (oT [(0, 4000), (1, 14000)] []) ?_
    refine bE hF fun x h26 hF => ?_
    rcases x with _ | _
    · refine awp_sub (awp_loop' (place_crossed_x2_H qx vx vy6 vy7) place_crossed_x2_k (place_crossed_x2_S qx vx vy6 vy7) (by intro x; rcases x with x | x <;> exact fun h => nomatch h) h26 (place_crossed_x2_ok qx vx vy6 vy7)) ?_
      refine awp_region ?_
      refine aR 2 ?_
      refine aE ?_
      exact oO hF [] [] rfl
    · refine awp_sub (awp_loop' (place_crossed_x2_H qx vx vy6 vy7) place_crossed_x2_k (place_crossed_x2_S qx vx vy6 vy7) (by intro x; rcases x with x | x <;> exact fun h => nomatch h) h26 (place_crossed_x2_ok qx vx vy6 vy7)) ?_
      exact oO hF [] [] rfl
  · refine awp_false (by kernel_rfl) h1 ?_
    refine awp_exit ?_
    exact oO hF [] [] rfl

def place_crossed_R (qx : List api_Spot) (r : Bool) : TV × Mem := (.v (.one (.d (.bool r))), ⟨[], []⟩)

theorem place_crossed_ok {qx : List api_Spot} {r} (hF : place_crossed qx = some r) : Holds prog 79 [.v (.one (.d (.lst (List.map api_Spot.enc qx))))] ⟨[], []⟩ (Is (place_crossed_R qx r)) := by
  unfold place_crossed at hF
  refine holds_of_awp hΓ (fn := f79) (c := cB f79) (A := 0) (nx := 0) (by kernel_rfl) (by kernel_rfl) (by kernel_rfl) (by kernel_rfl) (by kernel_rfl) (by kernel_rfl) (lowc_of (by kernel_rfl)) ?_
  show Awp prog 0 99 (cB f79) _ _
  refine awp_seq ?_
  refine awp_region ?_
  refine aR 1 ?_
  refine aE ?_
  refine awp_seq ?_
  refine awp_region ?_
  refine aR 1 ?_
  refine aL api_Spot.enc qx ?_
  refine aR 1 ?_
  refine aE ?_
  refine awp_seq ?_
  refine awp_seq ?_
  refine awp_region ?_
  refine aR 1 ?_
  refine aL api_Spot.enc qx ?_
  refine aR 1 ?_
  refine aE ?_
  refine awp_block ?_
  refine awp_to (st' := place_crossed_x1_H qx 0) (oT [] []) ?_
  refine bE hF fun x h27 hF => ?_
  rcases x with _ | _
  · refine awp_sub (awp_loop' (place_crossed_x1_H qx) place_crossed_x1_k (place_crossed_x1_S qx) (by intro x; rcases x with x | x <;> exact fun h => nomatch h) h27 (place_crossed_x1_ok qx)) ?_
    refine awp_seq ?_
    refine awp_region ?_
    refine aR 1 ?_
    refine aE ?_
    refine awp_ret ?_
    exact oF hF [] []
  · refine awp_sub (awp_loop' (place_crossed_x1_H qx) place_crossed_x1_k (place_crossed_x1_S qx) (by intro x; rcases x with x | x <;> exact fun h => nomatch h) h27 (place_crossed_x1_ok qx)) ?_
    exact oF hF [] []

/-! ### beaconfleet/place.CheckFence -/
def place_CheckFence_x1_k : Unit ⊕ Int → AEx
  | .inl _ => .exit 1
  | .inr _ => .ret

def place_CheckFence_x1_S (qf : api_Fence) : Unit ⊕ Int → St
  | .inl _ => Mem.st ⟨[], [(0, [.d (.str qf.Key), .d (.lst (List.map api_Spot.enc qf.Corners))])]⟩ (tl [(1, .v (.one (.box 0 0)))]) 1
  | .inr vx1 => Mem.st ⟨[], []⟩ (tl [(2, .v (.one (.d (.int .i64 vx1))))]) 0

def place_CheckFence_x1_H (qf : api_Fence) : Int → St
  | vx => Mem.st ⟨[], [(0, [.d (.str qf.Key), .d (.lst (List.map api_Spot.enc qf.Corners))])]⟩ (tl [(1, .v (.one (.box 0 0))), (21, .v (.one (.d (.lst (List.map api_Spot.enc qf.Corners))))), (22, .v (.one (.d (.int .i64 (qf.Corners.length : Int))))), (23, .v (.one (.d (.int .i64 vx))))]) 1

theorem place_CheckFence_x1_ok (qf : api_Fence) (vx : Int) (r : (Int) ⊕ (Unit ⊕ Int)) (hF : place_CheckFence_x1 qf vx = some r) : Awp prog 0 41 (cL (cL (cR (cL (cR (cR (cB f41))))))) (Out 0 (kk place_CheckFence_x1_k) (SS (place_CheckFence_x1_H qf) (place_CheckFence_x1_S qf)) r) (place_CheckFence_x1_H qf vx) := by
  unfold place_CheckFence_x1 at hF
  refine awp_seq ?_
  refine awp_region ?_
  refine aR 1 ?_
  refine aE ?_
  refine awp_seq ?_
  refine cE hF (fun h5 hF => ?_) fun h5 hF => ?_
  · refine awp_true (by kernel_rfl) h5 ?_
    refine awp_skip ?_
    refine awp_seq ?_
    refine awp_block ?_
    refine awp_seq ?_
    refine bE hF fun vy1 h6 hF => ?_
    refine awp_region ?_
    refine aR 1 ?_
    refine aX (x_idx api_Spot.enc h6) ?_
    refine aR 4 ?_
    refine aE ?_
    refine awp_seq ?_
    refine awp_seq ?_
    refine bE hF fun vr2_1 h7 hF => ?_
    refine awp_region ?_
    refine aR 1 ?_
    refine aC (place_isSpot_ok h7) [] [] [] ?_
    refine aR 1 ?_
    refine aE ?_
    refine cE hF (fun h8 hF => ?_) fun h8 hF => ?_
    · refine awp_true (by kernel_rfl) h8 ?_
      refine awp_seq ?_
      refine awp_region ?_
      refine aR 1 ?_
      refine aE ?_
      refine awp_ret ?_
      exact oO hF [] [] rfl
    · refine awp_false (by kernel_rfl) h8 ?_
      refine awp_skip ?_
      refine awp_seq ?_
      refine bE hF fun vl1 h9 hF => ?_
      refine bE hF fun vr1_1 h10 hF => ?_
      refine aD ?_
      refine dR 3 ?_
      refine dX (x_slice api_Spot.enc h9) ?_
      refine dR 1 ?_
      refine dC (slices_Contains_api_Spot_api_Spot_ok h10) [] [] [] ?_
      refine dE ?_
      refine cE hF (fun h11 hF => ?_) fun h11 hF => ?_
      · refine awp_true (by kernel_rfl) h11 ?_
        refine awp_seq ?_
        refine awp_region ?_
        refine aR 1 ?_
        refine aE ?_
        refine awp_ret ?_
        exact oO hF [] [] rfl
      · refine awp_false (by kernel_rfl) h11 ?_
        refine awp_skip ?_
        refine awp_region ?_
        refine aR 2 ?_
        refine aE ?_
        exact oO hF [] [] rfl
  · refine awp_false (by kernel_rfl) h5 ?_
    refine awp_exit ?_
    exact oO hF [] [] rfl

def place_CheckFence_R (qf : api_Fence) (r : Int) : TV × Mem := (.v (.one (.d (.int .i64 r))), ⟨[], []⟩)

theorem place_CheckFence_ok {qf : api_Fence} {r} (hF : place_CheckFence qf = some r) : Holds prog 41 [.v (.agg [.d (.str qf.Key), .d (.lst (List.map api_Spot.enc qf.Corners))])] ⟨[], []⟩ (Is (place_CheckFence_R qf r)) := by
  unfold place_CheckFence at hF
  refine holds_of_awp hΓ (fn := f41) (c := cB f41) (A := 0) (nx := 0) (by kernel_rfl) (by kernel_rfl) (by kernel_rfl) (by kernel_rfl) (by kernel_rfl) (by kernel_rfl) (lowc_of (by kernel_rfl)) ?_
  show Awp prog 0 41 (cB f41) _ _
  refine awp_seq ?_
  refine awp_region ?_
  refine aR 2 ?_
  refine aE ?_
  refine awp_seq ?_
  refine awp_block ?_
  refine awp_seq ?_
  refine bE hF fun vr h1 hF => ?_
  refine awp_region ?_
  refine aR 2 ?_
  refine aC (base_Key_ok h1) [] [] [] ?_
  refine aR 2 ?_
  refine aE ?_
  refine cE hF (fun h2 hF => ?_) fun h2 hF => ?_
  · refine awp_true (by kernel_rfl) h2 ?_
    refine awp_seq ?_
    refine awp_region ?_
    refine aR 1 ?_
    refine aE ?_
    refine awp_ret ?_
    exact oF hF [] []
  · refine awp_false (by kernel_rfl) h2 ?_
    refine awp_seq ?_
    refine awp_region ?_
    refine aR 2 ?_
    refine aL api_Spot.enc qf.Corners ?_
    refine aR 2 ?_
    refine aE ?_
    refine cE hF (fun h3 hF => ?_) fun h3 hF => ?_
    · refine awp_true (by kernel_rfl) h3 ?_
      refine awp_seq ?_
      refine awp_region ?_
      refine aR 1 ?_
      refine aE ?_
      refine awp_ret ?_
      exact oF hF [] []
    · refine awp_false (by kernel_rfl) h3 ?_
      refine awp_seq ?_
      refine awp_region ?_
      refine aR 2 ?_
      refine aL api_Spot.enc qf.Corners ?_
      refine aR 2 ?_
      refine aE ?_
      refine cE hF (fun h4 hF => ?_) fun h4 hF => ?_
      · refine awp_true (by kernel_rfl) h4 ?_
        refine awp_seq ?_
        refine awp_region ?_
        refine aR 1 ?_
        refine aE ?_
        refine awp_ret ?_
        exact oF hF [] []
      · refine awp_false (by kernel_rfl) h4 ?_
        refine awp_skip ?_
        refine awp_seq ?_
        refine awp_seq ?_
        refine awp_region ?_
        refine aR 2 ?_
        refine aL api_Spot.enc qf.Corners ?_
        refine aR 1 ?_
        refine aE ?_
        refine awp_block ?_
        refine awp_to (st' := place_CheckFence_x1_H qf 0) (oT [] []) ?_
        refine bE hF fun x h12 hF => ?_
        rcases x with _ | vx1_1
        · refine awp_sub (awp_loop' (place_CheckFence_x1_H qf) place_CheckFence_x1_k (place_CheckFence_x1_S qf) (by intro x; rcases x with x | x <;> exact fun h => nomatch h) h12 (place_CheckFence_x1_ok qf)) ?_
          refine awp_seq ?_
          refine awp_seq ?_
          refine bE hF fun vr17 h13 hF => ?_
          refine awp_region ?_
          refine aR 2 ?_
          refine aC (place_crossed_ok h13) [] [] [] ?_
          refine aE ?_
          refine cE hF (fun h14 hF => ?_) fun h14 hF => ?_
          · refine awp_true (by kernel_rfl) h14 ?_
            refine awp_seq ?_
            refine awp_region ?_
            refine aR 1 ?_
            refine aE ?_
            refine awp_ret ?_
            exact oF hF [] []
          · refine awp_false (by kernel_rfl) h14 ?_
            refine awp_skip ?_
            refine awp_seq ?_
            refine awp_region ?_
            refine aR 1 ?_
            refine aE ?_
            refine awp_ret ?_
            exact oF hF [] []
        · refine awp_sub (awp_loop' (place_CheckFence_x1_H qf) place_CheckFence_x1_k (place_CheckFence_x1_S qf) (by intro x; rcases x with x | x <;> exact fun h => nomatch h) h12 (place_CheckFence_x1_ok qf)) ?_
          exact oF hF [] []

/-! ### beaconfleet/base.First -/
def base_First_x1_k : Unit ⊕ Int → AEx
  | .inl _ => .exit 0
  | .inr _ => .ret

def base_First_x1_S (ql : List Int) : Unit ⊕ Int → St
  | .inl _ => Mem.st ⟨[], []⟩ (tl []) 0
  | .inr vx1 => Mem.st ⟨[], []⟩ (tl [(2, .v (.one (.d (.int .i64 vx1))))]) 0

def base_First_x1_H (ql : List Int) : Int → St
  | vx => Mem.st ⟨[], []⟩ (tl [(5, .v (.one (.d (.lst (List.map (encI .i64) ql))))), (6, .v (.one (.d (.int .i64 (ql.length : Int))))), (7, .v (.one (.d (.int .i64 vx))))]) 0

theorem base_First_x1_ok (ql : List Int) (vx : Int) (r : (Int) ⊕ (Unit ⊕ Int)) (hF : base_First_x1 ql vx = some r) : Awp prog 0 15 (cL (cL (cR (cL (cR (cB f40)))))) (Out 0 (kk base_First_x1_k) (SS (base_First_x1_H ql) (base_First_x1_S ql)) r) (base_First_x1_H ql vx) := by
  unfold base_First_x1 at hF
  refine awp_seq ?_
  refine awp_region ?_
  refine aR 1 ?_
  refine aE ?_
  refine awp_seq ?_
  refine cE hF (fun h1 hF => ?_) fun h1 hF => ?_
  · refine awp_true (by kernel_rfl) h1 ?_
    refine awp_skip ?_
    refine awp_seq ?_
    refine awp_block ?_
    refine awp_seq ?_
    refine bE hF fun vy1 h2 hF => ?_
    refine awp_region ?_
    refine aX (x_idx (encI .i64) h2) ?_
    refine aR 2 ?_
    refine aE ?_
    refine awp_seq ?_
    refine awp_region ?_
    refine aR 2 ?_
    refine aE ?_
    refine cE hF (fun h3 hF => ?_) fun h3 hF => ?_
    · refine awp_true (by kernel_rfl) h3 ?_
      refine awp_seq ?_
      refine awp_region ?_
      refine aR 2 ?_
      refine aE ?_
      refine awp_ret ?_
      exact oO hF [] [] rfl
    · refine awp_false (by kernel_rfl) h3 ?_
      refine awp_skip ?_
      refine awp_region ?_
      refine aR 2 ?_
      refine aE ?_
      exact oO hF [] [] rfl
  · refine awp_false (by kernel_rfl) h1 ?_
    refine awp_exit ?_
    exact oO hF [] [] rfl

def base_First_R (ql : List Int) (r : Int) : TV × Mem := (.v (.one (.d (.int .i64 r))), ⟨[], []⟩)

theorem base_First_ok {ql : List Int} {r} (hF : base_First ql = some r) : Holds prog 40 [.v (.one (.d (.lst (List.map (encI .i64) ql))))] ⟨[], []⟩ (Is (base_First_R ql r)) := by
  unfold base_First at hF
  refine holds_of_awp hΓ (fn := f40) (c := cB f40) (A := 0) (nx := 0) (by kernel_rfl) (by kernel_rfl) (by kernel_rfl) (by kernel_rfl) (by kernel_rfl) (by kernel_rfl) (lowc_of (by kernel_rfl)) ?_
  show Awp prog 0 15 (cB f40) _ _
  refine awp_seq ?_
  refine awp_region ?_
  refine aR 1 ?_
  refine aE ?_
  refine awp_seq ?_
  refine awp_seq ?_
  refine awp_region ?_
  refine aR 1 ?_
  refine aL (encI .i64) ql ?_
  refine aR 1 ?_
  refine aE ?_
  refine awp_block ?_
  refine awp_to (st' := base_First_x1_H ql 0) (oT [] []) ?_
  refine bE hF fun x h4 hF => ?_
  rcases x with _ | vx1_1
  · refine awp_sub (awp_loop' (base_First_x1_H ql) base_First_x1_k (base_First_x1_S ql) (by intro x; rcases x with x | x <;> exact fun h => nomatch h) h4 (base_First_x1_ok ql)) ?_
    refine awp_seq ?_
    refine awp_region ?_
    refine aR 1 ?_
    refine aE ?_
    refine awp_ret ?_
    exact oF hF [] []
  · refine awp_sub (awp_loop' (base_First_x1_H ql) base_First_x1_k (base_First_x1_S ql) (by intro x; rcases x with x | x <;> exact fun h => nomatch h) h4 (base_First_x1_ok ql)) ?_
    exact oF hF [] []

/-! ### beaconfleet/place.where$1 -/
def place_where_1_R (qa : api_Spot) (qb : api_Spot) (qx : api_Spot) (r : Bool) : TV × Mem := (.v (.one (.d (.bool r))), ⟨[], [(0, [.d (.int .i64 qx.X), .d (.int .i64 qx.Y)])]⟩)

theorem place_where_1_ok {qa : api_Spot} {qb : api_Spot} {qx : api_Spot} {r} (hF : place_where_1 qa qb qx = some r) : Holds prog 120 [.v (.agg [.d (.int .i64 qa.X), .d (.int .i64 qa.Y)]), .v (.agg [.d (.int .i64 qb.X), .d (.int .i64 qb.Y)]), .v (.one (.box 0 0))] ⟨[], [(0, [.d (.int .i64 qx.X), .d (.int .i64 qx.Y)])]⟩ (Is (place_where_1_R qa qb qx r)) := by
  unfold place_where_1 at hF
  refine holds_of_awp hΓ (fn := f120) (c := cB f120) (A := 1) (nx := 1) (by kernel_rfl) (by kernel_rfl) (by kernel_rfl) (by kernel_rfl) (by kernel_rfl) (by kernel_rfl) (lowc_of (by kernel_rfl)) ?_
  show Awp prog 1 10 (cB f120) _ _
  refine awp_seq ?_
  refine awp_region ?_
  refine aR 3 ?_
  refine aE ?_
  refine awp_seq ?_
  refine bE hF fun vr h1 hF => ?_
  refine awp_region ?_
  refine aR 3 ?_
  refine aC (place_on_ok h1) [] [] [] ?_
  refine aR 1 ?_
  refine aE ?_
  refine awp_ret ?_
  exact oF hF [] []

/-! ### beaconfleet/place.edges -/
def place_edges_f1_place_where_1_x1_k : Unit ⊕ Unit → AEx
  | .inl _ => .exit 0
  | .inr _ => .ret

def place_edges_f1_place_where_1_x1_S (ql : List api_Spot) (qf : api_Spot) : Unit ⊕ Unit → St
  | .inl _ => Mem.st ⟨[], [(0, [.d (.int .i64 qf.X), .d (.int .i64 qf.Y)])]⟩ (tl []) 1
  | .inr _ => Mem.st ⟨[], [(0, [.d (.int .i64 qf.X), .d (.int .i64 qf.Y)])]⟩ (tl [(4, .v (.one (.d (.bool true))))]) 1

def place_edges_f1_place_where_1_x1_H (ql : List api_Spot) (qf : api_Spot) : Int → St
  | vx => Mem.st ⟨[], [(0, [.d (.int .i64 qf.X), .d (.int .i64 qf.Y)])]⟩ (tl [(0, .v (.one (.d (.lst (List.map api_Spot.enc ql))))), (1, .v (.one (.fn 120 [0]))), (7, .v (.one (.d (.lst (List.map api_Spot.enc ql))))), (8, .v (.one (.d (.int .i64 (ql.length : Int))))), (9, .v (.one (.d (.int .i64 vx))))]) 1

theorem place_edges_f1_place_where_1_x1_ok (ql : List api_Spot) (qf : api_Spot) (vx : Int) (r : (Int) ⊕ (Unit ⊕ Unit)) (hF : place_edges_f1_place_where_1_x1 ql qf vx = some r) : Awp prog 1 26 (cL (cL (cR (cL (cR (cB f107)))))) (Out 1 (kk place_edges_f1_place_where_1_x1_k) (SS (place_edges_f1_place_where_1_x1_H ql qf) (place_edges_f1_place_where_1_x1_S ql qf)) r) (place_edges_f1_place_where_1_x1_H ql qf vx) := by
  unfold place_edges_f1_place_where_1_x1 at hF
  refine awp_seq ?_
  refine awp_region ?_
  refine aR 1 ?_
  refine aE ?_
  refine awp_seq ?_
  refine cE hF (fun h1 hF => ?_) fun h1 hF => ?_
  · refine awp_true (by kernel_rfl) h1 ?_
    refine awp_skip ?_
    refine awp_seq ?_
    refine awp_block ?_
    refine awp_seq ?_
    refine bE hF fun vy2 h2 hF => ?_
    refine awp_region ?_
    refine aR 1 ?_
    refine aX (x_idx api_Spot.enc h2) ?_
    refine aR 4 ?_
    refine aE ?_
    refine awp_seq ?_
    refine gE hF fun h3 hF => ?_
    refine bE hF fun vy3 h4 hF => ?_
    refine bE hF fun vr1_1 h5 hF => ?_
    refine aD ?_
    refine dR 6 ?_
    refine dL api_Spot.enc ql ?_
    refine dX (x_rem h3) ?_
    refine dX (x_idx api_Spot.enc h4) ?_
    refine dR 1 ?_
    refine dC (place_where_1_ok h5) [] [] [] ?_
    refine dE ?_
    refine cE hF (fun h6 hF => ?_) fun h6 hF => ?_
    · refine awp_true (by kernel_rfl) h6 ?_
      refine awp_seq ?_
      refine awp_region ?_
      refine aR 1 ?_
      refine aE ?_
      refine awp_ret ?_
      exact oO hF [] [] rfl
    · refine awp_false (by kernel_rfl) h6 ?_
      refine awp_skip ?_
      refine awp_region ?_
      refine aR 2 ?_
      refine aE ?_
      exact oO hF [] [] rfl
  · refine awp_false (by kernel_rfl) h1 ?_
    refine awp_exit ?_
    exact oO hF [] [] rfl

def place_edges_f1_place_where_1_R (ql : List api_Spot) (qf : api_Spot) (r : Bool) : TV × Mem := (.v (.one (.d (.bool r))), ⟨[], [(0, [.d (.int .i64 qf.X), .d (.int .i64 qf.Y)])]⟩)

theorem place_edges_f1_place_where_1_ok {ql : List api_Spot} {qf : api_Spot} {r} (hF : place_edges_f1_place_where_1 ql qf = some r) : Holds prog 107 [.v (.one (.d (.lst (List.map api_Spot.enc ql)))), .v (.one (.fn 120 [0]))] ⟨[], [(0, [.d (.int .i64 qf.X), .d (.int .i64 qf.Y)])]⟩ (Is (place_edges_f1_place_where_1_R ql qf r)) := by
  unfold place_edges_f1_place_where_1 at hF
  refine holds_of_awp hΓ (fn := f107) (c := cB f107) (A := 1) (nx := 1) (by kernel_rfl) (by kernel_rfl) (by kernel_rfl) (by kernel_rfl) (by kernel_rfl) (by kernel_rfl) (lowc_of (by kernel_rfl)) ?_
  show Awp prog 1 26 (cB f107) _ _
  refine awp_seq ?_
  refine awp_region ?_
  refine aR 1 ?_
  refine aE ?_
  refine awp_seq ?_
  refine awp_seq ?_
  refine awp_region ?_
  refine aR 1 ?_
  refine aL api_Spot.enc ql ?_
  refine aR 1 ?_
  refine aE ?_
  refine awp_block ?_
  refine awp_to (st' := place_edges_f1_place_where_1_x1_H ql qf 0) (oT [] []) ?_
  refine bE hF fun x h7 hF => ?_
  rcases x with _ | _
  · refine awp_sub (awp_loop' (place_edges_f1_place_where_1_x1_H ql qf) place_edges_f1_place_where_1_x1_k (place_edges_f1_place_where_1_x1_S ql qf) (by intro x; rcases x with x | x <;> exact fun h => nomatch h) h7 (place_edges_f1_place_where_1_x1_ok ql qf)) ?_
    refine awp_seq ?_
    refine awp_region ?_
    refine aR 1 ?_
    refine aE ?_
    refine awp_ret ?_
    exact oF hF [] []
  · refine awp_sub (awp_loop' (place_edges_f1_place_where_1_x1_H ql qf) place_edges_f1_place_where_1_x1_k (place_edges_f1_place_where_1_x1_S ql qf) (by intro x; rcases x with x | x <;> exact fun h => nomatch h) h7 (place_edges_f1_place_where_1_x1_ok ql qf)) ?_
    exact oF hF [] []

/-! ### beaconfleet/place.where$2 -/
def place_where_2_x1_k : (api_Spot × api_Spot) → AEx
  | _ => .normal

def place_where_2_x1_S (qa : api_Spot) (qb : api_Spot) (qx : api_Spot) (qx1 : Bool) : (api_Spot × api_Spot) → St
  | (va, vb) => Mem.st ⟨[], [(0, [.d (.int .i64 qx.X), .d (.int .i64 qx.Y)]), (1, [.d (.bool qx1)]), (2, [.d (.int .i64 va.X), .d (.int .i64 va.Y)]), (3, [.d (.int .i64 vb.X), .d (.int .i64 vb.Y)])]⟩ (tl [(2, .v (.one (.box 0 0))), (3, .v (.one (.box 1 0))), (4, .v (.one (.box 2 0))), (5, .v (.one (.box 3 0)))]) 4

def place_where_2_x1_I (qa : api_Spot) (qb : api_Spot) (qx : api_Spot) (qx1 : Bool) : St := Mem.st ⟨[], [(0, [.d (.int .i64 qx.X), .d (.int .i64 qx.Y)]), (1, [.d (.bool qx1)]), (2, [.d (.int .i64 qa.X), .d (.int .i64 qa.Y)]), (3, [.d (.int .i64 qb.X), .d (.int .i64 qb.Y)])]⟩ (tl [(2, .v (.one (.box 0 0))), (3, .v (.one (.box 1 0))), (4, .v (.one (.box 2 0))), (5, .v (.one (.box 3 0)))]) 4

theorem place_where_2_x1_ok (qa : api_Spot) (qb : api_Spot) (qx : api_Spot) (qx1 : Bool) {r} (hF : place_where_2_x1 qa qb = some r) : Awp prog 2 35 (cL (cR (cB f121))) (Out 2 place_where_2_x1_k (place_where_2_x1_S qa qb qx qx1) r) (place_where_2_x1_I qa qb qx qx1) := by
  unfold place_where_2_x1 at hF
  refine awp_seq ?_
  refine awp_region ?_
  refine aR 5 ?_
  refine aE ?_
  refine cE hF (fun h1 hF => ?_) fun h1 hF => ?_
  · refine awp_true (by kernel_rfl) h1 ?_
    refine awp_region ?_
    refine aR 4 ?_
    refine aE ?_
    exact oO hF [] [] rfl
  · refine awp_false (by kernel_rfl) h1 ?_
    refine awp_skip ?_
    exact oO hF [] [] rfl

def place_where_2_x3_k : Bool → AEx
  | _ => .normal

def place_where_2_x3_S (qx : api_Spot) (qx1 : Bool) (va1 : api_Spot) (vb1 : api_Spot) : Bool → St
  | vx => Mem.st ⟨[], [(0, [.d (.int .i64 qx.X), .d (.int .i64 qx.Y)]), (1, [.d (.bool qx1)])]⟩ (tl [(3, .v (.one (.box 1 0))), (32, .v (.one (.d (.bool vx))))]) 2

def place_where_2_x3_I (qx : api_Spot) (qx1 : Bool) (va1 : api_Spot) (vb1 : api_Spot) : St := Mem.st ⟨[], [(0, [.d (.int .i64 qx.X), .d (.int .i64 qx.Y)]), (1, [.d (.bool qx1)]), (2, [.d (.int .i64 va1.X), .d (.int .i64 va1.Y)]), (3, [.d (.int .i64 vb1.X), .d (.int .i64 vb1.Y)])]⟩ (tl [(2, .v (.one (.box 0 0))), (3, .v (.one (.box 1 0))), (4, .v (.one (.box 2 0))), (5, .v (.one (.box 3 0)))]) 4

theorem place_where_2_x3_ok (qx : api_Spot) (qx1 : Bool) (va1 : api_Spot) (vb1 : api_Spot) {r} (hF : place_where_2_x3 qx va1 vb1 = some r) : Awp prog 2 35 (cL (cL (cR (cR (cB f121))))) (Out 2 place_where_2_x3_k (place_where_2_x3_S qx qx1 va1 vb1) r) (place_where_2_x3_I qx qx1 va1 vb1) := by
  unfold place_where_2_x3 at hF
  refine cE hF (fun h3 hF => ?_) fun h3 hF => ?_
  · refine cE hF (fun h4 hF => ?_) fun h4 hF => ?_
    · refine bE hF fun _ h5 hF => ?_
      refine awp_region ?_
      refine aR 4 ?_
      refine aB h3 ?_
      refine aR 5 ?_
      refine aB h4 ?_
      refine aR 5 ?_
      refine aC (place_side_ok h5) [] [] [] ?_
      refine aR 2 ?_
      refine aE ?_
      exact oO hF [] [] rfl
    · refine awp_region ?_
      refine aR 4 ?_
      refine aB h3 ?_
      refine aR 5 ?_
      refine aB h4 ?_
      refine aR 8 ?_
      refine aE ?_
      exact oO hF [] [] rfl
  · refine awp_region ?_
    refine aR 4 ?_
    refine aB h3 ?_
    refine aR 14 ?_
    refine aE ?_
    exact oO hF [] [] rfl

def place_where_2_x2_k : Bool → AEx
  | _ => .normal

def place_where_2_x2_S (qx : api_Spot) (qx1 : Bool) (va1 : api_Spot) (vb1 : api_Spot) : Bool → St
  | vs => Mem.st ⟨[], [(0, [.d (.int .i64 qx.X), .d (.int .i64 qx.Y)]), (1, [.d (.bool vs)])]⟩ (tl []) 2

def place_where_2_x2_I (qx : api_Spot) (qx1 : Bool) (va1 : api_Spot) (vb1 : api_Spot) : St := Mem.st ⟨[], [(0, [.d (.int .i64 qx.X), .d (.int .i64 qx.Y)]), (1, [.d (.bool qx1)]), (2, [.d (.int .i64 va1.X), .d (.int .i64 va1.Y)]), (3, [.d (.int .i64 vb1.X), .d (.int .i64 vb1.Y)])]⟩ (tl [(2, .v (.one (.box 0 0))), (3, .v (.one (.box 1 0))), (4, .v (.one (.box 2 0))), (5, .v (.one (.box 3 0)))]) 4

theorem place_where_2_x2_ok (qx : api_Spot) (qx1 : Bool) (va1 : api_Spot) (vb1 : api_Spot) {r} (hF : place_where_2_x2 qx qx1 va1 vb1 = some r) : Awp prog 2 35 (cL (cR (cR (cB f121)))) (Out 2 place_where_2_x2_k (place_where_2_x2_S qx qx1 va1 vb1) r) (place_where_2_x2_I qx qx1 va1 vb1) := by
  unfold place_where_2_x2 at hF
  refine awp_seq ?_
  refine awp_to (st' := place_where_2_x3_I qx qx1 va1 vb1) (oT [] []) ?_
  refine bE hF fun vx1 h6 hF => ?_
  refine awp_sub (place_where_2_x3_ok qx qx1 va1 vb1 h6) ?_
  refine cE hF (fun h7 hF => ?_) fun h7 hF => ?_
  · refine awp_true (by kernel_rfl) h7 ?_
    refine awp_region ?_
    refine aR 3 ?_
    refine aE ?_
    exact oO hF [] [] rfl
  · refine awp_false (by kernel_rfl) h7 ?_
    refine awp_skip ?_
    exact oO hF [] [] rfl

def place_where_2_R (qa : api_Spot) (qb : api_Spot) (qx : api_Spot) (qx1 : Bool) (r : Bool) : TV × Mem := (.v (.one (.d (.bool false))), ⟨[], [(0, [.d (.int .i64 qx.X), .d (.int .i64 qx.Y)]), (1, [.d (.bool r)])]⟩)

theorem place_where_2_ok {qa : api_Spot} {qb : api_Spot} {qx : api_Spot} {qx1 : Bool} {r} (hF : place_where_2 qa qb qx qx1 = some r) : Holds prog 121 [.v (.agg [.d (.int .i64 qa.X), .d (.int .i64 qa.Y)]), .v (.agg [.d (.int .i64 qb.X), .d (.int .i64 qb.Y)]), .v (.one (.box 0 0)), .v (.one (.box 1 0))] ⟨[], [(0, [.d (.int .i64 qx.X), .d (.int .i64 qx.Y)]), (1, [.d (.bool qx1)])]⟩ (Is (place_where_2_R qa qb qx qx1 r)) := by
  unfold place_where_2 at hF
  refine holds_of_awp hΓ (fn := f121) (c := cB f121) (A := 2) (nx := 2) (by kernel_rfl) (by kernel_rfl) (by kernel_rfl) (by kernel_rfl) (by kernel_rfl) (by kernel_rfl) (lowc_of (by kernel_rfl)) ?_
  show Awp prog 2 35 (cB f121) _ _
  refine awp_seq ?_
  refine awp_region ?_
  refine aR 3 ?_
  refine aE ?_
  refine awp_seq ?_
  refine awp_to (st' := place_where_2_x1_I qa qb qx qx1) (oT [(3, 1002)] []) ?_
  refine bE hF fun x h2 hF => ?_
  obtain ⟨va1, vb1⟩ := x
  refine awp_sub (place_where_2_x1_ok qa qb qx qx1 h2) ?_
  refine awp_seq ?_
  refine awp_to (st' := place_where_2_x2_I qx qx1 va1 vb1) (oT [] []) ?_
  refine bE hF fun vs1 h8 hF => ?_
  refine awp_sub (place_where_2_x2_ok qx qx1 va1 vb1 h8) ?_
  refine awp_seq ?_
  refine awp_region ?_
  refine aR 1 ?_
  refine aE ?_
  refine awp_ret ?_
  exact oF hF [] []

/-! ### beaconfleet/place.edges -/
def place_edges_f1_place_where_2_x1_k : Bool → AEx
  | _ => .exit 0

def place_edges_f1_place_where_2_x1_S (ql : List api_Spot) (qf : api_Spot) : Bool → St
  | vs1 => Mem.st ⟨[], [(0, [.d (.int .i64 qf.X), .d (.int .i64 qf.Y)]), (1, [.d (.bool vs1)])]⟩ (tl []) 2

def place_edges_f1_place_where_2_x1_H (ql : List api_Spot) (qf : api_Spot) : Bool × Int → St
  | (vs, vx) => Mem.st ⟨[], [(0, [.d (.int .i64 qf.X), .d (.int .i64 qf.Y)]), (1, [.d (.bool vs)])]⟩ (tl [(0, .v (.one (.d (.lst (List.map api_Spot.enc ql))))), (1, .v (.one (.fn 121 [0, 1]))), (7, .v (.one (.d (.lst (List.map api_Spot.enc ql))))), (8, .v (.one (.d (.int .i64 (ql.length : Int))))), (9, .v (.one (.d (.int .i64 vx))))]) 2

theorem place_edges_f1_place_where_2_x1_ok (ql : List api_Spot) (qf : api_Spot) (s : Bool × Int) (r : (Bool × Int) ⊕ (Bool)) (hF : place_edges_f1_place_where_2_x1 ql qf s = some r) : Awp prog 2 26 (cL (cL (cR (cL (cR (cB f107)))))) (Out 2 (kk place_edges_f1_place_where_2_x1_k) (SS (place_edges_f1_place_where_2_x1_H ql qf) (place_edges_f1_place_where_2_x1_S ql qf)) r) (place_edges_f1_place_where_2_x1_H ql qf s) := by
  obtain ⟨vs, vx⟩ := s
  unfold place_edges_f1_place_where_2_x1 at hF
  refine awp_seq ?_
  refine awp_region ?_
  refine aR 1 ?_
  refine aE ?_
  refine awp_seq ?_
  refine cE hF (fun h1 hF => ?_) fun h1 hF => ?_
  · refine awp_true (by kernel_rfl) h1 ?_
    refine awp_skip ?_
    refine awp_seq ?_
    refine awp_block ?_
    refine awp_seq ?_
    refine bE hF fun vy2 h2 hF => ?_
    refine awp_region ?_
    refine aR 1 ?_
    refine aX (x_idx api_Spot.enc h2) ?_
    refine aR 4 ?_
    refine aE ?_
    refine awp_seq ?_
    refine gE hF fun h3 hF => ?_
    refine bE hF fun vy3 h4 hF => ?_
    refine bE hF fun vs2_1 h5 hF => ?_
    refine aD ?_
    refine dR 6 ?_
    refine dL api_Spot.enc ql ?_
    refine dX (x_rem h3) ?_
    refine dX (x_idx api_Spot.enc h4) ?_
    refine dR 1 ?_
    refine dC (place_where_2_ok h5) [] [] [] ?_
    refine dE ?_
    refine awp_false (by kernel_rfl) rfl ?_
    refine awp_skip ?_
    refine awp_region ?_
    refine aR 2 ?_
    refine aE ?_
    exact oO hF [] [] rfl
  · refine awp_false (by kernel_rfl) h1 ?_
    refine awp_exit ?_
    exact oO hF [] [] rfl

def place_edges_f1_place_where_2_R (ql : List api_Spot) (qf : api_Spot) (qf1 : Bool) (r : Bool) : TV × Mem := (.v (.one (.d (.bool false))), ⟨[], [(0, [.d (.int .i64 qf.X), .d (.int .i64 qf.Y)]), (1, [.d (.bool r)])]⟩)

theorem place_edges_f1_place_where_2_ok {ql : List api_Spot} {qf : api_Spot} {qf1 : Bool} {r} (hF : place_edges_f1_place_where_2 ql qf qf1 = some r) : Holds prog 107 [.v (.one (.d (.lst (List.map api_Spot.enc ql)))), .v (.one (.fn 121 [0, 1]))] ⟨[], [(0, [.d (.int .i64 qf.X), .d (.int .i64 qf.Y)]), (1, [.d (.bool qf1)])]⟩ (Is (place_edges_f1_place_where_2_R ql qf qf1 r)) := by
  unfold place_edges_f1_place_where_2 at hF
  refine holds_of_awp hΓ (fn := f107) (c := cB f107) (A := 2) (nx := 2) (by kernel_rfl) (by kernel_rfl) (by kernel_rfl) (by kernel_rfl) (by kernel_rfl) (by kernel_rfl) (lowc_of (by kernel_rfl)) ?_
  show Awp prog 2 26 (cB f107) _ _
  refine awp_seq ?_
  refine awp_region ?_
  refine aR 1 ?_
  refine aE ?_
  refine awp_seq ?_
  refine awp_seq ?_
  refine awp_region ?_
  refine aR 1 ?_
  refine aL api_Spot.enc ql ?_
  refine aR 1 ?_
  refine aE ?_
  refine awp_block ?_
  refine awp_to (st' := place_edges_f1_place_where_2_x1_H ql qf (qf1, 0)) (oT [] []) ?_
  refine bE hF fun vs1_1 h6 hF => ?_
  refine awp_sub (awp_loop' (place_edges_f1_place_where_2_x1_H ql qf) place_edges_f1_place_where_2_x1_k (place_edges_f1_place_where_2_x1_S ql qf) (by intro x; exact fun h => nomatch h) h6 (place_edges_f1_place_where_2_x1_ok ql qf)) ?_
  refine awp_seq ?_
  refine awp_region ?_
  refine aR 1 ?_
  refine aE ?_
  refine awp_ret ?_
  exact oF hF [] []

/-! ### beaconfleet/place.where -/
def place_where_R (ql : List api_Spot) (qs : api_Spot) (r : Int) : TV × Mem := (.v (.one (.d (.int .i64 r))), ⟨[], []⟩)

theorem place_where_ok {ql : List api_Spot} {qs : api_Spot} {r} (hF : place_where ql qs = some r) : Holds prog 80 [.v (.one (.d (.lst (List.map api_Spot.enc ql)))), .v (.agg [.d (.int .i64 qs.X), .d (.int .i64 qs.Y)])] ⟨[], []⟩ (Is (place_where_R ql qs r)) := by
  unfold place_where at hF
  refine holds_of_awp hΓ (fn := f80) (c := cB f80) (A := 0) (nx := 0) (by kernel_rfl) (by kernel_rfl) (by kernel_rfl) (by kernel_rfl) (by kernel_rfl) (by kernel_rfl) (lowc_of (by kernel_rfl)) ?_
  show Awp prog 0 13 (cB f80) _ _
  refine awp_seq ?_
  refine awp_region ?_
  refine aR 2 ?_
  refine aE ?_
  refine awp_seq ?_
  refine awp_seq ?_
  refine bE hF fun vr h1 hF => ?_
  refine awp_region ?_
  refine aR 2 ?_
  refine aC (place_edges_f1_place_where_1_ok h1) [] [] [] ?_
  refine aE ?_
  refine cE hF (fun h2 hF => ?_) fun h2 hF => ?_
  · refine awp_true (by kernel_rfl) h2 ?_
    refine awp_seq ?_
    refine awp_region ?_
    refine aR 1 ?_
    refine aE ?_
    refine awp_ret ?_
    exact oF hF [] []
  · refine awp_false (by kernel_rfl) h2 ?_
    refine awp_skip ?_
    refine awp_seq ?_
    refine awp_region ?_
    refine aR 2 ?_
    refine aE ?_
    refine awp_seq ?_
    refine bE hF fun vs3 h3 hF => ?_
    refine awp_region ?_
    refine aR 2 ?_
    refine aC (place_edges_f1_place_where_2_ok h3) [(1, 5000)] [] [] ?_
    refine aE ?_
    refine awp_seq ?_
    refine awp_seq ?_
    refine awp_region ?_
    refine aR 1 ?_
    refine aE ?_
    refine cE hF (fun h4 hF => ?_) fun h4 hF => ?_
    · refine awp_true (by kernel_rfl) h4 ?_
      refine awp_seq ?_
      refine awp_region ?_
      refine aR 1 ?_
      refine aE ?_
      refine awp_ret ?_
      exact oF hF [] []
    · refine awp_false (by kernel_rfl) h4 ?_
      refine awp_skip ?_
      refine awp_seq ?_
      refine awp_region ?_
      refine aR 1 ?_
      refine aE ?_
      refine awp_ret ?_
      exact oF hF [] []

/-! ### beaconfleet/place.farOf$1 -/
def place_farOf_1_x2_k : Bool → AEx
  | _ => .normal

def place_farOf_1_x2_S (qx : api_Spot) (qx1 : api_Fraction) (vr : api_Fraction) : Bool → St
  | vx => Mem.st ⟨[], [(0, [.d (.int .i64 qx.X), .d (.int .i64 qx.Y)]), (1, [.d (.int .i64 qx1.Num), .d (.int .i64 qx1.Den)]), (2, [.d (.int .i64 vr.Num), .d (.int .i64 vr.Den)])]⟩ (tl [(3, .v (.one (.box 1 0))), (7, .v (.one (.box 2 0))), (19, .v (.one (.d (.bool vx))))]) 3

def place_farOf_1_x2_I (qx : api_Spot) (qx1 : api_Fraction) (vr : api_Fraction) : St := Mem.st ⟨[], [(0, [.d (.int .i64 qx.X), .d (.int .i64 qx.Y)]), (1, [.d (.int .i64 qx1.Num), .d (.int .i64 qx1.Den)]), (2, [.d (.int .i64 vr.Num), .d (.int .i64 vr.Den)])]⟩ (tl [(3, .v (.one (.box 1 0))), (7, .v (.one (.box 2 0)))]) 3

theorem place_farOf_1_x2_ok (qx : api_Spot) (qx1 : api_Fraction) (vr : api_Fraction) {r} (hF : place_farOf_1_x2 qx1 vr = some r) : Awp prog 2 21 (cL (cR (cL (cR (cB f122))))) (Out 2 place_farOf_1_x2_k (place_farOf_1_x2_S qx qx1 vr) r) (place_farOf_1_x2_I qx qx1 vr) := by
  unfold place_farOf_1_x2 at hF
  refine cE hF (fun h2 hF => ?_) fun h2 hF => ?_
  · refine awp_region ?_
    refine aR 2 ?_
    refine aB h2 ?_
    refine aR 5 ?_
    refine aE ?_
    exact oO hF [] [] rfl
  · refine bE hF fun vr1 h3 hF => ?_
    refine awp_region ?_
    refine aR 2 ?_
    refine aB h2 ?_
    refine aR 3 ?_
    refine aC (place_less_ok h3) [] [] [] ?_
    refine aR 1 ?_
    refine aE ?_
    exact oO hF [] [] rfl

def place_farOf_1_x1_k : api_Fraction → AEx
  | _ => .normal

def place_farOf_1_x1_S (qa : api_Spot) (qb : api_Spot) (qx : api_Spot) (qx1 : api_Fraction) : api_Fraction → St
  | vs => Mem.st ⟨[], [(0, [.d (.int .i64 qx.X), .d (.int .i64 qx.Y)]), (1, [.d (.int .i64 vs.Num), .d (.int .i64 vs.Den)])]⟩ (tl []) 2

def place_farOf_1_x1_I (qa : api_Spot) (qb : api_Spot) (qx : api_Spot) (qx1 : api_Fraction) : St := Mem.st ⟨[], [(0, [.d (.int .i64 qx.X), .d (.int .i64 qx.Y)]), (1, [.d (.int .i64 qx1.Num), .d (.int .i64 qx1.Den)]), (2, [.d (.int .i64 qa.X), .d (.int .i64 qa.Y)]), (3, [.d (.int .i64 qb.X), .d (.int .i64 qb.Y)])]⟩ (tl [(2, .v (.one (.box 0 0))), (3, .v (.one (.box 1 0))), (4, .v (.one (.box 2 0))), (5, .v (.one (.box 3 0)))]) 4

theorem place_farOf_1_x1_ok (qa : api_Spot) (qb : api_Spot) (qx : api_Spot) (qx1 : api_Fraction) {r} (hF : place_farOf_1_x1 qa qb qx qx1 = some r) : Awp prog 2 21 (cL (cR (cB f122))) (Out 2 place_farOf_1_x1_k (place_farOf_1_x1_S qa qb qx qx1) r) (place_farOf_1_x1_I qa qb qx qx1) := by
  unfold place_farOf_1_x1 at hF
  refine awp_seq ?_
  refine bE hF fun vr h1 hF => ?_
  refine awp_region ?_
  refine aR 3 ?_
  refine aC (place_far_ok h1) [] [] [] ?_
  refine aR 2 ?_
  refine aE ?_
  refine awp_seq ?_
  refine awp_to (st' := place_farOf_1_x2_I qx qx1 vr) (oT [(2, 4004)] []) ?_
  refine bE hF fun vx1 h4 hF => ?_
  refine awp_sub (place_farOf_1_x2_ok qx qx1 vr h4) ?_
  refine cE hF (fun h5 hF => ?_) fun h5 hF => ?_
  · refine awp_true (by kernel_rfl) h5 ?_
    refine awp_region ?_
    refine aR 2 ?_
    refine aE ?_
    exact oO hF [] [] rfl
  · refine awp_false (by kernel_rfl) h5 ?_
    refine awp_skip ?_
    exact oO hF [] [] rfl

def place_farOf_1_R (qa : api_Spot) (qb : api_Spot) (qx : api_Spot) (qx1 : api_Fraction) (r : api_Fraction) : TV × Mem := (.v (.one (.d (.bool false))), ⟨[], [(0, [.d (.int .i64 qx.X), .d (.int .i64 qx.Y)]), (1, [.d (.int .i64 r.Num), .d (.int .i64 r.Den)])]⟩)

theorem place_farOf_1_ok {qa : api_Spot} {qb : api_Spot} {qx : api_Spot} {qx1 : api_Fraction} {r} (hF : place_farOf_1 qa qb qx qx1 = some r) : Holds prog 122 [.v (.agg [.d (.int .i64 qa.X), .d (.int .i64 qa.Y)]), .v (.agg [.d (.int .i64 qb.X), .d (.int .i64 qb.Y)]), .v (.one (.box 0 0)), .v (.one (.box 1 0))] ⟨[], [(0, [.d (.int .i64 qx.X), .d (.int .i64 qx.Y)]), (1, [.d (.int .i64 qx1.Num), .d (.int .i64 qx1.Den)])]⟩ (Is (place_farOf_1_R qa qb qx qx1 r)) := by
  unfold place_farOf_1 at hF
  refine holds_of_awp hΓ (fn := f122) (c := cB f122) (A := 2) (nx := 2) (by kernel_rfl) (by kernel_rfl) (by kernel_rfl) (by kernel_rfl) (by kernel_rfl) (by kernel_rfl) (lowc_of (by kernel_rfl)) ?_
  show Awp prog 2 21 (cB f122) _ _
  refine awp_seq ?_
  refine awp_region ?_
  refine aR 3 ?_
  refine aE ?_
  refine awp_seq ?_
  refine awp_to (st' := place_farOf_1_x1_I qa qb qx qx1) (oT [(3, 1002)] []) ?_
  refine bE hF fun vs1 h6 hF => ?_
  refine awp_sub (place_farOf_1_x1_ok qa qb qx qx1 h6) ?_
  refine awp_seq ?_
  refine awp_region ?_
  refine aR 1 ?_
  refine aE ?_
  refine awp_ret ?_
  exact oF hF [] []

/-! ### beaconfleet/place.edges -/
def place_edges_f1_place_farOf_1_x1_k : api_Fraction → AEx
  | _ => .exit 0

def place_edges_f1_place_farOf_1_x1_S (ql : List api_Spot) (qf : api_Spot) : api_Fraction → St
  | vs1 => Mem.st ⟨[], [(0, [.d (.int .i64 qf.X), .d (.int .i64 qf.Y)]), (1, [.d (.int .i64 vs1.Num), .d (.int .i64 vs1.Den)])]⟩ (tl []) 2

def place_edges_f1_place_farOf_1_x1_H (ql : List api_Spot) (qf : api_Spot) : api_Fraction × Int → St
  | (vs, vx) => Mem.st ⟨[], [(0, [.d (.int .i64 qf.X), .d (.int .i64 qf.Y)]), (1, [.d (.int .i64 vs.Num), .d (.int .i64 vs.Den)])]⟩ (tl [(0, .v (.one (.d (.lst (List.map api_Spot.enc ql))))), (1, .v (.one (.fn 122 [0, 1]))), (7, .v (.one (.d (.lst (List.map api_Spot.enc ql))))), (8, .v (.one (.d (.int .i64 (ql.length : Int))))), (9, .v (.one (.d (.int .i64 vx))))]) 2

theorem place_edges_f1_place_farOf_1_x1_ok (ql : List api_Spot) (qf : api_Spot) (s : api_Fraction × Int) (r : (api_Fraction × Int) ⊕ (api_Fraction)) (hF : place_edges_f1_place_farOf_1_x1 ql qf s = some r) : Awp prog 2 26 (cL (cL (cR (cL (cR (cB f107)))))) (Out 2 (kk place_edges_f1_place_farOf_1_x1_k) (SS (place_edges_f1_place_farOf_1_x1_H ql qf) (place_edges_f1_place_farOf_1_x1_S ql qf)) r) (place_edges_f1_place_farOf_1_x1_H ql qf s) := by
  obtain ⟨vs, vx⟩ := s
  unfold place_edges_f1_place_farOf_1_x1 at hF
  refine awp_seq ?_
  refine awp_region ?_
  refine aR 1 ?_
  refine aE ?_
  refine awp_seq ?_
  refine cE hF (fun h1 hF => ?_) fun h1 hF => ?_
  · refine awp_true (by kernel_rfl) h1 ?_
    refine awp_skip ?_
    refine awp_seq ?_
    refine awp_block ?_
    refine awp_seq ?_
    refine bE hF fun vy2 h2 hF => ?_
    refine awp_region ?_
    refine aR 1 ?_
    refine aX (x_idx api_Spot.enc h2) ?_
    refine aR 4 ?_
    refine aE ?_
    refine awp_seq ?_
    refine gE hF fun h3 hF => ?_
    refine bE hF fun vy3 h4 hF => ?_
    refine bE hF fun vs2_1 h5 hF => ?_
    refine aD ?_
    refine dR 6 ?_
    refine dL api_Spot.enc ql ?_
    refine dX (x_rem h3) ?_
    refine dX (x_idx api_Spot.enc h4) ?_
    refine dR 1 ?_
    refine dC (place_farOf_1_ok h5) [] [] [] ?_
    refine dE ?_
    refine awp_false (by kernel_rfl) rfl ?_
    refine awp_skip ?_
    refine awp_region ?_
    refine aR 2 ?_
    refine aE ?_
    exact oO hF [] [] rfl
  · refine awp_false (by kernel_rfl) h1 ?_
    refine awp_exit ?_
    exact oO hF [] [] rfl

def place_edges_f1_place_farOf_1_R (ql : List api_Spot) (qf : api_Spot) (qf1 : api_Fraction) (r : api_Fraction) : TV × Mem := (.v (.one (.d (.bool false))), ⟨[], [(0, [.d (.int .i64 qf.X), .d (.int .i64 qf.Y)]), (1, [.d (.int .i64 r.Num), .d (.int .i64 r.Den)])]⟩)

theorem place_edges_f1_place_farOf_1_ok {ql : List api_Spot} {qf : api_Spot} {qf1 : api_Fraction} {r} (hF : place_edges_f1_place_farOf_1 ql qf qf1 = some r) : Holds prog 107 [.v (.one (.d (.lst (List.map api_Spot.enc ql)))), .v (.one (.fn 122 [0, 1]))] ⟨[], [(0, [.d (.int .i64 qf.X), .d (.int .i64 qf.Y)]), (1, [.d (.int .i64 qf1.Num), .d (.int .i64 qf1.Den)])]⟩ (Is (place_edges_f1_place_farOf_1_R ql qf qf1 r)) := by
  unfold place_edges_f1_place_farOf_1 at hF
  refine holds_of_awp hΓ (fn := f107) (c := cB f107) (A := 2) (nx := 2) (by kernel_rfl) (by kernel_rfl) (by kernel_rfl) (by kernel_rfl) (by kernel_rfl) (by kernel_rfl) (lowc_of (by kernel_rfl)) ?_
  show Awp prog 2 26 (cB f107) _ _
  refine awp_seq ?_
  refine awp_region ?_
  refine aR 1 ?_
  refine aE ?_
  refine awp_seq ?_
  refine awp_seq ?_
  refine awp_region ?_
  refine aR 1 ?_
  refine aL api_Spot.enc ql ?_
  refine aR 1 ?_
  refine aE ?_
  refine awp_block ?_
  refine awp_to (st' := place_edges_f1_place_farOf_1_x1_H ql qf (qf1, 0)) (oT [] []) ?_
  refine bE hF fun vs1_1 h6 hF => ?_
  refine awp_sub (awp_loop' (place_edges_f1_place_farOf_1_x1_H ql qf) place_edges_f1_place_farOf_1_x1_k (place_edges_f1_place_farOf_1_x1_S ql qf) (by intro x; exact fun h => nomatch h) h6 (place_edges_f1_place_farOf_1_x1_ok ql qf)) ?_
  refine awp_seq ?_
  refine awp_region ?_
  refine aR 1 ?_
  refine aE ?_
  refine awp_ret ?_
  exact oF hF [] []

/-! ### beaconfleet/place.farOf -/
def place_farOf_R (ql : List api_Spot) (qs : api_Spot) (r : api_Fraction) : TV × Mem := (.v (.agg [.d (.int .i64 r.Num), .d (.int .i64 r.Den)]), ⟨[], []⟩)

theorem place_farOf_ok {ql : List api_Spot} {qs : api_Spot} {r} (hF : place_farOf ql qs = some r) : Holds prog 81 [.v (.one (.d (.lst (List.map api_Spot.enc ql)))), .v (.agg [.d (.int .i64 qs.X), .d (.int .i64 qs.Y)])] ⟨[], []⟩ (Is (place_farOf_R ql qs r)) := by
  unfold place_farOf at hF
  refine holds_of_awp hΓ (fn := f81) (c := cB f81) (A := 0) (nx := 0) (by kernel_rfl) (by kernel_rfl) (by kernel_rfl) (by kernel_rfl) (by kernel_rfl) (by kernel_rfl) (lowc_of (by kernel_rfl)) ?_
  show Awp prog 0 11 (cB f81) _ _
  refine awp_seq ?_
  refine awp_region ?_
  refine aR 2 ?_
  refine aE ?_
  refine awp_seq ?_
  refine awp_region ?_
  refine aR 3 ?_
  refine aE ?_
  refine awp_seq ?_
  refine bE hF fun vs3 h1 hF => ?_
  refine awp_region ?_
  refine aR 2 ?_
  refine aC (place_edges_f1_place_farOf_1_ok h1) [(1, 3000)] [] [] ?_
  refine aE ?_
  refine awp_seq ?_
  refine awp_region ?_
  refine aR 2 ?_
  refine aE ?_
  refine awp_ret ?_
  exact oF hF [] []

/-! ### beaconfleet/place.surely -/
def place_surely_x1_k : Bool → AEx
  | _ => .normal

def place_surely_x1_S (ql : List api_Spot) (qx : api_Fix) (vr1 : Int) : Bool → St
  | vx => Mem.st ⟨[], []⟩ (tl [(6, .v (.one (.d (.int .i64 vr1)))), (29, .v (.one (.d (.bool vx))))]) 0

def place_surely_x1_I (ql : List api_Spot) (qx : api_Fix) (vr1 : Int) : St := Mem.st ⟨[], [(0, [.d (.str qx.Device), .d (.int .i64 qx.At), .d (.int .i64 qx.X), .d (.int .i64 qx.Y), .d (.int .i64 qx.Error)]), (1, [.d (.int .i64 qx.X), .d (.int .i64 qx.Y)])]⟩ (tl [(0, .v (.one (.d (.lst (List.map api_Spot.enc ql))))), (3, .v (.one (.box 0 0))), (5, .v (.one (.box 1 0))), (6, .v (.one (.d (.int .i64 vr1))))]) 2

theorem place_surely_x1_ok (ql : List api_Spot) (qx : api_Fix) (vr1 : Int) {r} (hF : place_surely_x1 ql qx vr1 = some r) : Awp prog 0 31 (cL (cL (cR (cR (cR (cB f42)))))) (Out 0 place_surely_x1_k (place_surely_x1_S ql qx vr1) r) (place_surely_x1_I ql qx vr1) := by
  unfold place_surely_x1 at hF
  refine cE hF (fun h2 hF => ?_) fun h2 hF => ?_
  · refine aD ?_
    refine dR 1 ?_
    refine dB h2 ?_
    refine dR 13 ?_
    refine dE ?_
    exact oO hF [] [] rfl
  · refine bE hF fun vr h3 hF => ?_
    refine bE hF fun vr1_1 h4 hF => ?_
    refine aD ?_
    refine dR 1 ?_
    refine dB h2 ?_
    refine dR 9 ?_
    refine dC (place_farOf_ok h3) [] [] [] ?_
    refine dC (place_less_ok h4) [] [] [] ?_
    refine dR 2 ?_
    refine dE ?_
    exact oO hF [] [] rfl

def place_surely_R (ql : List api_Spot) (qx : api_Fix) (r : Int) : TV × Mem := (.v (.one (.d (.int .i64 r))), ⟨[], []⟩)

theorem place_surely_ok {ql : List api_Spot} {qx : api_Fix} {r} (hF : place_surely ql qx = some r) : Holds prog 42 [.v (.one (.d (.lst (List.map api_Spot.enc ql)))), .v (.agg [.d (.str qx.Device), .d (.int .i64 qx.At), .d (.int .i64 qx.X), .d (.int .i64 qx.Y), .d (.int .i64 qx.Error)])] ⟨[], []⟩ (Is (place_surely_R ql qx r)) := by
  unfold place_surely at hF
  refine holds_of_awp hΓ (fn := f42) (c := cB f42) (A := 0) (nx := 0) (by kernel_rfl) (by kernel_rfl) (by kernel_rfl) (by kernel_rfl) (by kernel_rfl) (by kernel_rfl) (lowc_of (by kernel_rfl)) ?_
  show Awp prog 0 31 (cB f42) _ _
  refine awp_seq ?_
  refine awp_region ?_
  refine aR 2 ?_
  refine aE ?_
  refine awp_seq ?_
  refine awp_region ?_
  refine aR 7 ?_
  refine aE ?_
  refine awp_seq ?_
  refine bE hF fun vr1 h1 hF => ?_
  refine awp_region ?_
  refine aR 2 ?_
  refine aC (place_where_ok h1) [] [] [] ?_
  refine aR 1 ?_
  refine aE ?_
  refine awp_seq ?_
  refine awp_seq ?_
  refine awp_to (st' := place_surely_x1_I ql qx vr1) (oT [(1, 7000)] []) ?_
  refine bE hF fun vx1 h5 hF => ?_
  refine awp_sub (place_surely_x1_ok ql qx vr1 h5) ?_
  refine cE hF (fun h6 hF => ?_) fun h6 hF => ?_
  · refine awp_true (by kernel_rfl) h6 ?_
    refine awp_seq ?_
    refine awp_region ?_
    refine aR 1 ?_
    refine aE ?_
    refine awp_ret ?_
    exact oF hF [] []
  · refine awp_false (by kernel_rfl) h6 ?_
    refine awp_skip ?_
    refine awp_seq ?_
    refine awp_region ?_
    refine aR 2 ?_
    refine aE ?_
    refine awp_ret ?_
    exact oF hF [] []

end Go.Eng
