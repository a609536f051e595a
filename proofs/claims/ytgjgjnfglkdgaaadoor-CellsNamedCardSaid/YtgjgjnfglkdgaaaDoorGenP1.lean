/-
The code of the Go functions that the law CellsNamed reaches does what the plain functions say, part 1.
-/
import Derived.Test.YtgjgjnfglkdgaaaDoorGenF

import Derived.Test.YtgjgjnfglkdgaaaDoorEng4

import Derived.Test.YtgjgjnfglkdgaaaDoorGenS

import Derived.Test.YtgjgjnfglkdgaaaDoorProg

import Derived.KernelRfl

namespace Go.Eng

open Go Go.Proofs.Tryd

set_option linter.unusedVariables false

set_option maxRecDepth 20000

set_option maxHeartbeats 0

def ti3 : TI := ⟨1, 8, [.d (.int .i64 0)], false, .int .i64⟩

def ti4 : TI := ⟨1, 1, [.d (.bool false)], false, .bool⟩

def ti5 : TI := ⟨1, 1, [.d (.int .u8 0)], false, .int .u8⟩

def ti9 : TI := ⟨1, 16, [.d (.str [])], false, .str⟩

def ti21 : TI := ⟨1, 4, [.d (.int .i32 0)], false, .int .i32⟩

def ti22 : TI := ⟨1, 24, [.nil], false, .slice 3⟩

def ti25 : TI := ⟨2, 32, [.nil, .d (.int .i64 0)], true, .struct [(0, 22), (1, 3)]⟩

def ti27 : TI := ⟨2, 16, [.d (.int .i64 0), .d (.int .i64 0)], true, .struct [(0, 3), (1, 3)]⟩

def ti31 : TI := ⟨1, 24, [.nil], false, .slice 27⟩

def ti33 : TI := ⟨2, 40, [.d (.str []), .nil], true, .struct [(0, 9), (1, 31)]⟩

def ti37 : TI := ⟨1, 8, [.d (.int .i64 0)], false, .int .i64⟩

def ti42 : TI := ⟨1, 24, [.nil], false, .slice 9⟩

def ti62 : TI := ⟨1, 24, [.nil], false, .slice 5⟩

def ti65 : TI := ⟨1, 24, [.nil], false, .slice 37⟩

def ti73 : TI := ⟨256, 256, [.d (.bool false), .d (.bool false), .d (.bool false), .d (.bool false), .d (.bool false), .d (.bool false), .d (.bool false), .d (.bool false), .d (.bool false), .d (.bool false), .d (.bool false), .d (.bool false), .d (.bool false), .d (.bool false), .d (.bool false), .d (.bool false), .d (.bool false), .d (.bool false), .d (.bool false), .d (.bool false), .d (.bool false), .d (.bool false), .d (.bool false), .d (.bool false), .d (.bool false), .d (.bool false), .d (.bool false), .d (.bool false), .d (.bool false), .d (.bool false), .d (.bool false), .d (.bool false), .d (.bool false), .d (.bool false), .d (.bool false), .d (.bool false), .d (.bool false), .d (.bool false), .d (.bool false), .d (.bool false), .d (.bool false), .d (.bool false), .d (.bool false), .d (.bool false), .d (.bool false), .d (.bool false), .d (.bool false), .d (.bool false), .d (.bool false), .d (.bool false), .d (.bool false), .d (.bool false), .d (.bool false), .d (.bool false), .d (.bool false), .d (.bool false), .d (.bool false), .d (.bool false), .d (.bool false), .d (.bool false), .d (.bool false), .d (.bool false), .d (.bool false), .d (.bool false), .d (.bool false), .d (.bool false), .d (.bool false), .d (.bool false), .d (.bool false), .d (.bool false), .d (.bool false), .d (.bool false), .d (.bool false), .d (.bool false), .d (.bool false), .d (.bool false), .d (.bool false), .d (.bool false), .d (.bool false), .d (.bool false), .d (.bool false), .d (.bool false), .d (.bool false), .d (.bool false), .d (.bool false), .d (.bool false), .d (.bool false), .d (.bool false), .d (.bool false), .d (.bool false), .d (.bool false), .d (.bool false), .d (.bool false), .d (.bool false), .d (.bool false), .d (.bool false), .d (.bool false), .d (.bool false), .d (.bool false), .d (.bool false), .d (.bool false), .d (.bool false), .d (.bool false), .d (.bool false), .d (.bool false), .d (.bool false), .d (.bool false), .d (.bool false), .d (.bool false), .d (.bool false), .d (.bool false), .d (.bool false), .d (.bool false), .d (.bool false), .d (.bool false), .d (.bool false), .d (.bool false), .d (.bool false), .d (.bool false), .d (.bool false), .d (.bool false), .d (.bool false), .d (.bool false), .d (.bool false), .d (.bool false), .d (.bool false), .d (.bool false), .d (.bool false), .d (.bool false), .d (.bool false), .d (.bool false), .d (.bool false), .d (.bool false), .d (.bool false), .d (.bool false), .d (.bool false), .d (.bool false), .d (.bool false), .d (.bool false), .d (.bool false), .d (.bool false), .d (.bool false), .d (.bool false), .d (.bool false), .d (.bool false), .d (.bool false), .d (.bool false), .d (.bool false), .d (.bool false), .d (.bool false), .d (.bool false), .d (.bool false), .d (.bool false), .d (.bool false), .d (.bool false), .d (.bool false), .d (.bool false), .d (.bool false), .d (.bool false), .d (.bool false), .d (.bool false), .d (.bool false), .d (.bool false), .d (.bool false), .d (.bool false), .d (.bool false), .d (.bool false), .d (.bool false), .d (.bool false), .d (.bool false), .d (.bool false), .d (.bool false), .d (.bool false), .d (.bool false), .d (.bool false), .d (.bool false), .d (.bool false), .d (.bool false), .d (.bool false), .d (.bool false), .d (.bool false), .d (.bool false), .d (.bool false), .d (.bool false), .d (.bool false), .d (.bool false), .d (.bool false), .d (.bool false), .d (.bool false), .d (.bool false), .d (.bool false), .d (.bool false), .d (.bool false), .d (.bool false), .d (.bool false), .d (.bool false), .d (.bool false), .d (.bool false), .d (.bool false), .d (.bool false), .d (.bool false), .d (.bool false), .d (.bool false), .d (.bool false), .d (.bool false), .d (.bool false), .d (.bool false), .d (.bool false), .d (.bool false), .d (.bool false), .d (.bool false), .d (.bool false), .d (.bool false), .d (.bool false), .d (.bool false), .d (.bool false), .d (.bool false), .d (.bool false), .d (.bool false), .d (.bool false), .d (.bool false), .d (.bool false), .d (.bool false), .d (.bool false), .d (.bool false), .d (.bool false), .d (.bool false), .d (.bool false), .d (.bool false), .d (.bool false), .d (.bool false), .d (.bool false), .d (.bool false), .d (.bool false), .d (.bool false), .d (.bool false), .d (.bool false), .d (.bool false), .d (.bool false), .d (.bool false), .d (.bool false), .d (.bool false), .d (.bool false), .d (.bool false), .d (.bool false), .d (.bool false), .d (.bool false), .d (.bool false), .d (.bool false), .d (.bool false), .d (.bool false), .d (.bool false), .d (.bool false), .d (.bool false), .d (.bool false), .d (.bool false)], true, .array 256 4⟩

def Γ : Types := [(3, ti3), (4, ti4), (5, ti5), (9, ti9), (21, ti21), (22, ti22), (25, ti25), (27, ti27), (31, ti31), (33, ti33), (37, ti37), (42, ti42), (62, ti62), (65, ti65), (73, ti73)]

theorem hΓ : TypesOk prog Γ := typesOk_of (by kernel_rfl)

instance : TOk prog Γ := ⟨hΓ⟩

theorem hm : prog.follows .mixedOrders = true := by kernel_rfl

instance : Mixed prog := ⟨hm⟩

/-! ### beaconfleet/fleetmake.Below -/
def fleetmake_Below_x1_k : Int → AEx
  | _ => .normal

def fleetmake_Below_x1_S (qx : Int) (qn : Int) : Int → St
  | vx => Mem.st ⟨[], []⟩ (tl [(0, .v (.one (.d (.int .i64 vx))))]) 0

def fleetmake_Below_x1_I (qx : Int) (qn : Int) : St := Mem.st ⟨[], []⟩ (tl [(0, .v (.one (.d (.int .i64 (qx.tmod qn))))), (1, .v (.one (.d (.int .i64 qn))))]) 0

theorem fleetmake_Below_x1_ok (qx : Int) (qn : Int) {r} (hF : fleetmake_Below_x1 qx qn = some r) : Awp prog 0 16 (cL (cR (cR (cR (cB f41))))) (Out 0 fleetmake_Below_x1_k (fleetmake_Below_x1_S qx qn) r) (fleetmake_Below_x1_I qx qn) := by
  unfold fleetmake_Below_x1 at hF
  refine awp_seq ?_
  refine awp_region ?_
  refine aR 2 ?_
  refine aE ?_
  refine cE hF (fun h3 hF => ?_) fun h3 hF => ?_
  · refine awp_true (by kernel_rfl) h3 ?_
    refine awp_region ?_
    refine aR 4 ?_
    refine aE ?_
    exact oO hF [] [] rfl
  · refine awp_false (by kernel_rfl) h3 ?_
    refine awp_skip ?_
    exact oO hF [] [] rfl

def fleetmake_Below_R (qx : Int) (qn : Int) (r : Int) : TV × Mem := (.v (.one (.d (.int .i64 r))), ⟨[], []⟩)

theorem fleetmake_Below_ok {qx : Int} {qn : Int} {r} (hF : fleetmake_Below qx qn = some r) : Holds prog 41 [.v (.one (.d (.int .i64 qx))), .v (.one (.d (.int .i64 qn)))] ⟨[], []⟩ (Is (fleetmake_Below_R qx qn r)) := by
  unfold fleetmake_Below at hF
  refine holds_of_awp hΓ (fn := f41) (c := cB f41) (A := 0) (nx := 0) (by kernel_rfl) (by kernel_rfl) (by kernel_rfl) (by kernel_rfl) (by kernel_rfl) (by kernel_rfl) (lowc_of (by kernel_rfl)) ?_
  show Awp prog 0 16 (cB f41) _ _
  refine awp_seq ?_
  refine awp_region ?_
  refine aR 1 ?_
  refine aE ?_
  refine awp_seq ?_
  refine awp_seq ?_
  refine awp_region ?_
  refine aR 2 ?_
  refine aE ?_
  refine cE hF (fun h1 hF => ?_) fun h1 hF => ?_
  · refine awp_true (by kernel_rfl) h1 ?_
    refine awp_seq ?_
    refine awp_region ?_
    refine aR 1 ?_
    refine aE ?_
    refine awp_ret ?_
    exact oF hF [] []
  · refine awp_false (by kernel_rfl) h1 ?_
    refine awp_skip ?_
    refine awp_seq ?_
    refine gE hF fun h2 hF => ?_
    refine awp_region ?_
    refine aR 2 ?_
    refine aX (x_rem h2) ?_
    refine aR 1 ?_
    refine aE ?_
    refine awp_seq ?_
    refine awp_to (st' := fleetmake_Below_x1_I qx qn) (oT [] []) ?_
    refine bE hF fun vx1 h4 hF => ?_
    refine awp_sub (fleetmake_Below_x1_ok qx qn h4) ?_
    refine awp_seq ?_
    refine awp_region ?_
    refine aR 2 ?_
    refine aE ?_
    refine awp_ret ?_
    exact oF hF [] []

/-! ### (*beaconfleet/fleetmake.Stream).Next -/
def fleetmake_Stream_Next_R (qs : fleetmake_Stream) (qn : Int) (r : Int) : TV × Mem := (.v (.one (.d (.int .i64 r))), ⟨[], [(0, [.d (.lst (List.map (encI .i64) qs.L)), .d (.int .i64 (IntKind.wrap .i64 (qs.at_ + 1)))])]⟩)

theorem fleetmake_Stream_Next_ok {qs : fleetmake_Stream} {qn : Int} {r} (hF : fleetmake_Stream_Next qs qn = some r) : Holds prog 25 [.v (.one (.box 0 0)), .v (.one (.d (.int .i64 qn)))] ⟨[], [(0, [.d (.lst (List.map (encI .i64) qs.L)), .d (.int .i64 qs.at_)])]⟩ (Is (fleetmake_Stream_Next_R qs qn r)) := by
  unfold fleetmake_Stream_Next at hF
  refine holds_of_awp hΓ (fn := f25) (c := cB f25) (A := 1) (nx := 1) (by kernel_rfl) (by kernel_rfl) (by kernel_rfl) (by kernel_rfl) (by kernel_rfl) (by kernel_rfl) (lowc_of (by kernel_rfl)) ?_
  show Awp prog 1 64 (cB f25) _ _
  refine awp_seq ?_
  refine awp_region ?_
  refine aR 1 ?_
  refine aE ?_
  refine awp_seq ?_
  refine awp_region ?_
  refine aR 8 ?_
  refine aE ?_
  refine awp_seq ?_
  refine awp_seq ?_
  refine awp_region ?_
  refine aR 4 ?_
  refine aL (encI .i64) qs.L ?_
  refine aR 1 ?_
  refine aE ?_
  refine cE hF (fun h1 hF => ?_) fun h1 hF => ?_
  · refine awp_true (by kernel_rfl) h1 ?_
    refine awp_seq ?_
    refine bE hF fun vr h2 hF => ?_
    refine awp_region ?_
    refine aR 6 ?_
    refine aC (fleetmake_Below_ok h2) [] [] [] ?_
    refine aR 1 ?_
    refine aE ?_
    refine awp_ret ?_
    exact oF hF [] []
  · refine awp_false (by kernel_rfl) h1 ?_
    refine awp_skip ?_
    refine awp_seq ?_
    refine gE hF fun h3 hF => ?_
    refine aD ?_
    refine dR 9 ?_
    refine dL (encI .i64) qs.L ?_
    refine dX (x_rem h3) ?_
    refine dR 1 ?_
    refine dE ?_
    refine awp_seq ?_
    refine aD ?_
    refine dR 9 ?_
    refine dL (encI .i64) qs.L ?_
    refine dX (x_quo h3) ?_
    refine dR 1 ?_
    refine dE ?_
    refine awp_seq ?_
    refine bE hF fun vy h4 hF => ?_
    refine bE hF fun vr1 h5 hF => ?_
    refine bE hF fun vr2 h6 hF => ?_
    refine awp_region ?_
    refine aR 5 ?_
    refine aX (x_idx (encI .i64) h4) ?_
    refine aR 1 ?_
    refine aC (fleetmake_Below_ok h5) [] [] [] ?_
    refine aR 6 ?_
    refine aC (fleetmake_Below_ok h6) [] [] [] ?_
    refine aR 1 ?_
    refine aE ?_
    refine awp_ret ?_
    exact oF hF [] []

/-! ### (*beaconfleet/fleetmake.Stream).Pick -/
def fleetmake_Stream_Pick_o1_R (qs : fleetmake_Stream) (ql : List Int) (r : Int) : TV × Mem := (.v (.one (.d (.int .i64 r))), ⟨[], [(0, [.d (.lst (List.map (encI .i64) qs.L)), .d (.int .i64 (IntKind.wrap .i64 (qs.at_ + 1)))])]⟩)

theorem fleetmake_Stream_Pick_o1_ok {qs : fleetmake_Stream} {ql : List Int} {r} (hF : fleetmake_Stream_Pick_o1 qs ql = some r) : Holds prog 5 [.v (.one (.box 0 0)), .v (.one (.own 1 none))] ⟨[(1, ⟨3, 1, List.map (encI .i64) ql⟩)], [(0, [.d (.lst (List.map (encI .i64) qs.L)), .d (.int .i64 qs.at_)])]⟩ (Is (fleetmake_Stream_Pick_o1_R qs ql r)) := by
  unfold fleetmake_Stream_Pick_o1 at hF
  refine holds_of_awp hΓ (fn := f5) (c := cB f5) (A := 2) (nx := 2) (by kernel_rfl) (by kernel_rfl) (by kernel_rfl) (by kernel_rfl) (by kernel_rfl) (by kernel_rfl) (lowc_of (by kernel_rfl)) ?_
  show Awp prog 2 12 (cB f5) _ _
  refine awp_seq ?_
  refine awp_region ?_
  refine aR 1 ?_
  refine aE ?_
  refine awp_to (oT (m := ⟨[], [(0, [.d (.lst (List.map (encI .i64) qs.L)), .d (.int .i64 qs.at_)])]⟩) (ts := [(0, .v (.one (.box 0 0))), (1, .v (.one (.d (.lst (List.map (encI .i64) ql)))))]) (nx := 2) [] []) ?_
  refine awp_seq ?_
  refine bE hF fun vr3 h1 hF => ?_
  refine bE hF fun vy h2 hF => ?_
  refine awp_region ?_
  refine aR 3 ?_
  refine aL (encI .i64) ql ?_
  refine aC (fleetmake_Stream_Next_ok h1) [] [] [] ?_
  refine aX (x_idx (encI .i64) h2) ?_
  refine aR 2 ?_
  refine aE ?_
  refine awp_ret ?_
  exact oF hF [] []

/-! ### (*beaconfleet/fleetmake.Stream).Place -/
def fleetmake_Stream_Place_R (qs : fleetmake_Stream) (r : api_Spot) : TV × Mem := (.v (.agg [.d (.int .i64 r.X), .d (.int .i64 r.Y)]), ⟨[], [(0, [.d (.lst (List.map (encI .i64) qs.L)), .d (.int .i64 (IntKind.wrap .i64 ((IntKind.wrap .i64 (qs.at_ + 1)) + 1)))])]⟩)

theorem fleetmake_Stream_Place_ok {qs : fleetmake_Stream} {r} (hF : fleetmake_Stream_Place qs = some r) : Holds prog 23 [.v (.one (.box 0 0))] ⟨[], [(0, [.d (.lst (List.map (encI .i64) qs.L)), .d (.int .i64 qs.at_)])]⟩ (Is (fleetmake_Stream_Place_R qs r)) := by
  unfold fleetmake_Stream_Place at hF
  refine holds_of_awp hΓ (fn := f23) (c := cB f23) (A := 1) (nx := 1) (by kernel_rfl) (by kernel_rfl) (by kernel_rfl) (by kernel_rfl) (by kernel_rfl) (by kernel_rfl) (lowc_of (by kernel_rfl)) ?_
  show Awp prog 1 10 (cB f23) _ _
  refine awp_seq ?_
  refine awp_region ?_
  refine aR 1 ?_
  refine aE ?_
  refine awp_seq ?_
  refine bE hF fun vr h1 hF => ?_
  refine bE hF fun vr1 h2 hF => ?_
  refine awp_region ?_
  refine aR 2 ?_
  refine aC (fleetmake_Stream_Pick_o1_ok h1) [(1, 2001)] [] [] ?_
  refine aR 2 ?_
  refine aC (fleetmake_Stream_Pick_o1_ok h2) [(1, 5001)] [] [] ?_
  refine aR 2 ?_
  refine aE ?_
  refine awp_ret ?_
  exact oF hF [] []

/-! ### (*beaconfleet/fleetmake.Stream).Flip -/
def fleetmake_Stream_Flip_R (qs : fleetmake_Stream) (qn : Int) (r : Bool) : TV × Mem := (.v (.one (.d (.bool r))), ⟨[], [(0, [.d (.lst (List.map (encI .i64) qs.L)), .d (.int .i64 (IntKind.wrap .i64 (qs.at_ + 1)))])]⟩)

theorem fleetmake_Stream_Flip_ok {qs : fleetmake_Stream} {qn : Int} {r} (hF : fleetmake_Stream_Flip qs qn = some r) : Holds prog 8 [.v (.one (.box 0 0)), .v (.one (.d (.int .i64 qn)))] ⟨[], [(0, [.d (.lst (List.map (encI .i64) qs.L)), .d (.int .i64 qs.at_)])]⟩ (Is (fleetmake_Stream_Flip_R qs qn r)) := by
  unfold fleetmake_Stream_Flip at hF
  refine holds_of_awp hΓ (fn := f8) (c := cB f8) (A := 1) (nx := 1) (by kernel_rfl) (by kernel_rfl) (by kernel_rfl) (by kernel_rfl) (by kernel_rfl) (by kernel_rfl) (lowc_of (by kernel_rfl)) ?_
  show Awp prog 1 9 (cB f8) _ _
  refine awp_seq ?_
  refine awp_region ?_
  refine aR 1 ?_
  refine aE ?_
  refine awp_seq ?_
  refine bE hF fun vr3 h1 hF => ?_
  refine awp_region ?_
  refine aR 2 ?_
  refine aC (fleetmake_Stream_Next_ok h1) [] [] [] ?_
  refine aR 2 ?_
  refine aE ?_
  refine awp_ret ?_
  exact oF hF [] []

/-! ### (*beaconfleet/fleetmake.Stream).Range -/
def fleetmake_Stream_Range_R (qs : fleetmake_Stream) (qlow : Int) (qhigh : Int) (r : fleetmake_Stream × Int) : TV × Mem := (.v (.one (.d (.int .i64 r.2))), ⟨[], [(0, [.d (.lst (List.map (encI .i64) r.1.L)), .d (.int .i64 r.1.at_)])]⟩)

theorem fleetmake_Stream_Range_ok {qs : fleetmake_Stream} {qlow : Int} {qhigh : Int} {r} (hF : fleetmake_Stream_Range qs qlow qhigh = some r) : Holds prog 9 [.v (.one (.box 0 0)), .v (.one (.d (.int .i64 qlow))), .v (.one (.d (.int .i64 qhigh)))] ⟨[], [(0, [.d (.lst (List.map (encI .i64) qs.L)), .d (.int .i64 qs.at_)])]⟩ (Is (fleetmake_Stream_Range_R qs qlow qhigh r)) := by
  unfold fleetmake_Stream_Range at hF
  refine holds_of_awp hΓ (fn := f9) (c := cB f9) (A := 1) (nx := 1) (by kernel_rfl) (by kernel_rfl) (by kernel_rfl) (by kernel_rfl) (by kernel_rfl) (by kernel_rfl) (lowc_of (by kernel_rfl)) ?_
  show Awp prog 1 19 (cB f9) _ _
  refine awp_seq ?_
  refine awp_region ?_
  refine aR 1 ?_
  refine aE ?_
  refine awp_seq ?_
  refine awp_seq ?_
  refine awp_region ?_
  refine aR 3 ?_
  refine aE ?_
  refine cE hF (fun h1 hF => ?_) fun h1 hF => ?_
  · refine awp_true (by kernel_rfl) h1 ?_
    refine awp_seq ?_
    refine awp_region ?_
    refine aR 2 ?_
    refine aE ?_
    refine awp_ret ?_
    exact oF hF [] []
  · refine awp_false (by kernel_rfl) h1 ?_
    refine awp_skip ?_
    refine awp_seq ?_
    refine bE hF fun vr3 h2 hF => ?_
    refine awp_region ?_
    refine aR 6 ?_
    refine aC (fleetmake_Stream_Next_ok h2) [] [] [] ?_
    refine aR 2 ?_
    refine aE ?_
    refine awp_ret ?_
    exact oF hF [] []

/-! ### (*beaconfleet/fleetmake.Stream).Odd -/
def fleetmake_Stream_Odd_R (qs : fleetmake_Stream) (qlow : Int) (qhigh : Int) (r : fleetmake_Stream × Int) : TV × Mem := (.v (.one (.d (.int .i64 r.2))), ⟨[], [(0, [.d (.lst (List.map (encI .i64) r.1.L)), .d (.int .i64 r.1.at_)])]⟩)

theorem fleetmake_Stream_Odd_ok {qs : fleetmake_Stream} {qlow : Int} {qhigh : Int} {r} (hF : fleetmake_Stream_Odd qs qlow qhigh = some r) : Holds prog 24 [.v (.one (.box 0 0)), .v (.one (.d (.int .i64 qlow))), .v (.one (.d (.int .i64 qhigh)))] ⟨[], [(0, [.d (.lst (List.map (encI .i64) qs.L)), .d (.int .i64 qs.at_)])]⟩ (Is (fleetmake_Stream_Odd_R qs qlow qhigh r)) := by
  unfold fleetmake_Stream_Odd at hF
  refine holds_of_awp hΓ (fn := f24) (c := cB f24) (A := 1) (nx := 1) (by kernel_rfl) (by kernel_rfl) (by kernel_rfl) (by kernel_rfl) (by kernel_rfl) (by kernel_rfl) (lowc_of (by kernel_rfl)) ?_
  show Awp prog 1 22 (cB f24) _ _
  refine awp_seq ?_
  refine awp_region ?_
  refine aR 1 ?_
  refine aE ?_
  refine awp_seq ?_
  refine awp_seq ?_
  refine bE hF fun vr h1 hF => ?_
  refine awp_region ?_
  refine aR 1 ?_
  refine aC (fleetmake_Stream_Flip_ok h1) [] [] [] ?_
  refine aE ?_
  refine cE hF (fun h2 hF => ?_) fun h2 hF => ?_
  · refine awp_true (by kernel_rfl) h2 ?_
    refine awp_seq ?_
    refine bE hF fun vr1 h3 hF => ?_
    refine awp_region ?_
    refine aR 8 ?_
    refine aC (fleetmake_Stream_Pick_o1_ok h3) [(1, 10001)] [] [] ?_
    refine aR 1 ?_
    refine aE ?_
    refine awp_ret ?_
    exact oF hF [] []
  · refine awp_false (by kernel_rfl) h2 ?_
    refine awp_skip ?_
    refine awp_seq ?_
    refine bE hF fun x h4 hF => ?_
    obtain ⟨vs, vr2⟩ := x
    refine awp_region ?_
    refine aR 3 ?_
    refine aC (fleetmake_Stream_Range_ok h4) [] [] [] ?_
    refine aR 1 ?_
    refine aE ?_
    refine awp_ret ?_
    exact oF hF [] []

/-! ### (*beaconfleet/fleetmake.Stream).Spot -/
def fleetmake_Stream_Spot_x1_k : (fleetmake_Stream × api_Spot) → AEx
  | _ => .normal

def fleetmake_Stream_Spot_x1_S (qs : fleetmake_Stream) (vr2 : api_Spot) : (fleetmake_Stream × api_Spot) → St
  | (vs, vp) => Mem.st ⟨[], [(0, [.d (.lst (List.map (encI .i64) vs.L)), .d (.int .i64 vs.at_)]), (1, [.d (.int .i64 0), .d (.int .i64 0)]), (2, [.d (.int .i64 vp.X), .d (.int .i64 vp.Y)])]⟩ (tl [(2, .v (.one (.box 1 0))), (3, .v (.one (.box 2 0)))]) 3

def fleetmake_Stream_Spot_x1_I (qs : fleetmake_Stream) (vr2 : api_Spot) : St := Mem.st ⟨[], [(0, [.d (.lst (List.map (encI .i64) qs.L)), .d (.int .i64 (IntKind.wrap .i64 ((IntKind.wrap .i64 (qs.at_ + 1)) + 1)))]), (1, [.d (.int .i64 0), .d (.int .i64 0)]), (2, [.d (.int .i64 vr2.X), .d (.int .i64 vr2.Y)])]⟩ (tl [(0, .v (.one (.box 0 0))), (2, .v (.one (.box 1 0))), (3, .v (.one (.box 2 0)))]) 3

theorem fleetmake_Stream_Spot_x1_ok (qs : fleetmake_Stream) (vr2 : api_Spot) {r} (hF : fleetmake_Stream_Spot_x1 qs vr2 = some r) : Awp prog 1 12 (cL (cR (cR (cB f4)))) (Out 1 fleetmake_Stream_Spot_x1_k (fleetmake_Stream_Spot_x1_S qs vr2) r) (fleetmake_Stream_Spot_x1_I qs vr2) := by
  unfold fleetmake_Stream_Spot_x1 at hF
  refine awp_seq ?_
  refine bE hF fun vr h2 hF => ?_
  refine awp_region ?_
  refine aR 1 ?_
  refine aC (fleetmake_Stream_Flip_ok h2) [] [] [] ?_
  refine aE ?_
  refine cE hF (fun h3 hF => ?_) fun h3 hF => ?_
  · refine awp_true (by kernel_rfl) h3 ?_
    refine bE hF fun x h4 hF => ?_
    obtain ⟨vs1, vr3⟩ := x
    refine awp_region ?_
    refine aR 1 ?_
    refine aC (fleetmake_Stream_Odd_ok h4) [] [] [] ?_
    refine aR 2 ?_
    refine aE ?_
    exact oO hF [] [] rfl
  · refine awp_false (by kernel_rfl) h3 ?_
    refine awp_skip ?_
    exact oO hF [] [] rfl

def fleetmake_Stream_Spot_R (qs : fleetmake_Stream) (r : fleetmake_Stream × api_Spot) : TV × Mem := (.v (.agg [.d (.int .i64 r.2.X), .d (.int .i64 r.2.Y)]), ⟨[], [(0, [.d (.lst (List.map (encI .i64) r.1.L)), .d (.int .i64 r.1.at_)])]⟩)

theorem fleetmake_Stream_Spot_ok {qs : fleetmake_Stream} {r} (hF : fleetmake_Stream_Spot qs = some r) : Holds prog 4 [.v (.one (.box 0 0))] ⟨[], [(0, [.d (.lst (List.map (encI .i64) qs.L)), .d (.int .i64 qs.at_)])]⟩ (Is (fleetmake_Stream_Spot_R qs r)) := by
  unfold fleetmake_Stream_Spot at hF
  refine holds_of_awp hΓ (fn := f4) (c := cB f4) (A := 1) (nx := 1) (by kernel_rfl) (by kernel_rfl) (by kernel_rfl) (by kernel_rfl) (by kernel_rfl) (by kernel_rfl) (lowc_of (by kernel_rfl)) ?_
  show Awp prog 1 12 (cB f4) _ _
  refine awp_seq ?_
  refine awp_region ?_
  refine aR 1 ?_
  refine aE ?_
  refine awp_seq ?_
  refine bE hF fun vr2 h1 hF => ?_
  refine awp_region ?_
  refine aR 1 ?_
  refine aC (fleetmake_Stream_Place_ok h1) [] [] [] ?_
  refine aR 2 ?_
  refine aE ?_
  refine awp_seq ?_
  refine awp_to (st' := fleetmake_Stream_Spot_x1_I qs vr2) (oT [(2, 3001)] []) ?_
  refine bE hF fun x h5 hF => ?_
  obtain ⟨vs2, vp1⟩ := x
  refine awp_sub (fleetmake_Stream_Spot_x1_ok qs vr2 h5) ?_
  refine awp_seq ?_
  refine awp_region ?_
  refine aR 2 ?_
  refine aE ?_
  refine awp_ret ?_
  exact oF hF [] []

/-! ### (*beaconfleet/fleetmake.Stream).Some -/
def fleetmake_Stream_Some_o1_R (qs : fleetmake_Stream) (ql : List (List UInt8)) (r : (List UInt8)) : TV × Mem := (.v (.one (.d (.str r))), ⟨[], [(0, [.d (.lst (List.map (encI .i64) qs.L)), .d (.int .i64 (IntKind.wrap .i64 (qs.at_ + 1)))])]⟩)

theorem fleetmake_Stream_Some_o1_ok {qs : fleetmake_Stream} {ql : List (List UInt8)} {r} (hF : fleetmake_Stream_Some_o1 qs ql = some r) : Holds prog 26 [.v (.one (.box 0 0)), .v (.one (.own 1 none))] ⟨[(1, ⟨9, 1, List.map encS ql⟩)], [(0, [.d (.lst (List.map (encI .i64) qs.L)), .d (.int .i64 qs.at_)])]⟩ (Is (fleetmake_Stream_Some_o1_R qs ql r)) := by
  unfold fleetmake_Stream_Some_o1 at hF
  refine holds_of_awp hΓ (fn := f26) (c := cB f26) (A := 2) (nx := 2) (by kernel_rfl) (by kernel_rfl) (by kernel_rfl) (by kernel_rfl) (by kernel_rfl) (by kernel_rfl) (lowc_of (by kernel_rfl)) ?_
  show Awp prog 2 12 (cB f26) _ _
  refine awp_seq ?_
  refine awp_region ?_
  refine aR 1 ?_
  refine aE ?_
  refine awp_to (oT (m := ⟨[], [(0, [.d (.lst (List.map (encI .i64) qs.L)), .d (.int .i64 qs.at_)])]⟩) (ts := [(0, .v (.one (.box 0 0))), (1, .v (.one (.d (.lst (List.map encS ql)))))]) (nx := 2) [] []) ?_
  refine awp_seq ?_
  refine bE hF fun vr3 h1 hF => ?_
  refine bE hF fun vy h2 hF => ?_
  refine awp_region ?_
  refine aR 3 ?_
  refine aL encS ql ?_
  refine aC (fleetmake_Stream_Next_ok h1) [] [] [] ?_
  refine aX (x_idx encS h2) ?_
  refine aR 2 ?_
  refine aE ?_
  refine awp_ret ?_
  exact oF hF [] []

/-! ### (*beaconfleet/fleetmake.Stream).CellKey -/
def fleetmake_Stream_CellKey_x1_k : (fleetmake_Stream × (List UInt8)) → AEx
  | _ => .exit 0

def fleetmake_Stream_CellKey_x1_S (vr : Int) : (fleetmake_Stream × (List UInt8)) → St
  | (vs2, vt1) => Mem.st ⟨[], [(0, [.d (.lst (List.map (encI .i64) vs2.L)), .d (.int .i64 vs2.at_)])]⟩ (tl [(0, .v (.one (.box 0 0))), (3, .v (.one (.d (.str vt1))))]) 1

def fleetmake_Stream_CellKey_x1_H (vr : Int) : fleetmake_Stream × (List UInt8) × Int → St
  | (vs1, vt, vx) => Mem.st ⟨[], [(0, [.d (.lst (List.map (encI .i64) vs1.L)), .d (.int .i64 vs1.at_)])]⟩ (tl [(0, .v (.one (.box 0 0))), (3, .v (.one (.d (.str vt)))), (5, .v (.one (.d (.int .i64 vr)))), (6, .v (.one (.d (.int .i64 vx))))]) 1

theorem fleetmake_Stream_CellKey_x1_ok (vr : Int) (s : fleetmake_Stream × (List UInt8) × Int) (r : (fleetmake_Stream × (List UInt8) × Int) ⊕ ((fleetmake_Stream × (List UInt8)))) (hF : fleetmake_Stream_CellKey_x1 vr s = some r) : Awp prog 1 20 (cL (cL (cR (cL (cR (cR (cB f6))))))) (Out 1 (kk fleetmake_Stream_CellKey_x1_k) (SS (fleetmake_Stream_CellKey_x1_H vr) (fleetmake_Stream_CellKey_x1_S vr)) r) (fleetmake_Stream_CellKey_x1_H vr s) := by
  obtain ⟨vs1, vt, vx⟩ := s
  unfold fleetmake_Stream_CellKey_x1 at hF
  refine awp_seq ?_
  refine awp_region ?_
  refine aR 1 ?_
  refine aE ?_
  refine awp_seq ?_
  refine cE hF (fun h2 hF => ?_) fun h2 hF => ?_
  · refine awp_true (by kernel_rfl) h2 ?_
    refine awp_skip ?_
    refine awp_seq ?_
    refine awp_block ?_
    refine bE hF fun vr2 h3 hF => ?_
    refine gE hF fun h4 hF => ?_
    refine awp_region ?_
    refine aR 3 ?_
    refine aC (fleetmake_Stream_Some_o1_ok h3) [(1, 3001)] [] [] ?_
    refine aX (x_cat h4) ?_
    refine aR 1 ?_
    refine aE ?_
    refine awp_region ?_
    refine aR 2 ?_
    refine aE ?_
    exact oO hF [] [] rfl
  · refine awp_false (by kernel_rfl) h2 ?_
    refine awp_exit ?_
    exact oO hF [] [] rfl

def fleetmake_Stream_CellKey_x2_k : (fleetmake_Stream × (List UInt8)) → AEx
  | _ => .normal

def fleetmake_Stream_CellKey_x2_S (vs2_1 : fleetmake_Stream) (vt1_1 : List UInt8) : (fleetmake_Stream × (List UInt8)) → St
  | (vs3, vt2) => Mem.st ⟨[], [(0, [.d (.lst (List.map (encI .i64) vs3.L)), .d (.int .i64 vs3.at_)])]⟩ (tl [(3, .v (.one (.d (.str vt2))))]) 1

def fleetmake_Stream_CellKey_x2_I (vs2_1 : fleetmake_Stream) (vt1_1 : List UInt8) : St := Mem.st ⟨[], [(0, [.d (.lst (List.map (encI .i64) vs2_1.L)), .d (.int .i64 vs2_1.at_)])]⟩ (tl [(0, .v (.one (.box 0 0))), (3, .v (.one (.d (.str vt1_1))))]) 1

theorem fleetmake_Stream_CellKey_x2_ok (vs2_1 : fleetmake_Stream) (vt1_1 : List UInt8) {r} (hF : fleetmake_Stream_CellKey_x2 vs2_1 vt1_1 = some r) : Awp prog 1 20 (cL (cR (cR (cR (cB f6))))) (Out 1 fleetmake_Stream_CellKey_x2_k (fleetmake_Stream_CellKey_x2_S vs2_1 vt1_1) r) (fleetmake_Stream_CellKey_x2_I vs2_1 vt1_1) := by
  unfold fleetmake_Stream_CellKey_x2 at hF
  refine awp_seq ?_
  refine bE hF fun vr3 h6 hF => ?_
  refine awp_region ?_
  refine aR 1 ?_
  refine aC (fleetmake_Stream_Flip_ok h6) [] [] [] ?_
  refine aE ?_
  refine cE hF (fun h7 hF => ?_) fun h7 hF => ?_
  · refine awp_true (by kernel_rfl) h7 ?_
    refine bE hF fun vr4 h8 hF => ?_
    refine awp_region ?_
    refine aR 2 ?_
    refine aC (fleetmake_Stream_Some_o1_ok h8) [(1, 3001)] [] [] ?_
    refine aR 1 ?_
    refine aE ?_
    exact oO hF [] [] rfl
  · refine awp_false (by kernel_rfl) h7 ?_
    refine awp_skip ?_
    exact oO hF [] [] rfl

def fleetmake_Stream_CellKey_R (qs : fleetmake_Stream) (r : fleetmake_Stream × (List UInt8)) : TV × Mem := (.v (.one (.d (.str r.2))), ⟨[], [(0, [.d (.lst (List.map (encI .i64) r.1.L)), .d (.int .i64 r.1.at_)])]⟩)

theorem fleetmake_Stream_CellKey_ok {qs : fleetmake_Stream} {r} (hF : fleetmake_Stream_CellKey qs = some r) : Holds prog 6 [.v (.one (.box 0 0))] ⟨[], [(0, [.d (.lst (List.map (encI .i64) qs.L)), .d (.int .i64 qs.at_)])]⟩ (Is (fleetmake_Stream_CellKey_R qs r)) := by
  unfold fleetmake_Stream_CellKey at hF
  refine holds_of_awp hΓ (fn := f6) (c := cB f6) (A := 1) (nx := 1) (by kernel_rfl) (by kernel_rfl) (by kernel_rfl) (by kernel_rfl) (by kernel_rfl) (by kernel_rfl) (lowc_of (by kernel_rfl)) ?_
  show Awp prog 1 20 (cB f6) _ _
  refine awp_seq ?_
  refine awp_region ?_
  refine aR 1 ?_
  refine aE ?_
  refine awp_seq ?_
  refine awp_region ?_
  refine aR 1 ?_
  refine aE ?_
  refine awp_seq ?_
  refine awp_seq ?_
  refine bE hF fun x h1 hF => ?_
  obtain ⟨vs, vr⟩ := x
  refine awp_region ?_
  refine aR 1 ?_
  refine aC (fleetmake_Stream_Range_ok h1) [] [] [] ?_
  refine aR 1 ?_
  refine aE ?_
  refine awp_block ?_
  refine awp_to (st' := fleetmake_Stream_CellKey_x1_H vr (vs, ([] : List UInt8), 0)) (oT [] []) ?_
  refine bE hF fun x h5 hF => ?_
  obtain ⟨vs2_1, vt1_1⟩ := x
  refine awp_sub (awp_loop' (fleetmake_Stream_CellKey_x1_H vr) fleetmake_Stream_CellKey_x1_k (fleetmake_Stream_CellKey_x1_S vr) (by intro x; exact fun h => nomatch h) h5 (fleetmake_Stream_CellKey_x1_ok vr)) ?_
  refine awp_seq ?_
  refine awp_to (st' := fleetmake_Stream_CellKey_x2_I vs2_1 vt1_1) (oT [] []) ?_
  refine bE hF fun x h9 hF => ?_
  obtain ⟨vs3_1, vt2_1⟩ := x
  refine awp_sub (fleetmake_Stream_CellKey_x2_ok vs2_1 vt1_1 h9) ?_
  refine awp_seq ?_
  refine awp_region ?_
  refine aR 2 ?_
  refine aE ?_
  refine awp_ret ?_
  exact oF hF [] []

/-! ### beaconfleet/fleetref2.in -/
def fleetref2_in_x1_k : Bool → AEx
  | _ => .normal

def fleetref2_in_x1_S (qn : Int) (qlow : Int) (qhigh : Int) : Bool → St
  | vx => Mem.st ⟨[], []⟩ (tl [(6, .v (.one (.d (.bool vx))))]) 0

def fleetref2_in_x1_I (qn : Int) (qlow : Int) (qhigh : Int) : St := Mem.st ⟨[], []⟩ (tl [(0, .v (.one (.d (.int .i64 qn)))), (1, .v (.one (.d (.int .i64 qlow)))), (2, .v (.one (.d (.int .i64 qhigh))))]) 0

theorem fleetref2_in_x1_ok (qn : Int) (qlow : Int) (qhigh : Int) {r} (hF : fleetref2_in_x1 qn qlow qhigh = some r) : Awp prog 0 15 (cL (cR (cB f35))) (Out 0 fleetref2_in_x1_k (fleetref2_in_x1_S qn qlow qhigh) r) (fleetref2_in_x1_I qn qlow qhigh) := by
  unfold fleetref2_in_x1 at hF
  refine cE hF (fun h1 hF => ?_) fun h1 hF => ?_
  · refine awp_region ?_
    refine aR 2 ?_
    refine aB h1 ?_
    refine aR 6 ?_
    refine aE ?_
    exact oO hF [] [] rfl
  · refine awp_region ?_
    refine aR 2 ?_
    refine aB h1 ?_
    refine aR 6 ?_
    refine aE ?_
    exact oO hF [] [] rfl

def fleetref2_in_R (qn : Int) (qlow : Int) (qhigh : Int) (r : Bool) : TV × Mem := (.v (.one (.d (.bool r))), ⟨[], []⟩)

theorem fleetref2_in_ok {qn : Int} {qlow : Int} {qhigh : Int} {r} (hF : fleetref2_in qn qlow qhigh = some r) : Holds prog 35 [.v (.one (.d (.int .i64 qn))), .v (.one (.d (.int .i64 qlow))), .v (.one (.d (.int .i64 qhigh)))] ⟨[], []⟩ (Is (fleetref2_in_R qn qlow qhigh r)) := by
  unfold fleetref2_in at hF
  refine holds_of_awp hΓ (fn := f35) (c := cB f35) (A := 0) (nx := 0) (by kernel_rfl) (by kernel_rfl) (by kernel_rfl) (by kernel_rfl) (by kernel_rfl) (by kernel_rfl) (lowc_of (by kernel_rfl)) ?_
  show Awp prog 0 15 (cB f35) _ _
  refine awp_seq ?_
  refine awp_region ?_
  refine aR 1 ?_
  refine aE ?_
  refine awp_seq ?_
  refine awp_to (st' := fleetref2_in_x1_I qn qlow qhigh) (oT [] []) ?_
  refine bE hF fun vx1 h2 hF => ?_
  refine awp_sub (fleetref2_in_x1_ok qn qlow qhigh h2) ?_
  refine awp_ret ?_
  exact oF hF [] []

/-! ### beaconfleet/fleetref2.SpotFault -/
def fleetref2_SpotFault_x1_k : Bool → AEx
  | _ => .normal

def fleetref2_SpotFault_x1_S (qs : api_Spot) : Bool → St
  | vx => Mem.st ⟨[], []⟩ (tl [(12, .v (.one (.d (.bool vx))))]) 0

def fleetref2_SpotFault_x1_I (qs : api_Spot) : St := Mem.st ⟨[], [(0, [.d (.int .i64 qs.X), .d (.int .i64 qs.Y)])]⟩ (tl [(1, .v (.one (.box 0 0)))]) 1

theorem fleetref2_SpotFault_x1_ok (qs : api_Spot) {r} (hF : fleetref2_SpotFault_x1 qs = some r) : Awp prog 0 13 (cL (cL (cR (cB f14)))) (Out 0 fleetref2_SpotFault_x1_k (fleetref2_SpotFault_x1_S qs) r) (fleetref2_SpotFault_x1_I qs) := by
  unfold fleetref2_SpotFault_x1 at hF
  refine bE hF fun vr h1 hF => ?_
  refine cE hF (fun h2 hF => ?_) fun h2 hF => ?_
  · refine awp_region ?_
    refine aR 2 ?_
    refine aC (fleetref2_in_ok h1) [] [] [] ?_
    refine aB h2 ?_
    refine aR 6 ?_
    refine aE ?_
    exact oO hF [] [] rfl
  · refine bE hF fun vr1 h3 hF => ?_
    refine awp_region ?_
    refine aR 2 ?_
    refine aC (fleetref2_in_ok h1) [] [] [] ?_
    refine aB h2 ?_
    refine aR 3 ?_
    refine aC (fleetref2_in_ok h3) [] [] [] ?_
    refine aR 2 ?_
    refine aE ?_
    exact oO hF [] [] rfl

def fleetref2_SpotFault_R (qs : api_Spot) (r : Int) : TV × Mem := (.v (.one (.d (.int .i64 r))), ⟨[], []⟩)

theorem fleetref2_SpotFault_ok {qs : api_Spot} {r} (hF : fleetref2_SpotFault qs = some r) : Holds prog 14 [.v (.agg [.d (.int .i64 qs.X), .d (.int .i64 qs.Y)])] ⟨[], []⟩ (Is (fleetref2_SpotFault_R qs r)) := by
  unfold fleetref2_SpotFault at hF
  refine holds_of_awp hΓ (fn := f14) (c := cB f14) (A := 0) (nx := 0) (by kernel_rfl) (by kernel_rfl) (by kernel_rfl) (by kernel_rfl) (by kernel_rfl) (by kernel_rfl) (lowc_of (by kernel_rfl)) ?_
  show Awp prog 0 13 (cB f14) _ _
  refine awp_seq ?_
  refine awp_region ?_
  refine aR 2 ?_
  refine aE ?_
  refine awp_seq ?_
  refine awp_seq ?_
  refine awp_to (st' := fleetref2_SpotFault_x1_I qs) (oT [] []) ?_
  refine bE hF fun vx1 h4 hF => ?_
  refine awp_sub (fleetref2_SpotFault_x1_ok qs h4) ?_
  refine cE hF (fun h5 hF => ?_) fun h5 hF => ?_
  · refine awp_true (by kernel_rfl) h5 ?_
    refine awp_seq ?_
    refine awp_region ?_
    refine aR 1 ?_
    refine aE ?_
    refine awp_ret ?_
    exact oF hF [] []
  · refine awp_false (by kernel_rfl) h5 ?_
    refine awp_skip ?_
    refine awp_seq ?_
    refine awp_region ?_
    refine aR 1 ?_
    refine aE ?_
    refine awp_ret ?_
    exact oF hF [] []

/-! ### slices.Index[[]beaconfleet/api.Spot,beaconfleet/api.Spot] -/
def slices_Index_api_Spot_api_Spot_x1_k : Unit ⊕ Int → AEx
  | .inl _ => .exit 0
  | .inr _ => .ret

def slices_Index_api_Spot_api_Spot_x1_S (qs : List api_Spot) (qv : api_Spot) : Unit ⊕ Int → St
  | .inl _ => Mem.st ⟨[], []⟩ (tl []) 0
  | .inr vx1 => Mem.st ⟨[], []⟩ (tl [(4, .v (.one (.d (.int .i64 vx1))))]) 0

def slices_Index_api_Spot_api_Spot_x1_H (qs : List api_Spot) (qv : api_Spot) : Int → St
  | vx => Mem.st ⟨[], [(0, [.d (.int .i64 qv.X), .d (.int .i64 qv.Y)])]⟩ (tl [(0, .v (.one (.d (.lst (List.map api_Spot.enc qs))))), (3, .v (.one (.box 0 0))), (7, .v (.one (.d (.int .i64 (qs.length : Int))))), (8, .v (.one (.d (.int .i64 vx))))]) 1

theorem slices_Index_api_Spot_api_Spot_x1_ok (qs : List api_Spot) (qv : api_Spot) (vx : Int) (r : (Int) ⊕ (Unit ⊕ Int)) (hF : slices_Index_api_Spot_api_Spot_x1 qs qv vx = some r) : Awp prog 0 19 (cL (cL (cR (cL (cR (cB f63)))))) (Out 0 (kk slices_Index_api_Spot_api_Spot_x1_k) (SS (slices_Index_api_Spot_api_Spot_x1_H qs qv) (slices_Index_api_Spot_api_Spot_x1_S qs qv)) r) (slices_Index_api_Spot_api_Spot_x1_H qs qv vx) := by
  unfold slices_Index_api_Spot_api_Spot_x1 at hF
  refine awp_seq ?_
  refine awp_region ?_
  refine aR 1 ?_
  refine aE ?_
  refine awp_seq ?_
  refine cE hF (fun h1 hF => ?_) fun h1 hF => ?_
  · refine awp_true (by kernel_rfl) h1 ?_
    refine awp_skip ?_
    refine awp_seq ?_
    refine awp_block ?_
    refine awp_seq ?_
    refine awp_region ?_
    refine aR 2 ?_
    refine aE ?_
    refine awp_seq ?_
    refine bE hF fun vy1 h2 hF => ?_
    refine aD ?_
    refine dR 3 ?_
    refine dX (x_idx api_Spot.enc h2) ?_
    refine dR 1 ?_
    refine dS (U := []) (stable_eqS (op := .eql) (xs := [.int .i64 qv.X, .int .i64 qv.Y]) (ys := [.int .i64 vy1.X, .int .i64 vy1.Y]) (b := (decide (qv.X = vy1.X) && (decide (qv.Y = vy1.Y) && true))) (c := (decide (qv.X = vy1.X) && (decide (qv.Y = vy1.Y) && true))) rfl (.inl ⟨rfl, rfl⟩) (by kernel_rfl) (by kernel_rfl) (by kernel_rfl) (by kernel_rfl) (by kernel_rfl) (by kernel_rfl)) ?_
    refine dE ?_
    refine cE hF (fun h3 hF => ?_) fun h3 hF => ?_
    · refine awp_true (by kernel_rfl) h3 ?_
      refine awp_seq ?_
      refine awp_region ?_
      refine aR 2 ?_
      refine aE ?_
      refine awp_ret ?_
      exact oO hF [] [] rfl
    · refine awp_false (by kernel_rfl) h3 ?_
      refine awp_skip ?_
      refine awp_region ?_
      refine aR 2 ?_
      refine aE ?_
      exact oO hF [] [] rfl
  · refine awp_false (by kernel_rfl) h1 ?_
    refine awp_exit ?_
    exact oO hF [] [] rfl

def slices_Index_api_Spot_api_Spot_R (qs : List api_Spot) (qv : api_Spot) (r : Int) : TV × Mem := (.v (.one (.d (.int .i64 r))), ⟨[], []⟩)

theorem slices_Index_api_Spot_api_Spot_ok {qs : List api_Spot} {qv : api_Spot} {r} (hF : slices_Index_api_Spot_api_Spot qs qv = some r) : Holds prog 63 [.v (.one (.d (.lst (List.map api_Spot.enc qs)))), .v (.agg [.d (.int .i64 qv.X), .d (.int .i64 qv.Y)])] ⟨[], []⟩ (Is (slices_Index_api_Spot_api_Spot_R qs qv r)) := by
  unfold slices_Index_api_Spot_api_Spot at hF
  refine holds_of_awp hΓ (fn := f63) (c := cB f63) (A := 0) (nx := 0) (by kernel_rfl) (by kernel_rfl) (by kernel_rfl) (by kernel_rfl) (by kernel_rfl) (by kernel_rfl) (lowc_of (by kernel_rfl)) ?_
  show Awp prog 0 19 (cB f63) _ _
  refine awp_seq ?_
  refine awp_region ?_
  refine aR 2 ?_
  refine aE ?_
  refine awp_seq ?_
  refine awp_seq ?_
  refine awp_region ?_
  refine aR 1 ?_
  refine aL api_Spot.enc qs ?_
  refine aR 1 ?_
  refine aE ?_
  refine awp_block ?_
  refine awp_to (st' := slices_Index_api_Spot_api_Spot_x1_H qs qv 0) (oT [] []) ?_
  refine bE hF fun x h4 hF => ?_
  rcases x with _ | vx1_1
  · refine awp_sub (awp_loop' (slices_Index_api_Spot_api_Spot_x1_H qs qv) slices_Index_api_Spot_api_Spot_x1_k (slices_Index_api_Spot_api_Spot_x1_S qs qv) (by intro x; rcases x with x | x <;> exact fun h => nomatch h) h4 (slices_Index_api_Spot_api_Spot_x1_ok qs qv)) ?_
    refine awp_seq ?_
    refine awp_region ?_
    refine aR 1 ?_
    refine aE ?_
    refine awp_ret ?_
    exact oF hF [] []
  · refine awp_sub (awp_loop' (slices_Index_api_Spot_api_Spot_x1_H qs qv) slices_Index_api_Spot_api_Spot_x1_k (slices_Index_api_Spot_api_Spot_x1_S qs qv) (by intro x; rcases x with x | x <;> exact fun h => nomatch h) h4 (slices_Index_api_Spot_api_Spot_x1_ok qs qv)) ?_
    exact oF hF [] []

/-! ### slices.Contains[[]beaconfleet/api.Spot,beaconfleet/api.Spot] -/
def slices_Contains_api_Spot_api_Spot_R (qs : List api_Spot) (qv : api_Spot) (r : Bool) : TV × Mem := (.v (.one (.d (.bool r))), ⟨[], []⟩)

theorem slices_Contains_api_Spot_api_Spot_ok {qs : List api_Spot} {qv : api_Spot} {r} (hF : slices_Contains_api_Spot_api_Spot qs qv = some r) : Holds prog 50 [.v (.one (.d (.lst (List.map api_Spot.enc qs)))), .v (.agg [.d (.int .i64 qv.X), .d (.int .i64 qv.Y)])] ⟨[], []⟩ (Is (slices_Contains_api_Spot_api_Spot_R qs qv r)) := by
  unfold slices_Contains_api_Spot_api_Spot at hF
  refine holds_of_awp hΓ (fn := f50) (c := cB f50) (A := 0) (nx := 0) (by kernel_rfl) (by kernel_rfl) (by kernel_rfl) (by kernel_rfl) (by kernel_rfl) (by kernel_rfl) (lowc_of (by kernel_rfl)) ?_
  show Awp prog 0 9 (cB f50) _ _
  refine awp_seq ?_
  refine awp_region ?_
  refine aR 2 ?_
  refine aE ?_
  refine awp_seq ?_
  refine bE hF fun vr h1 hF => ?_
  refine awp_region ?_
  refine aR 2 ?_
  refine aC (slices_Index_api_Spot_api_Spot_ok h1) [] [] [] ?_
  refine aR 2 ?_
  refine aE ?_
  refine awp_ret ?_
  exact oF hF [] []

/-! ### beaconfleet/fleetref2.edge -/
def fleetref2_edge_R (ql : List api_Spot) (qi : Int) (r : api_Spot × api_Spot) : TV × Mem := (.tup [.agg [.d (.int .i64 r.1.X), .d (.int .i64 r.1.Y)], .agg [.d (.int .i64 r.2.X), .d (.int .i64 r.2.Y)]], ⟨[], []⟩)

theorem fleetref2_edge_ok {ql : List api_Spot} {qi : Int} {r} (hF : fleetref2_edge ql qi = some r) : Holds prog 54 [.v (.one (.d (.lst (List.map api_Spot.enc ql)))), .v (.one (.d (.int .i64 qi)))] ⟨[], []⟩ (Is (fleetref2_edge_R ql qi r)) := by
  unfold fleetref2_edge at hF
  refine holds_of_awp hΓ (fn := f54) (c := cB f54) (A := 0) (nx := 0) (by kernel_rfl) (by kernel_rfl) (by kernel_rfl) (by kernel_rfl) (by kernel_rfl) (by kernel_rfl) (lowc_of (by kernel_rfl)) ?_
  show Awp prog 0 18 (cB f54) _ _
  refine awp_seq ?_
  refine awp_region ?_
  refine aR 2 ?_
  refine aE ?_
  refine awp_seq ?_
  refine bE hF fun vy h1 hF => ?_
  refine gE hF fun h2 hF => ?_
  refine bE hF fun vy1 h3 hF => ?_
  refine aD ?_
  refine dR 2 ?_
  refine dX (x_idx api_Spot.enc h1) ?_
  refine dR 5 ?_
  refine dL api_Spot.enc ql ?_
  refine dX (x_rem h2) ?_
  refine dX (x_idx api_Spot.enc h3) ?_
  refine dR 3 ?_
  refine dE ?_
  refine awp_ret ?_
  exact oF hF [] []

/-! ### beaconfleet/fleetref2.minus -/
def fleetref2_minus_R (qa : api_Spot) (qb : api_Spot) (r : Unit) : TV × Mem := (.v (.agg [.d (.int .i64 (IntKind.wrap .i64 (qa.X - qb.X))), .d (.int .i64 (IntKind.wrap .i64 (qa.Y - qb.Y)))]), ⟨[], []⟩)

theorem fleetref2_minus_ok {qa : api_Spot} {qb : api_Spot} {r} (hF : fleetref2_minus qa qb = some r) : Holds prog 73 [.v (.agg [.d (.int .i64 qa.X), .d (.int .i64 qa.Y)]), .v (.agg [.d (.int .i64 qb.X), .d (.int .i64 qb.Y)])] ⟨[], []⟩ (Is (fleetref2_minus_R qa qb r)) := by
  unfold fleetref2_minus at hF
  refine holds_of_awp hΓ (fn := f73) (c := cB f73) (A := 0) (nx := 0) (by kernel_rfl) (by kernel_rfl) (by kernel_rfl) (by kernel_rfl) (by kernel_rfl) (by kernel_rfl) (lowc_of (by kernel_rfl)) ?_
  show Awp prog 0 16 (cB f73) _ _
  refine awp_seq ?_
  refine awp_region ?_
  refine aR 3 ?_
  refine aE ?_
  refine awp_seq ?_
  refine awp_region ?_
  refine aR 12 ?_
  refine aE ?_
  refine awp_ret ?_
  exact oF hF [] []

/-! ### beaconfleet/fleetref2.cross -/
def fleetref2_cross_R (qa : api_Spot) (qb : api_Spot) (r : Unit) : TV × Mem := (.v (.one (.d (.int .i64 (IntKind.wrap .i64 ((IntKind.wrap .i64 (qa.X * qb.Y)) - (IntKind.wrap .i64 (qa.Y * qb.X))))))), ⟨[], []⟩)

theorem fleetref2_cross_ok {qa : api_Spot} {qb : api_Spot} {r} (hF : fleetref2_cross qa qb = some r) : Holds prog 84 [.v (.agg [.d (.int .i64 qa.X), .d (.int .i64 qa.Y)]), .v (.agg [.d (.int .i64 qb.X), .d (.int .i64 qb.Y)])] ⟨[], []⟩ (Is (fleetref2_cross_R qa qb r)) := by
  unfold fleetref2_cross at hF
  refine holds_of_awp hΓ (fn := f84) (c := cB f84) (A := 0) (nx := 0) (by kernel_rfl) (by kernel_rfl) (by kernel_rfl) (by kernel_rfl) (by kernel_rfl) (by kernel_rfl) (lowc_of (by kernel_rfl)) ?_
  show Awp prog 0 16 (cB f84) _ _
  refine awp_seq ?_
  refine awp_region ?_
  refine aR 3 ?_
  refine aE ?_
  refine awp_seq ?_
  refine awp_region ?_
  refine aR 12 ?_
  refine aE ?_
  refine awp_ret ?_
  exact oF hF [] []

/-! ### beaconfleet/fleetref2.sign -/
def fleetref2_sign_R (qn : Int) (r : Int) : TV × Mem := (.v (.one (.d (.int .i64 r))), ⟨[], []⟩)

theorem fleetref2_sign_ok {qn : Int} {r} (hF : fleetref2_sign qn = some r) : Holds prog 83 [.v (.one (.d (.int .i64 qn)))] ⟨[], []⟩ (Is (fleetref2_sign_R qn r)) := by
  unfold fleetref2_sign at hF
  refine holds_of_awp hΓ (fn := f83) (c := cB f83) (A := 0) (nx := 0) (by kernel_rfl) (by kernel_rfl) (by kernel_rfl) (by kernel_rfl) (by kernel_rfl) (by kernel_rfl) (lowc_of (by kernel_rfl)) ?_
  show Awp prog 0 9 (cB f83) _ _
  refine awp_seq ?_
  refine awp_region ?_
  refine aR 1 ?_
  refine aE ?_
  refine awp_seq ?_
  refine awp_block ?_
  refine awp_seq ?_
  refine awp_region ?_
  refine aR 3 ?_
  refine aE ?_
  refine cE hF (fun h1 hF => ?_) fun h1 hF => ?_
  · refine awp_true (by kernel_rfl) h1 ?_
    refine awp_seq ?_
    refine awp_region ?_
    refine aR 1 ?_
    refine aE ?_
    refine awp_ret ?_
    exact oF hF [] []
  · refine awp_false (by kernel_rfl) h1 ?_
    refine awp_seq ?_
    refine awp_region ?_
    refine aR 3 ?_
    refine aE ?_
    refine cE hF (fun h2 hF => ?_) fun h2 hF => ?_
    · refine awp_true (by kernel_rfl) h2 ?_
      refine awp_seq ?_
      refine awp_region ?_
      refine aR 1 ?_
      refine aE ?_
      refine awp_ret ?_
      exact oF hF [] []
    · refine awp_false (by kernel_rfl) h2 ?_
      refine awp_skip ?_
      refine awp_seq ?_
      refine awp_region ?_
      refine aR 1 ?_
      refine aE ?_
      refine awp_ret ?_
      exact oF hF [] []

/-! ### beaconfleet/fleetref2.side -/
def fleetref2_side_R (qa : api_Spot) (qb : api_Spot) (qs : api_Spot) (r : Int) : TV × Mem := (.v (.one (.d (.int .i64 r))), ⟨[], []⟩)

theorem fleetref2_side_ok {qa : api_Spot} {qb : api_Spot} {qs : api_Spot} {r} (hF : fleetref2_side qa qb qs = some r) : Holds prog 71 [.v (.agg [.d (.int .i64 qa.X), .d (.int .i64 qa.Y)]), .v (.agg [.d (.int .i64 qb.X), .d (.int .i64 qb.Y)]), .v (.agg [.d (.int .i64 qs.X), .d (.int .i64 qs.Y)])] ⟨[], []⟩ (Is (fleetref2_side_R qa qb qs r)) := by
  unfold fleetref2_side at hF
  refine holds_of_awp hΓ (fn := f71) (c := cB f71) (A := 0) (nx := 0) (by kernel_rfl) (by kernel_rfl) (by kernel_rfl) (by kernel_rfl) (by kernel_rfl) (by kernel_rfl) (lowc_of (by kernel_rfl)) ?_
  show Awp prog 0 15 (cB f71) _ _
  refine awp_seq ?_
  refine awp_region ?_
  refine aR 4 ?_
  refine aE ?_
  refine awp_seq ?_
  refine bE hF fun _ h1 hF => ?_
  refine bE hF fun _ h2 hF => ?_
  refine bE hF fun _ h3 hF => ?_
  refine bE hF fun vr h4 hF => ?_
  refine aD ?_
  refine dR 2 ?_
  refine dC (fleetref2_minus_ok h1) [] [] [] ?_
  refine dR 2 ?_
  refine dC (fleetref2_minus_ok h2) [] [] [] ?_
  refine dC (fleetref2_cross_ok h3) [] [] [] ?_
  refine dC (fleetref2_sign_ok h4) [] [] [] ?_
  refine dR 1 ?_
  refine dE ?_
  refine awp_ret ?_
  exact oF hF [] []

/-! ### beaconfleet/fleetref2.dot -/
def fleetref2_dot_R (qa : api_Spot) (qb : api_Spot) (r : Unit) : TV × Mem := (.v (.one (.d (.int .i64 (IntKind.wrap .i64 ((IntKind.wrap .i64 (qa.X * qb.X)) + (IntKind.wrap .i64 (qa.Y * qb.Y))))))), ⟨[], []⟩)

theorem fleetref2_dot_ok {qa : api_Spot} {qb : api_Spot} {r} (hF : fleetref2_dot qa qb = some r) : Holds prog 72 [.v (.agg [.d (.int .i64 qa.X), .d (.int .i64 qa.Y)]), .v (.agg [.d (.int .i64 qb.X), .d (.int .i64 qb.Y)])] ⟨[], []⟩ (Is (fleetref2_dot_R qa qb r)) := by
  unfold fleetref2_dot at hF
  refine holds_of_awp hΓ (fn := f72) (c := cB f72) (A := 0) (nx := 0) (by kernel_rfl) (by kernel_rfl) (by kernel_rfl) (by kernel_rfl) (by kernel_rfl) (by kernel_rfl) (lowc_of (by kernel_rfl)) ?_
  show Awp prog 0 16 (cB f72) _ _
  refine awp_seq ?_
  refine awp_region ?_
  refine aR 3 ?_
  refine aE ?_
  refine awp_seq ?_
  refine awp_region ?_
  refine aR 12 ?_
  refine aE ?_
  refine awp_ret ?_
  exact oF hF [] []

/-! ### beaconfleet/fleetref2.onWay -/
def fleetref2_onWay_x1_k : Bool → AEx
  | _ => .normal

def fleetref2_onWay_x1_S (qa : api_Spot) (qb : api_Spot) (qs : api_Spot) : Bool → St
  | vx => Mem.st ⟨[], []⟩ (tl [(6, .v (.one (.d (.bool vx))))]) 0

def fleetref2_onWay_x1_I (qa : api_Spot) (qb : api_Spot) (qs : api_Spot) : St := Mem.st ⟨[], [(0, [.d (.int .i64 qa.X), .d (.int .i64 qa.Y)]), (1, [.d (.int .i64 qb.X), .d (.int .i64 qb.Y)]), (2, [.d (.int .i64 qs.X), .d (.int .i64 qs.Y)])]⟩ (tl [(3, .v (.one (.box 0 0))), (4, .v (.one (.box 1 0))), (5, .v (.one (.box 2 0)))]) 3

theorem fleetref2_onWay_x1_ok (qa : api_Spot) (qb : api_Spot) (qs : api_Spot) {r} (hF : fleetref2_onWay_x1 qa qb qs = some r) : Awp prog 0 22 (cL (cR (cB f55))) (Out 0 fleetref2_onWay_x1_k (fleetref2_onWay_x1_S qa qb qs) r) (fleetref2_onWay_x1_I qa qb qs) := by
  unfold fleetref2_onWay_x1 at hF
  refine bE hF fun vr1 h1 hF => ?_
  refine cE hF (fun h2 hF => ?_) fun h2 hF => ?_
  · refine bE hF fun _ h3 hF => ?_
    refine bE hF fun _ h4 hF => ?_
    refine bE hF fun _ h5 hF => ?_
    refine aD ?_
    refine dR 3 ?_
    refine dC (fleetref2_side_ok h1) [] [] [] ?_
    refine dB h2 ?_
    refine dR 3 ?_
    refine dC (fleetref2_minus_ok h3) [] [] [] ?_
    refine dR 2 ?_
    refine dC (fleetref2_minus_ok h4) [] [] [] ?_
    refine dC (fleetref2_dot_ok h5) [] [] [] ?_
    refine dR 3 ?_
    refine dE ?_
    exact oO hF [] [] rfl
  · refine aD ?_
    refine dR 3 ?_
    refine dC (fleetref2_side_ok h1) [] [] [] ?_
    refine dB h2 ?_
    refine dR 11 ?_
    refine dE ?_
    exact oO hF [] [] rfl

def fleetref2_onWay_R (qa : api_Spot) (qb : api_Spot) (qs : api_Spot) (r : Bool) : TV × Mem := (.v (.one (.d (.bool r))), ⟨[], []⟩)

theorem fleetref2_onWay_ok {qa : api_Spot} {qb : api_Spot} {qs : api_Spot} {r} (hF : fleetref2_onWay qa qb qs = some r) : Holds prog 55 [.v (.agg [.d (.int .i64 qa.X), .d (.int .i64 qa.Y)]), .v (.agg [.d (.int .i64 qb.X), .d (.int .i64 qb.Y)]), .v (.agg [.d (.int .i64 qs.X), .d (.int .i64 qs.Y)])] ⟨[], []⟩ (Is (fleetref2_onWay_R qa qb qs r)) := by
  unfold fleetref2_onWay at hF
  refine holds_of_awp hΓ (fn := f55) (c := cB f55) (A := 0) (nx := 0) (by kernel_rfl) (by kernel_rfl) (by kernel_rfl) (by kernel_rfl) (by kernel_rfl) (by kernel_rfl) (lowc_of (by kernel_rfl)) ?_
  show Awp prog 0 22 (cB f55) _ _
  refine awp_seq ?_
  refine awp_region ?_
  refine aR 4 ?_
  refine aE ?_
  refine awp_seq ?_
  refine awp_to (st' := fleetref2_onWay_x1_I qa qb qs) (oT [(1, 1000), (2, 2000)] []) ?_
  refine bE hF fun vx1 h6 hF => ?_
  refine awp_sub (fleetref2_onWay_x1_ok qa qb qs h6) ?_
  refine awp_ret ?_
  exact oF hF [] []

/-! ### beaconfleet/fleetref2.touches -/
def fleetref2_touches_x1_k : Bool → AEx
  | _ => .normal

def fleetref2_touches_x1_S (qa : api_Spot) (qb : api_Spot) (qc : api_Spot) (qd : api_Spot) : Bool → St
  | vx => Mem.st ⟨[], [(0, [.d (.int .i64 qa.X), .d (.int .i64 qa.Y)]), (1, [.d (.int .i64 qb.X), .d (.int .i64 qb.Y)]), (2, [.d (.int .i64 qc.X), .d (.int .i64 qc.Y)]), (3, [.d (.int .i64 qd.X), .d (.int .i64 qd.Y)])]⟩ (tl [(4, .v (.one (.box 0 0))), (5, .v (.one (.box 1 0))), (6, .v (.one (.box 2 0))), (7, .v (.one (.box 3 0))), (30, .v (.one (.d (.bool vx))))]) 4

def fleetref2_touches_x1_I (qa : api_Spot) (qb : api_Spot) (qc : api_Spot) (qd : api_Spot) : St := Mem.st ⟨[], [(0, [.d (.int .i64 qa.X), .d (.int .i64 qa.Y)]), (1, [.d (.int .i64 qb.X), .d (.int .i64 qb.Y)]), (2, [.d (.int .i64 qc.X), .d (.int .i64 qc.Y)]), (3, [.d (.int .i64 qd.X), .d (.int .i64 qd.Y)])]⟩ (tl [(4, .v (.one (.box 0 0))), (5, .v (.one (.box 1 0))), (6, .v (.one (.box 2 0))), (7, .v (.one (.box 3 0)))]) 4

theorem fleetref2_touches_x1_ok (qa : api_Spot) (qb : api_Spot) (qc : api_Spot) (qd : api_Spot) {r} (hF : fleetref2_touches_x1 qa qb qc qd = some r) : Awp prog 0 53 (cL (cL (cR (cB f56)))) (Out 0 fleetref2_touches_x1_k (fleetref2_touches_x1_S qa qb qc qd) r) (fleetref2_touches_x1_I qa qb qc qd) := by
  unfold fleetref2_touches_x1 at hF
  refine bE hF fun vr h1 hF => ?_
  refine cE hF (fun h2 hF => ?_) fun h2 hF => ?_
  · refine awp_region ?_
    refine aR 3 ?_
    refine aCb (fleetref2_onWay_ok h1) [] [] [] h2 ?_
    refine aR 18 ?_
    refine aE ?_
    exact oO hF [] [] rfl
  · refine bE hF fun vr1 h3 hF => ?_
    refine cE hF (fun h4 hF => ?_) fun h4 hF => ?_
    · refine awp_region ?_
      refine aR 3 ?_
      refine aCb (fleetref2_onWay_ok h1) [] [] [] h2 ?_
      refine aR 4 ?_
      refine aCb (fleetref2_onWay_ok h3) [] [] [] h4 ?_
      refine aR 13 ?_
      refine aE ?_
      exact oO hF [] [] rfl
    · refine bE hF fun vr2 h5 hF => ?_
      refine cE hF (fun h6 hF => ?_) fun h6 hF => ?_
      · refine awp_region ?_
        refine aR 3 ?_
        refine aCb (fleetref2_onWay_ok h1) [] [] [] h2 ?_
        refine aR 4 ?_
        refine aCb (fleetref2_onWay_ok h3) [] [] [] h4 ?_
        refine aR 5 ?_
        refine aCb (fleetref2_onWay_ok h5) [] [] [] h6 ?_
        refine aR 7 ?_
        refine aE ?_
        exact oO hF [] [] rfl
      · refine bE hF fun vr3 h7 hF => ?_
        refine awp_region ?_
        refine aR 3 ?_
        refine aCb (fleetref2_onWay_ok h1) [] [] [] h2 ?_
        refine aR 4 ?_
        refine aCb (fleetref2_onWay_ok h3) [] [] [] h4 ?_
        refine aR 5 ?_
        refine aCb (fleetref2_onWay_ok h5) [] [] [] h6 ?_
        refine aR 5 ?_
        refine aC (fleetref2_onWay_ok h7) [] [] [] ?_
        refine aR 1 ?_
        refine aE ?_
        exact oO hF [] [] rfl

def fleetref2_touches_x2_k : Bool → AEx
  | _ => .normal

def fleetref2_touches_x2_S (qa : api_Spot) (qb : api_Spot) (qc : api_Spot) (qd : api_Spot) : Bool → St
  | vx2 => Mem.st ⟨[], []⟩ (tl [(8, .v (.one (.d (.bool vx2))))]) 0

def fleetref2_touches_x2_I (qa : api_Spot) (qb : api_Spot) (qc : api_Spot) (qd : api_Spot) : St := Mem.st ⟨[], [(0, [.d (.int .i64 qa.X), .d (.int .i64 qa.Y)]), (1, [.d (.int .i64 qb.X), .d (.int .i64 qb.Y)]), (2, [.d (.int .i64 qc.X), .d (.int .i64 qc.Y)]), (3, [.d (.int .i64 qd.X), .d (.int .i64 qd.Y)])]⟩ (tl [(4, .v (.one (.box 0 0))), (5, .v (.one (.box 1 0))), (6, .v (.one (.box 2 0))), (7, .v (.one (.box 3 0)))]) 4

theorem fleetref2_touches_x2_ok (qa : api_Spot) (qb : api_Spot) (qc : api_Spot) (qd : api_Spot) {r} (hF : fleetref2_touches_x2 qa qb qc qd = some r) : Awp prog 0 53 (cL (cR (cR (cB f56)))) (Out 0 fleetref2_touches_x2_k (fleetref2_touches_x2_S qa qb qc qd) r) (fleetref2_touches_x2_I qa qb qc qd) := by
  unfold fleetref2_touches_x2 at hF
  refine bE hF fun vr1_1 h10 hF => ?_
  refine bE hF fun vr1_2 h11 hF => ?_
  refine cE hF (fun h12 hF => ?_) fun h12 hF => ?_
  · refine bE hF fun vr1_3 h13 hF => ?_
    refine bE hF fun vr1_4 h14 hF => ?_
    refine aD ?_
    refine dR 3 ?_
    refine dC (fleetref2_side_ok h10) [] [] [] ?_
    refine dR 3 ?_
    refine dC (fleetref2_side_ok h11) [] [] [] ?_
    refine dR 1 ?_
    refine dB h12 ?_
    refine dR 4 ?_
    refine dC (fleetref2_side_ok h13) [] [] [] ?_
    refine dR 3 ?_
    refine dC (fleetref2_side_ok h14) [] [] [] ?_
    refine dR 4 ?_
    refine dE ?_
    exact oO hF [] [] rfl
  · refine aD ?_
    refine dR 3 ?_
    refine dC (fleetref2_side_ok h10) [] [] [] ?_
    refine dR 3 ?_
    refine dC (fleetref2_side_ok h11) [] [] [] ?_
    refine dR 1 ?_
    refine dB h12 ?_
    refine dR 13 ?_
    refine dE ?_
    exact oO hF [] [] rfl

def fleetref2_touches_R (qa : api_Spot) (qb : api_Spot) (qc : api_Spot) (qd : api_Spot) (r : Bool) : TV × Mem := (.v (.one (.d (.bool r))), ⟨[], []⟩)

theorem fleetref2_touches_ok {qa : api_Spot} {qb : api_Spot} {qc : api_Spot} {qd : api_Spot} {r} (hF : fleetref2_touches qa qb qc qd = some r) : Holds prog 56 [.v (.agg [.d (.int .i64 qa.X), .d (.int .i64 qa.Y)]), .v (.agg [.d (.int .i64 qb.X), .d (.int .i64 qb.Y)]), .v (.agg [.d (.int .i64 qc.X), .d (.int .i64 qc.Y)]), .v (.agg [.d (.int .i64 qd.X), .d (.int .i64 qd.Y)])] ⟨[], []⟩ (Is (fleetref2_touches_R qa qb qc qd r)) := by
  unfold fleetref2_touches at hF
  refine holds_of_awp hΓ (fn := f56) (c := cB f56) (A := 0) (nx := 0) (by kernel_rfl) (by kernel_rfl) (by kernel_rfl) (by kernel_rfl) (by kernel_rfl) (by kernel_rfl) (lowc_of (by kernel_rfl)) ?_
  show Awp prog 0 53 (cB f56) _ _
  refine awp_seq ?_
  refine awp_region ?_
  refine aR 5 ?_
  refine aE ?_
  refine awp_seq ?_
  refine awp_seq ?_
  refine awp_to (st' := fleetref2_touches_x1_I qa qb qc qd) (oT [(1, 1000), (2, 2000), (3, 3000)] []) ?_
  refine bE hF fun vx1 h8 hF => ?_
  refine awp_sub (fleetref2_touches_x1_ok qa qb qc qd h8) ?_
  refine cE hF (fun h9 hF => ?_) fun h9 hF => ?_
  · refine awp_true (by kernel_rfl) h9 ?_
    refine awp_seq ?_
    refine awp_region ?_
    refine aR 1 ?_
    refine aE ?_
    refine awp_ret ?_
    exact oF hF [] []
  · refine awp_false (by kernel_rfl) h9 ?_
    refine awp_skip ?_
    refine awp_seq ?_
    refine awp_to (st' := fleetref2_touches_x2_I qa qb qc qd) (oT [] []) ?_
    refine bE hF fun vx2_1 h15 hF => ?_
    refine awp_sub (fleetref2_touches_x2_ok qa qb qc qd h15) ?_
    refine awp_ret ?_
    exact oF hF [] []

/-! ### beaconfleet/fleetref2.CornersFault -/
def fleetref2_CornersFault_x1_k : Unit ⊕ Int → AEx
  | .inl _ => .exit 1
  | .inr _ => .ret

def fleetref2_CornersFault_x1_S (qx : List api_Spot) : Unit ⊕ Int → St
  | .inl _ => Mem.st ⟨[], []⟩ (tl [(0, .v (.one (.d (.lst (List.map api_Spot.enc qx)))))]) 0
  | .inr vx1 => Mem.st ⟨[], []⟩ (tl [(2, .v (.one (.d (.int .i64 vx1))))]) 0

def fleetref2_CornersFault_x1_H (qx : List api_Spot) : Int → St
  | vx => Mem.st ⟨[], []⟩ (tl [(0, .v (.one (.d (.lst (List.map api_Spot.enc qx))))), (20, .v (.one (.d (.lst (List.map api_Spot.enc qx))))), (21, .v (.one (.d (.int .i64 (qx.length : Int))))), (22, .v (.one (.d (.int .i64 vx))))]) 0

theorem fleetref2_CornersFault_x1_ok (qx : List api_Spot) (vx : Int) (r : (Int) ⊕ (Unit ⊕ Int)) (hF : fleetref2_CornersFault_x1 qx vx = some r) : Awp prog 0 90 (cL (cL (cR (cL (cR (cR (cB f38))))))) (Out 0 (kk fleetref2_CornersFault_x1_k) (SS (fleetref2_CornersFault_x1_H qx) (fleetref2_CornersFault_x1_S qx)) r) (fleetref2_CornersFault_x1_H qx vx) := by
  unfold fleetref2_CornersFault_x1 at hF
  refine awp_seq ?_
  refine awp_region ?_
  refine aR 1 ?_
  refine aE ?_
  refine awp_seq ?_
  refine cE hF (fun h3 hF => ?_) fun h3 hF => ?_
  · refine awp_true (by kernel_rfl) h3 ?_
    refine awp_skip ?_
    refine awp_seq ?_
    refine awp_block ?_
    refine awp_seq ?_
    refine bE hF fun vy1 h4 hF => ?_
    refine awp_region ?_
    refine aR 1 ?_
    refine aX (x_idx api_Spot.enc h4) ?_
    refine aR 4 ?_
    refine aE ?_
    refine awp_seq ?_
    refine awp_seq ?_
    refine bE hF fun vr2_1 h5 hF => ?_
    refine awp_region ?_
    refine aR 1 ?_
    refine aC (fleetref2_SpotFault_ok h5) [] [] [] ?_
    refine aR 1 ?_
    refine aE ?_
    refine awp_seq ?_
    refine awp_region ?_
    refine aR 2 ?_
    refine aE ?_
    refine cE hF (fun h6 hF => ?_) fun h6 hF => ?_
    · refine awp_true (by kernel_rfl) h6 ?_
      refine awp_seq ?_
      refine awp_region ?_
      refine aR 2 ?_
      refine aE ?_
      refine awp_ret ?_
      exact oO hF [] [] rfl
    · refine awp_false (by kernel_rfl) h6 ?_
      refine awp_skip ?_
      refine awp_seq ?_
      refine bE hF fun vl1 h7 hF => ?_
      refine bE hF fun vr1_1 h8 hF => ?_
      refine aD ?_
      refine dR 2 ?_
      refine dX (x_slice api_Spot.enc h7) ?_
      refine dR 1 ?_
      refine dC (slices_Contains_api_Spot_api_Spot_ok h8) [] [] [] ?_
      refine dE ?_
      refine cE hF (fun h9 hF => ?_) fun h9 hF => ?_
      · refine awp_true (by kernel_rfl) h9 ?_
        refine awp_seq ?_
        refine awp_region ?_
        refine aR 1 ?_
        refine aE ?_
        refine awp_ret ?_
        exact oO hF [] [] rfl
      · refine awp_false (by kernel_rfl) h9 ?_
        refine awp_skip ?_
        refine awp_region ?_
        refine aR 2 ?_
        refine aE ?_
        exact oO hF [] [] rfl
  · refine awp_false (by kernel_rfl) h3 ?_
    refine awp_exit ?_
    exact oO hF [] [] rfl

def fleetref2_CornersFault_x5_k : Bool → AEx
  | _ => .normal

def fleetref2_CornersFault_x5_S (qx : List api_Spot) (vx2 : Int) (vr9 : api_Spot) (vr1_5 : api_Spot) (vx6 : Int) (vr13 : api_Spot) (vr1_7 : api_Spot) : Bool → St
  | vx8 => Mem.st ⟨[], [(0, [.d (.int .i64 vr9.X), .d (.int .i64 vr9.Y)]), (1, [.d (.int .i64 vr1_5.X), .d (.int .i64 vr1_5.Y)])]⟩ (tl [(0, .v (.one (.d (.lst (List.map api_Spot.enc qx))))), (6, .v (.one (.d (.int .i64 vx2)))), (7, .v (.one (.box 0 0))), (8, .v (.one (.box 1 0))), (39, .v (.one (.d (.int .i64 (qx.length : Int))))), (40, .v (.one (.d (.int .i64 vx2)))), (50, .v (.one (.d (.int .i64 (qx.length : Int))))), (51, .v (.one (.d (.int .i64 vx6)))), (77, .v (.one (.d (.bool vx8))))]) 2

def fleetref2_CornersFault_x5_I (qx : List api_Spot) (vx2 : Int) (vr9 : api_Spot) (vr1_5 : api_Spot) (vx6 : Int) (vr13 : api_Spot) (vr1_7 : api_Spot) : St := Mem.st ⟨[], [(0, [.d (.int .i64 vr9.X), .d (.int .i64 vr9.Y)]), (1, [.d (.int .i64 vr1_5.X), .d (.int .i64 vr1_5.Y)]), (2, [.d (.int .i64 vr13.X), .d (.int .i64 vr13.Y)]), (3, [.d (.int .i64 vr1_7.X), .d (.int .i64 vr1_7.Y)])]⟩ (tl [(0, .v (.one (.d (.lst (List.map api_Spot.enc qx))))), (6, .v (.one (.d (.int .i64 vx2)))), (7, .v (.one (.box 0 0))), (8, .v (.one (.box 1 0))), (10, .v (.one (.box 2 0))), (11, .v (.one (.box 3 0))), (39, .v (.one (.d (.int .i64 (qx.length : Int))))), (40, .v (.one (.d (.int .i64 vx2)))), (50, .v (.one (.d (.int .i64 (qx.length : Int))))), (51, .v (.one (.d (.int .i64 vx6))))]) 4

theorem fleetref2_CornersFault_x5_ok (qx : List api_Spot) (vx2 : Int) (vr9 : api_Spot) (vr1_5 : api_Spot) (vx6 : Int) (vr13 : api_Spot) (vr1_7 : api_Spot) {r} (hF : fleetref2_CornersFault_x5 vr9 vr1_5 vr13 vr1_7 = some r) : Awp prog 0 90 (cL (cL (cR (cR (cR (cL (cR (cR (cL (cL (cR (cR (cL (cL (cR (cR (cR (cL (cL (cR (cR (cL (cL (cR (cL (cR (cR (cR (cB f38))))))))))))))))))))))))))))) (Out 0 fleetref2_CornersFault_x5_k (fleetref2_CornersFault_x5_S qx vx2 vr9 vr1_5 vx6 vr13 vr1_7) r) (fleetref2_CornersFault_x5_I qx vx2 vr9 vr1_5 vx6 vr13 vr1_7) := by
  unfold fleetref2_CornersFault_x5 at hF
  refine bE hF fun vr14 h17 hF => ?_
  refine cE hF (fun h18 hF => ?_) fun h18 hF => ?_
  · refine awp_region ?_
    refine aR 3 ?_
    refine aCb (fleetref2_onWay_ok h17) [] [] [] h18 ?_
    refine aR 6 ?_
    refine aE ?_
    exact oO hF [] [] rfl
  · refine bE hF fun vr15 h19 hF => ?_
    refine awp_region ?_
    refine aR 3 ?_
    refine aCb (fleetref2_onWay_ok h17) [] [] [] h18 ?_
    refine aR 4 ?_
    refine aC (fleetref2_onWay_ok h19) [] [] [] ?_
    refine aR 1 ?_
    refine aE ?_
    exact oO hF [] [] rfl

def fleetref2_CornersFault_x4_k : Unit ⊕ Unit → AEx
  | .inl _ => .normal
  | .inr _ => .ret

def fleetref2_CornersFault_x4_S (qx : List api_Spot) (vx2 : Int) (vr9 : api_Spot) (vr1_5 : api_Spot) (vx6 : Int) : Unit ⊕ Unit → St
  | .inl _ => Mem.st ⟨[], [(0, [.d (.int .i64 vr9.X), .d (.int .i64 vr9.Y)]), (1, [.d (.int .i64 vr1_5.X), .d (.int .i64 vr1_5.Y)])]⟩ (tl [(0, .v (.one (.d (.lst (List.map api_Spot.enc qx))))), (6, .v (.one (.d (.int .i64 vx2)))), (7, .v (.one (.box 0 0))), (8, .v (.one (.box 1 0))), (39, .v (.one (.d (.int .i64 (qx.length : Int))))), (40, .v (.one (.d (.int .i64 vx2)))), (50, .v (.one (.d (.int .i64 (qx.length : Int))))), (51, .v (.one (.d (.int .i64 vx6))))]) 2
  | .inr _ => Mem.st ⟨[], []⟩ (tl [(2, .v (.one (.d (.int .i64 13))))]) 0

def fleetref2_CornersFault_x4_I (qx : List api_Spot) (vx2 : Int) (vr9 : api_Spot) (vr1_5 : api_Spot) (vx6 : Int) : St := Mem.st ⟨[], [(0, [.d (.int .i64 vr9.X), .d (.int .i64 vr9.Y)]), (1, [.d (.int .i64 vr1_5.X), .d (.int .i64 vr1_5.Y)])]⟩ (tl [(0, .v (.one (.d (.lst (List.map api_Spot.enc qx))))), (6, .v (.one (.d (.int .i64 vx2)))), (7, .v (.one (.box 0 0))), (8, .v (.one (.box 1 0))), (39, .v (.one (.d (.int .i64 (qx.length : Int))))), (40, .v (.one (.d (.int .i64 vx2)))), (50, .v (.one (.d (.int .i64 (qx.length : Int))))), (51, .v (.one (.d (.int .i64 vx6))))]) 2

theorem fleetref2_CornersFault_x4_ok (qx : List api_Spot) (vx2 : Int) (vr9 : api_Spot) (vr1_5 : api_Spot) (vx6 : Int) {r} (hF : fleetref2_CornersFault_x4 qx vx2 vr9 vr1_5 vx6 = some r) : Awp prog 0 90 (cL (cR (cR (cL (cL (cR (cR (cR (cL (cL (cR (cR (cL (cL (cR (cL (cR (cR (cR (cB f38)))))))))))))))))))) (Out 0 fleetref2_CornersFault_x4_k (fleetref2_CornersFault_x4_S qx vx2 vr9 vr1_5 vx6) r) (fleetref2_CornersFault_x4_I qx vx2 vr9 vr1_5 vx6) := by
  unfold fleetref2_CornersFault_x4 at hF
  refine awp_block ?_
  refine awp_seq ?_
  refine awp_region ?_
  refine aR 2 ?_
  refine aE ?_
  refine awp_seq ?_
  refine bE hF fun x h14 hF => ?_
  obtain ⟨vr13, vr1_7⟩ := x
  refine awp_region ?_
  refine aR 2 ?_
  refine aC (fleetref2_edge_ok h14) [] [] [] ?_
  refine aR 7 ?_
  refine aE ?_
  refine awp_block ?_
  refine awp_seq ?_
  refine awp_region ?_
  refine aR 4 ?_
  refine aE ?_
  refine cE hF (fun h15 hF => ?_) fun h15 hF => ?_
  · refine awp_true (by kernel_rfl) h15 ?_
    refine awp_skip ?_
    exact oO hF [] [] rfl
  · refine awp_false (by kernel_rfl) h15 ?_
    refine awp_seq ?_
    refine awp_region ?_
    refine aR 2 ?_
    refine aS (does_eqS (op := .eql) (xs := [.int .i64 vr1_5.X, .int .i64 vr1_5.Y]) (ys := [.int .i64 vr13.X, .int .i64 vr13.Y]) (b := (decide (vr1_5.X = vr13.X) && (decide (vr1_5.Y = vr13.Y) && true))) (c := (decide (vr1_5.X = vr13.X) && (decide (vr1_5.Y = vr13.Y) && true))) rfl (.inl ⟨rfl, rfl⟩) (by kernel_rfl) (by kernel_rfl) (by kernel_rfl) (by kernel_rfl) (by kernel_rfl) (by kernel_rfl)) ?_
    refine aR 1 ?_
    refine aE ?_
    refine cE hF (fun h16 hF => ?_) fun h16 hF => ?_
    · refine awp_true (by kernel_rfl) h16 ?_
      refine awp_seq ?_
      refine awp_to (st' := fleetref2_CornersFault_x5_I qx vx2 vr9 vr1_5 vx6 vr13 vr1_7) (oT [(2, 8002), (3, 9002)] []) ?_
      refine bE hF fun vx8_1 h20 hF => ?_
      refine awp_sub (fleetref2_CornersFault_x5_ok qx vx2 vr9 vr1_5 vx6 vr13 vr1_7 h20) ?_
      refine cE hF (fun h21 hF => ?_) fun h21 hF => ?_
      · refine awp_true (by kernel_rfl) h21 ?_
        refine awp_seq ?_
        refine awp_region ?_
        refine aR 1 ?_
        refine aE ?_
        refine awp_ret ?_
        exact oO hF [] [] rfl
      · refine awp_false (by kernel_rfl) h21 ?_
        refine awp_skip ?_
        exact oO hF [] [] rfl
    · refine awp_false (by kernel_rfl) h16 ?_
      refine awp_seq ?_
      refine awp_region ?_
      refine aR 2 ?_
      refine aS (does_eqS (op := .eql) (xs := [.int .i64 vr1_7.X, .int .i64 vr1_7.Y]) (ys := [.int .i64 vr9.X, .int .i64 vr9.Y]) (b := (decide (vr1_7.X = vr9.X) && (decide (vr1_7.Y = vr9.Y) && true))) (c := (decide (vr1_7.X = vr9.X) && (decide (vr1_7.Y = vr9.Y) && true))) rfl (.inl ⟨rfl, rfl⟩) (by kernel_rfl) (by kernel_rfl) (by kernel_rfl) (by kernel_rfl) (by kernel_rfl) (by kernel_rfl)) ?_
      refine aR 1 ?_
      refine aE ?_
      refine cE hF (fun h22 hF => ?_) fun h22 hF => ?_
      · refine awp_true (by kernel_rfl) h22 ?_
        refine awp_skip ?_
        exact oO hF [] [] rfl
      · refine awp_false (by kernel_rfl) h22 ?_
        refine awp_seq ?_
        refine bE hF fun vr4_4 h23 hF => ?_
        refine awp_region ?_
        refine aR 4 ?_
        refine aC (fleetref2_touches_ok h23) [] [] [] ?_
        refine aR 1 ?_
        refine aE ?_
        refine cE hF (fun h24 hF => ?_) fun h24 hF => ?_
        · refine awp_true (by kernel_rfl) h24 ?_
          refine awp_seq ?_
          refine awp_region ?_
          refine aR 1 ?_
          refine aE ?_
          refine awp_ret ?_
          exact oO hF [] [] rfl
        · refine awp_false (by kernel_rfl) h24 ?_
          refine awp_skip ?_
          exact oO hF [] [] rfl

def fleetref2_CornersFault_x3_k : Unit ⊕ Unit → AEx
  | .inl _ => .exit 5
  | .inr _ => .ret

def fleetref2_CornersFault_x3_S (qx : List api_Spot) (vx2 : Int) (vr9 : api_Spot) (vr1_5 : api_Spot) : Unit ⊕ Unit → St
  | .inl _ => Mem.st ⟨[], []⟩ (tl [(0, .v (.one (.d (.lst (List.map api_Spot.enc qx))))), (39, .v (.one (.d (.int .i64 (qx.length : Int))))), (40, .v (.one (.d (.int .i64 vx2))))]) 0
  | .inr _ => Mem.st ⟨[], []⟩ (tl [(2, .v (.one (.d (.int .i64 13))))]) 0

def fleetref2_CornersFault_x3_H (qx : List api_Spot) (vx2 : Int) (vr9 : api_Spot) (vr1_5 : api_Spot) : Int → St
  | vx6 => Mem.st ⟨[], [(0, [.d (.int .i64 vr9.X), .d (.int .i64 vr9.Y)]), (1, [.d (.int .i64 vr1_5.X), .d (.int .i64 vr1_5.Y)])]⟩ (tl [(0, .v (.one (.d (.lst (List.map api_Spot.enc qx))))), (6, .v (.one (.d (.int .i64 vx2)))), (7, .v (.one (.box 0 0))), (8, .v (.one (.box 1 0))), (39, .v (.one (.d (.int .i64 (qx.length : Int))))), (40, .v (.one (.d (.int .i64 vx2)))), (50, .v (.one (.d (.int .i64 (qx.length : Int))))), (51, .v (.one (.d (.int .i64 vx6))))]) 2

theorem fleetref2_CornersFault_x3_ok (qx : List api_Spot) (vx2 : Int) (vr9 : api_Spot) (vr1_5 : api_Spot) (vx6 : Int) (r : (Int) ⊕ (Unit ⊕ Unit)) (hF : fleetref2_CornersFault_x3 qx vx2 vr9 vr1_5 vx6 = some r) : Awp prog 0 90 (cL (cL (cR (cR (cR (cL (cL (cR (cR (cL (cL (cR (cL (cR (cR (cR (cB f38))))))))))))))))) (Out 0 (kk fleetref2_CornersFault_x3_k) (SS (fleetref2_CornersFault_x3_H qx vx2 vr9 vr1_5) (fleetref2_CornersFault_x3_S qx vx2 vr9 vr1_5)) r) (fleetref2_CornersFault_x3_H qx vx2 vr9 vr1_5 vx6) := by
  unfold fleetref2_CornersFault_x3 at hF
  refine awp_seq ?_
  refine awp_region ?_
  refine aR 1 ?_
  refine aE ?_
  refine awp_seq ?_
  refine cE hF (fun h13 hF => ?_) fun h13 hF => ?_
  · refine awp_true (by kernel_rfl) h13 ?_
    refine awp_skip ?_
    refine awp_seq ?_
    refine awp_to (st' := fleetref2_CornersFault_x4_I qx vx2 vr9 vr1_5 vx6) (oT [] []) ?_
    refine bE hF fun x h25 hF => ?_
    rcases x with _ | _
    · refine awp_sub (fleetref2_CornersFault_x4_ok qx vx2 vr9 vr1_5 vx6 h25) ?_
      refine awp_region ?_
      refine aR 2 ?_
      refine aE ?_
      exact oO hF [] [] rfl
    · refine awp_sub (fleetref2_CornersFault_x4_ok qx vx2 vr9 vr1_5 vx6 h25) ?_
      exact oO hF [] [] rfl
  · refine awp_false (by kernel_rfl) h13 ?_
    refine awp_exit ?_
    exact oO hF [] [] rfl

def fleetref2_CornersFault_x2_k : Unit ⊕ Unit → AEx
  | .inl _ => .exit 3
  | .inr _ => .ret

def fleetref2_CornersFault_x2_S (qx : List api_Spot) : Unit ⊕ Unit → St
  | .inl _ => Mem.st ⟨[], []⟩ (tl []) 0
  | .inr _ => Mem.st ⟨[], []⟩ (tl [(2, .v (.one (.d (.int .i64 13))))]) 0

def fleetref2_CornersFault_x2_H (qx : List api_Spot) : Int → St
  | vx2 => Mem.st ⟨[], []⟩ (tl [(0, .v (.one (.d (.lst (List.map api_Spot.enc qx))))), (39, .v (.one (.d (.int .i64 (qx.length : Int))))), (40, .v (.one (.d (.int .i64 vx2))))]) 0

theorem fleetref2_CornersFault_x2_ok (qx : List api_Spot) (vx2 : Int) (r : (Int) ⊕ (Unit ⊕ Unit)) (hF : fleetref2_CornersFault_x2 qx vx2 = some r) : Awp prog 0 90 (cL (cL (cR (cL (cR (cR (cR (cB f38)))))))) (Out 0 (kk fleetref2_CornersFault_x2_k) (SS (fleetref2_CornersFault_x2_H qx) (fleetref2_CornersFault_x2_S qx)) r) (fleetref2_CornersFault_x2_H qx vx2) := by
  unfold fleetref2_CornersFault_x2 at hF
  refine awp_seq ?_
  refine awp_region ?_
  refine aR 1 ?_
  refine aE ?_
  refine awp_seq ?_
  refine cE hF (fun h11 hF => ?_) fun h11 hF => ?_
  · refine awp_true (by kernel_rfl) h11 ?_
    refine awp_skip ?_
    refine awp_seq ?_
    refine awp_block ?_
    refine awp_seq ?_
    refine awp_region ?_
    refine aR 2 ?_
    refine aE ?_
    refine awp_seq ?_
    refine bE hF fun x h12 hF => ?_
    obtain ⟨vr9, vr1_5⟩ := x
    refine awp_region ?_
    refine aR 2 ?_
    refine aC (fleetref2_edge_ok h12) [] [] [] ?_
    refine aR 7 ?_
    refine aE ?_
    refine awp_seq ?_
    refine awp_region ?_
    refine aR 1 ?_
    refine aL api_Spot.enc qx ?_
    refine aR 1 ?_
    refine aE ?_
    refine awp_block ?_
    refine awp_to (st' := fleetref2_CornersFault_x3_H qx vx2 vr9 vr1_5 0) (oT [(0, 9000), (1, 10000)] []) ?_
    refine bE hF fun x h26 hF => ?_
    rcases x with _ | _
    · refine awp_sub (awp_loop' (fleetref2_CornersFault_x3_H qx vx2 vr9 vr1_5) fleetref2_CornersFault_x3_k (fleetref2_CornersFault_x3_S qx vx2 vr9 vr1_5) (by intro x; rcases x with x | x <;> exact fun h => nomatch h) h26 (fleetref2_CornersFault_x3_ok qx vx2 vr9 vr1_5)) ?_
      refine awp_region ?_
      refine aR 2 ?_
      refine aE ?_
      exact oO hF [] [] rfl
    · refine awp_sub (awp_loop' (fleetref2_CornersFault_x3_H qx vx2 vr9 vr1_5) fleetref2_CornersFault_x3_k (fleetref2_CornersFault_x3_S qx vx2 vr9 vr1_5) (by intro x; rcases x with x | x <;> exact fun h => nomatch h) h26 (fleetref2_CornersFault_x3_ok qx vx2 vr9 vr1_5)) ?_
      exact oO hF [] [] rfl
  · refine awp_false (by kernel_rfl) h11 ?_
    refine awp_exit ?_
    exact oO hF [] [] rfl

def fleetref2_CornersFault_R (qx : List api_Spot) (r : Int) : TV × Mem := (.v (.one (.d (.int .i64 r))), ⟨[], []⟩)

theorem fleetref2_CornersFault_ok {qx : List api_Spot} {r} (hF : fleetref2_CornersFault qx = some r) : Holds prog 38 [.v (.one (.d (.lst (List.map api_Spot.enc qx))))] ⟨[], []⟩ (Is (fleetref2_CornersFault_R qx r)) := by
  unfold fleetref2_CornersFault at hF
  refine holds_of_awp hΓ (fn := f38) (c := cB f38) (A := 0) (nx := 0) (by kernel_rfl) (by kernel_rfl) (by kernel_rfl) (by kernel_rfl) (by kernel_rfl) (by kernel_rfl) (lowc_of (by kernel_rfl)) ?_
  show Awp prog 0 90 (cB f38) _ _
  refine awp_seq ?_
  refine awp_region ?_
  refine aR 1 ?_
  refine aE ?_
  refine awp_seq ?_
  refine awp_block ?_
  refine awp_seq ?_
  refine awp_region ?_
  refine aR 1 ?_
  refine aL api_Spot.enc qx ?_
  refine aR 2 ?_
  refine aE ?_
  refine cE hF (fun h1 hF => ?_) fun h1 hF => ?_
  · refine awp_true (by kernel_rfl) h1 ?_
    refine awp_seq ?_
    refine awp_region ?_
    refine aR 1 ?_
    refine aE ?_
    refine awp_ret ?_
    exact oF hF [] []
  · refine awp_false (by kernel_rfl) h1 ?_
    refine awp_seq ?_
    refine awp_region ?_
    refine aR 1 ?_
    refine aL api_Spot.enc qx ?_
    refine aR 2 ?_
    refine aE ?_
    refine cE hF (fun h2 hF => ?_) fun h2 hF => ?_
    · refine awp_true (by kernel_rfl) h2 ?_
      refine awp_seq ?_
      refine awp_region ?_
      refine aR 1 ?_
      refine aE ?_
      refine awp_ret ?_
      exact oF hF [] []
    · refine awp_false (by kernel_rfl) h2 ?_
      refine awp_skip ?_
      refine awp_seq ?_
      refine awp_seq ?_
      refine awp_region ?_
      refine aR 1 ?_
      refine aL api_Spot.enc qx ?_
      refine aR 1 ?_
      refine aE ?_
      refine awp_block ?_
      refine awp_to (st' := fleetref2_CornersFault_x1_H qx 0) (oT [] []) ?_
      refine bE hF fun x h10 hF => ?_
      rcases x with _ | vx1_1
      · refine awp_sub (awp_loop' (fleetref2_CornersFault_x1_H qx) fleetref2_CornersFault_x1_k (fleetref2_CornersFault_x1_S qx) (by intro x; rcases x with x | x <;> exact fun h => nomatch h) h10 (fleetref2_CornersFault_x1_ok qx)) ?_
        refine awp_seq ?_
        refine awp_seq ?_
        refine awp_region ?_
        refine aR 1 ?_
        refine aL api_Spot.enc qx ?_
        refine aR 1 ?_
        refine aE ?_
        refine awp_block ?_
        refine awp_to (st' := fleetref2_CornersFault_x2_H qx 0) (oT [] []) ?_
        refine bE hF fun x h27 hF => ?_
        rcases x with _ | _
        · refine awp_sub (awp_loop' (fleetref2_CornersFault_x2_H qx) fleetref2_CornersFault_x2_k (fleetref2_CornersFault_x2_S qx) (by intro x; rcases x with x | x <;> exact fun h => nomatch h) h27 (fleetref2_CornersFault_x2_ok qx)) ?_
          refine awp_seq ?_
          refine awp_region ?_
          refine aR 1 ?_
          refine aE ?_
          refine awp_ret ?_
          exact oF hF [] []
        · refine awp_sub (awp_loop' (fleetref2_CornersFault_x2_H qx) fleetref2_CornersFault_x2_k (fleetref2_CornersFault_x2_S qx) (by intro x; rcases x with x | x <;> exact fun h => nomatch h) h27 (fleetref2_CornersFault_x2_ok qx)) ?_
          exact oF hF [] []
      · refine awp_sub (awp_loop' (fleetref2_CornersFault_x1_H qx) fleetref2_CornersFault_x1_k (fleetref2_CornersFault_x1_S qx) (by intro x; rcases x with x | x <;> exact fun h => nomatch h) h10 (fleetref2_CornersFault_x1_ok qx)) ?_
        exact oF hF [] []

/-! ### (*beaconfleet/fleetmake.Stream).RightFence -/
def fleetmake_Stream_RightFence_x2_k : (fleetmake_Stream × (List api_Spot)) → AEx
  | _ => .exit 2

def fleetmake_Stream_RightFence_x2_S (vx : Int) (vr5 : Int) : (fleetmake_Stream × (List api_Spot)) → St
  | (vs9, vx10) => Mem.st ⟨[(3, ⟨27, 2, List.map api_Spot.enc ([api_Spot.mk 0 0, api_Spot.mk 10 0, api_Spot.mk 10 10, api_Spot.mk 0 10] : List api_Spot)⟩), (4, ⟨27, 2, List.map api_Spot.enc vx10⟩)], [(0, [.d (.lst (List.map (encI .i64) vs9.L)), .d (.int .i64 vs9.at_)]), (1, [.d (.str ([] : List UInt8)), .nil]), (2, [.d (.str ([102] : List UInt8)), .own 3 none])]⟩ (tl [(0, .v (.one (.box 0 0))), (2, .v (.one (.box 1 0))), (3, .v (.one (.box 2 0))), (4, .v (.one (.own 4 none))), (12, .v (.one (.d (.int .i64 vx))))]) 5

def fleetmake_Stream_RightFence_x2_H (vx : Int) (vr5 : Int) : fleetmake_Stream × (List api_Spot) × Int → St
  | (vs8, vx8, vx9) => Mem.st ⟨[(3, ⟨27, 2, List.map api_Spot.enc ([api_Spot.mk 0 0, api_Spot.mk 10 0, api_Spot.mk 10 10, api_Spot.mk 0 10] : List api_Spot)⟩), (4, ⟨27, 2, List.map api_Spot.enc vx8⟩)], [(0, [.d (.lst (List.map (encI .i64) vs8.L)), .d (.int .i64 vs8.at_)]), (1, [.d (.str ([] : List UInt8)), .nil]), (2, [.d (.str ([102] : List UInt8)), .own 3 none])]⟩ (tl [(0, .v (.one (.box 0 0))), (2, .v (.one (.box 1 0))), (3, .v (.one (.box 2 0))), (4, .v (.one (.own 4 none))), (12, .v (.one (.d (.int .i64 vx)))), (15, .v (.one (.d (.int .i64 vr5)))), (16, .v (.one (.d (.int .i64 vx9))))]) 5

theorem fleetmake_Stream_RightFence_x2_ok (vx : Int) (vr5 : Int) (s : fleetmake_Stream × (List api_Spot) × Int) (r : (fleetmake_Stream × (List api_Spot) × Int) ⊕ ((fleetmake_Stream × (List api_Spot)))) (hF : fleetmake_Stream_RightFence_x2 vr5 s = some r) : Awp prog 1 82 (cL (cL (cR (cL (cR (cL (cL (cR (cR (cL (cL (cR (cL (cR (cR (cB f27)))))))))))))))) (Out 1 (kk fleetmake_Stream_RightFence_x2_k) (SS (fleetmake_Stream_RightFence_x2_H vx vr5) (fleetmake_Stream_RightFence_x2_S vx vr5)) r) (fleetmake_Stream_RightFence_x2_H vx vr5 s) := by
  obtain ⟨vs8, vx8, vx9⟩ := s
  unfold fleetmake_Stream_RightFence_x2 at hF
  refine awp_seq ?_
  refine awp_region ?_
  refine aR 1 ?_
  refine aE ?_
  refine awp_seq ?_
  refine cE hF (fun h3 hF => ?_) fun h3 hF => ?_
  · refine awp_true (by kernel_rfl) h3 ?_
    refine awp_skip ?_
    refine awp_seq ?_
    refine awp_block ?_
    refine bE hF fun vr2_3 h4 hF => ?_
    refine gE hF fun h5 hF => ?_
    refine awp_region ?_
    refine aR 2 ?_
    refine aC (fleetmake_Stream_Place_ok h4) [] [] [] ?_
    refine aR 1 ?_
    refine aX (x_app api_Spot.enc 4 h5) ?_
    refine aR 1 ?_
    refine aE ?_
    refine awp_region ?_
    refine aR 2 ?_
    refine aE ?_
    exact oO hF [(4, 5005)] [] rfl
  · refine awp_false (by kernel_rfl) h3 ?_
    refine awp_exit ?_
    exact oO hF [] [] rfl

def fleetmake_Stream_RightFence_x4_k : (fleetmake_Stream × (List api_Spot)) → AEx
  | _ => .exit 4

def fleetmake_Stream_RightFence_x4_S (vx : Int) (vx10_1 : List api_Spot) : (fleetmake_Stream × (List api_Spot)) → St
  | (vs11, vx13) => Mem.st ⟨[(3, ⟨27, 2, List.map api_Spot.enc ([api_Spot.mk 0 0, api_Spot.mk 10 0, api_Spot.mk 10 10, api_Spot.mk 0 10] : List api_Spot)⟩), (4, ⟨27, 2, List.map api_Spot.enc vx13⟩)], [(0, [.d (.lst (List.map (encI .i64) vs11.L)), .d (.int .i64 vs11.at_)]), (1, [.d (.str ([] : List UInt8)), .nil]), (2, [.d (.str ([102] : List UInt8)), .own 3 none])]⟩ (tl [(0, .v (.one (.box 0 0))), (2, .v (.one (.box 1 0))), (3, .v (.one (.box 2 0))), (4, .v (.one (.own 4 none))), (12, .v (.one (.d (.int .i64 vx))))]) 5

def fleetmake_Stream_RightFence_x4_H (vx : Int) (vx10_1 : List api_Spot) : fleetmake_Stream × (List api_Spot) × Int → St
  | (vs10, vx11, vx12) => Mem.st ⟨[(3, ⟨27, 2, List.map api_Spot.enc ([api_Spot.mk 0 0, api_Spot.mk 10 0, api_Spot.mk 10 10, api_Spot.mk 0 10] : List api_Spot)⟩), (4, ⟨27, 2, List.map api_Spot.enc vx11⟩)], [(0, [.d (.lst (List.map (encI .i64) vs10.L)), .d (.int .i64 vs10.at_)]), (1, [.d (.str ([] : List UInt8)), .nil]), (2, [.d (.str ([102] : List UInt8)), .own 3 none])]⟩ (tl [(0, .v (.one (.box 0 0))), (2, .v (.one (.box 1 0))), (3, .v (.one (.box 2 0))), (4, .v (.one (.own 4 none))), (12, .v (.one (.d (.int .i64 vx)))), (27, .v (.one (.d (.int .i64 (vx10_1.length : Int))))), (28, .v (.one (.d (.int .i64 vx12))))]) 5

theorem fleetmake_Stream_RightFence_x4_ok (vx : Int) (vx10_1 : List api_Spot) (s : fleetmake_Stream × (List api_Spot) × Int) (r : (fleetmake_Stream × (List api_Spot) × Int) ⊕ ((fleetmake_Stream × (List api_Spot)))) (hF : fleetmake_Stream_RightFence_x4 vx10_1 s = some r) : Awp prog 1 82 (cL (cL (cR (cL (cR (cL (cR (cR (cL (cL (cR (cR (cL (cL (cR (cL (cR (cR (cB f27))))))))))))))))))) (Out 1 (kk fleetmake_Stream_RightFence_x4_k) (SS (fleetmake_Stream_RightFence_x4_H vx vx10_1) (fleetmake_Stream_RightFence_x4_S vx vx10_1)) r) (fleetmake_Stream_RightFence_x4_H vx vx10_1 s) := by
  obtain ⟨vs10, vx11, vx12⟩ := s
  unfold fleetmake_Stream_RightFence_x4 at hF
  refine awp_seq ?_
  refine awp_region ?_
  refine aR 1 ?_
  refine aE ?_
  refine awp_seq ?_
  refine cE hF (fun h9 hF => ?_) fun h9 hF => ?_
  · refine awp_true (by kernel_rfl) h9 ?_
    refine awp_skip ?_
    refine awp_seq ?_
    refine awp_block ?_
    refine awp_seq ?_
    refine awp_region ?_
    refine aR 2 ?_
    refine aE ?_
    refine bE hF fun vy3 h10 hF => ?_
    refine bE hF fun vr8 h11 hF => ?_
    refine aDw [4] ?_
    refine dR 2 ?_
    refine dI api_Spot.enc 4 h10 rfl ?_
    refine dR 1 ?_
    refine dX (x_ldE api_Spot.enc h10) ?_
    refine dR 2 ?_
    refine dC (fleetmake_Stream_Pick_o1_ok h11) [(1, 9005)] [] [] ?_
    refine dR 1 ?_
    refine dI api_Spot.enc 4 h10 rfl ?_
    refine dR 1 ?_
    refine dW api_Spot.enc (api_Spot.mk (IntKind.wrap .i64 (vy3.X * vr8)) vy3.Y) h10 rfl ?_
    refine dE ?_
    refine awp_region ?_
    refine aR 2 ?_
    refine aE ?_
    exact oO hF [] [] rfl
  · refine awp_false (by kernel_rfl) h9 ?_
    refine awp_exit ?_
    exact oO hF [] [] rfl

def fleetmake_Stream_RightFence_x3_k : (fleetmake_Stream × (List api_Spot)) → AEx
  | _ => .normal

def fleetmake_Stream_RightFence_x3_S (vx : Int) (vs9_1 : fleetmake_Stream) (vx10_1 : List api_Spot) : (fleetmake_Stream × (List api_Spot)) → St
  | (vs12, vx14) => Mem.st ⟨[(3, ⟨27, 2, List.map api_Spot.enc ([api_Spot.mk 0 0, api_Spot.mk 10 0, api_Spot.mk 10 10, api_Spot.mk 0 10] : List api_Spot)⟩), (4, ⟨27, 2, List.map api_Spot.enc vx14⟩)], [(0, [.d (.lst (List.map (encI .i64) vs12.L)), .d (.int .i64 vs12.at_)]), (1, [.d (.str ([] : List UInt8)), .nil]), (2, [.d (.str ([102] : List UInt8)), .own 3 none])]⟩ (tl [(0, .v (.one (.box 0 0))), (2, .v (.one (.box 1 0))), (3, .v (.one (.box 2 0))), (4, .v (.one (.own 4 none))), (12, .v (.one (.d (.int .i64 vx))))]) 5

def fleetmake_Stream_RightFence_x3_I (vx : Int) (vs9_1 : fleetmake_Stream) (vx10_1 : List api_Spot) : St := Mem.st ⟨[(3, ⟨27, 2, List.map api_Spot.enc ([api_Spot.mk 0 0, api_Spot.mk 10 0, api_Spot.mk 10 10, api_Spot.mk 0 10] : List api_Spot)⟩), (4, ⟨27, 2, List.map api_Spot.enc vx10_1⟩)], [(0, [.d (.lst (List.map (encI .i64) vs9_1.L)), .d (.int .i64 vs9_1.at_)]), (1, [.d (.str ([] : List UInt8)), .nil]), (2, [.d (.str ([102] : List UInt8)), .own 3 none])]⟩ (tl [(0, .v (.one (.box 0 0))), (2, .v (.one (.box 1 0))), (3, .v (.one (.box 2 0))), (4, .v (.one (.own 4 none))), (12, .v (.one (.d (.int .i64 vx))))]) 5

theorem fleetmake_Stream_RightFence_x3_ok (vx : Int) (vs9_1 : fleetmake_Stream) (vx10_1 : List api_Spot) {r} (hF : fleetmake_Stream_RightFence_x3 vs9_1 vx10_1 = some r) : Awp prog 1 82 (cL (cR (cR (cL (cL (cR (cR (cL (cL (cR (cL (cR (cR (cB f27)))))))))))))) (Out 1 fleetmake_Stream_RightFence_x3_k (fleetmake_Stream_RightFence_x3_S vx vs9_1 vx10_1) r) (fleetmake_Stream_RightFence_x3_I vx vs9_1 vx10_1) := by
  unfold fleetmake_Stream_RightFence_x3 at hF
  refine awp_seq ?_
  refine bE hF fun vr6 h7 hF => ?_
  refine awp_region ?_
  refine aR 1 ?_
  refine aC (fleetmake_Stream_Flip_ok h7) [] [] [] ?_
  refine aE ?_
  refine cE hF (fun h8 hF => ?_) fun h8 hF => ?_
  · refine awp_true (by kernel_rfl) h8 ?_
    refine awp_seq ?_
    refine awp_region ?_
    refine aR 1 ?_
    refine aL api_Spot.enc vx10_1 ?_
    refine aR 1 ?_
    refine aE ?_
    refine awp_block ?_
    refine awp_to (st' := fleetmake_Stream_RightFence_x4_H vx vx10_1 (fleetmake_Stream.mk vs9_1.L (IntKind.wrap .i64 (vs9_1.at_ + 1)), vx10_1, 0)) (oT [] []) ?_
    refine bE hF fun x h12 hF => ?_
    obtain ⟨vs11_1, vx13_1⟩ := x
    refine awp_sub (awp_loop' (fleetmake_Stream_RightFence_x4_H vx vx10_1) fleetmake_Stream_RightFence_x4_k (fleetmake_Stream_RightFence_x4_S vx vx10_1) (by intro x; exact fun h => nomatch h) h12 (fleetmake_Stream_RightFence_x4_ok vx vx10_1)) ?_
    exact oO hF [] [] rfl
  · refine awp_false (by kernel_rfl) h8 ?_
    refine awp_skip ?_
    exact oO hF [] [] rfl

def fleetmake_Stream_RightFence_x1_k : fleetmake_Stream ⊕ (fleetmake_Stream × (List api_Spot)) → AEx
  | .inl _ => .exit 0
  | .inr _ => .ret

def fleetmake_Stream_RightFence_x1_S : fleetmake_Stream ⊕ (fleetmake_Stream × (List api_Spot)) → St
  | .inl vs13 => Mem.st ⟨[(3, ⟨27, 2, List.map api_Spot.enc ([api_Spot.mk 0 0, api_Spot.mk 10 0, api_Spot.mk 10 10, api_Spot.mk 0 10] : List api_Spot)⟩)], [(0, [.d (.lst (List.map (encI .i64) vs13.L)), .d (.int .i64 vs13.at_)]), (1, [.d (.str ([] : List UInt8)), .nil]), (2, [.d (.str ([102] : List UInt8)), .own 3 none])]⟩ (tl [(0, .v (.one (.box 0 0))), (2, .v (.one (.box 1 0))), (3, .v (.one (.box 2 0)))]) 4
  | .inr (vs14, vx15) => Mem.st ⟨[(2, ⟨27, 2, List.map api_Spot.enc vx15⟩)], [(0, [.d (.lst (List.map (encI .i64) vs14.L)), .d (.int .i64 vs14.at_)]), (1, [.d (.str ([102] : List UInt8)), .own 2 none])]⟩ (tl [(2, .v (.one (.box 1 0)))]) 3

def fleetmake_Stream_RightFence_x1_H : fleetmake_Stream × Int → St
  | (vs, vx) => Mem.st ⟨[(3, ⟨27, 2, List.map api_Spot.enc ([api_Spot.mk 0 0, api_Spot.mk 10 0, api_Spot.mk 10 10, api_Spot.mk 0 10] : List api_Spot)⟩)], [(0, [.d (.lst (List.map (encI .i64) vs.L)), .d (.int .i64 vs.at_)]), (1, [.d (.str ([] : List UInt8)), .nil]), (2, [.d (.str ([102] : List UInt8)), .own 3 none])]⟩ (tl [(0, .v (.one (.box 0 0))), (2, .v (.one (.box 1 0))), (3, .v (.one (.box 2 0))), (12, .v (.one (.d (.int .i64 vx))))]) 4

theorem fleetmake_Stream_RightFence_x1_ok (s : fleetmake_Stream × Int) (r : (fleetmake_Stream × Int) ⊕ (fleetmake_Stream ⊕ (fleetmake_Stream × (List api_Spot)))) (hF : fleetmake_Stream_RightFence_x1  s = some r) : Awp prog 1 82 (cL (cL (cR (cL (cR (cR (cB f27))))))) (Out 1 (kk fleetmake_Stream_RightFence_x1_k) (SS (fleetmake_Stream_RightFence_x1_H ) (fleetmake_Stream_RightFence_x1_S )) r) (fleetmake_Stream_RightFence_x1_H  s) := by
  obtain ⟨vs, vx⟩ := s
  unfold fleetmake_Stream_RightFence_x1 at hF
  refine awp_seq ?_
  refine awp_region ?_
  refine aR 1 ?_
  refine aE ?_
  refine awp_seq ?_
  refine cE hF (fun h1 hF => ?_) fun h1 hF => ?_
  · refine awp_true (by kernel_rfl) h1 ?_
    refine awp_skip ?_
    refine awp_seq ?_
    refine awp_block ?_
    refine awp_seq ?_
    refine awp_region ?_
    refine aR 1 ?_
    refine aE ?_
    refine awp_seq ?_
    refine awp_seq ?_
    refine bE hF fun x h2 hF => ?_
    obtain ⟨vs7, vr5⟩ := x
    refine awp_region ?_
    refine aR 1 ?_
    refine aC (fleetmake_Stream_Range_ok h2) [] [] [] ?_
    refine aR 1 ?_
    refine aE ?_
    refine awp_block ?_
    refine awp_to (st' := fleetmake_Stream_RightFence_x2_H vx vr5 (vs7, [], 0)) (oT [] [4]) ?_
    refine bE hF fun x h6 hF => ?_
    obtain ⟨vs9_1, vx10_1⟩ := x
    refine awp_sub (awp_loop' (fleetmake_Stream_RightFence_x2_H vx vr5) fleetmake_Stream_RightFence_x2_k (fleetmake_Stream_RightFence_x2_S vx vr5) (by intro x; exact fun h => nomatch h) h6 (fleetmake_Stream_RightFence_x2_ok vx vr5)) ?_
    refine awp_seq ?_
    refine awp_to (st' := fleetmake_Stream_RightFence_x3_I vx vs9_1 vx10_1) (oT [] []) ?_
    refine bE hF fun x h13 hF => ?_
    obtain ⟨vs12_1, vx14_1⟩ := x
    refine awp_sub (fleetmake_Stream_RightFence_x3_ok vx vs9_1 vx10_1 h13) ?_
    refine awp_seq ?_
    refine bE hF fun vr16_1 h14 hF => ?_
    refine awp_region ?_
    refine aR 1 ?_
    refine aC (fleetref2_CornersFault_ok h14) [] [] [4] ?_
    refine aR 1 ?_
    refine aE ?_
    refine cE hF (fun h15 hF => ?_) fun h15 hF => ?_
    · refine awp_true (by kernel_rfl) h15 ?_
      refine awp_seq ?_
      refine awp_region ?_
      refine aR 3 ?_
      refine aE ?_
      refine awp_seq ?_
      refine awp_region ?_
      refine aR 2 ?_
      refine aE ?_
      refine awp_ret ?_
      exact oO hF [(2, 4)] [] rfl
    · refine awp_false (by kernel_rfl) h15 ?_
      refine awp_skip ?_
      refine awp_region ?_
      refine aR 2 ?_
      refine aE ?_
      exact oO hF [] [] rfl
  · refine awp_false (by kernel_rfl) h1 ?_
    refine awp_exit ?_
    exact oO hF [] [] rfl

def fleetmake_Stream_RightFence_x5_k : (List api_Spot) → AEx
  | _ => .normal

def fleetmake_Stream_RightFence_x5_S (vs13_1 : fleetmake_Stream) : (List api_Spot) → St
  | vx16 => Mem.st ⟨[(3, ⟨27, 2, List.map api_Spot.enc vx16⟩)], [(0, [.d (.lst (List.map (encI .i64) vs13_1.L)), .d (.int .i64 (IntKind.wrap .i64 (vs13_1.at_ + 1)))]), (1, [.d (.str ([] : List UInt8)), .nil]), (2, [.d (.str ([102] : List UInt8)), .own 3 none])]⟩ (tl [(2, .v (.one (.box 1 0))), (3, .v (.one (.box 2 0)))]) 4

def fleetmake_Stream_RightFence_x5_I (vs13_1 : fleetmake_Stream) : St := Mem.st ⟨[(3, ⟨27, 2, List.map api_Spot.enc ([api_Spot.mk 0 0, api_Spot.mk 10 0, api_Spot.mk 10 10, api_Spot.mk 0 10] : List api_Spot)⟩)], [(0, [.d (.lst (List.map (encI .i64) vs13_1.L)), .d (.int .i64 vs13_1.at_)]), (1, [.d (.str ([] : List UInt8)), .nil]), (2, [.d (.str ([102] : List UInt8)), .own 3 none])]⟩ (tl [(0, .v (.one (.box 0 0))), (2, .v (.one (.box 1 0))), (3, .v (.one (.box 2 0)))]) 4

theorem fleetmake_Stream_RightFence_x5_ok (vs13_1 : fleetmake_Stream) {r} (hF : fleetmake_Stream_RightFence_x5 vs13_1 = some r) : Awp prog 1 82 (cL (cR (cR (cR (cB f27))))) (Out 1 fleetmake_Stream_RightFence_x5_k (fleetmake_Stream_RightFence_x5_S vs13_1) r) (fleetmake_Stream_RightFence_x5_I vs13_1) := by
  unfold fleetmake_Stream_RightFence_x5 at hF
  refine awp_seq ?_
  refine bE hF fun vr3_1 h17 hF => ?_
  refine awp_region ?_
  refine aR 1 ?_
  refine aC (fleetmake_Stream_Next_ok h17) [] [] [] ?_
  refine aE ?_
  refine awp_block ?_
  refine awp_seq ?_
  refine awp_region ?_
  refine aR 2 ?_
  refine aE ?_
  refine cE hF (fun h18 hF => ?_) fun h18 hF => ?_
  · refine awp_true (by kernel_rfl) h18 ?_
    refine awp_region ?_
    refine aR 8 ?_
    refine aE ?_
    exact oO hF [(3, 9004)] [] rfl
  · refine awp_false (by kernel_rfl) h18 ?_
    refine awp_seq ?_
    refine awp_region ?_
    refine aR 2 ?_
    refine aE ?_
    refine cE hF (fun h19 hF => ?_) fun h19 hF => ?_
    · refine awp_true (by kernel_rfl) h19 ?_
      refine awp_region ?_
      refine aR 7 ?_
      refine aE ?_
      exact oO hF [(3, 10004)] [] rfl
    · refine awp_false (by kernel_rfl) h19 ?_
      refine awp_seq ?_
      refine awp_region ?_
      refine aR 2 ?_
      refine aE ?_
      refine cE hF (fun h20 hF => ?_) fun h20 hF => ?_
      · refine awp_true (by kernel_rfl) h20 ?_
        refine awp_region ?_
        refine aR 11 ?_
        refine aE ?_
        exact oO hF [(3, 16004)] [] rfl
      · refine awp_false (by kernel_rfl) h20 ?_
        refine awp_skip ?_
        exact oO hF [] [] rfl

def fleetmake_Stream_RightFence_R (qx : fleetmake_Stream) (r : fleetmake_Stream × (List api_Spot)) : TV × Mem := (.v (.agg [.d (.str ([102] : List UInt8)), .own 1 none]), ⟨[(1, ⟨27, 2, List.map api_Spot.enc r.2⟩)], [(0, [.d (.lst (List.map (encI .i64) r.1.L)), .d (.int .i64 r.1.at_)])]⟩)

theorem fleetmake_Stream_RightFence_ok {qx : fleetmake_Stream} {r} (hF : fleetmake_Stream_RightFence qx = some r) : Holds prog 27 [.v (.one (.box 0 0))] ⟨[], [(0, [.d (.lst (List.map (encI .i64) qx.L)), .d (.int .i64 qx.at_)])]⟩ (Is (fleetmake_Stream_RightFence_R qx r)) := by
  unfold fleetmake_Stream_RightFence at hF
  refine holds_of_awp hΓ (fn := f27) (c := cB f27) (A := 1) (nx := 1) (by kernel_rfl) (by kernel_rfl) (by kernel_rfl) (by kernel_rfl) (by kernel_rfl) (by kernel_rfl) (lowc_of (by kernel_rfl)) ?_
  show Awp prog 1 82 (cB f27) _ _
  refine awp_seq ?_
  refine awp_region ?_
  refine aR 1 ?_
  refine aE ?_
  refine awp_seq ?_
  refine awp_region ?_
  refine aR 8 ?_
  refine aE ?_
  refine awp_seq ?_
  refine awp_seq ?_
  refine awp_region ?_
  refine aR 1 ?_
  refine aE ?_
  refine awp_block ?_
  refine awp_to (st' := fleetmake_Stream_RightFence_x1_H  (qx, 0)) (oT [(2, 7001), (3, 5001)] []) ?_
  refine bE hF fun x h16 hF => ?_
  rcases x with vs13_1 | ⟨vs14_1, vx15_1⟩
  · refine awp_sub (awp_loop' (fleetmake_Stream_RightFence_x1_H ) fleetmake_Stream_RightFence_x1_k (fleetmake_Stream_RightFence_x1_S ) (by intro x; rcases x with x | x <;> exact fun h => nomatch h) h16 (fleetmake_Stream_RightFence_x1_ok )) ?_
    refine awp_seq ?_
    refine awp_to (st' := fleetmake_Stream_RightFence_x5_I vs13_1) (oT [] []) ?_
    refine bE hF fun vx16_1 h21 hF => ?_
    refine awp_sub (fleetmake_Stream_RightFence_x5_ok vs13_1 h21) ?_
    refine awp_seq ?_
    refine awp_region ?_
    refine aR 2 ?_
    refine aE ?_
    refine awp_ret ?_
    exact oF hF [(1, 3)] []
  · refine awp_sub (awp_loop' (fleetmake_Stream_RightFence_x1_H ) fleetmake_Stream_RightFence_x1_k (fleetmake_Stream_RightFence_x1_S ) (by intro x; rcases x with x | x <;> exact fun h => nomatch h) h16 (fleetmake_Stream_RightFence_x1_ok )) ?_
    exact oF hF [(1, 2)] []

/-! ### slices.Clone[[]beaconfleet/api.Spot,beaconfleet/api.Spot] -/
def slices_Clone_api_Spot_api_Spot_R (qs : List api_Spot) (r : List api_Spot) : TV × Mem := (.v (.one (.own 0 none)), ⟨[(0, ⟨27, 2, List.map api_Spot.enc r⟩)], []⟩)

theorem slices_Clone_api_Spot_api_Spot_ok {qs : List api_Spot} {r} (hF : slices_Clone_api_Spot_api_Spot qs = some r) : Holds prog 28 [.v (.one (.d (.lst (List.map api_Spot.enc qs))))] ⟨[], []⟩ (Is (slices_Clone_api_Spot_api_Spot_R qs r)) := by
  unfold slices_Clone_api_Spot_api_Spot at hF
  refine gE hF fun h1 hF => ?_
  refine holds_of_awp hΓ (fn := f28) (c := cB f28) (A := 0) (nx := 0) (by kernel_rfl) (by kernel_rfl) (by kernel_rfl) (by kernel_rfl) (by kernel_rfl) (by kernel_rfl) (lowc_of (by kernel_rfl)) ?_
  show Awp prog 0 8 (cB f28) _ _
  refine awp_seq ?_
  refine awp_region ?_
  refine aR 1 ?_
  refine aE ?_
  refine awp_seq ?_
  refine awp_seq ?_
  refine awp_region ?_
  refine aR 1 ?_
  refine aN api_Spot.enc qs (fun b hb => ?_) rfl
  refine aE ?_
  cases b with
  | true =>
    obtain rfl := hb rfl
    refine awp_true (by kernel_rfl) rfl ?_
    refine awp_seq ?_
    refine awp_region ?_
    refine aR 1 ?_
    refine aE ?_
    refine awp_ret ?_
    exact oF hF [] [0]
  | false =>
    refine awp_false (by kernel_rfl) rfl ?_
    refine awp_skip ?_
    refine awp_seq ?_
    refine awp_region ?_
    refine aR 2 ?_
    refine aX (x_app api_Spot.enc 3000 h1) ?_
    refine aR 1 ?_
    refine aE ?_
    refine awp_ret ?_
    exact oF hF [(0, 5000)] []

/-! ### (*beaconfleet/fleetmake.Stream).Fence -/
def fleetmake_Stream_Fence_x1_k : (fleetmake_Stream × (List UInt8) × (List api_Spot)) → AEx
  | _ => .normal

def fleetmake_Stream_Fence_x1_S (vs15 : fleetmake_Stream) (vr9 : List api_Spot) : (fleetmake_Stream × (List UInt8) × (List api_Spot)) → St
  | (vs, vf, vf1) => Mem.st ⟨[], [(0, [.d (.lst (List.map (encI .i64) vs.L)), .d (.int .i64 vs.at_)]), (1, [.d (.str ([] : List UInt8)), .nil]), (2, [.d (.str vf), .d (.lst (List.map api_Spot.enc vf1))])]⟩ (tl [(2, .v (.one (.box 1 0))), (3, .v (.one (.box 2 0)))]) 3

def fleetmake_Stream_Fence_x1_I (vs15 : fleetmake_Stream) (vr9 : List api_Spot) : St := Mem.st ⟨[(3, ⟨27, 2, List.map api_Spot.enc vr9⟩)], [(0, [.d (.lst (List.map (encI .i64) vs15.L)), .d (.int .i64 vs15.at_)]), (1, [.d (.str ([] : List UInt8)), .nil]), (2, [.d (.str ([102] : List UInt8)), .own 3 none])]⟩ (tl [(0, .v (.one (.box 0 0))), (2, .v (.one (.box 1 0))), (3, .v (.one (.box 2 0)))]) 4

theorem fleetmake_Stream_Fence_x1_ok (vs15 : fleetmake_Stream) (vr9 : List api_Spot) {r} (hF : fleetmake_Stream_Fence_x1 vs15 vr9 = some r) : Awp prog 1 45 (cL (cR (cR (cB f7)))) (Out 1 fleetmake_Stream_Fence_x1_k (fleetmake_Stream_Fence_x1_S vs15 vr9) r) (fleetmake_Stream_Fence_x1_I vs15 vr9) := by
  unfold fleetmake_Stream_Fence_x1 at hF
  refine awp_seq ?_
  refine bE hF fun vr h2 hF => ?_
  refine awp_region ?_
  refine aR 1 ?_
  refine aC (fleetmake_Stream_Flip_ok h2) [] [] [] ?_
  refine aE ?_
  refine cE hF (fun h3 hF => ?_) fun h3 hF => ?_
  · refine awp_true (by kernel_rfl) h3 ?_
    refine awp_seq ?_
    refine bE hF fun vr3 h4 hF => ?_
    refine awp_region ?_
    refine aR 1 ?_
    refine aC (fleetmake_Stream_Next_ok h4) [] [] [] ?_
    refine aE ?_
    refine awp_block ?_
    refine awp_seq ?_
    refine awp_region ?_
    refine aR 2 ?_
    refine aE ?_
    refine cE hF (fun h5 hF => ?_) fun h5 hF => ?_
    · refine awp_true (by kernel_rfl) h5 ?_
      refine bE hF fun vr1 h6 hF => ?_
      refine awp_region ?_
      refine aR 2 ?_
      refine aC (fleetmake_Stream_Some_o1_ok h6) [(1, 7004)] [] [] ?_
      refine aR 2 ?_
      refine aE ?_
      exact oO hF [] [] rfl
    · refine awp_false (by kernel_rfl) h5 ?_
      refine awp_seq ?_
      refine awp_region ?_
      refine aR 2 ?_
      refine aE ?_
      refine cE hF (fun h7 hF => ?_) fun h7 hF => ?_
      · refine awp_true (by kernel_rfl) h7 ?_
        refine bE hF fun vr3_1 h8 hF => ?_
        refine awp_to (oT (m := ⟨[], [(0, [.d (.lst (List.map (encI .i64) vs15.L)), .d (.int .i64 (IntKind.wrap .i64 ((IntKind.wrap .i64 (vs15.at_ + 1)) + 1)))]), (1, [.d (.str ([] : List UInt8)), .nil]), (2, [.d (.str ([102] : List UInt8)), .d (.lst (List.map api_Spot.enc vr9))])]⟩) (ts := [(0, .v (.one (.box 0 0))), (2, .v (.one (.box 1 0))), (3, .v (.one (.box 2 0)))]) (nx := 8004) [] []) ?_
        refine bE hF fun vl h9 hF => ?_
        refine aD ?_
        refine dR 3 ?_
        refine dC (fleetmake_Stream_Next_ok h8) [] [] [] ?_
        refine dX (x_slice api_Spot.enc h9) ?_
        refine dR 2 ?_
        refine dE ?_
        exact oO hF [] [] rfl
      · refine awp_false (by kernel_rfl) h7 ?_
        refine awp_seq ?_
        refine awp_region ?_
        refine aR 2 ?_
        refine aE ?_
        refine cE hF (fun h10 hF => ?_) fun h10 hF => ?_
        · refine awp_true (by kernel_rfl) h10 ?_
          refine awp_to (oT (m := ⟨[], [(0, [.d (.lst (List.map (encI .i64) vs15.L)), .d (.int .i64 (IntKind.wrap .i64 ((IntKind.wrap .i64 (vs15.at_ + 1)) + 1)))]), (1, [.d (.str ([] : List UInt8)), .nil]), (2, [.d (.str ([102] : List UInt8)), .d (.lst (List.map api_Spot.enc vr9))])]⟩) (ts := [(0, .v (.one (.box 0 0))), (2, .v (.one (.box 1 0))), (3, .v (.one (.box 2 0)))]) (nx := 10004) [] []) ?_
          refine bE hF fun vr2 h11 hF => ?_
          refine bE hF fun x h12 hF => ?_
          obtain ⟨vs3, vr1_1⟩ := x
          refine gE hF fun h13 hF => ?_
          refine awp_region ?_
          refine aR 2 ?_
          refine aC (slices_Clone_api_Spot_api_Spot_ok h11) [] [] [] ?_
          refine aR 1 ?_
          refine aC (fleetmake_Stream_Spot_ok h12) [] [] [] ?_
          refine aR 1 ?_
          refine aX (x_app api_Spot.enc 12004 h13) ?_
          refine aR 2 ?_
          refine aE ?_
          exact oO hF [] [] rfl
        · refine awp_false (by kernel_rfl) h10 ?_
          refine bE hF fun vr2_1 h14 hF => ?_
          refine bE hF fun vr2_2 h15 hF => ?_
          refine bE hF fun vr2_3 h16 hF => ?_
          refine bE hF fun vr2_4 h17 hF => ?_
          refine awp_region ?_
          refine aR 1 ?_
          refine aC (fleetmake_Stream_Place_ok h14) [] [] [] ?_
          refine aR 1 ?_
          refine aC (fleetmake_Stream_Place_ok h15) [] [] [] ?_
          refine aR 1 ?_
          refine aC (fleetmake_Stream_Place_ok h16) [] [] [] ?_
          refine aR 1 ?_
          refine aC (fleetmake_Stream_Place_ok h17) [] [] [] ?_
          refine aR 3 ?_
          refine aE ?_
          exact oO hF [] [] rfl
  · refine awp_false (by kernel_rfl) h3 ?_
    refine awp_skip ?_
    exact oO hF [] [] rfl

def fleetmake_Stream_Fence_R (qs : fleetmake_Stream) (r : fleetmake_Stream × api_Fence) : TV × Mem := (.v (.agg [.d (.str r.2.Key), .d (.lst (List.map api_Spot.enc r.2.Corners))]), ⟨[], [(0, [.d (.lst (List.map (encI .i64) r.1.L)), .d (.int .i64 r.1.at_)])]⟩)

theorem fleetmake_Stream_Fence_ok {qs : fleetmake_Stream} {r} (hF : fleetmake_Stream_Fence qs = some r) : Holds prog 7 [.v (.one (.box 0 0))] ⟨[], [(0, [.d (.lst (List.map (encI .i64) qs.L)), .d (.int .i64 qs.at_)])]⟩ (Is (fleetmake_Stream_Fence_R qs r)) := by
  unfold fleetmake_Stream_Fence at hF
  refine holds_of_awp hΓ (fn := f7) (c := cB f7) (A := 1) (nx := 1) (by kernel_rfl) (by kernel_rfl) (by kernel_rfl) (by kernel_rfl) (by kernel_rfl) (by kernel_rfl) (lowc_of (by kernel_rfl)) ?_
  show Awp prog 1 45 (cB f7) _ _
  refine awp_seq ?_
  refine awp_region ?_
  refine aR 1 ?_
  refine aE ?_
  refine awp_seq ?_
  refine bE hF fun x h1 hF => ?_
  obtain ⟨vs15, vr9⟩ := x
  refine awp_region ?_
  refine aR 1 ?_
  refine aC (fleetmake_Stream_RightFence_ok h1) [] [] [] ?_
  refine aR 2 ?_
  refine aE ?_
  refine awp_seq ?_
  refine awp_to (st' := fleetmake_Stream_Fence_x1_I vs15 vr9) (oT [(2, 3001), (3, 2002)] []) ?_
  refine bE hF fun x h18 hF => ?_
  obtain ⟨vs1, vf2, vf1_1⟩ := x
  refine awp_sub (fleetmake_Stream_Fence_x1_ok vs15 vr9 h18) ?_
  refine awp_seq ?_
  refine awp_region ?_
  refine aR 2 ?_
  refine aE ?_
  refine awp_ret ?_
  exact oF hF [] []

/-! ### beaconfleet/base.Out -/
def base_Out_x1_k : Bool → AEx
  | _ => .normal

def base_Out_x1_S (qn : Int) (qlow : Int) (qhigh : Int) : Bool → St
  | vx => Mem.st ⟨[], []⟩ (tl [(6, .v (.one (.d (.bool vx))))]) 0

def base_Out_x1_I (qn : Int) (qlow : Int) (qhigh : Int) : St := Mem.st ⟨[], []⟩ (tl [(0, .v (.one (.d (.int .i64 qn)))), (1, .v (.one (.d (.int .i64 qlow)))), (2, .v (.one (.d (.int .i64 qhigh))))]) 0

theorem base_Out_x1_ok (qn : Int) (qlow : Int) (qhigh : Int) {r} (hF : base_Out_x1 qn qlow qhigh = some r) : Awp prog 0 15 (cL (cR (cB f30))) (Out 0 base_Out_x1_k (base_Out_x1_S qn qlow qhigh) r) (base_Out_x1_I qn qlow qhigh) := by
  unfold base_Out_x1 at hF
  refine cE hF (fun h1 hF => ?_) fun h1 hF => ?_
  · refine awp_region ?_
    refine aR 2 ?_
    refine aB h1 ?_
    refine aR 6 ?_
    refine aE ?_
    exact oO hF [] [] rfl
  · refine awp_region ?_
    refine aR 2 ?_
    refine aB h1 ?_
    refine aR 6 ?_
    refine aE ?_
    exact oO hF [] [] rfl

def base_Out_R (qn : Int) (qlow : Int) (qhigh : Int) (r : Bool) : TV × Mem := (.v (.one (.d (.bool r))), ⟨[], []⟩)

theorem base_Out_ok {qn : Int} {qlow : Int} {qhigh : Int} {r} (hF : base_Out qn qlow qhigh = some r) : Holds prog 30 [.v (.one (.d (.int .i64 qn))), .v (.one (.d (.int .i64 qlow))), .v (.one (.d (.int .i64 qhigh)))] ⟨[], []⟩ (Is (base_Out_R qn qlow qhigh r)) := by
  unfold base_Out at hF
  refine holds_of_awp hΓ (fn := f30) (c := cB f30) (A := 0) (nx := 0) (by kernel_rfl) (by kernel_rfl) (by kernel_rfl) (by kernel_rfl) (by kernel_rfl) (by kernel_rfl) (lowc_of (by kernel_rfl)) ?_
  show Awp prog 0 15 (cB f30) _ _
  refine awp_seq ?_
  refine awp_region ?_
  refine aR 1 ?_
  refine aE ?_
  refine awp_seq ?_
  refine awp_to (st' := base_Out_x1_I qn qlow qhigh) (oT [] []) ?_
  refine bE hF fun vx1 h2 hF => ?_
  refine awp_sub (base_Out_x1_ok qn qlow qhigh h2) ?_
  refine awp_ret ?_
  exact oF hF [] []

/-! ### beaconfleet/place.isSpot -/
def place_isSpot_x1_k : Bool → AEx
  | _ => .normal

def place_isSpot_x1_S (qs : api_Spot) : Bool → St
  | vx => Mem.st ⟨[], []⟩ (tl [(2, .v (.one (.d (.bool vx))))]) 0

def place_isSpot_x1_I (qs : api_Spot) : St := Mem.st ⟨[], [(0, [.d (.int .i64 qs.X), .d (.int .i64 qs.Y)])]⟩ (tl [(1, .v (.one (.box 0 0)))]) 1

theorem place_isSpot_x1_ok (qs : api_Spot) {r} (hF : place_isSpot_x1 qs = some r) : Awp prog 0 13 (cL (cR (cB f29))) (Out 0 place_isSpot_x1_k (place_isSpot_x1_S qs) r) (place_isSpot_x1_I qs) := by
  unfold place_isSpot_x1 at hF
  refine bE hF fun vr h1 hF => ?_
  refine cE hF (fun h2 hF => ?_) fun h2 hF => ?_
  · refine bE hF fun vr1 h3 hF => ?_
    refine awp_region ?_
    refine aR 2 ?_
    refine aC (base_Out_ok h1) [] [] [] ?_
    refine aB h2 ?_
    refine aR 3 ?_
    refine aC (base_Out_ok h3) [] [] [] ?_
    refine aR 3 ?_
    refine aE ?_
    exact oO hF [] [] rfl
  · refine awp_region ?_
    refine aR 2 ?_
    refine aC (base_Out_ok h1) [] [] [] ?_
    refine aB h2 ?_
    refine aR 7 ?_
    refine aE ?_
    exact oO hF [] [] rfl

def place_isSpot_R (qs : api_Spot) (r : Bool) : TV × Mem := (.v (.one (.d (.bool r))), ⟨[], []⟩)

theorem place_isSpot_ok {qs : api_Spot} {r} (hF : place_isSpot qs = some r) : Holds prog 29 [.v (.agg [.d (.int .i64 qs.X), .d (.int .i64 qs.Y)])] ⟨[], []⟩ (Is (place_isSpot_R qs r)) := by
  unfold place_isSpot at hF
  refine holds_of_awp hΓ (fn := f29) (c := cB f29) (A := 0) (nx := 0) (by kernel_rfl) (by kernel_rfl) (by kernel_rfl) (by kernel_rfl) (by kernel_rfl) (by kernel_rfl) (lowc_of (by kernel_rfl)) ?_
  show Awp prog 0 13 (cB f29) _ _
  refine awp_seq ?_
  refine awp_region ?_
  refine aR 2 ?_
  refine aE ?_
  refine awp_seq ?_
  refine awp_to (st' := place_isSpot_x1_I qs) (oT [] []) ?_
  refine bE hF fun vx1 h4 hF => ?_
  refine awp_sub (place_isSpot_x1_ok qs h4) ?_
  refine awp_ret ?_
  exact oF hF [] []

/-! ### beaconfleet/place.Cell -/
def place_Cell_x1_k : Bool → AEx
  | _ => .normal

def place_Cell_x1_S (qs : api_Spot) (qlevel : Int) : Bool → St
  | vx => Mem.st ⟨[], [(0, [.d (.int .i64 qs.X), .d (.int .i64 qs.Y)])]⟩ (tl [(1, .v (.one (.d (.int .i64 qlevel)))), (2, .v (.one (.box 0 0))), (16, .v (.one (.d (.bool vx))))]) 1

def place_Cell_x1_I (qs : api_Spot) (qlevel : Int) : St := Mem.st ⟨[], [(0, [.d (.int .i64 qs.X), .d (.int .i64 qs.Y)])]⟩ (tl [(1, .v (.one (.d (.int .i64 qlevel)))), (2, .v (.one (.box 0 0)))]) 1

theorem place_Cell_x1_ok (qs : api_Spot) (qlevel : Int) {r} (hF : place_Cell_x1 qs qlevel = some r) : Awp prog 0 47 (cL (cL (cR (cB f10)))) (Out 0 place_Cell_x1_k (place_Cell_x1_S qs qlevel) r) (place_Cell_x1_I qs qlevel) := by
  unfold place_Cell_x1 at hF
  refine bE hF fun vr2 h1 hF => ?_
  refine cE hF (fun h2 hF => ?_) fun h2 hF => ?_
  · refine awp_region ?_
    refine aR 1 ?_
    refine aC (place_isSpot_ok h1) [] [] [] ?_
    refine aB h2 ?_
    refine aR 4 ?_
    refine aE ?_
    exact oO hF [] [] rfl
  · refine bE hF fun vr h3 hF => ?_
    refine awp_region ?_
    refine aR 1 ?_
    refine aC (place_isSpot_ok h1) [] [] [] ?_
    refine aB h2 ?_
    refine aR 2 ?_
    refine aC (base_Out_ok h3) [] [] [] ?_
    refine aR 1 ?_
    refine aE ?_
    exact oO hF [] [] rfl

def place_Cell_x2_k : (List Int) → AEx
  | _ => .exit 0

def place_Cell_x2_S (qs : api_Spot) (qlevel : Int) : (List Int) → St
  | vout1 => Mem.st ⟨[(0, ⟨5, 1, List.map (encI .u8) vout1⟩)], []⟩ (tl [(6, .v (.one (.own 0 none)))]) 1

def place_Cell_x2_H (qs : api_Spot) (qlevel : Int) : (List Int) × Int × Int → St
  | (vout, vlong, vx2) => Mem.st ⟨[(0, ⟨5, 1, List.map (encI .u8) vout⟩)], []⟩ (tl [(6, .v (.one (.own 0 none))), (7, .v (.one (.d (.int .i64 (IntKind.wrap .i64 (qs.X - (-16384))))))), (8, .v (.one (.d (.int .i64 (IntKind.wrap .i64 (qs.Y - (-16384))))))), (9, .v (.one (.d (.int .i64 vlong)))), (23, .v (.one (.d (.int .i64 qlevel)))), (24, .v (.one (.d (.int .i64 vx2))))]) 1

theorem place_Cell_x2_ok (qs : api_Spot) (qlevel : Int) (s : (List Int) × Int × Int) (r : ((List Int) × Int × Int) ⊕ ((List Int))) (hF : place_Cell_x2 qs qlevel s = some r) : Awp prog 0 47 (cL (cL (cR (cL (cR (cR (cR (cR (cB f10))))))))) (Out 0 (kk place_Cell_x2_k) (SS (place_Cell_x2_H qs qlevel) (place_Cell_x2_S qs qlevel)) r) (place_Cell_x2_H qs qlevel s) := by
  obtain ⟨vout, vlong, vx2⟩ := s
  unfold place_Cell_x2 at hF
  refine awp_seq ?_
  refine awp_region ?_
  refine aR 1 ?_
  refine aE ?_
  refine awp_seq ?_
  refine cE hF (fun h6 hF => ?_) fun h6 hF => ?_
  · refine awp_true (by kernel_rfl) h6 ?_
    refine awp_skip ?_
    refine awp_seq ?_
    refine awp_block ?_
    refine awp_seq ?_
    refine awp_region ?_
    refine aR 3 ?_
    refine aE ?_
    refine gE hF fun h7 hF => ?_
    refine gE hF fun h8 hF => ?_
    refine aD ?_
    refine dR 3 ?_
    refine dX (x_quo h7) ?_
    refine dR 5 ?_
    refine dX (x_quo h7) ?_
    refine dR 5 ?_
    refine dX (x_app (encI .u8) 0 h8) ?_
    refine dR 1 ?_
    refine dE ?_
    refine awp_region ?_
    refine aR 2 ?_
    refine aE ?_
    exact oO hF [(0, 19001)] [] rfl
  · refine awp_false (by kernel_rfl) h6 ?_
    refine awp_exit ?_
    exact oO hF [] [] rfl

def place_Cell_R (qs : api_Spot) (qlevel : Int) (r : (List UInt8) × Int) : TV × Mem := (.tup [.one (.d (.str r.1)), .one (.d (.int .i64 r.2))], ⟨[], []⟩)

theorem place_Cell_ok {qs : api_Spot} {qlevel : Int} {r} (hF : place_Cell qs qlevel = some r) : Holds prog 10 [.v (.agg [.d (.int .i64 qs.X), .d (.int .i64 qs.Y)]), .v (.one (.d (.int .i64 qlevel)))] ⟨[], []⟩ (Is (place_Cell_R qs qlevel r)) := by
  unfold place_Cell at hF
  refine holds_of_awp hΓ (fn := f10) (c := cB f10) (A := 0) (nx := 0) (by kernel_rfl) (by kernel_rfl) (by kernel_rfl) (by kernel_rfl) (by kernel_rfl) (by kernel_rfl) (lowc_of (by kernel_rfl)) ?_
  show Awp prog 0 47 (cB f10) _ _
  refine awp_seq ?_
  refine awp_region ?_
  refine aR 3 ?_
  refine aE ?_
  refine awp_seq ?_
  refine awp_seq ?_
  refine awp_to (st' := place_Cell_x1_I qs qlevel) (oT [] []) ?_
  refine bE hF fun vx1 h4 hF => ?_
  refine awp_sub (place_Cell_x1_ok qs qlevel h4) ?_
  refine cE hF (fun h5 hF => ?_) fun h5 hF => ?_
  · refine awp_true (by kernel_rfl) h5 ?_
    refine awp_seq ?_
    refine awp_region ?_
    refine aR 2 ?_
    refine aE ?_
    refine awp_ret ?_
    exact oF hF [] []
  · refine awp_false (by kernel_rfl) h5 ?_
    refine awp_skip ?_
    refine awp_seq ?_
    refine awp_region ?_
    refine aR 1 ?_
    refine aE ?_
    refine awp_seq ?_
    refine aD ?_
    refine dR 9 ?_
    refine dE ?_
    refine awp_seq ?_
    refine awp_seq ?_
    refine awp_region ?_
    refine aR 2 ?_
    refine aE ?_
    refine awp_block ?_
    refine awp_to (st' := place_Cell_x2_H qs qlevel ([], 32768, 0)) (oT [] [0]) ?_
    refine bE hF fun vout1_1 h9 hF => ?_
    refine awp_sub (awp_loop' (place_Cell_x2_H qs qlevel) place_Cell_x2_k (place_Cell_x2_S qs qlevel) (by intro x; exact fun h => nomatch h) h9 (place_Cell_x2_ok qs qlevel)) ?_
    refine awp_seq ?_
    refine awp_region ?_
    refine aR 1 ?_
    refine aSt (xs := vout1_1) rfl rfl ?_
    refine aR 2 ?_
    refine aE ?_
    refine awp_ret ?_
    exact oF hF [] []

/-! ### strings.trimRightByte -/
def strings_trimRightByte_x2_k : Bool → AEx
  | _ => .normal

def strings_trimRightByte_x2_S (qc : Int) (vs : List UInt8) : Bool → St
  | vx2 => Mem.st ⟨[], []⟩ (tl [(0, .v (.one (.d (.str vs)))), (1, .v (.one (.d (.int .u8 qc)))), (16, .v (.one (.d (.bool vx2))))]) 0

def strings_trimRightByte_x2_I (qc : Int) (vs : List UInt8) : St := Mem.st ⟨[], []⟩ (tl [(0, .v (.one (.d (.str vs)))), (1, .v (.one (.d (.int .u8 qc))))]) 0

theorem strings_trimRightByte_x2_ok (qc : Int) (vs : List UInt8) {r} (hF : strings_trimRightByte_x2 qc vs = some r) : Awp prog 0 23 (cL (cL (cL (cL (cL (cR (cB f43))))))) (Out 0 strings_trimRightByte_x2_k (strings_trimRightByte_x2_S qc vs) r) (strings_trimRightByte_x2_I qc vs) := by
  unfold strings_trimRightByte_x2 at hF
  refine cE hF (fun h1 hF => ?_) fun h1 hF => ?_
  · refine bE hF fun vc1 h2 hF => ?_
    refine awp_region ?_
    refine aR 2 ?_
    refine aB h1 ?_
    refine aR 5 ?_
    refine aX (x_idxS h2) ?_
    refine aR 3 ?_
    refine aE ?_
    exact oO hF [] [] rfl
  · refine awp_region ?_
    refine aR 2 ?_
    refine aB h1 ?_
    refine aR 9 ?_
    refine aE ?_
    exact oO hF [] [] rfl

def strings_trimRightByte_x1_k : (List UInt8) → AEx
  | _ => .exit 0

def strings_trimRightByte_x1_S (qc : Int) : (List UInt8) → St
  | vs3 => Mem.st ⟨[], []⟩ (tl [(0, .v (.one (.d (.str vs3))))]) 0

def strings_trimRightByte_x1_H (qc : Int) : (List UInt8) → St
  | vs => Mem.st ⟨[], []⟩ (tl [(0, .v (.one (.d (.str vs)))), (1, .v (.one (.d (.int .u8 qc))))]) 0

theorem strings_trimRightByte_x1_ok (qc : Int) (vs : (List UInt8)) (r : ((List UInt8)) ⊕ ((List UInt8))) (hF : strings_trimRightByte_x1 qc vs = some r) : Awp prog 0 23 (cL (cL (cL (cR (cB f43))))) (Out 0 (kk strings_trimRightByte_x1_k) (SS (strings_trimRightByte_x1_H qc) (strings_trimRightByte_x1_S qc)) r) (strings_trimRightByte_x1_H qc vs) := by
  unfold strings_trimRightByte_x1 at hF
  refine awp_seq ?_
  refine awp_seq ?_
  refine awp_to (st' := strings_trimRightByte_x2_I qc vs) (oT [] []) ?_
  refine bE hF fun vx2_1 h3 hF => ?_
  refine awp_sub (strings_trimRightByte_x2_ok qc vs h3) ?_
  refine cE hF (fun h4 hF => ?_) fun h4 hF => ?_
  · refine awp_true (by kernel_rfl) h4 ?_
    refine awp_skip ?_
    refine awp_block ?_
    refine bE hF fun vs2 h5 hF => ?_
    refine awp_region ?_
    refine aR 4 ?_
    refine aX (x_sliceS h5) ?_
    refine aR 1 ?_
    refine aE ?_
    exact oO hF [] [] rfl
  · refine awp_false (by kernel_rfl) h4 ?_
    refine awp_exit ?_
    exact oO hF [] [] rfl

def strings_trimRightByte_R (qs : List UInt8) (qc : Int) (r : (List UInt8)) : TV × Mem := (.v (.one (.d (.str r))), ⟨[], []⟩)

theorem strings_trimRightByte_ok {qs : List UInt8} {qc : Int} {r} (hF : strings_trimRightByte qs qc = some r) : Holds prog 43 [.v (.one (.d (.str qs))), .v (.one (.d (.int .u8 qc)))] ⟨[], []⟩ (Is (strings_trimRightByte_R qs qc r)) := by
  unfold strings_trimRightByte at hF
  refine holds_of_awp hΓ (fn := f43) (c := cB f43) (A := 0) (nx := 0) (by kernel_rfl) (by kernel_rfl) (by kernel_rfl) (by kernel_rfl) (by kernel_rfl) (by kernel_rfl) (lowc_of (by kernel_rfl)) ?_
  show Awp prog 0 23 (cB f43) _ _
  refine awp_seq ?_
  refine awp_region ?_
  refine aR 1 ?_
  refine aE ?_
  refine awp_seq ?_
  refine awp_block ?_
  refine awp_to (st' := strings_trimRightByte_x1_H qc qs) (oT [] []) ?_
  refine bE hF fun vs3_1 h6 hF => ?_
  refine awp_sub (awp_loop' (strings_trimRightByte_x1_H qc) strings_trimRightByte_x1_k (strings_trimRightByte_x1_S qc) (by intro x; exact fun h => nomatch h) h6 (strings_trimRightByte_x1_ok qc)) ?_
  refine awp_seq ?_
  refine awp_region ?_
  refine aR 2 ?_
  refine aE ?_
  refine awp_ret ?_
  exact oF hF [] []

/-! ### strings.trimLeftByte -/
def strings_trimLeftByte_x2_k : Bool → AEx
  | _ => .normal

def strings_trimLeftByte_x2_S (qc : Int) (vs : List UInt8) : Bool → St
  | vx2 => Mem.st ⟨[], []⟩ (tl [(0, .v (.one (.d (.str vs)))), (1, .v (.one (.d (.int .u8 qc)))), (13, .v (.one (.d (.bool vx2))))]) 0

def strings_trimLeftByte_x2_I (qc : Int) (vs : List UInt8) : St := Mem.st ⟨[], []⟩ (tl [(0, .v (.one (.d (.str vs)))), (1, .v (.one (.d (.int .u8 qc))))]) 0

theorem strings_trimLeftByte_x2_ok (qc : Int) (vs : List UInt8) {r} (hF : strings_trimLeftByte_x2 qc vs = some r) : Awp prog 0 17 (cL (cL (cL (cL (cL (cR (cB f42))))))) (Out 0 strings_trimLeftByte_x2_k (strings_trimLeftByte_x2_S qc vs) r) (strings_trimLeftByte_x2_I qc vs) := by
  unfold strings_trimLeftByte_x2 at hF
  refine cE hF (fun h1 hF => ?_) fun h1 hF => ?_
  · refine bE hF fun vc1 h2 hF => ?_
    refine awp_region ?_
    refine aR 2 ?_
    refine aB h1 ?_
    refine aR 2 ?_
    refine aX (x_idxS h2) ?_
    refine aR 3 ?_
    refine aE ?_
    exact oO hF [] [] rfl
  · refine awp_region ?_
    refine aR 2 ?_
    refine aB h1 ?_
    refine aR 6 ?_
    refine aE ?_
    exact oO hF [] [] rfl

def strings_trimLeftByte_x1_k : (List UInt8) → AEx
  | _ => .exit 0

def strings_trimLeftByte_x1_S (qc : Int) : (List UInt8) → St
  | vs3 => Mem.st ⟨[], []⟩ (tl [(0, .v (.one (.d (.str vs3))))]) 0

def strings_trimLeftByte_x1_H (qc : Int) : (List UInt8) → St
  | vs => Mem.st ⟨[], []⟩ (tl [(0, .v (.one (.d (.str vs)))), (1, .v (.one (.d (.int .u8 qc))))]) 0

theorem strings_trimLeftByte_x1_ok (qc : Int) (vs : (List UInt8)) (r : ((List UInt8)) ⊕ ((List UInt8))) (hF : strings_trimLeftByte_x1 qc vs = some r) : Awp prog 0 17 (cL (cL (cL (cR (cB f42))))) (Out 0 (kk strings_trimLeftByte_x1_k) (SS (strings_trimLeftByte_x1_H qc) (strings_trimLeftByte_x1_S qc)) r) (strings_trimLeftByte_x1_H qc vs) := by
  unfold strings_trimLeftByte_x1 at hF
  refine awp_seq ?_
  refine awp_seq ?_
  refine awp_to (st' := strings_trimLeftByte_x2_I qc vs) (oT [] []) ?_
  refine bE hF fun vx2_1 h3 hF => ?_
  refine awp_sub (strings_trimLeftByte_x2_ok qc vs h3) ?_
  refine cE hF (fun h4 hF => ?_) fun h4 hF => ?_
  · refine awp_true (by kernel_rfl) h4 ?_
    refine awp_skip ?_
    refine awp_block ?_
    refine bE hF fun vs2 h5 hF => ?_
    refine awp_region ?_
    refine aR 1 ?_
    refine aX (x_sliceS h5) ?_
    refine aR 1 ?_
    refine aE ?_
    exact oO hF [] [] rfl
  · refine awp_false (by kernel_rfl) h4 ?_
    refine awp_exit ?_
    exact oO hF [] [] rfl

def strings_trimLeftByte_R (qs : List UInt8) (qc : Int) (r : (List UInt8)) : TV × Mem := (.v (.one (.d (.str r))), ⟨[], []⟩)

theorem strings_trimLeftByte_ok {qs : List UInt8} {qc : Int} {r} (hF : strings_trimLeftByte qs qc = some r) : Holds prog 42 [.v (.one (.d (.str qs))), .v (.one (.d (.int .u8 qc)))] ⟨[], []⟩ (Is (strings_trimLeftByte_R qs qc r)) := by
  unfold strings_trimLeftByte at hF
  refine holds_of_awp hΓ (fn := f42) (c := cB f42) (A := 0) (nx := 0) (by kernel_rfl) (by kernel_rfl) (by kernel_rfl) (by kernel_rfl) (by kernel_rfl) (by kernel_rfl) (lowc_of (by kernel_rfl)) ?_
  show Awp prog 0 17 (cB f42) _ _
  refine awp_seq ?_
  refine awp_region ?_
  refine aR 1 ?_
  refine aE ?_
  refine awp_seq ?_
  refine awp_block ?_
  refine awp_to (st' := strings_trimLeftByte_x1_H qc qs) (oT [] []) ?_
  refine bE hF fun vs3_1 h6 hF => ?_
  refine awp_sub (awp_loop' (strings_trimLeftByte_x1_H qc) strings_trimLeftByte_x1_k (strings_trimLeftByte_x1_S qc) (by intro x; exact fun h => nomatch h) h6 (strings_trimLeftByte_x1_ok qc)) ?_
  refine awp_seq ?_
  refine awp_region ?_
  refine aR 2 ?_
  refine aE ?_
  refine awp_ret ?_
  exact oF hF [] []

/-! ### strings.makeASCIISet -/
def strings_makeASCIISet_x1_k : Unit ⊕ Unit → AEx
  | .inl _ => .exit 0
  | .inr _ => .ret

def strings_makeASCIISet_x1_S (qchars : List UInt8) : Unit ⊕ Unit → St
  | .inl _ => Mem.st ⟨[], [(0, [.d (.bool false), .d (.bool false), .d (.bool false), .d (.bool false), .d (.bool false), .d (.bool false), .d (.bool false), .d (.bool false), .d (.bool false), .d (.bool false), .d (.bool false), .d (.bool false), .d (.bool false), .d (.bool false), .d (.bool false), .d (.bool false), .d (.bool false), .d (.bool false), .d (.bool false), .d (.bool false), .d (.bool false), .d (.bool false), .d (.bool false), .d (.bool false), .d (.bool false), .d (.bool false), .d (.bool false), .d (.bool false), .d (.bool false), .d (.bool false), .d (.bool false), .d (.bool false), .d (.bool false), .d (.bool false), .d (.bool false), .d (.bool false), .d (.bool false), .d (.bool false), .d (.bool false), .d (.bool false), .d (.bool false), .d (.bool false), .d (.bool false), .d (.bool false), .d (.bool false), .d (.bool false), .d (.bool false), .d (.bool false), .d (.bool false), .d (.bool false), .d (.bool false), .d (.bool false), .d (.bool false), .d (.bool false), .d (.bool false), .d (.bool false), .d (.bool false), .d (.bool false), .d (.bool false), .d (.bool false), .d (.bool false), .d (.bool false), .d (.bool false), .d (.bool false), .d (.bool false), .d (.bool false), .d (.bool false), .d (.bool false), .d (.bool false), .d (.bool false), .d (.bool false), .d (.bool false), .d (.bool false), .d (.bool false), .d (.bool false), .d (.bool false), .d (.bool false), .d (.bool false), .d (.bool false), .d (.bool false), .d (.bool false), .d (.bool false), .d (.bool false), .d (.bool false), .d (.bool false), .d (.bool false), .d (.bool false), .d (.bool false), .d (.bool false), .d (.bool false), .d (.bool false), .d (.bool false), .d (.bool false), .d (.bool false), .d (.bool false), .d (.bool false), .d (.bool false), .d (.bool false), .d (.bool false), .d (.bool false), .d (.bool false), .d (.bool false), .d (.bool false), .d (.bool false), .d (.bool false), .d (.bool false), .d (.bool false), .d (.bool false), .d (.bool false), .d (.bool false), .d (.bool false), .d (.bool false), .d (.bool false), .d (.bool false), .d (.bool false), .d (.bool false), .d (.bool false), .d (.bool false), .d (.bool false), .d (.bool false), .d (.bool false), .d (.bool false), .d (.bool false), .d (.bool false), .d (.bool false), .d (.bool false), .d (.bool false), .d (.bool false), .d (.bool false), .d (.bool false), .d (.bool false), .d (.bool false), .d (.bool false), .d (.bool false), .d (.bool false), .d (.bool false), .d (.bool false), .d (.bool false), .d (.bool false), .d (.bool false), .d (.bool false), .d (.bool false), .d (.bool false), .d (.bool false), .d (.bool false), .d (.bool false), .d (.bool false), .d (.bool false), .d (.bool false), .d (.bool false), .d (.bool false), .d (.bool false), .d (.bool false), .d (.bool false), .d (.bool false), .d (.bool false), .d (.bool false), .d (.bool false), .d (.bool false), .d (.bool false), .d (.bool false), .d (.bool false), .d (.bool false), .d (.bool false), .d (.bool false), .d (.bool false), .d (.bool false), .d (.bool false), .d (.bool false), .d (.bool false), .d (.bool false), .d (.bool false), .d (.bool false), .d (.bool false), .d (.bool false), .d (.bool false), .d (.bool false), .d (.bool false), .d (.bool false), .d (.bool false), .d (.bool false), .d (.bool false), .d (.bool false), .d (.bool false), .d (.bool false), .d (.bool false), .d (.bool false), .d (.bool false), .d (.bool false), .d (.bool false), .d (.bool false), .d (.bool false), .d (.bool false), .d (.bool false), .d (.bool false), .d (.bool false), .d (.bool false), .d (.bool false), .d (.bool false), .d (.bool false), .d (.bool false), .d (.bool false), .d (.bool false), .d (.bool false), .d (.bool false), .d (.bool false), .d (.bool false), .d (.bool false), .d (.bool false), .d (.bool false), .d (.bool false), .d (.bool false), .d (.bool false), .d (.bool false), .d (.bool false), .d (.bool false), .d (.bool false), .d (.bool false), .d (.bool false), .d (.bool false), .d (.bool false), .d (.bool false), .d (.bool false), .d (.bool false), .d (.bool false), .d (.bool false), .d (.bool false), .d (.bool false), .d (.bool false), .d (.bool false), .d (.bool false), .d (.bool false), .d (.bool false), .d (.bool false), .d (.bool false), .d (.bool false), .d (.bool false), .d (.bool false), .d (.bool false), .d (.bool false), .d (.bool false), .d (.bool false), .d (.bool false), .d (.bool false), .d (.bool false), .d (.bool false), .d (.bool false), .d (.bool false), .d (.bool false), .d (.bool false), .d (.bool false), .d (.bool false), .d (.bool false), .d (.bool false), .d (.bool false), .d (.bool false)])]⟩ (tl [(2, .v (.one (.box 0 0)))]) 1
  | .inr _ => Mem.st ⟨[], [(0, [.d (.bool false), .d (.bool false), .d (.bool false), .d (.bool false), .d (.bool false), .d (.bool false), .d (.bool false), .d (.bool false), .d (.bool false), .d (.bool false), .d (.bool false), .d (.bool false), .d (.bool false), .d (.bool false), .d (.bool false), .d (.bool false), .d (.bool false), .d (.bool false), .d (.bool false), .d (.bool false), .d (.bool false), .d (.bool false), .d (.bool false), .d (.bool false), .d (.bool false), .d (.bool false), .d (.bool false), .d (.bool false), .d (.bool false), .d (.bool false), .d (.bool false), .d (.bool false), .d (.bool false), .d (.bool false), .d (.bool false), .d (.bool false), .d (.bool false), .d (.bool false), .d (.bool false), .d (.bool false), .d (.bool false), .d (.bool false), .d (.bool false), .d (.bool false), .d (.bool false), .d (.bool false), .d (.bool false), .d (.bool false), .d (.bool false), .d (.bool false), .d (.bool false), .d (.bool false), .d (.bool false), .d (.bool false), .d (.bool false), .d (.bool false), .d (.bool false), .d (.bool false), .d (.bool false), .d (.bool false), .d (.bool false), .d (.bool false), .d (.bool false), .d (.bool false), .d (.bool false), .d (.bool false), .d (.bool false), .d (.bool false), .d (.bool false), .d (.bool false), .d (.bool false), .d (.bool false), .d (.bool false), .d (.bool false), .d (.bool false), .d (.bool false), .d (.bool false), .d (.bool false), .d (.bool false), .d (.bool false), .d (.bool false), .d (.bool false), .d (.bool false), .d (.bool false), .d (.bool false), .d (.bool false), .d (.bool false), .d (.bool false), .d (.bool false), .d (.bool false), .d (.bool false), .d (.bool false), .d (.bool false), .d (.bool false), .d (.bool false), .d (.bool false), .d (.bool false), .d (.bool false), .d (.bool false), .d (.bool false), .d (.bool false), .d (.bool false), .d (.bool false), .d (.bool false), .d (.bool false), .d (.bool false), .d (.bool false), .d (.bool false), .d (.bool false), .d (.bool false), .d (.bool false), .d (.bool false), .d (.bool false), .d (.bool false), .d (.bool false), .d (.bool false), .d (.bool false), .d (.bool false), .d (.bool false), .d (.bool false), .d (.bool false), .d (.bool false), .d (.bool false), .d (.bool false), .d (.bool false), .d (.bool false), .d (.bool false), .d (.bool false), .d (.bool false), .d (.bool false), .d (.bool false), .d (.bool false), .d (.bool false), .d (.bool false), .d (.bool false), .d (.bool false), .d (.bool false), .d (.bool false), .d (.bool false), .d (.bool false), .d (.bool false), .d (.bool false), .d (.bool false), .d (.bool false), .d (.bool false), .d (.bool false), .d (.bool false), .d (.bool false), .d (.bool false), .d (.bool false), .d (.bool false), .d (.bool false), .d (.bool false), .d (.bool false), .d (.bool false), .d (.bool false), .d (.bool false), .d (.bool false), .d (.bool false), .d (.bool false), .d (.bool false), .d (.bool false), .d (.bool false), .d (.bool false), .d (.bool false), .d (.bool false), .d (.bool false), .d (.bool false), .d (.bool false), .d (.bool false), .d (.bool false), .d (.bool false), .d (.bool false), .d (.bool false), .d (.bool false), .d (.bool false), .d (.bool false), .d (.bool false), .d (.bool false), .d (.bool false), .d (.bool false), .d (.bool false), .d (.bool false), .d (.bool false), .d (.bool false), .d (.bool false), .d (.bool false), .d (.bool false), .d (.bool false), .d (.bool false), .d (.bool false), .d (.bool false), .d (.bool false), .d (.bool false), .d (.bool false), .d (.bool false), .d (.bool false), .d (.bool false), .d (.bool false), .d (.bool false), .d (.bool false), .d (.bool false), .d (.bool false), .d (.bool false), .d (.bool false), .d (.bool false), .d (.bool false), .d (.bool false), .d (.bool false), .d (.bool false), .d (.bool false), .d (.bool false), .d (.bool false), .d (.bool false), .d (.bool false), .d (.bool false), .d (.bool false), .d (.bool false), .d (.bool false), .d (.bool false), .d (.bool false), .d (.bool false), .d (.bool false), .d (.bool false), .d (.bool false), .d (.bool false), .d (.bool false), .d (.bool false), .d (.bool false), .d (.bool false), .d (.bool false), .d (.bool false), .d (.bool false), .d (.bool false), .d (.bool false), .d (.bool false), .d (.bool false), .d (.bool false), .d (.bool false), .d (.bool false), .d (.bool false), .d (.bool false), .d (.bool false), .d (.bool false), .d (.bool false), .d (.bool false), .d (.bool false), .d (.bool false), .d (.bool false), .d (.bool false), .d (.bool false), .d (.bool false), .d (.bool false), .d (.bool false), .d (.bool false), .d (.bool false)])]⟩ (tl [(2, .v (.one (.box 0 0))), (3, .v (.one (.d (.bool false))))]) 1

def strings_makeASCIISet_x1_H (qchars : List UInt8) : Unit → St
  | _ => Mem.st ⟨[], [(0, [.d (.bool false), .d (.bool false), .d (.bool false), .d (.bool false), .d (.bool false), .d (.bool false), .d (.bool false), .d (.bool false), .d (.bool false), .d (.bool false), .d (.bool false), .d (.bool false), .d (.bool false), .d (.bool false), .d (.bool false), .d (.bool false), .d (.bool false), .d (.bool false), .d (.bool false), .d (.bool false), .d (.bool false), .d (.bool false), .d (.bool false), .d (.bool false), .d (.bool false), .d (.bool false), .d (.bool false), .d (.bool false), .d (.bool false), .d (.bool false), .d (.bool false), .d (.bool false), .d (.bool false), .d (.bool false), .d (.bool false), .d (.bool false), .d (.bool false), .d (.bool false), .d (.bool false), .d (.bool false), .d (.bool false), .d (.bool false), .d (.bool false), .d (.bool false), .d (.bool false), .d (.bool false), .d (.bool false), .d (.bool false), .d (.bool false), .d (.bool false), .d (.bool false), .d (.bool false), .d (.bool false), .d (.bool false), .d (.bool false), .d (.bool false), .d (.bool false), .d (.bool false), .d (.bool false), .d (.bool false), .d (.bool false), .d (.bool false), .d (.bool false), .d (.bool false), .d (.bool false), .d (.bool false), .d (.bool false), .d (.bool false), .d (.bool false), .d (.bool false), .d (.bool false), .d (.bool false), .d (.bool false), .d (.bool false), .d (.bool false), .d (.bool false), .d (.bool false), .d (.bool false), .d (.bool false), .d (.bool false), .d (.bool false), .d (.bool false), .d (.bool false), .d (.bool false), .d (.bool false), .d (.bool false), .d (.bool false), .d (.bool false), .d (.bool false), .d (.bool false), .d (.bool false), .d (.bool false), .d (.bool false), .d (.bool false), .d (.bool false), .d (.bool false), .d (.bool false), .d (.bool false), .d (.bool false), .d (.bool false), .d (.bool false), .d (.bool false), .d (.bool false), .d (.bool false), .d (.bool false), .d (.bool false), .d (.bool false), .d (.bool false), .d (.bool false), .d (.bool false), .d (.bool false), .d (.bool false), .d (.bool false), .d (.bool false), .d (.bool false), .d (.bool false), .d (.bool false), .d (.bool false), .d (.bool false), .d (.bool false), .d (.bool false), .d (.bool false), .d (.bool false), .d (.bool false), .d (.bool false), .d (.bool false), .d (.bool false), .d (.bool false), .d (.bool false), .d (.bool false), .d (.bool false), .d (.bool false), .d (.bool false), .d (.bool false), .d (.bool false), .d (.bool false), .d (.bool false), .d (.bool false), .d (.bool false), .d (.bool false), .d (.bool false), .d (.bool false), .d (.bool false), .d (.bool false), .d (.bool false), .d (.bool false), .d (.bool false), .d (.bool false), .d (.bool false), .d (.bool false), .d (.bool false), .d (.bool false), .d (.bool false), .d (.bool false), .d (.bool false), .d (.bool false), .d (.bool false), .d (.bool false), .d (.bool false), .d (.bool false), .d (.bool false), .d (.bool false), .d (.bool false), .d (.bool false), .d (.bool false), .d (.bool false), .d (.bool false), .d (.bool false), .d (.bool false), .d (.bool false), .d (.bool false), .d (.bool false), .d (.bool false), .d (.bool false), .d (.bool false), .d (.bool false), .d (.bool false), .d (.bool false), .d (.bool false), .d (.bool false), .d (.bool false), .d (.bool false), .d (.bool false), .d (.bool false), .d (.bool false), .d (.bool false), .d (.bool false), .d (.bool false), .d (.bool false), .d (.bool false), .d (.bool false), .d (.bool false), .d (.bool false), .d (.bool false), .d (.bool false), .d (.bool false), .d (.bool false), .d (.bool false), .d (.bool false), .d (.bool false), .d (.bool false), .d (.bool false), .d (.bool false), .d (.bool false), .d (.bool false), .d (.bool false), .d (.bool false), .d (.bool false), .d (.bool false), .d (.bool false), .d (.bool false), .d (.bool false), .d (.bool false), .d (.bool false), .d (.bool false), .d (.bool false), .d (.bool false), .d (.bool false), .d (.bool false), .d (.bool false), .d (.bool false), .d (.bool false), .d (.bool false), .d (.bool false), .d (.bool false), .d (.bool false), .d (.bool false), .d (.bool false), .d (.bool false), .d (.bool false), .d (.bool false), .d (.bool false), .d (.bool false), .d (.bool false), .d (.bool false), .d (.bool false), .d (.bool false), .d (.bool false), .d (.bool false), .d (.bool false), .d (.bool false), .d (.bool false), .d (.bool false), .d (.bool false), .d (.bool false), .d (.bool false), .d (.bool false), .d (.bool false), .d (.bool false), .d (.bool false), .d (.bool false), .d (.bool false), .d (.bool false), .d (.bool false), .d (.bool false), .d (.bool false)])]⟩ (tl [(0, .v (.one (.d (.str qchars)))), (2, .v (.one (.box 0 0))), (4, .v (.one (.d (.int .i64 0))))]) 1

theorem strings_makeASCIISet_x1_ok (qchars : List UInt8) (s : Unit) (r : (Unit) ⊕ (Unit ⊕ Unit)) (hF : strings_makeASCIISet_x1 qchars s = some r) : Awp prog 0 21 (cL (cL (cR (cL (cR (cB f44)))))) (Out 0 (kk strings_makeASCIISet_x1_k) (SS (strings_makeASCIISet_x1_H qchars) (strings_makeASCIISet_x1_S qchars)) r) (strings_makeASCIISet_x1_H qchars s) := by
  unfold strings_makeASCIISet_x1 at hF
  refine awp_seq ?_
  refine awp_seq ?_
  refine awp_region ?_
  refine aR 4 ?_
  refine aE ?_
  refine cE hF (fun h1 hF => ?_) fun h1 hF => ?_
  · refine awp_true (by kernel_rfl) h1 ?_
    refine awp_skip ?_
    refine awp_seq ?_
    refine awp_block ?_
    refine awp_seq ?_
    refine bE hF fun vc1 h2 hF => ?_
    refine awp_region ?_
    refine aR 2 ?_
    refine aX (x_idxS h2) ?_
    refine aR 1 ?_
    refine aE ?_
    refine awp_seq ?_
    refine awp_seq ?_
    refine awp_region ?_
    refine aR 2 ?_
    refine aE ?_
    refine cE hF (fun h3 hF => ?_) fun h3 hF => ?_
    · refine awp_true (by kernel_rfl) h3 ?_
      refine awp_seq ?_
      refine awp_region ?_
      refine aR 3 ?_
      refine aE ?_
      refine awp_ret ?_
      exact oO hF [] [] rfl
    · refine awp_false (by kernel_rfl) h3 ?_
      refine awp_skip ?_
      exact nE hF
  · refine awp_false (by kernel_rfl) h1 ?_
    refine awp_exit ?_
    exact oO hF [] [] rfl

def strings_makeASCIISet_R (qchars : List UInt8) (r : Bool) : TV × Mem := (.tup [.agg [.d (.bool false), .d (.bool false), .d (.bool false), .d (.bool false), .d (.bool false), .d (.bool false), .d (.bool false), .d (.bool false), .d (.bool false), .d (.bool false), .d (.bool false), .d (.bool false), .d (.bool false), .d (.bool false), .d (.bool false), .d (.bool false), .d (.bool false), .d (.bool false), .d (.bool false), .d (.bool false), .d (.bool false), .d (.bool false), .d (.bool false), .d (.bool false), .d (.bool false), .d (.bool false), .d (.bool false), .d (.bool false), .d (.bool false), .d (.bool false), .d (.bool false), .d (.bool false), .d (.bool false), .d (.bool false), .d (.bool false), .d (.bool false), .d (.bool false), .d (.bool false), .d (.bool false), .d (.bool false), .d (.bool false), .d (.bool false), .d (.bool false), .d (.bool false), .d (.bool false), .d (.bool false), .d (.bool false), .d (.bool false), .d (.bool false), .d (.bool false), .d (.bool false), .d (.bool false), .d (.bool false), .d (.bool false), .d (.bool false), .d (.bool false), .d (.bool false), .d (.bool false), .d (.bool false), .d (.bool false), .d (.bool false), .d (.bool false), .d (.bool false), .d (.bool false), .d (.bool false), .d (.bool false), .d (.bool false), .d (.bool false), .d (.bool false), .d (.bool false), .d (.bool false), .d (.bool false), .d (.bool false), .d (.bool false), .d (.bool false), .d (.bool false), .d (.bool false), .d (.bool false), .d (.bool false), .d (.bool false), .d (.bool false), .d (.bool false), .d (.bool false), .d (.bool false), .d (.bool false), .d (.bool false), .d (.bool false), .d (.bool false), .d (.bool false), .d (.bool false), .d (.bool false), .d (.bool false), .d (.bool false), .d (.bool false), .d (.bool false), .d (.bool false), .d (.bool false), .d (.bool false), .d (.bool false), .d (.bool false), .d (.bool false), .d (.bool false), .d (.bool false), .d (.bool false), .d (.bool false), .d (.bool false), .d (.bool false), .d (.bool false), .d (.bool false), .d (.bool false), .d (.bool false), .d (.bool false), .d (.bool false), .d (.bool false), .d (.bool false), .d (.bool false), .d (.bool false), .d (.bool false), .d (.bool false), .d (.bool false), .d (.bool false), .d (.bool false), .d (.bool false), .d (.bool false), .d (.bool false), .d (.bool false), .d (.bool false), .d (.bool false), .d (.bool false), .d (.bool false), .d (.bool false), .d (.bool false), .d (.bool false), .d (.bool false), .d (.bool false), .d (.bool false), .d (.bool false), .d (.bool false), .d (.bool false), .d (.bool false), .d (.bool false), .d (.bool false), .d (.bool false), .d (.bool false), .d (.bool false), .d (.bool false), .d (.bool false), .d (.bool false), .d (.bool false), .d (.bool false), .d (.bool false), .d (.bool false), .d (.bool false), .d (.bool false), .d (.bool false), .d (.bool false), .d (.bool false), .d (.bool false), .d (.bool false), .d (.bool false), .d (.bool false), .d (.bool false), .d (.bool false), .d (.bool false), .d (.bool false), .d (.bool false), .d (.bool false), .d (.bool false), .d (.bool false), .d (.bool false), .d (.bool false), .d (.bool false), .d (.bool false), .d (.bool false), .d (.bool false), .d (.bool false), .d (.bool false), .d (.bool false), .d (.bool false), .d (.bool false), .d (.bool false), .d (.bool false), .d (.bool false), .d (.bool false), .d (.bool false), .d (.bool false), .d (.bool false), .d (.bool false), .d (.bool false), .d (.bool false), .d (.bool false), .d (.bool false), .d (.bool false), .d (.bool false), .d (.bool false), .d (.bool false), .d (.bool false), .d (.bool false), .d (.bool false), .d (.bool false), .d (.bool false), .d (.bool false), .d (.bool false), .d (.bool false), .d (.bool false), .d (.bool false), .d (.bool false), .d (.bool false), .d (.bool false), .d (.bool false), .d (.bool false), .d (.bool false), .d (.bool false), .d (.bool false), .d (.bool false), .d (.bool false), .d (.bool false), .d (.bool false), .d (.bool false), .d (.bool false), .d (.bool false), .d (.bool false), .d (.bool false), .d (.bool false), .d (.bool false), .d (.bool false), .d (.bool false), .d (.bool false), .d (.bool false), .d (.bool false), .d (.bool false), .d (.bool false), .d (.bool false), .d (.bool false), .d (.bool false), .d (.bool false), .d (.bool false), .d (.bool false), .d (.bool false), .d (.bool false), .d (.bool false), .d (.bool false), .d (.bool false), .d (.bool false), .d (.bool false), .d (.bool false), .d (.bool false), .d (.bool false), .d (.bool false), .d (.bool false), .d (.bool false), .d (.bool false), .d (.bool false), .d (.bool false), .d (.bool false), .d (.bool false)], .one (.d (.bool r))], ⟨[], []⟩)

theorem strings_makeASCIISet_ok {qchars : List UInt8} {r} (hF : strings_makeASCIISet qchars = some r) : Holds prog 44 [.v (.one (.d (.str qchars)))] ⟨[], []⟩ (Is (strings_makeASCIISet_R qchars r)) := by
  unfold strings_makeASCIISet at hF
  refine holds_of_awp hΓ (fn := f44) (c := cB f44) (A := 0) (nx := 0) (by kernel_rfl) (by kernel_rfl) (by kernel_rfl) (by kernel_rfl) (by kernel_rfl) (by kernel_rfl) (lowc_of (by kernel_rfl)) ?_
  show Awp prog 0 21 (cB f44) _ _
  refine awp_seq ?_
  refine awp_region ?_
  refine aR 2 ?_
  refine aE ?_
  refine awp_seq ?_
  refine awp_seq ?_
  refine awp_region ?_
  refine aR 1 ?_
  refine aE ?_
  refine awp_block ?_
  refine awp_to (st' := strings_makeASCIISet_x1_H qchars ()) (oT [] []) ?_
  refine bE hF fun x h4 hF => ?_
  rcases x with _ | _
  · refine awp_sub (awp_loop' (strings_makeASCIISet_x1_H qchars) strings_makeASCIISet_x1_k (strings_makeASCIISet_x1_S qchars) (by intro x; rcases x with x | x <;> exact fun h => nomatch h) h4 (strings_makeASCIISet_x1_ok qchars)) ?_
    refine awp_seq ?_
    refine awp_region ?_
    refine aR 3 ?_
    refine aE ?_
    refine awp_ret ?_
    exact oF hF [] []
  · refine awp_sub (awp_loop' (strings_makeASCIISet_x1_H qchars) strings_makeASCIISet_x1_k (strings_makeASCIISet_x1_S qchars) (by intro x; rcases x with x | x <;> exact fun h => nomatch h) h4 (strings_makeASCIISet_x1_ok qchars)) ?_
    exact oF hF [] []

/-! ### strings.trimRightASCII -/
def strings_trimRightASCII_x1_k : Unit → AEx
  | _ => .exit 0

def strings_trimRightASCII_x1_S (qs : List UInt8) (qas : Bool) : Unit → St
  | _ => Mem.st ⟨[], [(0, [.d (.bool qas), .d (.bool qas), .d (.bool qas), .d (.bool qas), .d (.bool qas), .d (.bool qas), .d (.bool qas), .d (.bool qas), .d (.bool qas), .d (.bool qas), .d (.bool qas), .d (.bool qas), .d (.bool qas), .d (.bool qas), .d (.bool qas), .d (.bool qas), .d (.bool qas), .d (.bool qas), .d (.bool qas), .d (.bool qas), .d (.bool qas), .d (.bool qas), .d (.bool qas), .d (.bool qas), .d (.bool qas), .d (.bool qas), .d (.bool qas), .d (.bool qas), .d (.bool qas), .d (.bool qas), .d (.bool qas), .d (.bool qas), .d (.bool qas), .d (.bool qas), .d (.bool qas), .d (.bool qas), .d (.bool qas), .d (.bool qas), .d (.bool qas), .d (.bool qas), .d (.bool qas), .d (.bool qas), .d (.bool qas), .d (.bool qas), .d (.bool qas), .d (.bool qas), .d (.bool qas), .d (.bool qas), .d (.bool qas), .d (.bool qas), .d (.bool qas), .d (.bool qas), .d (.bool qas), .d (.bool qas), .d (.bool qas), .d (.bool qas), .d (.bool qas), .d (.bool qas), .d (.bool qas), .d (.bool qas), .d (.bool qas), .d (.bool qas), .d (.bool qas), .d (.bool qas), .d (.bool qas), .d (.bool qas), .d (.bool qas), .d (.bool qas), .d (.bool qas), .d (.bool qas), .d (.bool qas), .d (.bool qas), .d (.bool qas), .d (.bool qas), .d (.bool qas), .d (.bool qas), .d (.bool qas), .d (.bool qas), .d (.bool qas), .d (.bool qas), .d (.bool qas), .d (.bool qas), .d (.bool qas), .d (.bool qas), .d (.bool qas), .d (.bool qas), .d (.bool qas), .d (.bool qas), .d (.bool qas), .d (.bool qas), .d (.bool qas), .d (.bool qas), .d (.bool qas), .d (.bool qas), .d (.bool qas), .d (.bool qas), .d (.bool qas), .d (.bool qas), .d (.bool qas), .d (.bool qas), .d (.bool qas), .d (.bool qas), .d (.bool qas), .d (.bool qas), .d (.bool qas), .d (.bool qas), .d (.bool qas), .d (.bool qas), .d (.bool qas), .d (.bool qas), .d (.bool qas), .d (.bool qas), .d (.bool qas), .d (.bool qas), .d (.bool qas), .d (.bool qas), .d (.bool qas), .d (.bool qas), .d (.bool qas), .d (.bool qas), .d (.bool qas), .d (.bool qas), .d (.bool qas), .d (.bool qas), .d (.bool qas), .d (.bool qas), .d (.bool qas), .d (.bool qas), .d (.bool qas), .d (.bool qas), .d (.bool qas), .d (.bool qas), .d (.bool qas), .d (.bool qas), .d (.bool qas), .d (.bool qas), .d (.bool qas), .d (.bool qas), .d (.bool qas), .d (.bool qas), .d (.bool qas), .d (.bool qas), .d (.bool qas), .d (.bool qas), .d (.bool qas), .d (.bool qas), .d (.bool qas), .d (.bool qas), .d (.bool qas), .d (.bool qas), .d (.bool qas), .d (.bool qas), .d (.bool qas), .d (.bool qas), .d (.bool qas), .d (.bool qas), .d (.bool qas), .d (.bool qas), .d (.bool qas), .d (.bool qas), .d (.bool qas), .d (.bool qas), .d (.bool qas), .d (.bool qas), .d (.bool qas), .d (.bool qas), .d (.bool qas), .d (.bool qas), .d (.bool qas), .d (.bool qas), .d (.bool qas), .d (.bool qas), .d (.bool qas), .d (.bool qas), .d (.bool qas), .d (.bool qas), .d (.bool qas), .d (.bool qas), .d (.bool qas), .d (.bool qas), .d (.bool qas), .d (.bool qas), .d (.bool qas), .d (.bool qas), .d (.bool qas), .d (.bool qas), .d (.bool qas), .d (.bool qas), .d (.bool qas), .d (.bool qas), .d (.bool qas), .d (.bool qas), .d (.bool qas), .d (.bool qas), .d (.bool qas), .d (.bool qas), .d (.bool qas), .d (.bool qas), .d (.bool qas), .d (.bool qas), .d (.bool qas), .d (.bool qas), .d (.bool qas), .d (.bool qas), .d (.bool qas), .d (.bool qas), .d (.bool qas), .d (.bool qas), .d (.bool qas), .d (.bool qas), .d (.bool qas), .d (.bool qas), .d (.bool qas), .d (.bool qas), .d (.bool qas), .d (.bool qas), .d (.bool qas), .d (.bool qas), .d (.bool qas), .d (.bool qas), .d (.bool qas), .d (.bool qas), .d (.bool qas), .d (.bool qas), .d (.bool qas), .d (.bool qas), .d (.bool qas), .d (.bool qas), .d (.bool qas), .d (.bool qas), .d (.bool qas), .d (.bool qas), .d (.bool qas), .d (.bool qas), .d (.bool qas), .d (.bool qas), .d (.bool qas), .d (.bool qas), .d (.bool qas), .d (.bool qas), .d (.bool qas), .d (.bool qas), .d (.bool qas), .d (.bool qas), .d (.bool qas), .d (.bool qas), .d (.bool qas), .d (.bool qas), .d (.bool qas), .d (.bool qas), .d (.bool qas), .d (.bool qas), .d (.bool qas), .d (.bool qas), .d (.bool qas), .d (.bool qas)])]⟩ (tl [(0, .v (.one (.d (.str qs))))]) 1

def strings_trimRightASCII_x1_H (qs : List UInt8) (qas : Bool) : Unit → St
  | _ => Mem.st ⟨[], [(0, [.d (.bool qas), .d (.bool qas), .d (.bool qas), .d (.bool qas), .d (.bool qas), .d (.bool qas), .d (.bool qas), .d (.bool qas), .d (.bool qas), .d (.bool qas), .d (.bool qas), .d (.bool qas), .d (.bool qas), .d (.bool qas), .d (.bool qas), .d (.bool qas), .d (.bool qas), .d (.bool qas), .d (.bool qas), .d (.bool qas), .d (.bool qas), .d (.bool qas), .d (.bool qas), .d (.bool qas), .d (.bool qas), .d (.bool qas), .d (.bool qas), .d (.bool qas), .d (.bool qas), .d (.bool qas), .d (.bool qas), .d (.bool qas), .d (.bool qas), .d (.bool qas), .d (.bool qas), .d (.bool qas), .d (.bool qas), .d (.bool qas), .d (.bool qas), .d (.bool qas), .d (.bool qas), .d (.bool qas), .d (.bool qas), .d (.bool qas), .d (.bool qas), .d (.bool qas), .d (.bool qas), .d (.bool qas), .d (.bool qas), .d (.bool qas), .d (.bool qas), .d (.bool qas), .d (.bool qas), .d (.bool qas), .d (.bool qas), .d (.bool qas), .d (.bool qas), .d (.bool qas), .d (.bool qas), .d (.bool qas), .d (.bool qas), .d (.bool qas), .d (.bool qas), .d (.bool qas), .d (.bool qas), .d (.bool qas), .d (.bool qas), .d (.bool qas), .d (.bool qas), .d (.bool qas), .d (.bool qas), .d (.bool qas), .d (.bool qas), .d (.bool qas), .d (.bool qas), .d (.bool qas), .d (.bool qas), .d (.bool qas), .d (.bool qas), .d (.bool qas), .d (.bool qas), .d (.bool qas), .d (.bool qas), .d (.bool qas), .d (.bool qas), .d (.bool qas), .d (.bool qas), .d (.bool qas), .d (.bool qas), .d (.bool qas), .d (.bool qas), .d (.bool qas), .d (.bool qas), .d (.bool qas), .d (.bool qas), .d (.bool qas), .d (.bool qas), .d (.bool qas), .d (.bool qas), .d (.bool qas), .d (.bool qas), .d (.bool qas), .d (.bool qas), .d (.bool qas), .d (.bool qas), .d (.bool qas), .d (.bool qas), .d (.bool qas), .d (.bool qas), .d (.bool qas), .d (.bool qas), .d (.bool qas), .d (.bool qas), .d (.bool qas), .d (.bool qas), .d (.bool qas), .d (.bool qas), .d (.bool qas), .d (.bool qas), .d (.bool qas), .d (.bool qas), .d (.bool qas), .d (.bool qas), .d (.bool qas), .d (.bool qas), .d (.bool qas), .d (.bool qas), .d (.bool qas), .d (.bool qas), .d (.bool qas), .d (.bool qas), .d (.bool qas), .d (.bool qas), .d (.bool qas), .d (.bool qas), .d (.bool qas), .d (.bool qas), .d (.bool qas), .d (.bool qas), .d (.bool qas), .d (.bool qas), .d (.bool qas), .d (.bool qas), .d (.bool qas), .d (.bool qas), .d (.bool qas), .d (.bool qas), .d (.bool qas), .d (.bool qas), .d (.bool qas), .d (.bool qas), .d (.bool qas), .d (.bool qas), .d (.bool qas), .d (.bool qas), .d (.bool qas), .d (.bool qas), .d (.bool qas), .d (.bool qas), .d (.bool qas), .d (.bool qas), .d (.bool qas), .d (.bool qas), .d (.bool qas), .d (.bool qas), .d (.bool qas), .d (.bool qas), .d (.bool qas), .d (.bool qas), .d (.bool qas), .d (.bool qas), .d (.bool qas), .d (.bool qas), .d (.bool qas), .d (.bool qas), .d (.bool qas), .d (.bool qas), .d (.bool qas), .d (.bool qas), .d (.bool qas), .d (.bool qas), .d (.bool qas), .d (.bool qas), .d (.bool qas), .d (.bool qas), .d (.bool qas), .d (.bool qas), .d (.bool qas), .d (.bool qas), .d (.bool qas), .d (.bool qas), .d (.bool qas), .d (.bool qas), .d (.bool qas), .d (.bool qas), .d (.bool qas), .d (.bool qas), .d (.bool qas), .d (.bool qas), .d (.bool qas), .d (.bool qas), .d (.bool qas), .d (.bool qas), .d (.bool qas), .d (.bool qas), .d (.bool qas), .d (.bool qas), .d (.bool qas), .d (.bool qas), .d (.bool qas), .d (.bool qas), .d (.bool qas), .d (.bool qas), .d (.bool qas), .d (.bool qas), .d (.bool qas), .d (.bool qas), .d (.bool qas), .d (.bool qas), .d (.bool qas), .d (.bool qas), .d (.bool qas), .d (.bool qas), .d (.bool qas), .d (.bool qas), .d (.bool qas), .d (.bool qas), .d (.bool qas), .d (.bool qas), .d (.bool qas), .d (.bool qas), .d (.bool qas), .d (.bool qas), .d (.bool qas), .d (.bool qas), .d (.bool qas), .d (.bool qas), .d (.bool qas), .d (.bool qas), .d (.bool qas), .d (.bool qas), .d (.bool qas), .d (.bool qas), .d (.bool qas), .d (.bool qas), .d (.bool qas), .d (.bool qas), .d (.bool qas), .d (.bool qas), .d (.bool qas), .d (.bool qas), .d (.bool qas), .d (.bool qas), .d (.bool qas), .d (.bool qas), .d (.bool qas)])]⟩ (tl [(0, .v (.one (.d (.str qs)))), (1, .v (.one (.box 0 0)))]) 1

theorem strings_trimRightASCII_x1_ok (qs : List UInt8) (qas : Bool) (s : Unit) (r : (Unit) ⊕ (Unit)) (hF : strings_trimRightASCII_x1 qs s = some r) : Awp prog 1 22 (cL (cL (cL (cR (cB f46))))) (Out 1 (kk strings_trimRightASCII_x1_k) (SS (strings_trimRightASCII_x1_H qs qas) (strings_trimRightASCII_x1_S qs qas)) r) (strings_trimRightASCII_x1_H qs qas s) := by
  unfold strings_trimRightASCII_x1 at hF
  refine awp_seq ?_
  refine awp_seq ?_
  refine awp_region ?_
  refine aR 3 ?_
  refine aE ?_
  refine cE hF (fun h1 hF => ?_) fun h1 hF => ?_
  · refine awp_true (by kernel_rfl) h1 ?_
    refine awp_skip ?_
    refine awp_block ?_
    refine awp_seq ?_
    refine awp_seq ?_
    refine bE hF fun vc1 h2 hF => ?_
    exact nE hF
  · refine awp_false (by kernel_rfl) h1 ?_
    refine awp_exit ?_
    exact oO hF [] [] rfl

def strings_trimRightASCII_R (qs : List UInt8) (qas : Bool) (r : Unit) : TV × Mem := (.v (.one (.d (.str qs))), ⟨[], [(0, [.d (.bool qas), .d (.bool qas), .d (.bool qas), .d (.bool qas), .d (.bool qas), .d (.bool qas), .d (.bool qas), .d (.bool qas), .d (.bool qas), .d (.bool qas), .d (.bool qas), .d (.bool qas), .d (.bool qas), .d (.bool qas), .d (.bool qas), .d (.bool qas), .d (.bool qas), .d (.bool qas), .d (.bool qas), .d (.bool qas), .d (.bool qas), .d (.bool qas), .d (.bool qas), .d (.bool qas), .d (.bool qas), .d (.bool qas), .d (.bool qas), .d (.bool qas), .d (.bool qas), .d (.bool qas), .d (.bool qas), .d (.bool qas), .d (.bool qas), .d (.bool qas), .d (.bool qas), .d (.bool qas), .d (.bool qas), .d (.bool qas), .d (.bool qas), .d (.bool qas), .d (.bool qas), .d (.bool qas), .d (.bool qas), .d (.bool qas), .d (.bool qas), .d (.bool qas), .d (.bool qas), .d (.bool qas), .d (.bool qas), .d (.bool qas), .d (.bool qas), .d (.bool qas), .d (.bool qas), .d (.bool qas), .d (.bool qas), .d (.bool qas), .d (.bool qas), .d (.bool qas), .d (.bool qas), .d (.bool qas), .d (.bool qas), .d (.bool qas), .d (.bool qas), .d (.bool qas), .d (.bool qas), .d (.bool qas), .d (.bool qas), .d (.bool qas), .d (.bool qas), .d (.bool qas), .d (.bool qas), .d (.bool qas), .d (.bool qas), .d (.bool qas), .d (.bool qas), .d (.bool qas), .d (.bool qas), .d (.bool qas), .d (.bool qas), .d (.bool qas), .d (.bool qas), .d (.bool qas), .d (.bool qas), .d (.bool qas), .d (.bool qas), .d (.bool qas), .d (.bool qas), .d (.bool qas), .d (.bool qas), .d (.bool qas), .d (.bool qas), .d (.bool qas), .d (.bool qas), .d (.bool qas), .d (.bool qas), .d (.bool qas), .d (.bool qas), .d (.bool qas), .d (.bool qas), .d (.bool qas), .d (.bool qas), .d (.bool qas), .d (.bool qas), .d (.bool qas), .d (.bool qas), .d (.bool qas), .d (.bool qas), .d (.bool qas), .d (.bool qas), .d (.bool qas), .d (.bool qas), .d (.bool qas), .d (.bool qas), .d (.bool qas), .d (.bool qas), .d (.bool qas), .d (.bool qas), .d (.bool qas), .d (.bool qas), .d (.bool qas), .d (.bool qas), .d (.bool qas), .d (.bool qas), .d (.bool qas), .d (.bool qas), .d (.bool qas), .d (.bool qas), .d (.bool qas), .d (.bool qas), .d (.bool qas), .d (.bool qas), .d (.bool qas), .d (.bool qas), .d (.bool qas), .d (.bool qas), .d (.bool qas), .d (.bool qas), .d (.bool qas), .d (.bool qas), .d (.bool qas), .d (.bool qas), .d (.bool qas), .d (.bool qas), .d (.bool qas), .d (.bool qas), .d (.bool qas), .d (.bool qas), .d (.bool qas), .d (.bool qas), .d (.bool qas), .d (.bool qas), .d (.bool qas), .d (.bool qas), .d (.bool qas), .d (.bool qas), .d (.bool qas), .d (.bool qas), .d (.bool qas), .d (.bool qas), .d (.bool qas), .d (.bool qas), .d (.bool qas), .d (.bool qas), .d (.bool qas), .d (.bool qas), .d (.bool qas), .d (.bool qas), .d (.bool qas), .d (.bool qas), .d (.bool qas), .d (.bool qas), .d (.bool qas), .d (.bool qas), .d (.bool qas), .d (.bool qas), .d (.bool qas), .d (.bool qas), .d (.bool qas), .d (.bool qas), .d (.bool qas), .d (.bool qas), .d (.bool qas), .d (.bool qas), .d (.bool qas), .d (.bool qas), .d (.bool qas), .d (.bool qas), .d (.bool qas), .d (.bool qas), .d (.bool qas), .d (.bool qas), .d (.bool qas), .d (.bool qas), .d (.bool qas), .d (.bool qas), .d (.bool qas), .d (.bool qas), .d (.bool qas), .d (.bool qas), .d (.bool qas), .d (.bool qas), .d (.bool qas), .d (.bool qas), .d (.bool qas), .d (.bool qas), .d (.bool qas), .d (.bool qas), .d (.bool qas), .d (.bool qas), .d (.bool qas), .d (.bool qas), .d (.bool qas), .d (.bool qas), .d (.bool qas), .d (.bool qas), .d (.bool qas), .d (.bool qas), .d (.bool qas), .d (.bool qas), .d (.bool qas), .d (.bool qas), .d (.bool qas), .d (.bool qas), .d (.bool qas), .d (.bool qas), .d (.bool qas), .d (.bool qas), .d (.bool qas), .d (.bool qas), .d (.bool qas), .d (.bool qas), .d (.bool qas), .d (.bool qas), .d (.bool qas), .d (.bool qas), .d (.bool qas), .d (.bool qas), .d (.bool qas), .d (.bool qas), .d (.bool qas), .d (.bool qas), .d (.bool qas), .d (.bool qas), .d (.bool qas), .d (.bool qas), .d (.bool qas), .d (.bool qas), .d (.bool qas), .d (.bool qas), .d (.bool qas), .d (.bool qas), .d (.bool qas), .d (.bool qas), .d (.bool qas), .d (.bool qas), .d (.bool qas)])]⟩)

theorem strings_trimRightASCII_ok {qs : List UInt8} {qas : Bool} {r} (hF : strings_trimRightASCII qs qas = some r) : Holds prog 46 [.v (.one (.d (.str qs))), .v (.one (.box 0 0))] ⟨[], [(0, [.d (.bool qas), .d (.bool qas), .d (.bool qas), .d (.bool qas), .d (.bool qas), .d (.bool qas), .d (.bool qas), .d (.bool qas), .d (.bool qas), .d (.bool qas), .d (.bool qas), .d (.bool qas), .d (.bool qas), .d (.bool qas), .d (.bool qas), .d (.bool qas), .d (.bool qas), .d (.bool qas), .d (.bool qas), .d (.bool qas), .d (.bool qas), .d (.bool qas), .d (.bool qas), .d (.bool qas), .d (.bool qas), .d (.bool qas), .d (.bool qas), .d (.bool qas), .d (.bool qas), .d (.bool qas), .d (.bool qas), .d (.bool qas), .d (.bool qas), .d (.bool qas), .d (.bool qas), .d (.bool qas), .d (.bool qas), .d (.bool qas), .d (.bool qas), .d (.bool qas), .d (.bool qas), .d (.bool qas), .d (.bool qas), .d (.bool qas), .d (.bool qas), .d (.bool qas), .d (.bool qas), .d (.bool qas), .d (.bool qas), .d (.bool qas), .d (.bool qas), .d (.bool qas), .d (.bool qas), .d (.bool qas), .d (.bool qas), .d (.bool qas), .d (.bool qas), .d (.bool qas), .d (.bool qas), .d (.bool qas), .d (.bool qas), .d (.bool qas), .d (.bool qas), .d (.bool qas), .d (.bool qas), .d (.bool qas), .d (.bool qas), .d (.bool qas), .d (.bool qas), .d (.bool qas), .d (.bool qas), .d (.bool qas), .d (.bool qas), .d (.bool qas), .d (.bool qas), .d (.bool qas), .d (.bool qas), .d (.bool qas), .d (.bool qas), .d (.bool qas), .d (.bool qas), .d (.bool qas), .d (.bool qas), .d (.bool qas), .d (.bool qas), .d (.bool qas), .d (.bool qas), .d (.bool qas), .d (.bool qas), .d (.bool qas), .d (.bool qas), .d (.bool qas), .d (.bool qas), .d (.bool qas), .d (.bool qas), .d (.bool qas), .d (.bool qas), .d (.bool qas), .d (.bool qas), .d (.bool qas), .d (.bool qas), .d (.bool qas), .d (.bool qas), .d (.bool qas), .d (.bool qas), .d (.bool qas), .d (.bool qas), .d (.bool qas), .d (.bool qas), .d (.bool qas), .d (.bool qas), .d (.bool qas), .d (.bool qas), .d (.bool qas), .d (.bool qas), .d (.bool qas), .d (.bool qas), .d (.bool qas), .d (.bool qas), .d (.bool qas), .d (.bool qas), .d (.bool qas), .d (.bool qas), .d (.bool qas), .d (.bool qas), .d (.bool qas), .d (.bool qas), .d (.bool qas), .d (.bool qas), .d (.bool qas), .d (.bool qas), .d (.bool qas), .d (.bool qas), .d (.bool qas), .d (.bool qas), .d (.bool qas), .d (.bool qas), .d (.bool qas), .d (.bool qas), .d (.bool qas), .d (.bool qas), .d (.bool qas), .d (.bool qas), .d (.bool qas), .d (.bool qas), .d (.bool qas), .d (.bool qas), .d (.bool qas), .d (.bool qas), .d (.bool qas), .d (.bool qas), .d (.bool qas), .d (.bool qas), .d (.bool qas), .d (.bool qas), .d (.bool qas), .d (.bool qas), .d (.bool qas), .d (.bool qas), .d (.bool qas), .d (.bool qas), .d (.bool qas), .d (.bool qas), .d (.bool qas), .d (.bool qas), .d (.bool qas), .d (.bool qas), .d (.bool qas), .d (.bool qas), .d (.bool qas), .d (.bool qas), .d (.bool qas), .d (.bool qas), .d (.bool qas), .d (.bool qas), .d (.bool qas), .d (.bool qas), .d (.bool qas), .d (.bool qas), .d (.bool qas), .d (.bool qas), .d (.bool qas), .d (.bool qas), .d (.bool qas), .d (.bool qas), .d (.bool qas), .d (.bool qas), .d (.bool qas), .d (.bool qas), .d (.bool qas), .d (.bool qas), .d (.bool qas), .d (.bool qas), .d (.bool qas), .d (.bool qas), .d (.bool qas), .d (.bool qas), .d (.bool qas), .d (.bool qas), .d (.bool qas), .d (.bool qas), .d (.bool qas), .d (.bool qas), .d (.bool qas), .d (.bool qas), .d (.bool qas), .d (.bool qas), .d (.bool qas), .d (.bool qas), .d (.bool qas), .d (.bool qas), .d (.bool qas), .d (.bool qas), .d (.bool qas), .d (.bool qas), .d (.bool qas), .d (.bool qas), .d (.bool qas), .d (.bool qas), .d (.bool qas), .d (.bool qas), .d (.bool qas), .d (.bool qas), .d (.bool qas), .d (.bool qas), .d (.bool qas), .d (.bool qas), .d (.bool qas), .d (.bool qas), .d (.bool qas), .d (.bool qas), .d (.bool qas), .d (.bool qas), .d (.bool qas), .d (.bool qas), .d (.bool qas), .d (.bool qas), .d (.bool qas), .d (.bool qas), .d (.bool qas), .d (.bool qas), .d (.bool qas), .d (.bool qas), .d (.bool qas), .d (.bool qas), .d (.bool qas), .d (.bool qas), .d (.bool qas), .d (.bool qas), .d (.bool qas), .d (.bool qas), .d (.bool qas), .d (.bool qas), .d (.bool qas), .d (.bool qas), .d (.bool qas)])]⟩ (Is (strings_trimRightASCII_R qs qas r)) := by
  unfold strings_trimRightASCII at hF
  refine holds_of_awp hΓ (fn := f46) (c := cB f46) (A := 1) (nx := 1) (by kernel_rfl) (by kernel_rfl) (by kernel_rfl) (by kernel_rfl) (by kernel_rfl) (by kernel_rfl) (lowc_of (by kernel_rfl)) ?_
  show Awp prog 1 22 (cB f46) _ _
  refine awp_seq ?_
  refine awp_region ?_
  refine aR 1 ?_
  refine aE ?_
  refine awp_seq ?_
  refine awp_block ?_
  refine awp_to (st' := strings_trimRightASCII_x1_H qs qas ()) (oT [] []) ?_
  refine bE hF fun _ h3 hF => ?_
  refine awp_sub (awp_loop' (strings_trimRightASCII_x1_H qs qas) strings_trimRightASCII_x1_k (strings_trimRightASCII_x1_S qs qas) (by intro x; exact fun h => nomatch h) h3 (strings_trimRightASCII_x1_ok qs qas)) ?_
  refine awp_seq ?_
  refine awp_region ?_
  refine aR 2 ?_
  refine aE ?_
  refine awp_ret ?_
  exact oF hF [] []

/-! ### strings.trimLeftASCII -/
def strings_trimLeftASCII_x1_k : Unit → AEx
  | _ => .exit 0

def strings_trimLeftASCII_x1_S (qs : List UInt8) (qas : Bool) : Unit → St
  | _ => Mem.st ⟨[], [(0, [.d (.bool qas), .d (.bool qas), .d (.bool qas), .d (.bool qas), .d (.bool qas), .d (.bool qas), .d (.bool qas), .d (.bool qas), .d (.bool qas), .d (.bool qas), .d (.bool qas), .d (.bool qas), .d (.bool qas), .d (.bool qas), .d (.bool qas), .d (.bool qas), .d (.bool qas), .d (.bool qas), .d (.bool qas), .d (.bool qas), .d (.bool qas), .d (.bool qas), .d (.bool qas), .d (.bool qas), .d (.bool qas), .d (.bool qas), .d (.bool qas), .d (.bool qas), .d (.bool qas), .d (.bool qas), .d (.bool qas), .d (.bool qas), .d (.bool qas), .d (.bool qas), .d (.bool qas), .d (.bool qas), .d (.bool qas), .d (.bool qas), .d (.bool qas), .d (.bool qas), .d (.bool qas), .d (.bool qas), .d (.bool qas), .d (.bool qas), .d (.bool qas), .d (.bool qas), .d (.bool qas), .d (.bool qas), .d (.bool qas), .d (.bool qas), .d (.bool qas), .d (.bool qas), .d (.bool qas), .d (.bool qas), .d (.bool qas), .d (.bool qas), .d (.bool qas), .d (.bool qas), .d (.bool qas), .d (.bool qas), .d (.bool qas), .d (.bool qas), .d (.bool qas), .d (.bool qas), .d (.bool qas), .d (.bool qas), .d (.bool qas), .d (.bool qas), .d (.bool qas), .d (.bool qas), .d (.bool qas), .d (.bool qas), .d (.bool qas), .d (.bool qas), .d (.bool qas), .d (.bool qas), .d (.bool qas), .d (.bool qas), .d (.bool qas), .d (.bool qas), .d (.bool qas), .d (.bool qas), .d (.bool qas), .d (.bool qas), .d (.bool qas), .d (.bool qas), .d (.bool qas), .d (.bool qas), .d (.bool qas), .d (.bool qas), .d (.bool qas), .d (.bool qas), .d (.bool qas), .d (.bool qas), .d (.bool qas), .d (.bool qas), .d (.bool qas), .d (.bool qas), .d (.bool qas), .d (.bool qas), .d (.bool qas), .d (.bool qas), .d (.bool qas), .d (.bool qas), .d (.bool qas), .d (.bool qas), .d (.bool qas), .d (.bool qas), .d (.bool qas), .d (.bool qas), .d (.bool qas), .d (.bool qas), .d (.bool qas), .d (.bool qas), .d (.bool qas), .d (.bool qas), .d (.bool qas), .d (.bool qas), .d (.bool qas), .d (.bool qas), .d (.bool qas), .d (.bool qas), .d (.bool qas), .d (.bool qas), .d (.bool qas), .d (.bool qas), .d (.bool qas), .d (.bool qas), .d (.bool qas), .d (.bool qas), .d (.bool qas), .d (.bool qas), .d (.bool qas), .d (.bool qas), .d (.bool qas), .d (.bool qas), .d (.bool qas), .d (.bool qas), .d (.bool qas), .d (.bool qas), .d (.bool qas), .d (.bool qas), .d (.bool qas), .d (.bool qas), .d (.bool qas), .d (.bool qas), .d (.bool qas), .d (.bool qas), .d (.bool qas), .d (.bool qas), .d (.bool qas), .d (.bool qas), .d (.bool qas), .d (.bool qas), .d (.bool qas), .d (.bool qas), .d (.bool qas), .d (.bool qas), .d (.bool qas), .d (.bool qas), .d (.bool qas), .d (.bool qas), .d (.bool qas), .d (.bool qas), .d (.bool qas), .d (.bool qas), .d (.bool qas), .d (.bool qas), .d (.bool qas), .d (.bool qas), .d (.bool qas), .d (.bool qas), .d (.bool qas), .d (.bool qas), .d (.bool qas), .d (.bool qas), .d (.bool qas), .d (.bool qas), .d (.bool qas), .d (.bool qas), .d (.bool qas), .d (.bool qas), .d (.bool qas), .d (.bool qas), .d (.bool qas), .d (.bool qas), .d (.bool qas), .d (.bool qas), .d (.bool qas), .d (.bool qas), .d (.bool qas), .d (.bool qas), .d (.bool qas), .d (.bool qas), .d (.bool qas), .d (.bool qas), .d (.bool qas), .d (.bool qas), .d (.bool qas), .d (.bool qas), .d (.bool qas), .d (.bool qas), .d (.bool qas), .d (.bool qas), .d (.bool qas), .d (.bool qas), .d (.bool qas), .d (.bool qas), .d (.bool qas), .d (.bool qas), .d (.bool qas), .d (.bool qas), .d (.bool qas), .d (.bool qas), .d (.bool qas), .d (.bool qas), .d (.bool qas), .d (.bool qas), .d (.bool qas), .d (.bool qas), .d (.bool qas), .d (.bool qas), .d (.bool qas), .d (.bool qas), .d (.bool qas), .d (.bool qas), .d (.bool qas), .d (.bool qas), .d (.bool qas), .d (.bool qas), .d (.bool qas), .d (.bool qas), .d (.bool qas), .d (.bool qas), .d (.bool qas), .d (.bool qas), .d (.bool qas), .d (.bool qas), .d (.bool qas), .d (.bool qas), .d (.bool qas), .d (.bool qas), .d (.bool qas), .d (.bool qas), .d (.bool qas), .d (.bool qas), .d (.bool qas), .d (.bool qas), .d (.bool qas), .d (.bool qas), .d (.bool qas), .d (.bool qas), .d (.bool qas), .d (.bool qas), .d (.bool qas), .d (.bool qas)])]⟩ (tl [(0, .v (.one (.d (.str qs))))]) 1

def strings_trimLeftASCII_x1_H (qs : List UInt8) (qas : Bool) : Unit → St
  | _ => Mem.st ⟨[], [(0, [.d (.bool qas), .d (.bool qas), .d (.bool qas), .d (.bool qas), .d (.bool qas), .d (.bool qas), .d (.bool qas), .d (.bool qas), .d (.bool qas), .d (.bool qas), .d (.bool qas), .d (.bool qas), .d (.bool qas), .d (.bool qas), .d (.bool qas), .d (.bool qas), .d (.bool qas), .d (.bool qas), .d (.bool qas), .d (.bool qas), .d (.bool qas), .d (.bool qas), .d (.bool qas), .d (.bool qas), .d (.bool qas), .d (.bool qas), .d (.bool qas), .d (.bool qas), .d (.bool qas), .d (.bool qas), .d (.bool qas), .d (.bool qas), .d (.bool qas), .d (.bool qas), .d (.bool qas), .d (.bool qas), .d (.bool qas), .d (.bool qas), .d (.bool qas), .d (.bool qas), .d (.bool qas), .d (.bool qas), .d (.bool qas), .d (.bool qas), .d (.bool qas), .d (.bool qas), .d (.bool qas), .d (.bool qas), .d (.bool qas), .d (.bool qas), .d (.bool qas), .d (.bool qas), .d (.bool qas), .d (.bool qas), .d (.bool qas), .d (.bool qas), .d (.bool qas), .d (.bool qas), .d (.bool qas), .d (.bool qas), .d (.bool qas), .d (.bool qas), .d (.bool qas), .d (.bool qas), .d (.bool qas), .d (.bool qas), .d (.bool qas), .d (.bool qas), .d (.bool qas), .d (.bool qas), .d (.bool qas), .d (.bool qas), .d (.bool qas), .d (.bool qas), .d (.bool qas), .d (.bool qas), .d (.bool qas), .d (.bool qas), .d (.bool qas), .d (.bool qas), .d (.bool qas), .d (.bool qas), .d (.bool qas), .d (.bool qas), .d (.bool qas), .d (.bool qas), .d (.bool qas), .d (.bool qas), .d (.bool qas), .d (.bool qas), .d (.bool qas), .d (.bool qas), .d (.bool qas), .d (.bool qas), .d (.bool qas), .d (.bool qas), .d (.bool qas), .d (.bool qas), .d (.bool qas), .d (.bool qas), .d (.bool qas), .d (.bool qas), .d (.bool qas), .d (.bool qas), .d (.bool qas), .d (.bool qas), .d (.bool qas), .d (.bool qas), .d (.bool qas), .d (.bool qas), .d (.bool qas), .d (.bool qas), .d (.bool qas), .d (.bool qas), .d (.bool qas), .d (.bool qas), .d (.bool qas), .d (.bool qas), .d (.bool qas), .d (.bool qas), .d (.bool qas), .d (.bool qas), .d (.bool qas), .d (.bool qas), .d (.bool qas), .d (.bool qas), .d (.bool qas), .d (.bool qas), .d (.bool qas), .d (.bool qas), .d (.bool qas), .d (.bool qas), .d (.bool qas), .d (.bool qas), .d (.bool qas), .d (.bool qas), .d (.bool qas), .d (.bool qas), .d (.bool qas), .d (.bool qas), .d (.bool qas), .d (.bool qas), .d (.bool qas), .d (.bool qas), .d (.bool qas), .d (.bool qas), .d (.bool qas), .d (.bool qas), .d (.bool qas), .d (.bool qas), .d (.bool qas), .d (.bool qas), .d (.bool qas), .d (.bool qas), .d (.bool qas), .d (.bool qas), .d (.bool qas), .d (.bool qas), .d (.bool qas), .d (.bool qas), .d (.bool qas), .d (.bool qas), .d (.bool qas), .d (.bool qas), .d (.bool qas), .d (.bool qas), .d (.bool qas), .d (.bool qas), .d (.bool qas), .d (.bool qas), .d (.bool qas), .d (.bool qas), .d (.bool qas), .d (.bool qas), .d (.bool qas), .d (.bool qas), .d (.bool qas), .d (.bool qas), .d (.bool qas), .d (.bool qas), .d (.bool qas), .d (.bool qas), .d (.bool qas), .d (.bool qas), .d (.bool qas), .d (.bool qas), .d (.bool qas), .d (.bool qas), .d (.bool qas), .d (.bool qas), .d (.bool qas), .d (.bool qas), .d (.bool qas), .d (.bool qas), .d (.bool qas), .d (.bool qas), .d (.bool qas), .d (.bool qas), .d (.bool qas), .d (.bool qas), .d (.bool qas), .d (.bool qas), .d (.bool qas), .d (.bool qas), .d (.bool qas), .d (.bool qas), .d (.bool qas), .d (.bool qas), .d (.bool qas), .d (.bool qas), .d (.bool qas), .d (.bool qas), .d (.bool qas), .d (.bool qas), .d (.bool qas), .d (.bool qas), .d (.bool qas), .d (.bool qas), .d (.bool qas), .d (.bool qas), .d (.bool qas), .d (.bool qas), .d (.bool qas), .d (.bool qas), .d (.bool qas), .d (.bool qas), .d (.bool qas), .d (.bool qas), .d (.bool qas), .d (.bool qas), .d (.bool qas), .d (.bool qas), .d (.bool qas), .d (.bool qas), .d (.bool qas), .d (.bool qas), .d (.bool qas), .d (.bool qas), .d (.bool qas), .d (.bool qas), .d (.bool qas), .d (.bool qas), .d (.bool qas), .d (.bool qas), .d (.bool qas), .d (.bool qas), .d (.bool qas), .d (.bool qas), .d (.bool qas), .d (.bool qas), .d (.bool qas), .d (.bool qas), .d (.bool qas), .d (.bool qas), .d (.bool qas), .d (.bool qas)])]⟩ (tl [(0, .v (.one (.d (.str qs)))), (1, .v (.one (.box 0 0)))]) 1

theorem strings_trimLeftASCII_x1_ok (qs : List UInt8) (qas : Bool) (s : Unit) (r : (Unit) ⊕ (Unit)) (hF : strings_trimLeftASCII_x1 qs s = some r) : Awp prog 1 16 (cL (cL (cL (cR (cB f45))))) (Out 1 (kk strings_trimLeftASCII_x1_k) (SS (strings_trimLeftASCII_x1_H qs qas) (strings_trimLeftASCII_x1_S qs qas)) r) (strings_trimLeftASCII_x1_H qs qas s) := by
  unfold strings_trimLeftASCII_x1 at hF
  refine awp_seq ?_
  refine awp_seq ?_
  refine awp_region ?_
  refine aR 3 ?_
  refine aE ?_
  refine cE hF (fun h1 hF => ?_) fun h1 hF => ?_
  · refine awp_true (by kernel_rfl) h1 ?_
    refine awp_skip ?_
    refine awp_block ?_
    refine awp_seq ?_
    refine awp_seq ?_
    refine bE hF fun vc1 h2 hF => ?_
    exact nE hF
  · refine awp_false (by kernel_rfl) h1 ?_
    refine awp_exit ?_
    exact oO hF [] [] rfl

def strings_trimLeftASCII_R (qs : List UInt8) (qas : Bool) (r : Unit) : TV × Mem := (.v (.one (.d (.str qs))), ⟨[], [(0, [.d (.bool qas), .d (.bool qas), .d (.bool qas), .d (.bool qas), .d (.bool qas), .d (.bool qas), .d (.bool qas), .d (.bool qas), .d (.bool qas), .d (.bool qas), .d (.bool qas), .d (.bool qas), .d (.bool qas), .d (.bool qas), .d (.bool qas), .d (.bool qas), .d (.bool qas), .d (.bool qas), .d (.bool qas), .d (.bool qas), .d (.bool qas), .d (.bool qas), .d (.bool qas), .d (.bool qas), .d (.bool qas), .d (.bool qas), .d (.bool qas), .d (.bool qas), .d (.bool qas), .d (.bool qas), .d (.bool qas), .d (.bool qas), .d (.bool qas), .d (.bool qas), .d (.bool qas), .d (.bool qas), .d (.bool qas), .d (.bool qas), .d (.bool qas), .d (.bool qas), .d (.bool qas), .d (.bool qas), .d (.bool qas), .d (.bool qas), .d (.bool qas), .d (.bool qas), .d (.bool qas), .d (.bool qas), .d (.bool qas), .d (.bool qas), .d (.bool qas), .d (.bool qas), .d (.bool qas), .d (.bool qas), .d (.bool qas), .d (.bool qas), .d (.bool qas), .d (.bool qas), .d (.bool qas), .d (.bool qas), .d (.bool qas), .d (.bool qas), .d (.bool qas), .d (.bool qas), .d (.bool qas), .d (.bool qas), .d (.bool qas), .d (.bool qas), .d (.bool qas), .d (.bool qas), .d (.bool qas), .d (.bool qas), .d (.bool qas), .d (.bool qas), .d (.bool qas), .d (.bool qas), .d (.bool qas), .d (.bool qas), .d (.bool qas), .d (.bool qas), .d (.bool qas), .d (.bool qas), .d (.bool qas), .d (.bool qas), .d (.bool qas), .d (.bool qas), .d (.bool qas), .d (.bool qas), .d (.bool qas), .d (.bool qas), .d (.bool qas), .d (.bool qas), .d (.bool qas), .d (.bool qas), .d (.bool qas), .d (.bool qas), .d (.bool qas), .d (.bool qas), .d (.bool qas), .d (.bool qas), .d (.bool qas), .d (.bool qas), .d (.bool qas), .d (.bool qas), .d (.bool qas), .d (.bool qas), .d (.bool qas), .d (.bool qas), .d (.bool qas), .d (.bool qas), .d (.bool qas), .d (.bool qas), .d (.bool qas), .d (.bool qas), .d (.bool qas), .d (.bool qas), .d (.bool qas), .d (.bool qas), .d (.bool qas), .d (.bool qas), .d (.bool qas), .d (.bool qas), .d (.bool qas), .d (.bool qas), .d (.bool qas), .d (.bool qas), .d (.bool qas), .d (.bool qas), .d (.bool qas), .d (.bool qas), .d (.bool qas), .d (.bool qas), .d (.bool qas), .d (.bool qas), .d (.bool qas), .d (.bool qas), .d (.bool qas), .d (.bool qas), .d (.bool qas), .d (.bool qas), .d (.bool qas), .d (.bool qas), .d (.bool qas), .d (.bool qas), .d (.bool qas), .d (.bool qas), .d (.bool qas), .d (.bool qas), .d (.bool qas), .d (.bool qas), .d (.bool qas), .d (.bool qas), .d (.bool qas), .d (.bool qas), .d (.bool qas), .d (.bool qas), .d (.bool qas), .d (.bool qas), .d (.bool qas), .d (.bool qas), .d (.bool qas), .d (.bool qas), .d (.bool qas), .d (.bool qas), .d (.bool qas), .d (.bool qas), .d (.bool qas), .d (.bool qas), .d (.bool qas), .d (.bool qas), .d (.bool qas), .d (.bool qas), .d (.bool qas), .d (.bool qas), .d (.bool qas), .d (.bool qas), .d (.bool qas), .d (.bool qas), .d (.bool qas), .d (.bool qas), .d (.bool qas), .d (.bool qas), .d (.bool qas), .d (.bool qas), .d (.bool qas), .d (.bool qas), .d (.bool qas), .d (.bool qas), .d (.bool qas), .d (.bool qas), .d (.bool qas), .d (.bool qas), .d (.bool qas), .d (.bool qas), .d (.bool qas), .d (.bool qas), .d (.bool qas), .d (.bool qas), .d (.bool qas), .d (.bool qas), .d (.bool qas), .d (.bool qas), .d (.bool qas), .d (.bool qas), .d (.bool qas), .d (.bool qas), .d (.bool qas), .d (.bool qas), .d (.bool qas), .d (.bool qas), .d (.bool qas), .d (.bool qas), .d (.bool qas), .d (.bool qas), .d (.bool qas), .d (.bool qas), .d (.bool qas), .d (.bool qas), .d (.bool qas), .d (.bool qas), .d (.bool qas), .d (.bool qas), .d (.bool qas), .d (.bool qas), .d (.bool qas), .d (.bool qas), .d (.bool qas), .d (.bool qas), .d (.bool qas), .d (.bool qas), .d (.bool qas), .d (.bool qas), .d (.bool qas), .d (.bool qas), .d (.bool qas), .d (.bool qas), .d (.bool qas), .d (.bool qas), .d (.bool qas), .d (.bool qas), .d (.bool qas), .d (.bool qas), .d (.bool qas), .d (.bool qas), .d (.bool qas), .d (.bool qas), .d (.bool qas), .d (.bool qas), .d (.bool qas), .d (.bool qas), .d (.bool qas), .d (.bool qas), .d (.bool qas), .d (.bool qas), .d (.bool qas), .d (.bool qas)])]⟩)

theorem strings_trimLeftASCII_ok {qs : List UInt8} {qas : Bool} {r} (hF : strings_trimLeftASCII qs qas = some r) : Holds prog 45 [.v (.one (.d (.str qs))), .v (.one (.box 0 0))] ⟨[], [(0, [.d (.bool qas), .d (.bool qas), .d (.bool qas), .d (.bool qas), .d (.bool qas), .d (.bool qas), .d (.bool qas), .d (.bool qas), .d (.bool qas), .d (.bool qas), .d (.bool qas), .d (.bool qas), .d (.bool qas), .d (.bool qas), .d (.bool qas), .d (.bool qas), .d (.bool qas), .d (.bool qas), .d (.bool qas), .d (.bool qas), .d (.bool qas), .d (.bool qas), .d (.bool qas), .d (.bool qas), .d (.bool qas), .d (.bool qas), .d (.bool qas), .d (.bool qas), .d (.bool qas), .d (.bool qas), .d (.bool qas), .d (.bool qas), .d (.bool qas), .d (.bool qas), .d (.bool qas), .d (.bool qas), .d (.bool qas), .d (.bool qas), .d (.bool qas), .d (.bool qas), .d (.bool qas), .d (.bool qas), .d (.bool qas), .d (.bool qas), .d (.bool qas), .d (.bool qas), .d (.bool qas), .d (.bool qas), .d (.bool qas), .d (.bool qas), .d (.bool qas), .d (.bool qas), .d (.bool qas), .d (.bool qas), .d (.bool qas), .d (.bool qas), .d (.bool qas), .d (.bool qas), .d (.bool qas), .d (.bool qas), .d (.bool qas), .d (.bool qas), .d (.bool qas), .d (.bool qas), .d (.bool qas), .d (.bool qas), .d (.bool qas), .d (.bool qas), .d (.bool qas), .d (.bool qas), .d (.bool qas), .d (.bool qas), .d (.bool qas), .d (.bool qas), .d (.bool qas), .d (.bool qas), .d (.bool qas), .d (.bool qas), .d (.bool qas), .d (.bool qas), .d (.bool qas), .d (.bool qas), .d (.bool qas), .d (.bool qas), .d (.bool qas), .d (.bool qas), .d (.bool qas), .d (.bool qas), .d (.bool qas), .d (.bool qas), .d (.bool qas), .d (.bool qas), .d (.bool qas), .d (.bool qas), .d (.bool qas), .d (.bool qas), .d (.bool qas), .d (.bool qas), .d (.bool qas), .d (.bool qas), .d (.bool qas), .d (.bool qas), .d (.bool qas), .d (.bool qas), .d (.bool qas), .d (.bool qas), .d (.bool qas), .d (.bool qas), .d (.bool qas), .d (.bool qas), .d (.bool qas), .d (.bool qas), .d (.bool qas), .d (.bool qas), .d (.bool qas), .d (.bool qas), .d (.bool qas), .d (.bool qas), .d (.bool qas), .d (.bool qas), .d (.bool qas), .d (.bool qas), .d (.bool qas), .d (.bool qas), .d (.bool qas), .d (.bool qas), .d (.bool qas), .d (.bool qas), .d (.bool qas), .d (.bool qas), .d (.bool qas), .d (.bool qas), .d (.bool qas), .d (.bool qas), .d (.bool qas), .d (.bool qas), .d (.bool qas), .d (.bool qas), .d (.bool qas), .d (.bool qas), .d (.bool qas), .d (.bool qas), .d (.bool qas), .d (.bool qas), .d (.bool qas), .d (.bool qas), .d (.bool qas), .d (.bool qas), .d (.bool qas), .d (.bool qas), .d (.bool qas), .d (.bool qas), .d (.bool qas), .d (.bool qas), .d (.bool qas), .d (.bool qas), .d (.bool qas), .d (.bool qas), .d (.bool qas), .d (.bool qas), .d (.bool qas), .d (.bool qas), .d (.bool qas), .d (.bool qas), .d (.bool qas), .d (.bool qas), .d (.bool qas), .d (.bool qas), .d (.bool qas), .d (.bool qas), .d (.bool qas), .d (.bool qas), .d (.bool qas), .d (.bool qas), .d (.bool qas), .d (.bool qas), .d (.bool qas), .d (.bool qas), .d (.bool qas), .d (.bool qas), .d (.bool qas), .d (.bool qas), .d (.bool qas), .d (.bool qas), .d (.bool qas), .d (.bool qas), .d (.bool qas), .d (.bool qas), .d (.bool qas), .d (.bool qas), .d (.bool qas), .d (.bool qas), .d (.bool qas), .d (.bool qas), .d (.bool qas), .d (.bool qas), .d (.bool qas), .d (.bool qas), .d (.bool qas), .d (.bool qas), .d (.bool qas), .d (.bool qas), .d (.bool qas), .d (.bool qas), .d (.bool qas), .d (.bool qas), .d (.bool qas), .d (.bool qas), .d (.bool qas), .d (.bool qas), .d (.bool qas), .d (.bool qas), .d (.bool qas), .d (.bool qas), .d (.bool qas), .d (.bool qas), .d (.bool qas), .d (.bool qas), .d (.bool qas), .d (.bool qas), .d (.bool qas), .d (.bool qas), .d (.bool qas), .d (.bool qas), .d (.bool qas), .d (.bool qas), .d (.bool qas), .d (.bool qas), .d (.bool qas), .d (.bool qas), .d (.bool qas), .d (.bool qas), .d (.bool qas), .d (.bool qas), .d (.bool qas), .d (.bool qas), .d (.bool qas), .d (.bool qas), .d (.bool qas), .d (.bool qas), .d (.bool qas), .d (.bool qas), .d (.bool qas), .d (.bool qas), .d (.bool qas), .d (.bool qas), .d (.bool qas), .d (.bool qas), .d (.bool qas), .d (.bool qas), .d (.bool qas), .d (.bool qas), .d (.bool qas), .d (.bool qas), .d (.bool qas), .d (.bool qas)])]⟩ (Is (strings_trimLeftASCII_R qs qas r)) := by
  unfold strings_trimLeftASCII at hF
  refine holds_of_awp hΓ (fn := f45) (c := cB f45) (A := 1) (nx := 1) (by kernel_rfl) (by kernel_rfl) (by kernel_rfl) (by kernel_rfl) (by kernel_rfl) (by kernel_rfl) (lowc_of (by kernel_rfl)) ?_
  show Awp prog 1 16 (cB f45) _ _
  refine awp_seq ?_
  refine awp_region ?_
  refine aR 1 ?_
  refine aE ?_
  refine awp_seq ?_
  refine awp_block ?_
  refine awp_to (st' := strings_trimLeftASCII_x1_H qs qas ()) (oT [] []) ?_
  refine bE hF fun _ h3 hF => ?_
  refine awp_sub (awp_loop' (strings_trimLeftASCII_x1_H qs qas) strings_trimLeftASCII_x1_k (strings_trimLeftASCII_x1_S qs qas) (by intro x; exact fun h => nomatch h) h3 (strings_trimLeftASCII_x1_ok qs qas)) ?_
  refine awp_seq ?_
  refine awp_region ?_
  refine aR 2 ?_
  refine aE ?_
  refine awp_ret ?_
  exact oF hF [] []

/-! ### unicode/utf8.RuneStart -/
def utf8_RuneStart_R (qb : Int) (r : Unit) : TV × Mem := (.v (.one (.d (.bool (!decide ((ibits .and .u8 qb 192) = 128))))), ⟨[], []⟩)

theorem utf8_RuneStart_ok {qb : Int} {r} (hF : utf8_RuneStart qb = some r) : Holds prog 77 [.v (.one (.d (.int .u8 qb)))] ⟨[], []⟩ (Is (utf8_RuneStart_R qb r)) := by
  unfold utf8_RuneStart at hF
  refine holds_of_awp hΓ (fn := f77) (c := cB f77) (A := 0) (nx := 0) (by kernel_rfl) (by kernel_rfl) (by kernel_rfl) (by kernel_rfl) (by kernel_rfl) (by kernel_rfl) (lowc_of (by kernel_rfl)) ?_
  show Awp prog 0 6 (cB f77) _ _
  refine awp_seq ?_
  refine awp_region ?_
  refine aR 1 ?_
  refine aE ?_
  refine awp_seq ?_
  refine awp_region ?_
  refine aR 4 ?_
  refine aE ?_
  refine awp_ret ?_
  exact oF hF [] []

/-! ### unicode/utf8.decodeRuneInStringSlow -/
def utf8_decodeRuneInStringSlow_R (qx : List UInt8) (r : Unit) : TV × Mem := (.tup [.one (.d (.int .i32 65533)), .one (.d (.int .i64 0))], ⟨[], []⟩)

theorem utf8_decodeRuneInStringSlow_ok {qx : List UInt8} {r} (hF : utf8_decodeRuneInStringSlow qx = some r) : Holds prog 75 [.v (.one (.d (.str qx)))] ⟨[], []⟩ (Is (utf8_decodeRuneInStringSlow_R qx r)) := by
  unfold utf8_decodeRuneInStringSlow at hF
  refine holds_of_awp hΓ (fn := f75) (c := cB f75) (A := 0) (nx := 0) (by kernel_rfl) (by kernel_rfl) (by kernel_rfl) (by kernel_rfl) (by kernel_rfl) (by kernel_rfl) (lowc_of (by kernel_rfl)) ?_
  show Awp prog 0 117 (cB f75) _ _
  refine awp_seq ?_
  refine awp_region ?_
  refine aR 2 ?_
  refine aE ?_
  refine awp_seq ?_
  refine awp_region ?_
  refine aR 3 ?_
  refine aE ?_
  refine awp_seq ?_
  refine awp_seq ?_
  refine awp_region ?_
  refine aR 2 ?_
  refine aE ?_
  refine cE hF (fun h1 hF => ?_) fun h1 hF => ?_
  · refine awp_true (by kernel_rfl) h1 ?_
    refine awp_seq ?_
    refine awp_region ?_
    refine aR 2 ?_
    refine aE ?_
    refine awp_ret ?_
    exact oF hF [] []
  · refine awp_false (by kernel_rfl) h1 ?_
    refine awp_skip ?_
    refine awp_seq ?_
    refine bE hF fun vc h2 hF => ?_
    refine awp_region ?_
    refine aR 1 ?_
    refine aX (x_idxS h2) ?_
    refine aR 1 ?_
    refine aE ?_
    refine awp_seq ?_
    exact nE hF

/-! ### unicode/utf8.DecodeRuneInString -/
def utf8_DecodeRuneInString_x1_k : Bool → AEx
  | _ => .normal

def utf8_DecodeRuneInString_x1_S (qs : List UInt8) : Bool → St
  | vx => Mem.st ⟨[], []⟩ (tl [(0, .v (.one (.d (.str qs)))), (10, .v (.one (.d (.bool vx))))]) 0

def utf8_DecodeRuneInString_x1_I (qs : List UInt8) : St := Mem.st ⟨[], []⟩ (tl [(0, .v (.one (.d (.str qs))))]) 0

theorem utf8_DecodeRuneInString_x1_ok (qs : List UInt8) {r} (hF : utf8_DecodeRuneInString_x1 qs = some r) : Awp prog 0 19 (cL (cL (cR (cB f60)))) (Out 0 utf8_DecodeRuneInString_x1_k (utf8_DecodeRuneInString_x1_S qs) r) (utf8_DecodeRuneInString_x1_I qs) := by
  unfold utf8_DecodeRuneInString_x1 at hF
  refine cE hF (fun h1 hF => ?_) fun h1 hF => ?_
  · refine bE hF fun vc h2 hF => ?_
    refine awp_region ?_
    refine aR 1 ?_
    refine aB h1 ?_
    refine aR 2 ?_
    refine aX (x_idxS h2) ?_
    refine aR 2 ?_
    refine aE ?_
    exact oO hF [] [] rfl
  · refine awp_region ?_
    refine aR 1 ?_
    refine aB h1 ?_
    refine aR 5 ?_
    refine aE ?_
    exact oO hF [] [] rfl

def utf8_DecodeRuneInString_R (qs : List UInt8) (r : Int × Int) : TV × Mem := (.tup [.one (.d (.int .i32 r.1)), .one (.d (.int .i64 r.2))], ⟨[], []⟩)

theorem utf8_DecodeRuneInString_ok {qs : List UInt8} {r} (hF : utf8_DecodeRuneInString qs = some r) : Holds prog 60 [.v (.one (.d (.str qs)))] ⟨[], []⟩ (Is (utf8_DecodeRuneInString_R qs r)) := by
  unfold utf8_DecodeRuneInString at hF
  refine holds_of_awp hΓ (fn := f60) (c := cB f60) (A := 0) (nx := 0) (by kernel_rfl) (by kernel_rfl) (by kernel_rfl) (by kernel_rfl) (by kernel_rfl) (by kernel_rfl) (lowc_of (by kernel_rfl)) ?_
  show Awp prog 0 19 (cB f60) _ _
  refine awp_seq ?_
  refine awp_region ?_
  refine aR 2 ?_
  refine aE ?_
  refine awp_seq ?_
  refine awp_seq ?_
  refine awp_to (st' := utf8_DecodeRuneInString_x1_I qs) (oT [] []) ?_
  refine bE hF fun vx1 h3 hF => ?_
  refine awp_sub (utf8_DecodeRuneInString_x1_ok qs h3) ?_
  refine cE hF (fun h4 hF => ?_) fun h4 hF => ?_
  · refine awp_true (by kernel_rfl) h4 ?_
    refine awp_seq ?_
    refine bE hF fun vc1 h5 hF => ?_
    refine awp_region ?_
    refine aR 1 ?_
    refine aX (x_idxS h5) ?_
    refine aR 3 ?_
    refine aE ?_
    refine awp_ret ?_
    exact oF hF [] []
  · refine awp_false (by kernel_rfl) h4 ?_
    refine bE hF fun _ h6 hF => ?_
    refine awp_region ?_
    refine aR 1 ?_
    refine aC (utf8_decodeRuneInStringSlow_ok h6) [] [] [] ?_
    refine aR 5 ?_
    refine aE ?_
    refine awp_ret ?_
    exact oF hF [] []

/-! ### unicode/utf8.DecodeLastRuneInString -/
def utf8_DecodeLastRuneInString_x1_k : Int → AEx
  | _ => .exit 0

def utf8_DecodeLastRuneInString_x1_S (qs : List UInt8) : Int → St
  | vstart1 => Mem.st ⟨[], []⟩ (tl [(0, .v (.one (.d (.str qs)))), (4, .v (.one (.d (.int .i64 (qs.length : Int))))), (5, .v (.one (.d (.int .i64 vstart1))))]) 0

def utf8_DecodeLastRuneInString_x1_H (qs : List UInt8) : Int → St
  | vstart => Mem.st ⟨[], []⟩ (tl [(0, .v (.one (.d (.str qs)))), (4, .v (.one (.d (.int .i64 (qs.length : Int))))), (5, .v (.one (.d (.int .i64 vstart)))), (6, .v (.one (.d (.int .i64 (imax (IntKind.wrap .i64 ((qs.length : Int) - 4)) 0)))))]) 0

theorem utf8_DecodeLastRuneInString_x1_ok (qs : List UInt8) (vstart : Int) (r : (Int) ⊕ (Int)) (hF : utf8_DecodeLastRuneInString_x1 qs vstart = some r) : Awp prog 0 51 (cL (cL (cR (cL (cR (cR (cR (cR (cR (cR (cR (cB f62)))))))))))) (Out 0 (kk utf8_DecodeLastRuneInString_x1_k) (SS (utf8_DecodeLastRuneInString_x1_H qs) (utf8_DecodeLastRuneInString_x1_S qs)) r) (utf8_DecodeLastRuneInString_x1_H qs vstart) := by
  unfold utf8_DecodeLastRuneInString_x1 at hF
  refine awp_seq ?_
  refine awp_seq ?_
  refine awp_region ?_
  refine aR 3 ?_
  refine aE ?_
  refine cE hF (fun h4 hF => ?_) fun h4 hF => ?_
  · refine awp_true (by kernel_rfl) h4 ?_
    refine awp_skip ?_
    refine awp_seq ?_
    refine awp_block ?_
    refine awp_seq ?_
    refine bE hF fun vc2 h5 hF => ?_
    refine bE hF fun _ h6 hF => ?_
    refine awp_region ?_
    refine aR 2 ?_
    refine aX (x_idxS h5) ?_
    refine aC (utf8_RuneStart_ok h6) [] [] [] ?_
    refine aE ?_
    refine cE hF (fun h7 hF => ?_) fun h7 hF => ?_
    · refine awp_true (by kernel_rfl) h7 ?_
      refine awp_exit ?_
      exact oO hF [] [] rfl
    · refine awp_false (by kernel_rfl) h7 ?_
      refine awp_skip ?_
      refine awp_region ?_
      refine aR 3 ?_
      refine aE ?_
      exact oO hF [] [] rfl
  · refine awp_false (by kernel_rfl) h4 ?_
    refine awp_exit ?_
    exact oO hF [] [] rfl

def utf8_DecodeLastRuneInString_x2_k : Int → AEx
  | _ => .normal

def utf8_DecodeLastRuneInString_x2_S (qs : List UInt8) (vstart1_1 : Int) : Int → St
  | vstart2 => Mem.st ⟨[], []⟩ (tl [(0, .v (.one (.d (.str qs)))), (4, .v (.one (.d (.int .i64 (qs.length : Int))))), (5, .v (.one (.d (.int .i64 vstart2))))]) 0

def utf8_DecodeLastRuneInString_x2_I (qs : List UInt8) (vstart1_1 : Int) : St := Mem.st ⟨[], []⟩ (tl [(0, .v (.one (.d (.str qs)))), (4, .v (.one (.d (.int .i64 (qs.length : Int))))), (5, .v (.one (.d (.int .i64 vstart1_1))))]) 0

theorem utf8_DecodeLastRuneInString_x2_ok (qs : List UInt8) (vstart1_1 : Int) {r} (hF : utf8_DecodeLastRuneInString_x2 vstart1_1 = some r) : Awp prog 0 51 (cL (cR (cR (cR (cR (cR (cR (cR (cR (cB f62)))))))))) (Out 0 utf8_DecodeLastRuneInString_x2_k (utf8_DecodeLastRuneInString_x2_S qs vstart1_1) r) (utf8_DecodeLastRuneInString_x2_I qs vstart1_1) := by
  unfold utf8_DecodeLastRuneInString_x2 at hF
  refine awp_seq ?_
  refine awp_region ?_
  refine aR 2 ?_
  refine aE ?_
  refine cE hF (fun h9 hF => ?_) fun h9 hF => ?_
  · refine awp_true (by kernel_rfl) h9 ?_
    refine awp_region ?_
    refine aR 1 ?_
    refine aE ?_
    exact oO hF [] [] rfl
  · refine awp_false (by kernel_rfl) h9 ?_
    refine awp_skip ?_
    exact oO hF [] [] rfl

def utf8_DecodeLastRuneInString_R (qs : List UInt8) (r : Int × Int) : TV × Mem := (.tup [.one (.d (.int .i32 r.1)), .one (.d (.int .i64 r.2))], ⟨[], []⟩)

theorem utf8_DecodeLastRuneInString_ok {qs : List UInt8} {r} (hF : utf8_DecodeLastRuneInString qs = some r) : Holds prog 62 [.v (.one (.d (.str qs)))] ⟨[], []⟩ (Is (utf8_DecodeLastRuneInString_R qs r)) := by
  unfold utf8_DecodeLastRuneInString at hF
  refine holds_of_awp hΓ (fn := f62) (c := cB f62) (A := 0) (nx := 0) (by kernel_rfl) (by kernel_rfl) (by kernel_rfl) (by kernel_rfl) (by kernel_rfl) (by kernel_rfl) (lowc_of (by kernel_rfl)) ?_
  show Awp prog 0 51 (cB f62) _ _
  refine awp_seq ?_
  refine awp_region ?_
  refine aR 2 ?_
  refine aE ?_
  refine awp_seq ?_
  refine awp_region ?_
  refine aR 3 ?_
  refine aE ?_
  refine awp_seq ?_
  refine awp_seq ?_
  refine awp_region ?_
  refine aR 2 ?_
  refine aE ?_
  refine cE hF (fun h1 hF => ?_) fun h1 hF => ?_
  · refine awp_true (by kernel_rfl) h1 ?_
    refine awp_seq ?_
    refine awp_region ?_
    refine aR 2 ?_
    refine aE ?_
    refine awp_ret ?_
    exact oF hF [] []
  · refine awp_false (by kernel_rfl) h1 ?_
    refine awp_skip ?_
    refine awp_seq ?_
    refine awp_region ?_
    refine aR 3 ?_
    refine aE ?_
    refine awp_seq ?_
    refine bE hF fun vc h2 hF => ?_
    refine awp_region ?_
    refine aR 2 ?_
    refine aX (x_idxS h2) ?_
    refine aR 2 ?_
    refine aE ?_
    refine awp_seq ?_
    refine awp_seq ?_
    refine awp_region ?_
    refine aR 2 ?_
    refine aE ?_
    refine cE hF (fun h3 hF => ?_) fun h3 hF => ?_
    · refine awp_true (by kernel_rfl) h3 ?_
      refine awp_seq ?_
      refine awp_region ?_
      refine aR 3 ?_
      refine aE ?_
      refine awp_ret ?_
      exact oF hF [] []
    · refine awp_false (by kernel_rfl) h3 ?_
      refine awp_skip ?_
      refine awp_seq ?_
      refine awp_region ?_
      refine aR 4 ?_
      refine aE ?_
      refine awp_seq ?_
      refine awp_seq ?_
      refine awp_region ?_
      refine aR 3 ?_
      refine aE ?_
      refine awp_block ?_
      refine awp_to (st' := utf8_DecodeLastRuneInString_x1_H qs (IntKind.wrap .i64 ((IntKind.wrap .i64 ((qs.length : Int) - 1)) - 1))) (oT [] []) ?_
      refine bE hF fun vstart1_1 h8 hF => ?_
      refine awp_sub (awp_loop' (utf8_DecodeLastRuneInString_x1_H qs) utf8_DecodeLastRuneInString_x1_k (utf8_DecodeLastRuneInString_x1_S qs) (by intro x; exact fun h => nomatch h) h8 (utf8_DecodeLastRuneInString_x1_ok qs)) ?_
      refine awp_seq ?_
      refine awp_to (st' := utf8_DecodeLastRuneInString_x2_I qs vstart1_1) (oT [] []) ?_
      refine bE hF fun vstart2_1 h10 hF => ?_
      refine awp_sub (utf8_DecodeLastRuneInString_x2_ok qs vstart1_1 h10) ?_
      refine awp_seq ?_
      refine bE hF fun vs h11 hF => ?_
      refine bE hF fun x h12 hF => ?_
      obtain ⟨vr, vr1⟩ := x
      refine awp_region ?_
      refine aR 3 ?_
      refine aX (x_sliceS h11) ?_
      refine aC (utf8_DecodeRuneInString_ok h12) [] [] [] ?_
      refine aR 5 ?_
      refine aE ?_
      refine awp_seq ?_
      refine awp_seq ?_
      refine awp_region ?_
      refine aR 5 ?_
      refine aE ?_
      refine cE hF (fun h13 hF => ?_) fun h13 hF => ?_
      · refine awp_true (by kernel_rfl) h13 ?_
        refine awp_seq ?_
        refine awp_region ?_
        refine aR 2 ?_
        refine aE ?_
        refine awp_ret ?_
        exact oF hF [] []
      · refine awp_false (by kernel_rfl) h13 ?_
        refine awp_skip ?_
        refine awp_seq ?_
        refine awp_region ?_
        refine aR 4 ?_
        refine aE ?_
        refine awp_ret ?_
        exact oF hF [] []

/-! ### strings.trimRightUnicode -/
def strings_trimRightUnicode_x2_k : (Int × Int) → AEx
  | _ => .normal

def strings_trimRightUnicode_x2_S (qs : List UInt8) (qcutset : List UInt8) (vc1 : UInt8) : (Int × Int) → St
  | (vr4, vn2) => Mem.st ⟨[], []⟩ (tl [(0, .v (.one (.d (.str qs)))), (1, .v (.one (.d (.str qcutset)))), (5, .v (.one (.d (.int .i32 vr4)))), (6, .v (.one (.d (.int .i64 vn2))))]) 0

def strings_trimRightUnicode_x2_I (qs : List UInt8) (qcutset : List UInt8) (vc1 : UInt8) : St := Mem.st ⟨[], []⟩ (tl [(0, .v (.one (.d (.str qs)))), (1, .v (.one (.d (.str qcutset)))), (5, .v (.one (.d (.int .i32 (IntKind.wrap .i32 ((vc1.toNat : Int))))))), (6, .v (.one (.d (.int .i64 1))))]) 0

theorem strings_trimRightUnicode_x2_ok (qs : List UInt8) (qcutset : List UInt8) (vc1 : UInt8) {r} (hF : strings_trimRightUnicode_x2 qs vc1 = some r) : Awp prog 0 34 (cL (cR (cL (cR (cL (cL (cL (cR (cB f48))))))))) (Out 0 strings_trimRightUnicode_x2_k (strings_trimRightUnicode_x2_S qs qcutset vc1) r) (strings_trimRightUnicode_x2_I qs qcutset vc1) := by
  unfold strings_trimRightUnicode_x2 at hF
  refine awp_seq ?_
  refine awp_region ?_
  refine aR 2 ?_
  refine aE ?_
  refine cE hF (fun h3 hF => ?_) fun h3 hF => ?_
  · refine awp_true (by kernel_rfl) h3 ?_
    refine bE hF fun x h4 hF => ?_
    obtain ⟨vr2_1, vr3_1⟩ := x
    refine awp_region ?_
    refine aR 1 ?_
    refine aC (utf8_DecodeLastRuneInString_ok h4) [] [] [] ?_
    refine aR 5 ?_
    refine aE ?_
    exact oO hF [] [] rfl
  · refine awp_false (by kernel_rfl) h3 ?_
    refine awp_skip ?_
    exact oO hF [] [] rfl

def strings_trimRightUnicode_x1_k : Unit → AEx
  | _ => .exit 0

def strings_trimRightUnicode_x1_S (qs : List UInt8) (qcutset : List UInt8) : Unit → St
  | _ => Mem.st ⟨[], []⟩ (tl [(0, .v (.one (.d (.str qs))))]) 0

def strings_trimRightUnicode_x1_H (qs : List UInt8) (qcutset : List UInt8) : Unit → St
  | _ => Mem.st ⟨[], []⟩ (tl [(0, .v (.one (.d (.str qs)))), (1, .v (.one (.d (.str qcutset))))]) 0

theorem strings_trimRightUnicode_x1_ok (qs : List UInt8) (qcutset : List UInt8) (s : Unit) (r : (Unit) ⊕ (Unit)) (hF : strings_trimRightUnicode_x1 qs s = some r) : Awp prog 0 34 (cL (cL (cL (cR (cB f48))))) (Out 0 (kk strings_trimRightUnicode_x1_k) (SS (strings_trimRightUnicode_x1_H qs qcutset) (strings_trimRightUnicode_x1_S qs qcutset)) r) (strings_trimRightUnicode_x1_H qs qcutset s) := by
  unfold strings_trimRightUnicode_x1 at hF
  refine awp_seq ?_
  refine awp_seq ?_
  refine awp_region ?_
  refine aR 3 ?_
  refine aE ?_
  refine cE hF (fun h1 hF => ?_) fun h1 hF => ?_
  · refine awp_true (by kernel_rfl) h1 ?_
    refine awp_skip ?_
    refine awp_block ?_
    refine awp_seq ?_
    refine bE hF fun vc1 h2 hF => ?_
    refine awp_region ?_
    refine aR 4 ?_
    refine aX (x_idxS h2) ?_
    refine aR 3 ?_
    refine aE ?_
    refine awp_seq ?_
    refine awp_to (st' := strings_trimRightUnicode_x2_I qs qcutset vc1) (oT [] []) ?_
    refine bE hF fun x h5 hF => ?_
    obtain ⟨vr4_1, vn2_1⟩ := x
    refine awp_sub (strings_trimRightUnicode_x2_ok qs qcutset vc1 h5) ?_
    refine awp_seq ?_
    refine awp_seq ?_
    exact nE hF
  · refine awp_false (by kernel_rfl) h1 ?_
    refine awp_exit ?_
    exact oO hF [] [] rfl

def strings_trimRightUnicode_R (qs : List UInt8) (qcutset : List UInt8) (r : Unit) : TV × Mem := (.v (.one (.d (.str qs))), ⟨[], []⟩)

theorem strings_trimRightUnicode_ok {qs : List UInt8} {qcutset : List UInt8} {r} (hF : strings_trimRightUnicode qs qcutset = some r) : Holds prog 48 [.v (.one (.d (.str qs))), .v (.one (.d (.str qcutset)))] ⟨[], []⟩ (Is (strings_trimRightUnicode_R qs qcutset r)) := by
  unfold strings_trimRightUnicode at hF
  refine holds_of_awp hΓ (fn := f48) (c := cB f48) (A := 0) (nx := 0) (by kernel_rfl) (by kernel_rfl) (by kernel_rfl) (by kernel_rfl) (by kernel_rfl) (by kernel_rfl) (lowc_of (by kernel_rfl)) ?_
  show Awp prog 0 34 (cB f48) _ _
  refine awp_seq ?_
  refine awp_region ?_
  refine aR 1 ?_
  refine aE ?_
  refine awp_seq ?_
  refine awp_block ?_
  refine awp_to (st' := strings_trimRightUnicode_x1_H qs qcutset ()) (oT [] []) ?_
  refine bE hF fun _ h6 hF => ?_
  refine awp_sub (awp_loop' (strings_trimRightUnicode_x1_H qs qcutset) strings_trimRightUnicode_x1_k (strings_trimRightUnicode_x1_S qs qcutset) (by intro x; exact fun h => nomatch h) h6 (strings_trimRightUnicode_x1_ok qs qcutset)) ?_
  refine awp_seq ?_
  refine awp_region ?_
  refine aR 2 ?_
  refine aE ?_
  refine awp_ret ?_
  exact oF hF [] []

/-! ### strings.trimLeftUnicode -/
def strings_trimLeftUnicode_x1_k : Unit → AEx
  | _ => .exit 0

def strings_trimLeftUnicode_x1_S (qs : List UInt8) (qcutset : List UInt8) : Unit → St
  | _ => Mem.st ⟨[], []⟩ (tl [(0, .v (.one (.d (.str qs))))]) 0

def strings_trimLeftUnicode_x1_H (qs : List UInt8) (qcutset : List UInt8) : Unit → St
  | _ => Mem.st ⟨[], []⟩ (tl [(0, .v (.one (.d (.str qs)))), (1, .v (.one (.d (.str qcutset))))]) 0

theorem strings_trimLeftUnicode_x1_ok (qs : List UInt8) (qcutset : List UInt8) (s : Unit) (r : (Unit) ⊕ (Unit)) (hF : strings_trimLeftUnicode_x1 qs s = some r) : Awp prog 0 23 (cL (cL (cL (cR (cB f47))))) (Out 0 (kk strings_trimLeftUnicode_x1_k) (SS (strings_trimLeftUnicode_x1_H qs qcutset) (strings_trimLeftUnicode_x1_S qs qcutset)) r) (strings_trimLeftUnicode_x1_H qs qcutset s) := by
  unfold strings_trimLeftUnicode_x1 at hF
  refine awp_seq ?_
  refine awp_seq ?_
  refine awp_region ?_
  refine aR 3 ?_
  refine aE ?_
  refine cE hF (fun h1 hF => ?_) fun h1 hF => ?_
  · refine awp_true (by kernel_rfl) h1 ?_
    refine awp_skip ?_
    refine awp_block ?_
    refine awp_seq ?_
    refine bE hF fun x h2 hF => ?_
    obtain ⟨vr2, vr1_1⟩ := x
    refine awp_region ?_
    refine aR 1 ?_
    refine aC (utf8_DecodeRuneInString_ok h2) [] [] [] ?_
    refine aR 5 ?_
    refine aE ?_
    refine awp_seq ?_
    refine awp_seq ?_
    exact nE hF
  · refine awp_false (by kernel_rfl) h1 ?_
    refine awp_exit ?_
    exact oO hF [] [] rfl

def strings_trimLeftUnicode_R (qs : List UInt8) (qcutset : List UInt8) (r : Unit) : TV × Mem := (.v (.one (.d (.str qs))), ⟨[], []⟩)

theorem strings_trimLeftUnicode_ok {qs : List UInt8} {qcutset : List UInt8} {r} (hF : strings_trimLeftUnicode qs qcutset = some r) : Holds prog 47 [.v (.one (.d (.str qs))), .v (.one (.d (.str qcutset)))] ⟨[], []⟩ (Is (strings_trimLeftUnicode_R qs qcutset r)) := by
  unfold strings_trimLeftUnicode at hF
  refine holds_of_awp hΓ (fn := f47) (c := cB f47) (A := 0) (nx := 0) (by kernel_rfl) (by kernel_rfl) (by kernel_rfl) (by kernel_rfl) (by kernel_rfl) (by kernel_rfl) (lowc_of (by kernel_rfl)) ?_
  show Awp prog 0 23 (cB f47) _ _
  refine awp_seq ?_
  refine awp_region ?_
  refine aR 1 ?_
  refine aE ?_
  refine awp_seq ?_
  refine awp_block ?_
  refine awp_to (st' := strings_trimLeftUnicode_x1_H qs qcutset ()) (oT [] []) ?_
  refine bE hF fun _ h3 hF => ?_
  refine awp_sub (awp_loop' (strings_trimLeftUnicode_x1_H qs qcutset) strings_trimLeftUnicode_x1_k (strings_trimLeftUnicode_x1_S qs qcutset) (by intro x; exact fun h => nomatch h) h3 (strings_trimLeftUnicode_x1_ok qs qcutset)) ?_
  refine awp_seq ?_
  refine awp_region ?_
  refine aR 2 ?_
  refine aE ?_
  refine awp_ret ?_
  exact oF hF [] []

/-! ### strings.Trim -/
def strings_Trim_x1_k : Bool → AEx
  | _ => .normal

def strings_Trim_x1_S (qs : List UInt8) (qcutset : List UInt8) : Bool → St
  | vx => Mem.st ⟨[], []⟩ (tl [(0, .v (.one (.d (.str qs)))), (1, .v (.one (.d (.str qcutset)))), (12, .v (.one (.d (.bool vx))))]) 0

def strings_Trim_x1_I (qs : List UInt8) (qcutset : List UInt8) : St := Mem.st ⟨[], []⟩ (tl [(0, .v (.one (.d (.str qs)))), (1, .v (.one (.d (.str qcutset))))]) 0

theorem strings_Trim_x1_ok (qs : List UInt8) (qcutset : List UInt8) {r} (hF : strings_Trim_x1 qs qcutset = some r) : Awp prog 0 43 (cL (cL (cR (cB f31)))) (Out 0 strings_Trim_x1_k (strings_Trim_x1_S qs qcutset) r) (strings_Trim_x1_I qs qcutset) := by
  unfold strings_Trim_x1 at hF
  refine cE hF (fun h1 hF => ?_) fun h1 hF => ?_
  · refine awp_region ?_
    refine aR 1 ?_
    refine aB h1 ?_
    refine aR 4 ?_
    refine aE ?_
    exact oO hF [] [] rfl
  · refine awp_region ?_
    refine aR 1 ?_
    refine aB h1 ?_
    refine aR 4 ?_
    refine aE ?_
    exact oO hF [] [] rfl

def strings_Trim_x2_k : Bool → AEx
  | _ => .normal

def strings_Trim_x2_S (qs : List UInt8) (qcutset : List UInt8) : Bool → St
  | vx2 => Mem.st ⟨[], []⟩ (tl [(0, .v (.one (.d (.str qs)))), (1, .v (.one (.d (.str qcutset)))), (21, .v (.one (.d (.bool vx2))))]) 0

def strings_Trim_x2_I (qs : List UInt8) (qcutset : List UInt8) : St := Mem.st ⟨[], []⟩ (tl [(0, .v (.one (.d (.str qs)))), (1, .v (.one (.d (.str qcutset))))]) 0

theorem strings_Trim_x2_ok (qs : List UInt8) (qcutset : List UInt8) {r} (hF : strings_Trim_x2 qcutset = some r) : Awp prog 0 43 (cL (cL (cR (cR (cB f31))))) (Out 0 strings_Trim_x2_k (strings_Trim_x2_S qs qcutset) r) (strings_Trim_x2_I qs qcutset) := by
  unfold strings_Trim_x2 at hF
  refine cE hF (fun h4 hF => ?_) fun h4 hF => ?_
  · refine bE hF fun vc h5 hF => ?_
    refine awp_region ?_
    refine aR 2 ?_
    refine aB h4 ?_
    refine aR 2 ?_
    refine aX (x_idxS h5) ?_
    refine aR 2 ?_
    refine aE ?_
    exact oO hF [] [] rfl
  · refine awp_region ?_
    refine aR 2 ?_
    refine aB h4 ?_
    refine aR 5 ?_
    refine aE ?_
    exact oO hF [] [] rfl

def strings_Trim_R (qs : List UInt8) (qcutset : List UInt8) (r : (List UInt8)) : TV × Mem := (.v (.one (.d (.str r))), ⟨[], []⟩)

theorem strings_Trim_ok {qs : List UInt8} {qcutset : List UInt8} {r} (hF : strings_Trim qs qcutset = some r) : Holds prog 31 [.v (.one (.d (.str qs))), .v (.one (.d (.str qcutset)))] ⟨[], []⟩ (Is (strings_Trim_R qs qcutset r)) := by
  unfold strings_Trim at hF
  refine holds_of_awp hΓ (fn := f31) (c := cB f31) (A := 0) (nx := 0) (by kernel_rfl) (by kernel_rfl) (by kernel_rfl) (by kernel_rfl) (by kernel_rfl) (by kernel_rfl) (lowc_of (by kernel_rfl)) ?_
  show Awp prog 0 43 (cB f31) _ _
  refine awp_seq ?_
  refine awp_region ?_
  refine aR 1 ?_
  refine aE ?_
  refine awp_seq ?_
  refine awp_seq ?_
  refine awp_to (st' := strings_Trim_x1_I qs qcutset) (oT [] []) ?_
  refine bE hF fun vx1 h2 hF => ?_
  refine awp_sub (strings_Trim_x1_ok qs qcutset h2) ?_
  refine cE hF (fun h3 hF => ?_) fun h3 hF => ?_
  · refine awp_true (by kernel_rfl) h3 ?_
    refine awp_seq ?_
    refine awp_region ?_
    refine aR 2 ?_
    refine aE ?_
    refine awp_ret ?_
    exact oF hF [] []
  · refine awp_false (by kernel_rfl) h3 ?_
    refine awp_skip ?_
    refine awp_seq ?_
    refine awp_seq ?_
    refine awp_to (st' := strings_Trim_x2_I qs qcutset) (oT [] []) ?_
    refine bE hF fun vx2_1 h6 hF => ?_
    refine awp_sub (strings_Trim_x2_ok qs qcutset h6) ?_
    refine cE hF (fun h7 hF => ?_) fun h7 hF => ?_
    · refine awp_true (by kernel_rfl) h7 ?_
      refine awp_seq ?_
      refine bE hF fun vc1 h8 hF => ?_
      refine bE hF fun vr h9 hF => ?_
      refine bE hF fun vr1 h10 hF => ?_
      refine aD ?_
      refine dR 2 ?_
      refine dX (x_idxS h8) ?_
      refine dC (strings_trimRightByte_ok h9) [] [] [] ?_
      refine dR 1 ?_
      refine dX (x_idxS h8) ?_
      refine dC (strings_trimLeftByte_ok h10) [] [] [] ?_
      refine dR 1 ?_
      refine dE ?_
      refine awp_ret ?_
      exact oF hF [] []
    · refine awp_false (by kernel_rfl) h7 ?_
      refine awp_skip ?_
      refine awp_seq ?_
      refine awp_seq ?_
      refine bE hF fun vr2 h11 hF => ?_
      refine awp_region ?_
      refine aR 1 ?_
      refine aC (strings_makeASCIISet_ok h11) [] [] [] ?_
      refine aR 6 ?_
      refine aE ?_
      refine awp_seq ?_
      refine awp_region ?_
      refine aR 1 ?_
      refine aE ?_
      refine cE hF (fun h12 hF => ?_) fun h12 hF => ?_
      · refine awp_true (by kernel_rfl) h12 ?_
        refine awp_seq ?_
        refine bE hF fun _ h13 hF => ?_
        refine bE hF fun _ h14 hF => ?_
        refine awp_region ?_
        refine aR 1 ?_
        refine aC (strings_trimRightASCII_ok h13) [(0, 5000)] [] [] ?_
        refine aC (strings_trimLeftASCII_ok h14) [(0, 5000)] [] [] ?_
        refine aR 1 ?_
        refine aE ?_
        refine awp_ret ?_
        exact oF hF [] []
      · refine awp_false (by kernel_rfl) h12 ?_
        refine awp_skip ?_
        refine awp_seq ?_
        refine bE hF fun _ h15 hF => ?_
        refine bE hF fun _ h16 hF => ?_
        refine awp_region ?_
        refine aR 2 ?_
        refine aC (strings_trimRightUnicode_ok h15) [] [] [] ?_
        refine aR 1 ?_
        refine aC (strings_trimLeftUnicode_ok h16) [] [] [] ?_
        refine aR 1 ?_
        refine aE ?_
        refine awp_ret ?_
        exact oF hF [] []

/-! ### strings.Trim -/
def strings_Trim_l_R (qs : List UInt8) (qcutset : List UInt8) (r : List UInt8) : TV × Mem := (.v (.one (.d (.str r))), ⟨[], []⟩)

theorem strings_Trim_l_ok {qs : List UInt8} {qcutset : List UInt8} {r} (hF : strings_Trim_l qs qcutset = some r) : Holds prog 31 [.v (.one (.d (.str qs))), .v (.one (.d (.str qcutset)))] ⟨[], []⟩ (Is (strings_Trim_l_R qs qcutset r)) := by
  unfold strings_Trim_l at hF
  refine cE hF (fun h0 hF => ?_) fun h0 hF => ?_
  · exact strings_Trim_ok hF
  refine gE hF fun h1 hF => ?_
  obtain rfl := Option.some.inj hF
  have h2 : (((2 ≤ qcutset.length ∧ 0 < qs.length) ∧ qs.length ≤ 9223372036854775807) ∧ qcutset.length < 4294967281) ∧ (qcutset.all fun b => decide (b.toNat < 128)) = true := by simpa using h1
  refine holds_lib (args := [.str qs, .str qcutset]) (tv := .c (.d (.str (Lib.trimS qs qcutset)))) ⟨_, cB Go.Proofs.Tryd.f31, Go.Proofs.Tryd.func31, by kernel_rfl, by kernel_rfl⟩ rfl rfl fun w ht => ?_
  refine (Go.Proofs.Any.strings_Trim_set Go.Proofs.Tryd.lays160 (fun _ => by kernel_rfl) (by kernel_rfl) ⟨qs.toArray⟩ ⟨qcutset.toArray⟩ w (by simpa [ByteArray.size] using h2.1.1.1.1) (by simpa [ByteArray.size] using h2.1.1.1.2) (by simpa [ByteArray.size] using h2.1.1.2) (by simpa [ByteArray.size] using h2.1.2) (fun j b hj => by simpa using List.all_eq_true.1 h2.2 b (List.mem_of_getElem? (by simpa using hj)))).mono ?_
  rintro e w' ⟨rfl, k, rfl⟩
  exact ⟨rfl, Go.below_drewN (((Go.RowKit.Below.refl _ _).alloc (Nat.le_refl _) _).alloc (by show w.heap.size ≤ (w.heap.push _).size; simp) _) _⟩

/-! ### beaconfleet/place.cellBox -/
def place_cellBox_x1_k : (api_Spot × Int) → AEx
  | _ => .exit 0

def place_cellBox_x1_S (qkey : List UInt8) : (api_Spot × Int) → St
  | (vs1, vlong1) => Mem.st ⟨[], [(0, [.d (.int .i64 0), .d (.int .i64 0)]), (1, [.d (.int .i64 vs1.X), .d (.int .i64 vs1.Y)])]⟩ (tl [(2, .v (.one (.box 0 0))), (4, .v (.one (.box 1 0))), (5, .v (.one (.d (.int .i64 vlong1))))]) 2

def place_cellBox_x1_H (qkey : List UInt8) : api_Spot × Int × Int → St
  | (vs, vlong, vx) => Mem.st ⟨[], [(0, [.d (.int .i64 0), .d (.int .i64 0)]), (1, [.d (.int .i64 vs.X), .d (.int .i64 vs.Y)])]⟩ (tl [(0, .v (.one (.d (.str qkey)))), (2, .v (.one (.box 0 0))), (4, .v (.one (.box 1 0))), (5, .v (.one (.d (.int .i64 vlong)))), (9, .v (.one (.d (.int .i64 (qkey.length : Int))))), (10, .v (.one (.d (.int .i64 vx))))]) 2

theorem place_cellBox_x1_ok (qkey : List UInt8) (s : api_Spot × Int × Int) (r : (api_Spot × Int × Int) ⊕ ((api_Spot × Int))) (hF : place_cellBox_x1 qkey s = some r) : Awp prog 0 42 (cL (cL (cR (cL (cR (cR (cB f32))))))) (Out 0 (kk place_cellBox_x1_k) (SS (place_cellBox_x1_H qkey) (place_cellBox_x1_S qkey)) r) (place_cellBox_x1_H qkey s) := by
  obtain ⟨vs, vlong, vx⟩ := s
  unfold place_cellBox_x1 at hF
  refine awp_seq ?_
  refine awp_region ?_
  refine aR 1 ?_
  refine aE ?_
  refine awp_seq ?_
  refine cE hF (fun h1 hF => ?_) fun h1 hF => ?_
  · refine awp_true (by kernel_rfl) h1 ?_
    refine awp_skip ?_
    refine awp_seq ?_
    refine awp_block ?_
    refine awp_seq ?_
    refine awp_region ?_
    refine aR 2 ?_
    refine aE ?_
    refine awp_seq ?_
    refine awp_region ?_
    refine aR 3 ?_
    refine aE ?_
    refine awp_seq ?_
    refine bE hF fun vc1 h2 hF => ?_
    refine aD ?_
    refine dR 4 ?_
    refine dX (x_idxS h2) ?_
    refine dR 8 ?_
    refine dE ?_
    refine aD ?_
    refine dR 4 ?_
    refine dX (x_idxS h2) ?_
    refine dR 8 ?_
    refine dE ?_
    refine awp_region ?_
    refine aR 2 ?_
    refine aE ?_
    exact oO hF [] [] rfl
  · refine awp_false (by kernel_rfl) h1 ?_
    refine awp_exit ?_
    exact oO hF [] [] rfl

def place_cellBox_R (qkey : List UInt8) (r : api_Spot × Int) : TV × Mem := (.tup [.agg [.d (.int .i64 r.1.X), .d (.int .i64 r.1.Y)], .one (.d (.int .i64 r.2))], ⟨[], []⟩)

theorem place_cellBox_ok {qkey : List UInt8} {r} (hF : place_cellBox qkey = some r) : Holds prog 32 [.v (.one (.d (.str qkey)))] ⟨[], []⟩ (Is (place_cellBox_R qkey r)) := by
  unfold place_cellBox at hF
  refine holds_of_awp hΓ (fn := f32) (c := cB f32) (A := 0) (nx := 0) (by kernel_rfl) (by kernel_rfl) (by kernel_rfl) (by kernel_rfl) (by kernel_rfl) (by kernel_rfl) (lowc_of (by kernel_rfl)) ?_
  show Awp prog 0 42 (cB f32) _ _
  refine awp_seq ?_
  refine awp_region ?_
  refine aR 2 ?_
  refine aE ?_
  refine awp_seq ?_
  refine awp_region ?_
  refine aR 4 ?_
  refine aE ?_
  refine awp_seq ?_
  refine awp_seq ?_
  refine awp_region ?_
  refine aR 3 ?_
  refine aE ?_
  refine awp_block ?_
  refine awp_to (st' := place_cellBox_x1_H qkey (api_Spot.mk (-16384) (-16384), 32768, 0)) (oT [(1, 3000)] []) ?_
  refine bE hF fun x h3 hF => ?_
  obtain ⟨vs1_1, vlong1_1⟩ := x
  refine awp_sub (awp_loop' (place_cellBox_x1_H qkey) place_cellBox_x1_k (place_cellBox_x1_S qkey) (by intro x; exact fun h => nomatch h) h3 (place_cellBox_x1_ok qkey)) ?_
  refine awp_seq ?_
  refine awp_region ?_
  refine aR 4 ?_
  refine aE ?_
  refine awp_ret ?_
  exact oF hF [] []

/-! ### beaconfleet/place.CellBox -/
def place_CellBox_x1_k : Bool → AEx
  | _ => .normal

def place_CellBox_x1_S (qkey : List UInt8) : Bool → St
  | vx => Mem.st ⟨[], [(0, [.d (.int .i64 0), .d (.int .i64 0)])]⟩ (tl [(0, .v (.one (.d (.str qkey)))), (2, .v (.one (.box 0 0))), (14, .v (.one (.d (.bool vx))))]) 1

def place_CellBox_x1_I (qkey : List UInt8) : St := Mem.st ⟨[], [(0, [.d (.int .i64 0), .d (.int .i64 0)])]⟩ (tl [(0, .v (.one (.d (.str qkey)))), (2, .v (.one (.box 0 0)))]) 1

theorem place_CellBox_x1_ok (qkey : List UInt8) {r} (hF : place_CellBox_x1 qkey = some r) : Awp prog 0 23 (cL (cL (cR (cB f11)))) (Out 0 place_CellBox_x1_k (place_CellBox_x1_S qkey) r) (place_CellBox_x1_I qkey) := by
  unfold place_CellBox_x1 at hF
  refine cE hF (fun h1 hF => ?_) fun h1 hF => ?_
  · refine awp_region ?_
    refine aR 2 ?_
    refine aB h1 ?_
    refine aR 5 ?_
    refine aE ?_
    exact oO hF [] [] rfl
  · refine bE hF fun vr h2 hF => ?_
    refine awp_region ?_
    refine aR 2 ?_
    refine aB h1 ?_
    refine aR 2 ?_
    refine aC (strings_Trim_l_ok h2) [] [] [] ?_
    refine aR 2 ?_
    refine aE ?_
    exact oO hF [] [] rfl

def place_CellBox_R (qkey : List UInt8) (r : api_Spot × Int × Int) : TV × Mem := (.tup [.agg [.d (.int .i64 r.1.X), .d (.int .i64 r.1.Y)], .one (.d (.int .i64 r.2.1)), .one (.d (.int .i64 r.2.2))], ⟨[], []⟩)

theorem place_CellBox_ok {qkey : List UInt8} {r} (hF : place_CellBox qkey = some r) : Holds prog 11 [.v (.one (.d (.str qkey)))] ⟨[], []⟩ (Is (place_CellBox_R qkey r)) := by
  unfold place_CellBox at hF
  refine holds_of_awp hΓ (fn := f11) (c := cB f11) (A := 0) (nx := 0) (by kernel_rfl) (by kernel_rfl) (by kernel_rfl) (by kernel_rfl) (by kernel_rfl) (by kernel_rfl) (lowc_of (by kernel_rfl)) ?_
  show Awp prog 0 23 (cB f11) _ _
  refine awp_seq ?_
  refine awp_region ?_
  refine aR 3 ?_
  refine aE ?_
  refine awp_seq ?_
  refine awp_seq ?_
  refine awp_to (st' := place_CellBox_x1_I qkey) (oT [] []) ?_
  refine bE hF fun vx1 h3 hF => ?_
  refine awp_sub (place_CellBox_x1_ok qkey h3) ?_
  refine cE hF (fun h4 hF => ?_) fun h4 hF => ?_
  · refine awp_true (by kernel_rfl) h4 ?_
    refine awp_seq ?_
    refine awp_region ?_
    refine aR 4 ?_
    refine aE ?_
    refine awp_ret ?_
    exact oF hF [] []
  · refine awp_false (by kernel_rfl) h4 ?_
    refine awp_skip ?_
    refine awp_seq ?_
    refine bE hF fun x h5 hF => ?_
    obtain ⟨vr1, vr1_1⟩ := x
    refine awp_region ?_
    refine aR 1 ?_
    refine aC (place_cellBox_ok h5) [] [] [] ?_
    refine aR 6 ?_
    refine aE ?_
    refine awp_seq ?_
    refine awp_region ?_
    refine aR 5 ?_
    refine aE ?_
    refine awp_ret ?_
    exact oF hF [] []

/-! ### beaconfleet/base.Key -/
def base_Key_x1_k : Bool → AEx
  | _ => .normal

def base_Key_x1_S (qs : List UInt8) : Bool → St
  | vx => Mem.st ⟨[], []⟩ (tl [(0, .v (.one (.d (.str qs)))), (21, .v (.one (.d (.bool vx))))]) 0

def base_Key_x1_I (qs : List UInt8) : St := Mem.st ⟨[], []⟩ (tl [(0, .v (.one (.d (.str qs))))]) 0

theorem base_Key_x1_ok (qs : List UInt8) {r} (hF : base_Key_x1 qs = some r) : Awp prog 0 54 (cL (cL (cR (cB f49)))) (Out 0 base_Key_x1_k (base_Key_x1_S qs) r) (base_Key_x1_I qs) := by
  unfold base_Key_x1 at hF
  refine cE hF (fun h1 hF => ?_) fun h1 hF => ?_
  · refine awp_region ?_
    refine aR 1 ?_
    refine aB h1 ?_
    refine aR 15 ?_
    refine aE ?_
    exact oO hF [] [] rfl
  · refine cE hF (fun h2 hF => ?_) fun h2 hF => ?_
    · refine awp_region ?_
      refine aR 1 ?_
      refine aB h1 ?_
      refine aR 3 ?_
      refine aB h2 ?_
      refine aR 11 ?_
      refine aE ?_
      exact oO hF [] [] rfl
    · refine bE hF fun vc h3 hF => ?_
      refine cE hF (fun h4 hF => ?_) fun h4 hF => ?_
      · refine awp_region ?_
        refine aR 1 ?_
        refine aB h1 ?_
        refine aR 3 ?_
        refine aB h2 ?_
        refine aR 3 ?_
        refine aX (x_idxS h3) ?_
        refine aB h4 ?_
        refine aR 6 ?_
        refine aE ?_
        exact oO hF [] [] rfl
      · refine awp_region ?_
        refine aR 1 ?_
        refine aB h1 ?_
        refine aR 3 ?_
        refine aB h2 ?_
        refine aR 3 ?_
        refine aX (x_idxS h3) ?_
        refine aB h4 ?_
        refine aR 3 ?_
        refine aX (x_idxS h3) ?_
        refine aR 2 ?_
        refine aE ?_
        exact oO hF [] [] rfl

def base_Key_x3_k : Bool → AEx
  | _ => .normal

def base_Key_x3_S (qs : List UInt8) (vx2 : Int) (vc2 : UInt8) : Bool → St
  | vx4 => Mem.st ⟨[], []⟩ (tl [(0, .v (.one (.d (.str qs)))), (23, .v (.one (.d (.int .i64 (qs.length : Int))))), (24, .v (.one (.d (.int .i64 vx2)))), (52, .v (.one (.d (.bool vx4))))]) 0

def base_Key_x3_I (qs : List UInt8) (vx2 : Int) (vc2 : UInt8) : St := Mem.st ⟨[], []⟩ (tl [(0, .v (.one (.d (.str qs)))), (4, .v (.one (.d (.int .u8 (vc2.toNat : Int))))), (23, .v (.one (.d (.int .i64 (qs.length : Int))))), (24, .v (.one (.d (.int .i64 vx2))))]) 0

theorem base_Key_x3_ok (qs : List UInt8) (vx2 : Int) (vc2 : UInt8) {r} (hF : base_Key_x3 vc2 = some r) : Awp prog 0 54 (cL (cR (cR (cL (cL (cR (cR (cL (cL (cR (cL (cR (cR (cB f49)))))))))))))) (Out 0 base_Key_x3_k (base_Key_x3_S qs vx2 vc2) r) (base_Key_x3_I qs vx2 vc2) := by
  unfold base_Key_x3 at hF
  refine cE hF (fun h9 hF => ?_) fun h9 hF => ?_
  · refine cE hF (fun h10 hF => ?_) fun h10 hF => ?_
    · refine awp_region ?_
      refine aR 1 ?_
      refine aB h9 ?_
      refine aR 2 ?_
      refine aB h10 ?_
      refine aR 18 ?_
      refine aE ?_
      exact oO hF [] [] rfl
    · refine cE hF (fun h11 hF => ?_) fun h11 hF => ?_
      · refine cE hF (fun h12 hF => ?_) fun h12 hF => ?_
        · refine awp_region ?_
          refine aR 1 ?_
          refine aB h9 ?_
          refine aR 2 ?_
          refine aB h10 ?_
          refine aR 3 ?_
          refine aB h11 ?_
          refine aR 2 ?_
          refine aB h12 ?_
          refine aR 11 ?_
          refine aE ?_
          exact oO hF [] [] rfl
        · refine cE hF (fun h13 hF => ?_) fun h13 hF => ?_
          · refine awp_region ?_
            refine aR 1 ?_
            refine aB h9 ?_
            refine aR 2 ?_
            refine aB h10 ?_
            refine aR 3 ?_
            refine aB h11 ?_
            refine aR 2 ?_
            refine aB h12 ?_
            refine aR 4 ?_
            refine aB h13 ?_
            refine aR 6 ?_
            refine aE ?_
            exact oO hF [] [] rfl
          · refine awp_region ?_
            refine aR 1 ?_
            refine aB h9 ?_
            refine aR 2 ?_
            refine aB h10 ?_
            refine aR 3 ?_
            refine aB h11 ?_
            refine aR 2 ?_
            refine aB h12 ?_
            refine aR 4 ?_
            refine aB h13 ?_
            refine aR 6 ?_
            refine aE ?_
            exact oO hF [] [] rfl
      · refine cE hF (fun h14 hF => ?_) fun h14 hF => ?_
        · refine awp_region ?_
          refine aR 1 ?_
          refine aB h9 ?_
          refine aR 2 ?_
          refine aB h10 ?_
          refine aR 3 ?_
          refine aB h11 ?_
          refine aR 7 ?_
          refine aB h14 ?_
          refine aR 6 ?_
          refine aE ?_
          exact oO hF [] [] rfl
        · refine awp_region ?_
          refine aR 1 ?_
          refine aB h9 ?_
          refine aR 2 ?_
          refine aB h10 ?_
          refine aR 3 ?_
          refine aB h11 ?_
          refine aR 7 ?_
          refine aB h14 ?_
          refine aR 6 ?_
          refine aE ?_
          exact oO hF [] [] rfl
  · refine cE hF (fun h15 hF => ?_) fun h15 hF => ?_
    · refine cE hF (fun h16 hF => ?_) fun h16 hF => ?_
      · refine awp_region ?_
        refine aR 1 ?_
        refine aB h9 ?_
        refine aR 6 ?_
        refine aB h15 ?_
        refine aR 2 ?_
        refine aB h16 ?_
        refine aR 11 ?_
        refine aE ?_
        exact oO hF [] [] rfl
      · refine cE hF (fun h17 hF => ?_) fun h17 hF => ?_
        · refine awp_region ?_
          refine aR 1 ?_
          refine aB h9 ?_
          refine aR 6 ?_
          refine aB h15 ?_
          refine aR 2 ?_
          refine aB h16 ?_
          refine aR 4 ?_
          refine aB h17 ?_
          refine aR 6 ?_
          refine aE ?_
          exact oO hF [] [] rfl
        · refine awp_region ?_
          refine aR 1 ?_
          refine aB h9 ?_
          refine aR 6 ?_
          refine aB h15 ?_
          refine aR 2 ?_
          refine aB h16 ?_
          refine aR 4 ?_
          refine aB h17 ?_
          refine aR 6 ?_
          refine aE ?_
          exact oO hF [] [] rfl
    · refine cE hF (fun h18 hF => ?_) fun h18 hF => ?_
      · refine awp_region ?_
        refine aR 1 ?_
        refine aB h9 ?_
        refine aR 6 ?_
        refine aB h15 ?_
        refine aR 7 ?_
        refine aB h18 ?_
        refine aR 6 ?_
        refine aE ?_
        exact oO hF [] [] rfl
      · refine awp_region ?_
        refine aR 1 ?_
        refine aB h9 ?_
        refine aR 6 ?_
        refine aB h15 ?_
        refine aR 7 ?_
        refine aB h18 ?_
        refine aR 6 ?_
        refine aE ?_
        exact oO hF [] [] rfl

def base_Key_x2_k : Unit ⊕ Unit → AEx
  | .inl _ => .exit 0
  | .inr _ => .ret

def base_Key_x2_S (qs : List UInt8) : Unit ⊕ Unit → St
  | .inl _ => Mem.st ⟨[], []⟩ (tl []) 0
  | .inr _ => Mem.st ⟨[], []⟩ (tl [(2, .v (.one (.d (.bool false))))]) 0

def base_Key_x2_H (qs : List UInt8) : Int → St
  | vx2 => Mem.st ⟨[], []⟩ (tl [(0, .v (.one (.d (.str qs)))), (23, .v (.one (.d (.int .i64 (qs.length : Int))))), (24, .v (.one (.d (.int .i64 vx2))))]) 0

theorem base_Key_x2_ok (qs : List UInt8) (vx2 : Int) (r : (Int) ⊕ (Unit ⊕ Unit)) (hF : base_Key_x2 qs vx2 = some r) : Awp prog 0 54 (cL (cL (cR (cL (cR (cR (cB f49))))))) (Out 0 (kk base_Key_x2_k) (SS (base_Key_x2_H qs) (base_Key_x2_S qs)) r) (base_Key_x2_H qs vx2) := by
  unfold base_Key_x2 at hF
  refine awp_seq ?_
  refine awp_region ?_
  refine aR 1 ?_
  refine aE ?_
  refine awp_seq ?_
  refine cE hF (fun h7 hF => ?_) fun h7 hF => ?_
  · refine awp_true (by kernel_rfl) h7 ?_
    refine awp_skip ?_
    refine awp_seq ?_
    refine awp_block ?_
    refine awp_seq ?_
    refine awp_region ?_
    refine aR 2 ?_
    refine aE ?_
    refine awp_seq ?_
    refine bE hF fun vc2 h8 hF => ?_
    refine awp_region ?_
    refine aR 2 ?_
    refine aX (x_idxS h8) ?_
    refine aR 1 ?_
    refine aE ?_
    refine awp_seq ?_
    refine awp_to (st' := base_Key_x3_I qs vx2 vc2) (oT [] []) ?_
    refine bE hF fun vx4_1 h19 hF => ?_
    refine awp_sub (base_Key_x3_ok qs vx2 vc2 h19) ?_
    refine cE hF (fun h20 hF => ?_) fun h20 hF => ?_
    · refine awp_true (by kernel_rfl) h20 ?_
      refine awp_seq ?_
      refine awp_region ?_
      refine aR 1 ?_
      refine aE ?_
      refine awp_ret ?_
      exact oO hF [] [] rfl
    · refine awp_false (by kernel_rfl) h20 ?_
      refine awp_skip ?_
      refine awp_region ?_
      refine aR 2 ?_
      refine aE ?_
      exact oO hF [] [] rfl
  · refine awp_false (by kernel_rfl) h7 ?_
    refine awp_exit ?_
    exact oO hF [] [] rfl

def base_Key_R (qs : List UInt8) (r : Bool) : TV × Mem := (.v (.one (.d (.bool r))), ⟨[], []⟩)

theorem base_Key_ok {qs : List UInt8} {r} (hF : base_Key qs = some r) : Holds prog 49 [.v (.one (.d (.str qs)))] ⟨[], []⟩ (Is (base_Key_R qs r)) := by
  unfold base_Key at hF
  refine holds_of_awp hΓ (fn := f49) (c := cB f49) (A := 0) (nx := 0) (by kernel_rfl) (by kernel_rfl) (by kernel_rfl) (by kernel_rfl) (by kernel_rfl) (by kernel_rfl) (lowc_of (by kernel_rfl)) ?_
  show Awp prog 0 54 (cB f49) _ _
  refine awp_seq ?_
  refine awp_region ?_
  refine aR 1 ?_
  refine aE ?_
  refine awp_seq ?_
  refine awp_seq ?_
  refine awp_to (st' := base_Key_x1_I qs) (oT [] []) ?_
  refine bE hF fun vx1 h5 hF => ?_
  refine awp_sub (base_Key_x1_ok qs h5) ?_
  refine cE hF (fun h6 hF => ?_) fun h6 hF => ?_
  · refine awp_true (by kernel_rfl) h6 ?_
    refine awp_seq ?_
    refine awp_region ?_
    refine aR 1 ?_
    refine aE ?_
    refine awp_ret ?_
    exact oF hF [] []
  · refine awp_false (by kernel_rfl) h6 ?_
    refine awp_skip ?_
    refine awp_seq ?_
    refine awp_seq ?_
    refine awp_region ?_
    refine aR 3 ?_
    refine aE ?_
    refine awp_block ?_
    refine awp_to (st' := base_Key_x2_H qs 0) (oT [] []) ?_
    refine bE hF fun x h21 hF => ?_
    rcases x with _ | _
    · refine awp_sub (awp_loop' (base_Key_x2_H qs) base_Key_x2_k (base_Key_x2_S qs) (by intro x; rcases x with x | x <;> exact fun h => nomatch h) h21 (base_Key_x2_ok qs)) ?_
      refine awp_seq ?_
      refine awp_region ?_
      refine aR 1 ?_
      refine aE ?_
      refine awp_ret ?_
      exact oF hF [] []
    · refine awp_sub (awp_loop' (base_Key_x2_H qs) base_Key_x2_k (base_Key_x2_S qs) (by intro x; rcases x with x | x <;> exact fun h => nomatch h) h21 (base_Key_x2_ok qs)) ?_
      exact oF hF [] []

/-! ### beaconfleet/place.side -/
def place_side_R (qa : api_Spot) (qb : api_Spot) (qs : api_Spot) (r : Unit) : TV × Mem := (.v (.one (.d (.int .i64 (IntKind.wrap .i64 ((IntKind.wrap .i64 ((IntKind.wrap .i64 (qb.X - qa.X)) * (IntKind.wrap .i64 (qs.Y - qa.Y)))) - (IntKind.wrap .i64 ((IntKind.wrap .i64 (qb.Y - qa.Y)) * (IntKind.wrap .i64 (qs.X - qa.X))))))))), ⟨[], []⟩)

theorem place_side_ok {qa : api_Spot} {qb : api_Spot} {qs : api_Spot} {r} (hF : place_side qa qb qs = some r) : Holds prog 79 [.v (.agg [.d (.int .i64 qa.X), .d (.int .i64 qa.Y)]), .v (.agg [.d (.int .i64 qb.X), .d (.int .i64 qb.Y)]), .v (.agg [.d (.int .i64 qs.X), .d (.int .i64 qs.Y)])] ⟨[], []⟩ (Is (place_side_R qa qb qs r)) := by
  unfold place_side at hF
  refine holds_of_awp hΓ (fn := f79) (c := cB f79) (A := 0) (nx := 0) (by kernel_rfl) (by kernel_rfl) (by kernel_rfl) (by kernel_rfl) (by kernel_rfl) (by kernel_rfl) (lowc_of (by kernel_rfl)) ?_
  show Awp prog 0 30 (cB f79) _ _
  refine awp_seq ?_
  refine awp_region ?_
  refine aR 4 ?_
  refine aE ?_
  refine awp_seq ?_
  refine awp_region ?_
  refine aR 24 ?_
  refine aE ?_
  refine awp_ret ?_
  exact oF hF [] []

/-! ### beaconfleet/place.on -/
def place_on_x1_k : Bool → AEx
  | _ => .normal

def place_on_x1_S (qa : api_Spot) (qb : api_Spot) (qs : api_Spot) : Bool → St
  | vx => Mem.st ⟨[], []⟩ (tl [(6, .v (.one (.d (.bool vx))))]) 0

def place_on_x1_I (qa : api_Spot) (qb : api_Spot) (qs : api_Spot) : St := Mem.st ⟨[], [(0, [.d (.int .i64 qa.X), .d (.int .i64 qa.Y)]), (1, [.d (.int .i64 qb.X), .d (.int .i64 qb.Y)]), (2, [.d (.int .i64 qs.X), .d (.int .i64 qs.Y)])]⟩ (tl [(3, .v (.one (.box 0 0))), (4, .v (.one (.box 1 0))), (5, .v (.one (.box 2 0)))]) 3

theorem place_on_x1_ok (qa : api_Spot) (qb : api_Spot) (qs : api_Spot) {r} (hF : place_on_x1 qa qb qs = some r) : Awp prog 0 52 (cL (cR (cB f65))) (Out 0 place_on_x1_k (place_on_x1_S qa qb qs) r) (place_on_x1_I qa qb qs) := by
  unfold place_on_x1 at hF
  refine bE hF fun _ h1 hF => ?_
  refine cE hF (fun h2 hF => ?_) fun h2 hF => ?_
  · refine cE hF (fun h3 hF => ?_) fun h3 hF => ?_
    · refine cE hF (fun h4 hF => ?_) fun h4 hF => ?_
      · refine cE hF (fun h5 hF => ?_) fun h5 hF => ?_
        · refine awp_region ?_
          refine aR 3 ?_
          refine aC (place_side_ok h1) [] [] [] ?_
          refine aB h2 ?_
          refine aR 8 ?_
          refine aB h3 ?_
          refine aR 9 ?_
          refine aB h4 ?_
          refine aR 9 ?_
          refine aB h5 ?_
          refine aR 12 ?_
          refine aE ?_
          exact oO hF [] [] rfl
        · refine awp_region ?_
          refine aR 3 ?_
          refine aC (place_side_ok h1) [] [] [] ?_
          refine aB h2 ?_
          refine aR 8 ?_
          refine aB h3 ?_
          refine aR 9 ?_
          refine aB h4 ?_
          refine aR 9 ?_
          refine aB h5 ?_
          refine aR 12 ?_
          refine aE ?_
          exact oO hF [] [] rfl
      · refine awp_region ?_
        refine aR 3 ?_
        refine aC (place_side_ok h1) [] [] [] ?_
        refine aB h2 ?_
        refine aR 8 ?_
        refine aB h3 ?_
        refine aR 9 ?_
        refine aB h4 ?_
        refine aR 22 ?_
        refine aE ?_
        exact oO hF [] [] rfl
    · refine awp_region ?_
      refine aR 3 ?_
      refine aC (place_side_ok h1) [] [] [] ?_
      refine aB h2 ?_
      refine aR 8 ?_
      refine aB h3 ?_
      refine aR 32 ?_
      refine aE ?_
      exact oO hF [] [] rfl
  · refine awp_region ?_
    refine aR 3 ?_
    refine aC (place_side_ok h1) [] [] [] ?_
    refine aB h2 ?_
    refine aR 41 ?_
    refine aE ?_
    exact oO hF [] [] rfl

def place_on_R (qa : api_Spot) (qb : api_Spot) (qs : api_Spot) (r : Bool) : TV × Mem := (.v (.one (.d (.bool r))), ⟨[], []⟩)

theorem place_on_ok {qa : api_Spot} {qb : api_Spot} {qs : api_Spot} {r} (hF : place_on qa qb qs = some r) : Holds prog 65 [.v (.agg [.d (.int .i64 qa.X), .d (.int .i64 qa.Y)]), .v (.agg [.d (.int .i64 qb.X), .d (.int .i64 qb.Y)]), .v (.agg [.d (.int .i64 qs.X), .d (.int .i64 qs.Y)])] ⟨[], []⟩ (Is (place_on_R qa qb qs r)) := by
  unfold place_on at hF
  refine holds_of_awp hΓ (fn := f65) (c := cB f65) (A := 0) (nx := 0) (by kernel_rfl) (by kernel_rfl) (by kernel_rfl) (by kernel_rfl) (by kernel_rfl) (by kernel_rfl) (lowc_of (by kernel_rfl)) ?_
  show Awp prog 0 52 (cB f65) _ _
  refine awp_seq ?_
  refine awp_region ?_
  refine aR 4 ?_
  refine aE ?_
  refine awp_seq ?_
  refine awp_to (st' := place_on_x1_I qa qb qs) (oT [(1, 1000), (2, 2000)] []) ?_
  refine bE hF fun vx1 h6 hF => ?_
  refine awp_sub (place_on_x1_ok qa qb qs h6) ?_
  refine awp_ret ?_
  exact oF hF [] []

/-! ### cmp.isNaN[int] -/
def cmp_isNaN_int_R (qx : Int) (r : Unit) : TV × Mem := (.v (.one (.d (.bool (!decide (qx = qx))))), ⟨[], []⟩)

theorem cmp_isNaN_int_ok {qx : Int} {r} (hF : cmp_isNaN_int qx = some r) : Holds prog 92 [.v (.one (.d (.int .i64 qx)))] ⟨[], []⟩ (Is (cmp_isNaN_int_R qx r)) := by
  unfold cmp_isNaN_int at hF
  refine holds_of_awp hΓ (fn := f92) (c := cB f92) (A := 0) (nx := 0) (by kernel_rfl) (by kernel_rfl) (by kernel_rfl) (by kernel_rfl) (by kernel_rfl) (by kernel_rfl) (lowc_of (by kernel_rfl)) ?_
  show Awp prog 0 6 (cB f92) _ _
  refine awp_seq ?_
  refine awp_region ?_
  refine aR 1 ?_
  refine aE ?_
  refine awp_seq ?_
  refine awp_region ?_
  refine aR 4 ?_
  refine aE ?_
  refine awp_ret ?_
  exact oF hF [] []

/-! ### cmp.Compare[int] -/
def cmp_Compare_int_R (qx : Int) (qy : Int) (r : Int) : TV × Mem := (.v (.one (.d (.int .i64 r))), ⟨[], []⟩)

theorem cmp_Compare_int_ok {qx : Int} {qy : Int} {r} (hF : cmp_Compare_int qx qy = some r) : Holds prog 78 [.v (.one (.d (.int .i64 qx))), .v (.one (.d (.int .i64 qy)))] ⟨[], []⟩ (Is (cmp_Compare_int_R qx qy r)) := by
  unfold cmp_Compare_int at hF
  refine holds_of_awp hΓ (fn := f78) (c := cB f78) (A := 0) (nx := 0) (by kernel_rfl) (by kernel_rfl) (by kernel_rfl) (by kernel_rfl) (by kernel_rfl) (by kernel_rfl) (lowc_of (by kernel_rfl)) ?_
  show Awp prog 0 20 (cB f78) _ _
  refine awp_seq ?_
  refine awp_region ?_
  refine aR 1 ?_
  refine aE ?_
  refine awp_seq ?_
  refine bE hF fun _ h1 hF => ?_
  refine awp_region ?_
  refine aR 1 ?_
  refine aC (cmp_isNaN_int_ok h1) [] [] [] ?_
  refine aR 1 ?_
  refine aE ?_
  refine awp_seq ?_
  refine bE hF fun _ h2 hF => ?_
  refine awp_region ?_
  refine aR 1 ?_
  refine aC (cmp_isNaN_int_ok h2) [] [] [] ?_
  refine aR 1 ?_
  refine aE ?_
  refine awp_seq ?_
  refine awp_seq ?_
  refine awp_region ?_
  refine aR 1 ?_
  refine aE ?_
  refine cE hF (fun h3 hF => ?_) fun h3 hF => ?_
  · refine awp_true (by kernel_rfl) h3 ?_
    refine awp_seq ?_
    refine awp_seq ?_
    refine awp_region ?_
    refine aR 1 ?_
    refine aE ?_
    refine cE hF (fun h4 hF => ?_) fun h4 hF => ?_
    · refine awp_true (by kernel_rfl) h4 ?_
      refine awp_seq ?_
      refine awp_region ?_
      refine aR 1 ?_
      refine aE ?_
      refine awp_ret ?_
      exact oF hF [] []
    · refine awp_false (by kernel_rfl) h4 ?_
      refine awp_skip ?_
      refine awp_seq ?_
      refine awp_region ?_
      refine aR 1 ?_
      refine aE ?_
      refine awp_ret ?_
      exact oF hF [] []
  · refine awp_false (by kernel_rfl) h3 ?_
    refine awp_skip ?_
    refine awp_seq ?_
    refine awp_seq ?_
    refine awp_region ?_
    refine aR 1 ?_
    refine aE ?_
    refine cE hF (fun h5 hF => ?_) fun h5 hF => ?_
    · refine awp_true (by kernel_rfl) h5 ?_
      refine awp_seq ?_
      refine awp_region ?_
      refine aR 1 ?_
      refine aE ?_
      refine awp_ret ?_
      exact oF hF [] []
    · refine awp_false (by kernel_rfl) h5 ?_
      refine awp_skip ?_
      refine awp_seq ?_
      refine awp_seq ?_
      refine awp_region ?_
      refine aR 3 ?_
      refine aE ?_
      refine cE hF (fun h6 hF => ?_) fun h6 hF => ?_
      · refine awp_true (by kernel_rfl) h6 ?_
        refine awp_seq ?_
        refine awp_region ?_
        refine aR 1 ?_
        refine aE ?_
        refine awp_ret ?_
        exact oF hF [] []
      · refine awp_false (by kernel_rfl) h6 ?_
        refine awp_skip ?_
        refine awp_seq ?_
        refine awp_seq ?_
        refine awp_region ?_
        refine aR 3 ?_
        refine aE ?_
        refine cE hF (fun h7 hF => ?_) fun h7 hF => ?_
        · refine awp_true (by kernel_rfl) h7 ?_
          refine awp_seq ?_
          refine awp_region ?_
          refine aR 1 ?_
          refine aE ?_
          refine awp_ret ?_
          exact oF hF [] []
        · refine awp_false (by kernel_rfl) h7 ?_
          refine awp_skip ?_
          refine awp_seq ?_
          refine awp_region ?_
          refine aR 1 ?_
          refine aE ?_
          refine awp_ret ?_
          exact oF hF [] []

/-! ### beaconfleet/place.meets -/
def place_meets_x1_k : Bool → AEx
  | _ => .normal

def place_meets_x1_S (qx : api_Spot) (qx1 : api_Spot) (qx2 : api_Spot) (qx3 : api_Spot) : Bool → St
  | vx => Mem.st ⟨[], [(0, [.d (.int .i64 qx.X), .d (.int .i64 qx.Y)]), (1, [.d (.int .i64 qx1.X), .d (.int .i64 qx1.Y)]), (2, [.d (.int .i64 qx2.X), .d (.int .i64 qx2.Y)]), (3, [.d (.int .i64 qx3.X), .d (.int .i64 qx3.Y)])]⟩ (tl [(4, .v (.one (.box 0 0))), (5, .v (.one (.box 1 0))), (6, .v (.one (.box 2 0))), (7, .v (.one (.box 3 0))), (34, .v (.one (.d (.bool vx))))]) 4

def place_meets_x1_I (qx : api_Spot) (qx1 : api_Spot) (qx2 : api_Spot) (qx3 : api_Spot) : St := Mem.st ⟨[], [(0, [.d (.int .i64 qx.X), .d (.int .i64 qx.Y)]), (1, [.d (.int .i64 qx1.X), .d (.int .i64 qx1.Y)]), (2, [.d (.int .i64 qx2.X), .d (.int .i64 qx2.Y)]), (3, [.d (.int .i64 qx3.X), .d (.int .i64 qx3.Y)])]⟩ (tl [(4, .v (.one (.box 0 0))), (5, .v (.one (.box 1 0))), (6, .v (.one (.box 2 0))), (7, .v (.one (.box 3 0)))]) 4

theorem place_meets_x1_ok (qx : api_Spot) (qx1 : api_Spot) (qx2 : api_Spot) (qx3 : api_Spot) {r} (hF : place_meets_x1 qx qx1 qx2 qx3 = some r) : Awp prog 0 65 (cL (cL (cR (cB f64)))) (Out 0 place_meets_x1_k (place_meets_x1_S qx qx1 qx2 qx3) r) (place_meets_x1_I qx qx1 qx2 qx3) := by
  unfold place_meets_x1 at hF
  refine bE hF fun vr h1 hF => ?_
  refine cE hF (fun h2 hF => ?_) fun h2 hF => ?_
  · refine awp_region ?_
    refine aR 3 ?_
    refine aCb (place_on_ok h1) [] [] [] h2 ?_
    refine aR 18 ?_
    refine aE ?_
    exact oO hF [] [] rfl
  · refine bE hF fun vr1 h3 hF => ?_
    refine cE hF (fun h4 hF => ?_) fun h4 hF => ?_
    · refine awp_region ?_
      refine aR 3 ?_
      refine aCb (place_on_ok h1) [] [] [] h2 ?_
      refine aR 4 ?_
      refine aCb (place_on_ok h3) [] [] [] h4 ?_
      refine aR 13 ?_
      refine aE ?_
      exact oO hF [] [] rfl
    · refine bE hF fun vr2 h5 hF => ?_
      refine cE hF (fun h6 hF => ?_) fun h6 hF => ?_
      · refine awp_region ?_
        refine aR 3 ?_
        refine aCb (place_on_ok h1) [] [] [] h2 ?_
        refine aR 4 ?_
        refine aCb (place_on_ok h3) [] [] [] h4 ?_
        refine aR 5 ?_
        refine aCb (place_on_ok h5) [] [] [] h6 ?_
        refine aR 7 ?_
        refine aE ?_
        exact oO hF [] [] rfl
      · refine bE hF fun vr3 h7 hF => ?_
        refine awp_region ?_
        refine aR 3 ?_
        refine aCb (place_on_ok h1) [] [] [] h2 ?_
        refine aR 4 ?_
        refine aCb (place_on_ok h3) [] [] [] h4 ?_
        refine aR 5 ?_
        refine aCb (place_on_ok h5) [] [] [] h6 ?_
        refine aR 5 ?_
        refine aC (place_on_ok h7) [] [] [] ?_
        refine aR 1 ?_
        refine aE ?_
        exact oO hF [] [] rfl

def place_meets_x2_k : Bool → AEx
  | _ => .normal

def place_meets_x2_S (vr4 : Int) (vr5 : Int) (vr6 : Int) (vr7 : Int) : Bool → St
  | vx2 => Mem.st ⟨[], []⟩ (tl [(8, .v (.one (.d (.bool vx2))))]) 0

def place_meets_x2_I (vr4 : Int) (vr5 : Int) (vr6 : Int) (vr7 : Int) : St := Mem.st ⟨[], []⟩ (tl [(9, .v (.one (.d (.int .i64 vr4)))), (10, .v (.one (.d (.int .i64 vr5)))), (11, .v (.one (.d (.int .i64 vr6)))), (12, .v (.one (.d (.int .i64 vr7))))]) 0

theorem place_meets_x2_ok (vr4 : Int) (vr5 : Int) (vr6 : Int) (vr7 : Int) {r} (hF : place_meets_x2 vr4 vr5 vr6 vr7 = some r) : Awp prog 0 65 (cL (cR (cR (cR (cB f64))))) (Out 0 place_meets_x2_k (place_meets_x2_S vr4 vr5 vr6 vr7) r) (place_meets_x2_I vr4 vr5 vr6 vr7) := by
  unfold place_meets_x2 at hF
  refine cE hF (fun h18 hF => ?_) fun h18 hF => ?_
  · refine awp_region ?_
    refine aR 3 ?_
    refine aB h18 ?_
    refine aR 7 ?_
    refine aE ?_
    exact oO hF [] [] rfl
  · refine awp_region ?_
    refine aR 3 ?_
    refine aB h18 ?_
    refine aR 7 ?_
    refine aE ?_
    exact oO hF [] [] rfl

def place_meets_R (qx : api_Spot) (qx1 : api_Spot) (qx2 : api_Spot) (qx3 : api_Spot) (r : Bool) : TV × Mem := (.v (.one (.d (.bool r))), ⟨[], []⟩)

theorem place_meets_ok {qx : api_Spot} {qx1 : api_Spot} {qx2 : api_Spot} {qx3 : api_Spot} {r} (hF : place_meets qx qx1 qx2 qx3 = some r) : Holds prog 64 [.v (.agg [.d (.int .i64 qx.X), .d (.int .i64 qx.Y)]), .v (.agg [.d (.int .i64 qx1.X), .d (.int .i64 qx1.Y)]), .v (.agg [.d (.int .i64 qx2.X), .d (.int .i64 qx2.Y)]), .v (.agg [.d (.int .i64 qx3.X), .d (.int .i64 qx3.Y)])] ⟨[], []⟩ (Is (place_meets_R qx qx1 qx2 qx3 r)) := by
  unfold place_meets at hF
  refine holds_of_awp hΓ (fn := f64) (c := cB f64) (A := 0) (nx := 0) (by kernel_rfl) (by kernel_rfl) (by kernel_rfl) (by kernel_rfl) (by kernel_rfl) (by kernel_rfl) (lowc_of (by kernel_rfl)) ?_
  show Awp prog 0 65 (cB f64) _ _
  refine awp_seq ?_
  refine awp_region ?_
  refine aR 5 ?_
  refine aE ?_
  refine awp_seq ?_
  refine awp_seq ?_
  refine awp_to (st' := place_meets_x1_I qx qx1 qx2 qx3) (oT [(1, 1000), (2, 2000), (3, 3000)] []) ?_
  refine bE hF fun vx1 h8 hF => ?_
  refine awp_sub (place_meets_x1_ok qx qx1 qx2 qx3 h8) ?_
  refine cE hF (fun h9 hF => ?_) fun h9 hF => ?_
  · refine awp_true (by kernel_rfl) h9 ?_
    refine awp_seq ?_
    refine awp_region ?_
    refine aR 1 ?_
    refine aE ?_
    refine awp_ret ?_
    exact oF hF [] []
  · refine awp_false (by kernel_rfl) h9 ?_
    refine awp_skip ?_
    refine awp_seq ?_
    refine bE hF fun _ h10 hF => ?_
    refine bE hF fun vr4 h11 hF => ?_
    refine bE hF fun _ h12 hF => ?_
    refine bE hF fun vr5 h13 hF => ?_
    refine bE hF fun _ h14 hF => ?_
    refine bE hF fun vr6 h15 hF => ?_
    refine bE hF fun _ h16 hF => ?_
    refine bE hF fun vr7 h17 hF => ?_
    refine aD ?_
    refine dR 3 ?_
    refine dC (place_side_ok h10) [] [] [] ?_
    refine dC (cmp_Compare_int_ok h11) [] [] [] ?_
    refine dR 3 ?_
    refine dC (place_side_ok h12) [] [] [] ?_
    refine dC (cmp_Compare_int_ok h13) [] [] [] ?_
    refine dR 3 ?_
    refine dC (place_side_ok h14) [] [] [] ?_
    refine dC (cmp_Compare_int_ok h15) [] [] [] ?_
    refine dR 3 ?_
    refine dC (place_side_ok h16) [] [] [] ?_
    refine dC (cmp_Compare_int_ok h17) [] [] [] ?_
    refine dR 4 ?_
    refine dE ?_
    refine awp_seq ?_
    refine awp_to (st' := place_meets_x2_I vr4 vr5 vr6 vr7) (oT [] []) ?_
    refine bE hF fun vx2_1 h19 hF => ?_
    refine awp_sub (place_meets_x2_ok vr4 vr5 vr6 vr7 h19) ?_
    refine awp_ret ?_
    exact oF hF [] []

/-! ### beaconfleet/place.crossed -/
def place_crossed_x3_k : Bool → AEx
  | _ => .normal

def place_crossed_x3_S (qx : List api_Spot) (vx : Int) (vy6 : api_Spot) (vy7 : api_Spot) (vx8 : Int) (vy10 : api_Spot) (vy11 : api_Spot) : Bool → St
  | vx12 => Mem.st ⟨[], [(0, [.d (.int .i64 vy6.X), .d (.int .i64 vy6.Y)]), (1, [.d (.int .i64 vy7.X), .d (.int .i64 vy7.Y)]), (2, [.d (.int .i64 vy10.X), .d (.int .i64 vy10.Y)]), (3, [.d (.int .i64 vy11.X), .d (.int .i64 vy11.Y)])]⟩ (tl [(0, .v (.one (.d (.lst (List.map api_Spot.enc qx))))), (3, .v (.one (.d (.int .i64 (qx.length : Int))))), (4, .v (.one (.d (.int .i64 vx)))), (5, .v (.one (.box 0 0))), (6, .v (.one (.box 1 0))), (7, .v (.one (.d (.int .i64 vx8)))), (8, .v (.one (.box 2 0))), (9, .v (.one (.box 3 0))), (10, .v (.one (.d (.bool (decide (vx8 = (IntKind.wrap .i64 (vx + 1)))))))), (11, .v (.one (.d (.bool (decide (((IntKind.wrap .i64 (vx8 + 1)).tmod (qx.length : Int)) = vx)))))), (14, .v (.one (.d (.lst (List.map api_Spot.enc qx))))), (15, .v (.one (.d (.int .i64 (qx.length : Int))))), (16, .v (.one (.d (.int .i64 vx)))), (56, .v (.one (.d (.bool vx12))))]) 4

def place_crossed_x3_I (qx : List api_Spot) (vx : Int) (vy6 : api_Spot) (vy7 : api_Spot) (vx8 : Int) (vy10 : api_Spot) (vy11 : api_Spot) : St := Mem.st ⟨[], [(0, [.d (.int .i64 vy6.X), .d (.int .i64 vy6.Y)]), (1, [.d (.int .i64 vy7.X), .d (.int .i64 vy7.Y)]), (2, [.d (.int .i64 vy10.X), .d (.int .i64 vy10.Y)]), (3, [.d (.int .i64 vy11.X), .d (.int .i64 vy11.Y)])]⟩ (tl [(0, .v (.one (.d (.lst (List.map api_Spot.enc qx))))), (3, .v (.one (.d (.int .i64 (qx.length : Int))))), (4, .v (.one (.d (.int .i64 vx)))), (5, .v (.one (.box 0 0))), (6, .v (.one (.box 1 0))), (7, .v (.one (.d (.int .i64 vx8)))), (8, .v (.one (.box 2 0))), (9, .v (.one (.box 3 0))), (10, .v (.one (.d (.bool (decide (vx8 = (IntKind.wrap .i64 (vx + 1)))))))), (11, .v (.one (.d (.bool (decide (((IntKind.wrap .i64 (vx8 + 1)).tmod (qx.length : Int)) = vx)))))), (14, .v (.one (.d (.lst (List.map api_Spot.enc qx))))), (15, .v (.one (.d (.int .i64 (qx.length : Int))))), (16, .v (.one (.d (.int .i64 vx))))]) 4

theorem place_crossed_x3_ok (qx : List api_Spot) (vx : Int) (vy6 : api_Spot) (vy7 : api_Spot) (vx8 : Int) (vy10 : api_Spot) (vy11 : api_Spot) {r} (hF : place_crossed_x3 qx vx vy6 vy7 vx8 vy10 vy11 = some r) : Awp prog 0 99 (cL (cL (cR (cR (cL (cL (cR (cL (cL (cR (cR (cR (cL (cL (cR (cR (cL (cL (cR (cL (cR (cR (cB f51))))))))))))))))))))))) (Out 0 place_crossed_x3_k (place_crossed_x3_S qx vx vy6 vy7 vx8 vy10 vy11) r) (place_crossed_x3_I qx vx vy6 vy7 vx8 vy10 vy11) := by
  unfold place_crossed_x3 at hF
  refine cE hF (fun h9 hF => ?_) fun h9 hF => ?_
  · refine cE hF (fun h10 hF => ?_) fun h10 hF => ?_
    · refine bE hF fun vr8_3 h11 hF => ?_
      refine awp_region ?_
      refine aR 1 ?_
      refine aB h9 ?_
      refine aR 2 ?_
      refine aB h10 ?_
      refine aR 6 ?_
      refine aC (place_meets_ok h11) [] [] [] ?_
      refine aR 2 ?_
      refine aE ?_
      exact oO hF [] [] rfl
    · refine awp_region ?_
      refine aR 1 ?_
      refine aB h9 ?_
      refine aR 2 ?_
      refine aB h10 ?_
      refine aR 9 ?_
      refine aE ?_
      exact oO hF [] [] rfl
  · refine awp_region ?_
    refine aR 1 ?_
    refine aB h9 ?_
    refine aR 12 ?_
    refine aE ?_
    exact oO hF [] [] rfl

def place_crossed_x4_k : Bool → AEx
  | _ => .normal

def place_crossed_x4_S (qx : List api_Spot) (vx : Int) (vy6 : api_Spot) (vy7 : api_Spot) (vx8 : Int) (vy10 : api_Spot) (vy11 : api_Spot) : Bool → St
  | vx13 => Mem.st ⟨[], [(0, [.d (.int .i64 vy6.X), .d (.int .i64 vy6.Y)]), (1, [.d (.int .i64 vy7.X), .d (.int .i64 vy7.Y)]), (2, [.d (.int .i64 vy10.X), .d (.int .i64 vy10.Y)]), (3, [.d (.int .i64 vy11.X), .d (.int .i64 vy11.Y)])]⟩ (tl [(0, .v (.one (.d (.lst (List.map api_Spot.enc qx))))), (3, .v (.one (.d (.int .i64 (qx.length : Int))))), (4, .v (.one (.d (.int .i64 vx)))), (5, .v (.one (.box 0 0))), (6, .v (.one (.box 1 0))), (7, .v (.one (.d (.int .i64 vx8)))), (8, .v (.one (.box 2 0))), (9, .v (.one (.box 3 0))), (11, .v (.one (.d (.bool (decide (((IntKind.wrap .i64 (vx8 + 1)).tmod (qx.length : Int)) = vx)))))), (14, .v (.one (.d (.lst (List.map api_Spot.enc qx))))), (15, .v (.one (.d (.int .i64 (qx.length : Int))))), (16, .v (.one (.d (.int .i64 vx)))), (70, .v (.one (.d (.bool vx13))))]) 4

def place_crossed_x4_I (qx : List api_Spot) (vx : Int) (vy6 : api_Spot) (vy7 : api_Spot) (vx8 : Int) (vy10 : api_Spot) (vy11 : api_Spot) : St := Mem.st ⟨[], [(0, [.d (.int .i64 vy6.X), .d (.int .i64 vy6.Y)]), (1, [.d (.int .i64 vy7.X), .d (.int .i64 vy7.Y)]), (2, [.d (.int .i64 vy10.X), .d (.int .i64 vy10.Y)]), (3, [.d (.int .i64 vy11.X), .d (.int .i64 vy11.Y)])]⟩ (tl [(0, .v (.one (.d (.lst (List.map api_Spot.enc qx))))), (3, .v (.one (.d (.int .i64 (qx.length : Int))))), (4, .v (.one (.d (.int .i64 vx)))), (5, .v (.one (.box 0 0))), (6, .v (.one (.box 1 0))), (7, .v (.one (.d (.int .i64 vx8)))), (8, .v (.one (.box 2 0))), (9, .v (.one (.box 3 0))), (10, .v (.one (.d (.bool (decide (vx8 = (IntKind.wrap .i64 (vx + 1)))))))), (11, .v (.one (.d (.bool (decide (((IntKind.wrap .i64 (vx8 + 1)).tmod (qx.length : Int)) = vx)))))), (14, .v (.one (.d (.lst (List.map api_Spot.enc qx))))), (15, .v (.one (.d (.int .i64 (qx.length : Int))))), (16, .v (.one (.d (.int .i64 vx))))]) 4

theorem place_crossed_x4_ok (qx : List api_Spot) (vx : Int) (vy6 : api_Spot) (vy7 : api_Spot) (vx8 : Int) (vy10 : api_Spot) (vy11 : api_Spot) {r} (hF : place_crossed_x4 vx vy6 vy7 vx8 vy10 vy11 = some r) : Awp prog 0 99 (cL (cR (cR (cL (cR (cR (cL (cL (cR (cL (cL (cR (cR (cR (cL (cL (cR (cR (cL (cL (cR (cL (cR (cR (cB f51))))))))))))))))))))))))) (Out 0 place_crossed_x4_k (place_crossed_x4_S qx vx vy6 vy7 vx8 vy10 vy11) r) (place_crossed_x4_I qx vx vy6 vy7 vx8 vy10 vy11) := by
  unfold place_crossed_x4 at hF
  refine cE hF (fun h14 hF => ?_) fun h14 hF => ?_
  · refine bE hF fun vr13 h15 hF => ?_
    refine cE hF (fun h16 hF => ?_) fun h16 hF => ?_
    · refine awp_region ?_
      refine aB h14 ?_
      refine aR 4 ?_
      refine aCb (place_on_ok h15) [] [] [] h16 ?_
      refine aR 8 ?_
      refine aE ?_
      exact oO hF [] [] rfl
    · refine bE hF fun vr14 h17 hF => ?_
      refine awp_region ?_
      refine aB h14 ?_
      refine aR 4 ?_
      refine aCb (place_on_ok h15) [] [] [] h16 ?_
      refine aR 4 ?_
      refine aC (place_on_ok h17) [] [] [] ?_
      refine aR 3 ?_
      refine aE ?_
      exact oO hF [] [] rfl
  · refine awp_region ?_
    refine aB h14 ?_
    refine aR 13 ?_
    refine aE ?_
    exact oO hF [] [] rfl

def place_crossed_x5_k : Bool → AEx
  | _ => .normal

def place_crossed_x5_S (qx : List api_Spot) (vx : Int) (vy6 : api_Spot) (vy7 : api_Spot) (vx8 : Int) (vy10 : api_Spot) (vy11 : api_Spot) : Bool → St
  | vx14 => Mem.st ⟨[], [(0, [.d (.int .i64 vy6.X), .d (.int .i64 vy6.Y)]), (1, [.d (.int .i64 vy7.X), .d (.int .i64 vy7.Y)])]⟩ (tl [(0, .v (.one (.d (.lst (List.map api_Spot.enc qx))))), (3, .v (.one (.d (.int .i64 (qx.length : Int))))), (4, .v (.one (.d (.int .i64 vx)))), (5, .v (.one (.box 0 0))), (6, .v (.one (.box 1 0))), (7, .v (.one (.d (.int .i64 vx8)))), (14, .v (.one (.d (.lst (List.map api_Spot.enc qx))))), (15, .v (.one (.d (.int .i64 (qx.length : Int))))), (16, .v (.one (.d (.int .i64 vx)))), (84, .v (.one (.d (.bool vx14))))]) 2

def place_crossed_x5_I (qx : List api_Spot) (vx : Int) (vy6 : api_Spot) (vy7 : api_Spot) (vx8 : Int) (vy10 : api_Spot) (vy11 : api_Spot) : St := Mem.st ⟨[], [(0, [.d (.int .i64 vy6.X), .d (.int .i64 vy6.Y)]), (1, [.d (.int .i64 vy7.X), .d (.int .i64 vy7.Y)]), (2, [.d (.int .i64 vy10.X), .d (.int .i64 vy10.Y)]), (3, [.d (.int .i64 vy11.X), .d (.int .i64 vy11.Y)])]⟩ (tl [(0, .v (.one (.d (.lst (List.map api_Spot.enc qx))))), (3, .v (.one (.d (.int .i64 (qx.length : Int))))), (4, .v (.one (.d (.int .i64 vx)))), (5, .v (.one (.box 0 0))), (6, .v (.one (.box 1 0))), (7, .v (.one (.d (.int .i64 vx8)))), (8, .v (.one (.box 2 0))), (9, .v (.one (.box 3 0))), (11, .v (.one (.d (.bool (decide (((IntKind.wrap .i64 (vx8 + 1)).tmod (qx.length : Int)) = vx)))))), (14, .v (.one (.d (.lst (List.map api_Spot.enc qx))))), (15, .v (.one (.d (.int .i64 (qx.length : Int))))), (16, .v (.one (.d (.int .i64 vx))))]) 4

theorem place_crossed_x5_ok (qx : List api_Spot) (vx : Int) (vy6 : api_Spot) (vy7 : api_Spot) (vx8 : Int) (vy10 : api_Spot) (vy11 : api_Spot) {r} (hF : place_crossed_x5 qx vx vy6 vy7 vx8 vy10 vy11 = some r) : Awp prog 0 99 (cL (cR (cR (cR (cR (cL (cR (cR (cL (cL (cR (cL (cL (cR (cR (cR (cL (cL (cR (cR (cL (cL (cR (cL (cR (cR (cB f51))))))))))))))))))))))))))) (Out 0 place_crossed_x5_k (place_crossed_x5_S qx vx vy6 vy7 vx8 vy10 vy11) r) (place_crossed_x5_I qx vx vy6 vy7 vx8 vy10 vy11) := by
  unfold place_crossed_x5 at hF
  refine cE hF (fun h20 hF => ?_) fun h20 hF => ?_
  · refine bE hF fun vr15 h21 hF => ?_
    refine cE hF (fun h22 hF => ?_) fun h22 hF => ?_
    · refine awp_region ?_
      refine aB h20 ?_
      refine aR 4 ?_
      refine aCb (place_on_ok h21) [] [] [] h22 ?_
      refine aR 8 ?_
      refine aE ?_
      exact oO hF [] [] rfl
    · refine bE hF fun vr16 h23 hF => ?_
      refine awp_region ?_
      refine aB h20 ?_
      refine aR 4 ?_
      refine aCb (place_on_ok h21) [] [] [] h22 ?_
      refine aR 4 ?_
      refine aC (place_on_ok h23) [] [] [] ?_
      refine aR 3 ?_
      refine aE ?_
      exact oO hF [] [] rfl
  · refine awp_region ?_
    refine aB h20 ?_
    refine aR 13 ?_
    refine aE ?_
    exact oO hF [] [] rfl

def place_crossed_x2_k : Unit ⊕ Unit → AEx
  | .inl _ => .exit 2
  | .inr _ => .ret

def place_crossed_x2_S (qx : List api_Spot) (vx : Int) (vy6 : api_Spot) (vy7 : api_Spot) : Unit ⊕ Unit → St
  | .inl _ => Mem.st ⟨[], []⟩ (tl [(0, .v (.one (.d (.lst (List.map api_Spot.enc qx))))), (3, .v (.one (.d (.int .i64 (qx.length : Int))))), (14, .v (.one (.d (.lst (List.map api_Spot.enc qx))))), (15, .v (.one (.d (.int .i64 (qx.length : Int))))), (16, .v (.one (.d (.int .i64 vx))))]) 0
  | .inr _ => Mem.st ⟨[], []⟩ (tl [(2, .v (.one (.d (.bool true))))]) 0

def place_crossed_x2_H (qx : List api_Spot) (vx : Int) (vy6 : api_Spot) (vy7 : api_Spot) : Int → St
  | vx8 => Mem.st ⟨[], [(0, [.d (.int .i64 vy6.X), .d (.int .i64 vy6.Y)]), (1, [.d (.int .i64 vy7.X), .d (.int .i64 vy7.Y)])]⟩ (tl [(0, .v (.one (.d (.lst (List.map api_Spot.enc qx))))), (3, .v (.one (.d (.int .i64 (qx.length : Int))))), (4, .v (.one (.d (.int .i64 vx)))), (5, .v (.one (.box 0 0))), (6, .v (.one (.box 1 0))), (7, .v (.one (.d (.int .i64 vx8)))), (14, .v (.one (.d (.lst (List.map api_Spot.enc qx))))), (15, .v (.one (.d (.int .i64 (qx.length : Int))))), (16, .v (.one (.d (.int .i64 vx))))]) 2

theorem place_crossed_x2_ok (qx : List api_Spot) (vx : Int) (vy6 : api_Spot) (vy7 : api_Spot) (vx8 : Int) (r : (Int) ⊕ (Unit ⊕ Unit)) (hF : place_crossed_x2 qx vx vy6 vy7 vx8 = some r) : Awp prog 0 99 (cL (cL (cR (cR (cR (cL (cL (cR (cR (cL (cL (cR (cL (cR (cR (cB f51)))))))))))))))) (Out 0 (kk place_crossed_x2_k) (SS (place_crossed_x2_H qx vx vy6 vy7) (place_crossed_x2_S qx vx vy6 vy7)) r) (place_crossed_x2_H qx vx vy6 vy7 vx8) := by
  unfold place_crossed_x2 at hF
  refine awp_seq ?_
  refine awp_seq ?_
  refine awp_region ?_
  refine aR 3 ?_
  refine aE ?_
  refine cE hF (fun h5 hF => ?_) fun h5 hF => ?_
  · refine awp_true (by kernel_rfl) h5 ?_
    refine awp_skip ?_
    refine awp_seq ?_
    refine awp_block ?_
    refine awp_seq ?_
    refine bE hF fun vy10 h6 hF => ?_
    refine gE hF fun h7 hF => ?_
    refine bE hF fun vy11 h8 hF => ?_
    refine aD ?_
    refine dR 2 ?_
    refine dX (x_idx api_Spot.enc h6) ?_
    refine dR 5 ?_
    refine dX (x_rem h7) ?_
    refine dX (x_idx api_Spot.enc h8) ?_
    refine dR 5 ?_
    refine dE ?_
    refine awp_seq ?_
    refine aD ?_
    refine dR 7 ?_
    refine dX (x_rem h7) ?_
    refine dR 4 ?_
    refine dE ?_
    refine awp_block ?_
    refine awp_seq ?_
    refine awp_to (st' := place_crossed_x3_I qx vx vy6 vy7 vx8 vy10 vy11) (oT [(2, 14002), (3, 15002)] []) ?_
    refine bE hF fun vx12_1 h12 hF => ?_
    refine awp_sub (place_crossed_x3_ok qx vx vy6 vy7 vx8 vy10 vy11 h12) ?_
    refine cE hF (fun h13 hF => ?_) fun h13 hF => ?_
    · refine awp_true (by kernel_rfl) h13 ?_
      refine awp_seq ?_
      refine awp_region ?_
      refine aR 1 ?_
      refine aE ?_
      refine awp_ret ?_
      exact oO hF [] [] rfl
    · refine awp_false (by kernel_rfl) h13 ?_
      refine awp_seq ?_
      refine awp_to (st' := place_crossed_x4_I qx vx vy6 vy7 vx8 vy10 vy11) (oT [] []) ?_
      refine bE hF fun vx13_1 h18 hF => ?_
      refine awp_sub (place_crossed_x4_ok qx vx vy6 vy7 vx8 vy10 vy11 h18) ?_
      refine cE hF (fun h19 hF => ?_) fun h19 hF => ?_
      · refine awp_true (by kernel_rfl) h19 ?_
        refine awp_seq ?_
        refine awp_region ?_
        refine aR 1 ?_
        refine aE ?_
        refine awp_ret ?_
        exact oO hF [] [] rfl
      · refine awp_false (by kernel_rfl) h19 ?_
        refine awp_seq ?_
        refine awp_to (st' := place_crossed_x5_I qx vx vy6 vy7 vx8 vy10 vy11) (oT [] []) ?_
        refine bE hF fun vx14_1 h24 hF => ?_
        refine awp_sub (place_crossed_x5_ok qx vx vy6 vy7 vx8 vy10 vy11 h24) ?_
        refine cE hF (fun h25 hF => ?_) fun h25 hF => ?_
        · refine awp_true (by kernel_rfl) h25 ?_
          refine awp_seq ?_
          refine awp_region ?_
          refine aR 1 ?_
          refine aE ?_
          refine awp_ret ?_
          exact oO hF [] [] rfl
        · refine awp_false (by kernel_rfl) h25 ?_
          refine awp_skip ?_
          refine awp_region ?_
          refine aR 3 ?_
          refine aE ?_
          exact oO hF [] [] rfl
  · refine awp_false (by kernel_rfl) h5 ?_
    refine awp_exit ?_
    exact oO hF [] [] rfl

def place_crossed_x1_k : Unit ⊕ Unit → AEx
  | .inl _ => .exit 0
  | .inr _ => .ret

def place_crossed_x1_S (qx : List api_Spot) : Unit ⊕ Unit → St
  | .inl _ => Mem.st ⟨[], []⟩ (tl []) 0
  | .inr _ => Mem.st ⟨[], []⟩ (tl [(2, .v (.one (.d (.bool true))))]) 0

def place_crossed_x1_H (qx : List api_Spot) : Int → St
  | vx => Mem.st ⟨[], []⟩ (tl [(0, .v (.one (.d (.lst (List.map api_Spot.enc qx))))), (3, .v (.one (.d (.int .i64 (qx.length : Int))))), (14, .v (.one (.d (.lst (List.map api_Spot.enc qx))))), (15, .v (.one (.d (.int .i64 (qx.length : Int))))), (16, .v (.one (.d (.int .i64 vx))))]) 0

theorem place_crossed_x1_ok (qx : List api_Spot) (vx : Int) (r : (Int) ⊕ (Unit ⊕ Unit)) (hF : place_crossed_x1 qx vx = some r) : Awp prog 0 99 (cL (cL (cR (cL (cR (cR (cB f51))))))) (Out 0 (kk place_crossed_x1_k) (SS (place_crossed_x1_H qx) (place_crossed_x1_S qx)) r) (place_crossed_x1_H qx vx) := by
  unfold place_crossed_x1 at hF
  refine awp_seq ?_
  refine awp_region ?_
  refine aR 1 ?_
  refine aE ?_
  refine awp_seq ?_
  refine cE hF (fun h1 hF => ?_) fun h1 hF => ?_
  · refine awp_true (by kernel_rfl) h1 ?_
    refine awp_skip ?_
    refine awp_seq ?_
    refine awp_block ?_
    refine awp_seq ?_
    refine bE hF fun vy6 h2 hF => ?_
    refine awp_region ?_
    refine aR 1 ?_
    refine aX (x_idx api_Spot.enc h2) ?_
    refine aR 4 ?_
    refine aE ?_
    refine awp_seq ?_
    refine gE hF fun h3 hF => ?_
    refine bE hF fun vy7 h4 hF => ?_
    refine awp_region ?_
    refine aR 4 ?_
    refine aX (x_rem h3) ?_
    refine aX (x_idx api_Spot.enc h4) ?_
    refine aR 3 ?_
    refine aE ?_
    refine awp_seq ?_
    refine awp_region ?_
    refine aR 3 ?_
    refine aE ?_
    refine awp_block ?_
    refine awp_to (st' := place_crossed_x2_H qx vx vy6 vy7 (IntKind.wrap .i64 (vx + 1))) (oT [(0, 4000), (1, 14000)] []) ?_
    refine bE hF fun x h26 hF => ?_
    rcases x with _ | _
    · refine awp_sub (awp_loop' (place_crossed_x2_H qx vx vy6 vy7) place_crossed_x2_k (place_crossed_x2_S qx vx vy6 vy7) (by intro x; rcases x with x | x <;> exact fun h => nomatch h) h26 (place_crossed_x2_ok qx vx vy6 vy7)) ?_
      refine awp_region ?_
      refine aR 2 ?_
      refine aE ?_
      exact oO hF [] [] rfl
    · refine awp_sub (awp_loop' (place_crossed_x2_H qx vx vy6 vy7) place_crossed_x2_k (place_crossed_x2_S qx vx vy6 vy7) (by intro x; rcases x with x | x <;> exact fun h => nomatch h) h26 (place_crossed_x2_ok qx vx vy6 vy7)) ?_
      exact oO hF [] [] rfl
  · refine awp_false (by kernel_rfl) h1 ?_
    refine awp_exit ?_
    exact oO hF [] [] rfl

def place_crossed_R (qx : List api_Spot) (r : Bool) : TV × Mem := (.v (.one (.d (.bool r))), ⟨[], []⟩)

theorem place_crossed_ok {qx : List api_Spot} {r} (hF : place_crossed qx = some r) : Holds prog 51 [.v (.one (.d (.lst (List.map api_Spot.enc qx))))] ⟨[], []⟩ (Is (place_crossed_R qx r)) := by
  unfold place_crossed at hF
  refine holds_of_awp hΓ (fn := f51) (c := cB f51) (A := 0) (nx := 0) (by kernel_rfl) (by kernel_rfl) (by kernel_rfl) (by kernel_rfl) (by kernel_rfl) (by kernel_rfl) (lowc_of (by kernel_rfl)) ?_
  show Awp prog 0 99 (cB f51) _ _
  refine awp_seq ?_
  refine awp_region ?_
  refine aR 1 ?_
  refine aE ?_
  refine awp_seq ?_
  refine awp_region ?_
  refine aR 1 ?_
  refine aL api_Spot.enc qx ?_
  refine aR 1 ?_
  refine aE ?_
  refine awp_seq ?_
  refine awp_seq ?_
  refine awp_region ?_
  refine aR 1 ?_
  refine aL api_Spot.enc qx ?_
  refine aR 1 ?_
  refine aE ?_
  refine awp_block ?_
  refine awp_to (st' := place_crossed_x1_H qx 0) (oT [] []) ?_
  refine bE hF fun x h27 hF => ?_
  rcases x with _ | _
  · refine awp_sub (awp_loop' (place_crossed_x1_H qx) place_crossed_x1_k (place_crossed_x1_S qx) (by intro x; rcases x with x | x <;> exact fun h => nomatch h) h27 (place_crossed_x1_ok qx)) ?_
    refine awp_seq ?_
    refine awp_region ?_
    refine aR 1 ?_
    refine aE ?_
    refine awp_ret ?_
    exact oF hF [] []
  · refine awp_sub (awp_loop' (place_crossed_x1_H qx) place_crossed_x1_k (place_crossed_x1_S qx) (by intro x; rcases x with x | x <;> exact fun h => nomatch h) h27 (place_crossed_x1_ok qx)) ?_
    exact oF hF [] []

/-! ### beaconfleet/place.CheckFence -/
def place_CheckFence_x1_k : Unit ⊕ Int → AEx
  | .inl _ => .exit 1
  | .inr _ => .ret

def place_CheckFence_x1_S (qf : api_Fence) : Unit ⊕ Int → St
  | .inl _ => Mem.st ⟨[], [(0, [.d (.str qf.Key), .d (.lst (List.map api_Spot.enc qf.Corners))])]⟩ (tl [(1, .v (.one (.box 0 0)))]) 1
  | .inr vx1 => Mem.st ⟨[], []⟩ (tl [(2, .v (.one (.d (.int .i64 vx1))))]) 0

def place_CheckFence_x1_H (qf : api_Fence) : Int → St
  | vx => Mem.st ⟨[], [(0, [.d (.str qf.Key), .d (.lst (List.map api_Spot.enc qf.Corners))])]⟩ (tl [(1, .v (.one (.box 0 0))), (21, .v (.one (.d (.lst (List.map api_Spot.enc qf.Corners))))), (22, .v (.one (.d (.int .i64 (qf.Corners.length : Int))))), (23, .v (.one (.d (.int .i64 vx))))]) 1

theorem place_CheckFence_x1_ok (qf : api_Fence) (vx : Int) (r : (Int) ⊕ (Unit ⊕ Int)) (hF : place_CheckFence_x1 qf vx = some r) : Awp prog 0 41 (cL (cL (cR (cL (cR (cR (cB f33))))))) (Out 0 (kk place_CheckFence_x1_k) (SS (place_CheckFence_x1_H qf) (place_CheckFence_x1_S qf)) r) (place_CheckFence_x1_H qf vx) := by
  unfold place_CheckFence_x1 at hF
  refine awp_seq ?_
  refine awp_region ?_
  refine aR 1 ?_
  refine aE ?_
  refine awp_seq ?_
  refine cE hF (fun h5 hF => ?_) fun h5 hF => ?_
  · refine awp_true (by kernel_rfl) h5 ?_
    refine awp_skip ?_
    refine awp_seq ?_
    refine awp_block ?_
    refine awp_seq ?_
    refine bE hF fun vy1 h6 hF => ?_
    refine awp_region ?_
    refine aR 1 ?_
    refine aX (x_idx api_Spot.enc h6) ?_
    refine aR 4 ?_
    refine aE ?_
    refine awp_seq ?_
    refine awp_seq ?_
    refine bE hF fun vr2_1 h7 hF => ?_
    refine awp_region ?_
    refine aR 1 ?_
    refine aC (place_isSpot_ok h7) [] [] [] ?_
    refine aR 1 ?_
    refine aE ?_
    refine cE hF (fun h8 hF => ?_) fun h8 hF => ?_
    · refine awp_true (by kernel_rfl) h8 ?_
      refine awp_seq ?_
      refine awp_region ?_
      refine aR 1 ?_
      refine aE ?_
      refine awp_ret ?_
      exact oO hF [] [] rfl
    · refine awp_false (by kernel_rfl) h8 ?_
      refine awp_skip ?_
      refine awp_seq ?_
      refine bE hF fun vl1 h9 hF => ?_
      refine bE hF fun vr1_1 h10 hF => ?_
      refine aD ?_
      refine dR 3 ?_
      refine dX (x_slice api_Spot.enc h9) ?_
      refine dR 1 ?_
      refine dC (slices_Contains_api_Spot_api_Spot_ok h10) [] [] [] ?_
      refine dE ?_
      refine cE hF (fun h11 hF => ?_) fun h11 hF => ?_
      · refine awp_true (by kernel_rfl) h11 ?_
        refine awp_seq ?_
        refine awp_region ?_
        refine aR 1 ?_
        refine aE ?_
        refine awp_ret ?_
        exact oO hF [] [] rfl
      · refine awp_false (by kernel_rfl) h11 ?_
        refine awp_skip ?_
        refine awp_region ?_
        refine aR 2 ?_
        refine aE ?_
        exact oO hF [] [] rfl
  · refine awp_false (by kernel_rfl) h5 ?_
    refine awp_exit ?_
    exact oO hF [] [] rfl

def place_CheckFence_R (qf : api_Fence) (r : Int) : TV × Mem := (.v (.one (.d (.int .i64 r))), ⟨[], []⟩)

theorem place_CheckFence_ok {qf : api_Fence} {r} (hF : place_CheckFence qf = some r) : Holds prog 33 [.v (.agg [.d (.str qf.Key), .d (.lst (List.map api_Spot.enc qf.Corners))])] ⟨[], []⟩ (Is (place_CheckFence_R qf r)) := by
  unfold place_CheckFence at hF
  refine holds_of_awp hΓ (fn := f33) (c := cB f33) (A := 0) (nx := 0) (by kernel_rfl) (by kernel_rfl) (by kernel_rfl) (by kernel_rfl) (by kernel_rfl) (by kernel_rfl) (lowc_of (by kernel_rfl)) ?_
  show Awp prog 0 41 (cB f33) _ _
  refine awp_seq ?_
  refine awp_region ?_
  refine aR 2 ?_
  refine aE ?_
  refine awp_seq ?_
  refine awp_block ?_
  refine awp_seq ?_
  refine bE hF fun vr h1 hF => ?_
  refine awp_region ?_
  refine aR 2 ?_
  refine aC (base_Key_ok h1) [] [] [] ?_
  refine aR 2 ?_
  refine aE ?_
  refine cE hF (fun h2 hF => ?_) fun h2 hF => ?_
  · refine awp_true (by kernel_rfl) h2 ?_
    refine awp_seq ?_
    refine awp_region ?_
    refine aR 1 ?_
    refine aE ?_
    refine awp_ret ?_
    exact oF hF [] []
  · refine awp_false (by kernel_rfl) h2 ?_
    refine awp_seq ?_
    refine awp_region ?_
    refine aR 2 ?_
    refine aL api_Spot.enc qf.Corners ?_
    refine aR 2 ?_
    refine aE ?_
    refine cE hF (fun h3 hF => ?_) fun h3 hF => ?_
    · refine awp_true (by kernel_rfl) h3 ?_
      refine awp_seq ?_
      refine awp_region ?_
      refine aR 1 ?_
      refine aE ?_
      refine awp_ret ?_
      exact oF hF [] []
    · refine awp_false (by kernel_rfl) h3 ?_
      refine awp_seq ?_
      refine awp_region ?_
      refine aR 2 ?_
      refine aL api_Spot.enc qf.Corners ?_
      refine aR 2 ?_
      refine aE ?_
      refine cE hF (fun h4 hF => ?_) fun h4 hF => ?_
      · refine awp_true (by kernel_rfl) h4 ?_
        refine awp_seq ?_
        refine awp_region ?_
        refine aR 1 ?_
        refine aE ?_
        refine awp_ret ?_
        exact oF hF [] []
      · refine awp_false (by kernel_rfl) h4 ?_
        refine awp_skip ?_
        refine awp_seq ?_
        refine awp_seq ?_
        refine awp_region ?_
        refine aR 2 ?_
        refine aL api_Spot.enc qf.Corners ?_
        refine aR 1 ?_
        refine aE ?_
        refine awp_block ?_
        refine awp_to (st' := place_CheckFence_x1_H qf 0) (oT [] []) ?_
        refine bE hF fun x h12 hF => ?_
        rcases x with _ | vx1_1
        · refine awp_sub (awp_loop' (place_CheckFence_x1_H qf) place_CheckFence_x1_k (place_CheckFence_x1_S qf) (by intro x; rcases x with x | x <;> exact fun h => nomatch h) h12 (place_CheckFence_x1_ok qf)) ?_
          refine awp_seq ?_
          refine awp_seq ?_
          refine bE hF fun vr17 h13 hF => ?_
          refine awp_region ?_
          refine aR 2 ?_
          refine aC (place_crossed_ok h13) [] [] [] ?_
          refine aE ?_
          refine cE hF (fun h14 hF => ?_) fun h14 hF => ?_
          · refine awp_true (by kernel_rfl) h14 ?_
            refine awp_seq ?_
            refine awp_region ?_
            refine aR 1 ?_
            refine aE ?_
            refine awp_ret ?_
            exact oF hF [] []
          · refine awp_false (by kernel_rfl) h14 ?_
            refine awp_skip ?_
            refine awp_seq ?_
            refine awp_region ?_
            refine aR 1 ?_
            refine aE ?_
            refine awp_ret ?_
            exact oF hF [] []
        · refine awp_sub (awp_loop' (place_CheckFence_x1_H qf) place_CheckFence_x1_k (place_CheckFence_x1_S qf) (by intro x; rcases x with x | x <;> exact fun h => nomatch h) h12 (place_CheckFence_x1_ok qf)) ?_
          exact oF hF [] []

/-! ### beaconfleet/place.where$1 -/
def place_where_1_R (qa : api_Spot) (qb : api_Spot) (qx : api_Spot) (r : Bool) : TV × Mem := (.v (.one (.d (.bool r))), ⟨[], [(0, [.d (.int .i64 qx.X), .d (.int .i64 qx.Y)])]⟩)

theorem place_where_1_ok {qa : api_Spot} {qb : api_Spot} {qx : api_Spot} {r} (hF : place_where_1 qa qb qx = some r) : Holds prog 80 [.v (.agg [.d (.int .i64 qa.X), .d (.int .i64 qa.Y)]), .v (.agg [.d (.int .i64 qb.X), .d (.int .i64 qb.Y)]), .v (.one (.box 0 0))] ⟨[], [(0, [.d (.int .i64 qx.X), .d (.int .i64 qx.Y)])]⟩ (Is (place_where_1_R qa qb qx r)) := by
  unfold place_where_1 at hF
  refine holds_of_awp hΓ (fn := f80) (c := cB f80) (A := 1) (nx := 1) (by kernel_rfl) (by kernel_rfl) (by kernel_rfl) (by kernel_rfl) (by kernel_rfl) (by kernel_rfl) (lowc_of (by kernel_rfl)) ?_
  show Awp prog 1 10 (cB f80) _ _
  refine awp_seq ?_
  refine awp_region ?_
  refine aR 3 ?_
  refine aE ?_
  refine awp_seq ?_
  refine bE hF fun vr h1 hF => ?_
  refine awp_region ?_
  refine aR 3 ?_
  refine aC (place_on_ok h1) [] [] [] ?_
  refine aR 1 ?_
  refine aE ?_
  refine awp_ret ?_
  exact oF hF [] []

/-! ### beaconfleet/place.edges -/
def place_edges_f1_place_where_1_x1_k : Unit ⊕ Unit → AEx
  | .inl _ => .exit 0
  | .inr _ => .ret

def place_edges_f1_place_where_1_x1_S (ql : List api_Spot) (qf : api_Spot) : Unit ⊕ Unit → St
  | .inl _ => Mem.st ⟨[], [(0, [.d (.int .i64 qf.X), .d (.int .i64 qf.Y)])]⟩ (tl []) 1
  | .inr _ => Mem.st ⟨[], [(0, [.d (.int .i64 qf.X), .d (.int .i64 qf.Y)])]⟩ (tl [(4, .v (.one (.d (.bool true))))]) 1

def place_edges_f1_place_where_1_x1_H (ql : List api_Spot) (qf : api_Spot) : Int → St
  | vx => Mem.st ⟨[], [(0, [.d (.int .i64 qf.X), .d (.int .i64 qf.Y)])]⟩ (tl [(0, .v (.one (.d (.lst (List.map api_Spot.enc ql))))), (1, .v (.one (.fn 80 [0]))), (7, .v (.one (.d (.lst (List.map api_Spot.enc ql))))), (8, .v (.one (.d (.int .i64 (ql.length : Int))))), (9, .v (.one (.d (.int .i64 vx))))]) 1

theorem place_edges_f1_place_where_1_x1_ok (ql : List api_Spot) (qf : api_Spot) (vx : Int) (r : (Int) ⊕ (Unit ⊕ Unit)) (hF : place_edges_f1_place_where_1_x1 ql qf vx = some r) : Awp prog 1 26 (cL (cL (cR (cL (cR (cB f67)))))) (Out 1 (kk place_edges_f1_place_where_1_x1_k) (SS (place_edges_f1_place_where_1_x1_H ql qf) (place_edges_f1_place_where_1_x1_S ql qf)) r) (place_edges_f1_place_where_1_x1_H ql qf vx) := by
  unfold place_edges_f1_place_where_1_x1 at hF
  refine awp_seq ?_
  refine awp_region ?_
  refine aR 1 ?_
  refine aE ?_
  refine awp_seq ?_
  refine cE hF (fun h1 hF => ?_) fun h1 hF => ?_
  · refine awp_true (by kernel_rfl) h1 ?_
    refine awp_skip ?_
    refine awp_seq ?_
    refine awp_block ?_
    refine awp_seq ?_
    refine bE hF fun vy2 h2 hF => ?_
    refine awp_region ?_
    refine aR 1 ?_
    refine aX (x_idx api_Spot.enc h2) ?_
    refine aR 4 ?_
    refine aE ?_
    refine awp_seq ?_
    refine gE hF fun h3 hF => ?_
    refine bE hF fun vy3 h4 hF => ?_
    refine bE hF fun vr1_1 h5 hF => ?_
    refine aD ?_
    refine dR 6 ?_
    refine dL api_Spot.enc ql ?_
    refine dX (x_rem h3) ?_
    refine dX (x_idx api_Spot.enc h4) ?_
    refine dR 1 ?_
    refine dC (place_where_1_ok h5) [] [] [] ?_
    refine dE ?_
    refine cE hF (fun h6 hF => ?_) fun h6 hF => ?_
    · refine awp_true (by kernel_rfl) h6 ?_
      refine awp_seq ?_
      refine awp_region ?_
      refine aR 1 ?_
      refine aE ?_
      refine awp_ret ?_
      exact oO hF [] [] rfl
    · refine awp_false (by kernel_rfl) h6 ?_
      refine awp_skip ?_
      refine awp_region ?_
      refine aR 2 ?_
      refine aE ?_
      exact oO hF [] [] rfl
  · refine awp_false (by kernel_rfl) h1 ?_
    refine awp_exit ?_
    exact oO hF [] [] rfl

def place_edges_f1_place_where_1_R (ql : List api_Spot) (qf : api_Spot) (r : Bool) : TV × Mem := (.v (.one (.d (.bool r))), ⟨[], [(0, [.d (.int .i64 qf.X), .d (.int .i64 qf.Y)])]⟩)

theorem place_edges_f1_place_where_1_ok {ql : List api_Spot} {qf : api_Spot} {r} (hF : place_edges_f1_place_where_1 ql qf = some r) : Holds prog 67 [.v (.one (.d (.lst (List.map api_Spot.enc ql)))), .v (.one (.fn 80 [0]))] ⟨[], [(0, [.d (.int .i64 qf.X), .d (.int .i64 qf.Y)])]⟩ (Is (place_edges_f1_place_where_1_R ql qf r)) := by
  unfold place_edges_f1_place_where_1 at hF
  refine holds_of_awp hΓ (fn := f67) (c := cB f67) (A := 1) (nx := 1) (by kernel_rfl) (by kernel_rfl) (by kernel_rfl) (by kernel_rfl) (by kernel_rfl) (by kernel_rfl) (lowc_of (by kernel_rfl)) ?_
  show Awp prog 1 26 (cB f67) _ _
  refine awp_seq ?_
  refine awp_region ?_
  refine aR 1 ?_
  refine aE ?_
  refine awp_seq ?_
  refine awp_seq ?_
  refine awp_region ?_
  refine aR 1 ?_
  refine aL api_Spot.enc ql ?_
  refine aR 1 ?_
  refine aE ?_
  refine awp_block ?_
  refine awp_to (st' := place_edges_f1_place_where_1_x1_H ql qf 0) (oT [] []) ?_
  refine bE hF fun x h7 hF => ?_
  rcases x with _ | _
  · refine awp_sub (awp_loop' (place_edges_f1_place_where_1_x1_H ql qf) place_edges_f1_place_where_1_x1_k (place_edges_f1_place_where_1_x1_S ql qf) (by intro x; rcases x with x | x <;> exact fun h => nomatch h) h7 (place_edges_f1_place_where_1_x1_ok ql qf)) ?_
    refine awp_seq ?_
    refine awp_region ?_
    refine aR 1 ?_
    refine aE ?_
    refine awp_ret ?_
    exact oF hF [] []
  · refine awp_sub (awp_loop' (place_edges_f1_place_where_1_x1_H ql qf) place_edges_f1_place_where_1_x1_k (place_edges_f1_place_where_1_x1_S ql qf) (by intro x; rcases x with x | x <;> exact fun h => nomatch h) h7 (place_edges_f1_place_where_1_x1_ok ql qf)) ?_
    exact oF hF [] []

end Go.Eng
