/-
The code of the Go functions that the law TopCellsAndFences reaches does what the plain functions say, part 1.
-/
import Derived.Test.YtgjgjnfglkdgaaaGreatDoorGenF

import Derived.Test.YtgjgjnfglkdgaaaGreatDoorEng2

import Derived.Test.YtgjgjnfglkdgaaaGreatDoorProg

import Derived.KernelRfl

namespace Go.Eng

open Go Go.Proofs.Tryz

set_option linter.unusedVariables false

set_option maxRecDepth 20000

set_option maxHeartbeats 0

def ti2 : TI := ⟨1, 8, [.d (.int .i64 0)], false, .int .i64⟩

def ti3 : TI := ⟨1, 8, [.d (.int .i64 0)], false, .int .i64⟩

def ti4 : TI := ⟨1, 1, [.d (.bool false)], false, .bool⟩

def ti5 : TI := ⟨1, 1, [.d (.int .u8 0)], false, .int .u8⟩

def ti9 : TI := ⟨1, 16, [.d (.str [])], false, .str⟩

def ti12 : TI := ⟨1, 8, [.d (.int .u64 0)], false, .int .u64⟩

def ti21 : TI := ⟨1, 4, [.d (.int .i32 0)], false, .int .i32⟩

def ti22 : TI := ⟨1, 24, [.nil], false, .slice 3⟩

def ti25 : TI := ⟨2, 32, [.nil, .d (.int .i64 0)], true, .struct [(0, 22), (1, 3)]⟩

def ti26 : TI := ⟨1, 24, [.nil], false, .slice 43⟩

def ti28 : TI := ⟨2, 40, [.d (.str []), .nil], true, .struct [(0, 9), (1, 26)]⟩

def ti31 : TI := ⟨1, 8, [.d (.int .i64 0)], false, .int .i64⟩

def ti34 : TI := ⟨1, 24, [.nil], false, .slice 9⟩

def ti43 : TI := ⟨2, 16, [.d (.int .i64 0), .d (.int .i64 0)], true, .struct [(0, 3), (1, 3)]⟩

def ti61 : TI := ⟨1, 24, [.nil], false, .slice 5⟩

def ti65 : TI := ⟨4, 48, [.d (.str []), .d (.str []), .d (.int .i64 0), .d (.int .i64 0)], true, .struct [(0, 9), (1, 9), (2, 3), (3, 3)]⟩

def ti66 : TI := ⟨1, 24, [.nil], false, .slice 65⟩

def ti68 : TI := ⟨3, 24, [.d (.int .i64 0), .d (.int .i64 0), .d (.int .i64 0)], true, .struct [(0, 3), (1, 3), (2, 3)]⟩

def ti78 : TI := ⟨1, 24, [.nil], false, .slice 31⟩

def ti81 : TI := ⟨1, 24, [.nil], false, .slice 122⟩

def ti85 : TI := ⟨4, 40, [.d (.int .i64 0), .d (.bool false), .d (.int .i64 0), .d (.str [])], true, .struct [(0, 3), (1, 4), (2, 3), (3, 9)]⟩

def ti87 : TI := ⟨5, 56, [.d (.str []), .d (.int .i64 0), .d (.bool false), .d (.int .i64 0), .d (.str [])], true, .struct [(0, 9), (1, 85)]⟩

def ti88 : TI := ⟨1, 24, [.nil], false, .slice 87⟩

def ti89 : TI := ⟨1, 24, [.nil], false, .slice 93⟩

def ti93 : TI := ⟨6, 72, [.d (.str []), .d (.str []), .d (.str []), .d (.int .i64 0), .d (.int .i64 0), .d (.int .i64 0)], true, .struct [(0, 9), (1, 9), (2, 9), (3, 3), (4, 3), (5, 3)]⟩

def ti112 : TI := ⟨256, 256, [.d (.bool false), .d (.bool false), .d (.bool false), .d (.bool false), .d (.bool false), .d (.bool false), .d (.bool false), .d (.bool false), .d (.bool false), .d (.bool false), .d (.bool false), .d (.bool false), .d (.bool false), .d (.bool false), .d (.bool false), .d (.bool false), .d (.bool false), .d (.bool false), .d (.bool false), .d (.bool false), .d (.bool false), .d (.bool false), .d (.bool false), .d (.bool false), .d (.bool false), .d (.bool false), .d (.bool false), .d (.bool false), .d (.bool false), .d (.bool false), .d (.bool false), .d (.bool false), .d (.bool false), .d (.bool false), .d (.bool false), .d (.bool false), .d (.bool false), .d (.bool false), .d (.bool false), .d (.bool false), .d (.bool false), .d (.bool false), .d (.bool false), .d (.bool false), .d (.bool false), .d (.bool false), .d (.bool false), .d (.bool false), .d (.bool false), .d (.bool false), .d (.bool false), .d (.bool false), .d (.bool false), .d (.bool false), .d (.bool false), .d (.bool false), .d (.bool false), .d (.bool false), .d (.bool false), .d (.bool false), .d (.bool false), .d (.bool false), .d (.bool false), .d (.bool false), .d (.bool false), .d (.bool false), .d (.bool false), .d (.bool false), .d (.bool false), .d (.bool false), .d (.bool false), .d (.bool false), .d (.bool false), .d (.bool false), .d (.bool false), .d (.bool false), .d (.bool false), .d (.bool false), .d (.bool false), .d (.bool false), .d (.bool false), .d (.bool false), .d (.bool false), .d (.bool false), .d (.bool false), .d (.bool false), .d (.bool false), .d (.bool false), .d (.bool false), .d (.bool false), .d (.bool false), .d (.bool false), .d (.bool false), .d (.bool false), .d (.bool false), .d (.bool false), .d (.bool false), .d (.bool false), .d (.bool false), .d (.bool false), .d (.bool false), .d (.bool false), .d (.bool false), .d (.bool false), .d (.bool false), .d (.bool false), .d (.bool false), .d (.bool false), .d (.bool false), .d (.bool false), .d (.bool false), .d (.bool false), .d (.bool false), .d (.bool false), .d (.bool false), .d (.bool false), .d (.bool false), .d (.bool false), .d (.bool false), .d (.bool false), .d (.bool false), .d (.bool false), .d (.bool false), .d (.bool false), .d (.bool false), .d (.bool false), .d (.bool false), .d (.bool false), .d (.bool false), .d (.bool false), .d (.bool false), .d (.bool false), .d (.bool false), .d (.bool false), .d (.bool false), .d (.bool false), .d (.bool false), .d (.bool false), .d (.bool false), .d (.bool false), .d (.bool false), .d (.bool false), .d (.bool false), .d (.bool false), .d (.bool false), .d (.bool false), .d (.bool false), .d (.bool false), .d (.bool false), .d (.bool false), .d (.bool false), .d (.bool false), .d (.bool false), .d (.bool false), .d (.bool false), .d (.bool false), .d (.bool false), .d (.bool false), .d (.bool false), .d (.bool false), .d (.bool false), .d (.bool false), .d (.bool false), .d (.bool false), .d (.bool false), .d (.bool false), .d (.bool false), .d (.bool false), .d (.bool false), .d (.bool false), .d (.bool false), .d (.bool false), .d (.bool false), .d (.bool false), .d (.bool false), .d (.bool false), .d (.bool false), .d (.bool false), .d (.bool false), .d (.bool false), .d (.bool false), .d (.bool false), .d (.bool false), .d (.bool false), .d (.bool false), .d (.bool false), .d (.bool false), .d (.bool false), .d (.bool false), .d (.bool false), .d (.bool false), .d (.bool false), .d (.bool false), .d (.bool false), .d (.bool false), .d (.bool false), .d (.bool false), .d (.bool false), .d (.bool false), .d (.bool false), .d (.bool false), .d (.bool false), .d (.bool false), .d (.bool false), .d (.bool false), .d (.bool false), .d (.bool false), .d (.bool false), .d (.bool false), .d (.bool false), .d (.bool false), .d (.bool false), .d (.bool false), .d (.bool false), .d (.bool false), .d (.bool false), .d (.bool false), .d (.bool false), .d (.bool false), .d (.bool false), .d (.bool false), .d (.bool false), .d (.bool false), .d (.bool false), .d (.bool false), .d (.bool false), .d (.bool false), .d (.bool false), .d (.bool false), .d (.bool false), .d (.bool false), .d (.bool false), .d (.bool false), .d (.bool false), .d (.bool false), .d (.bool false), .d (.bool false), .d (.bool false), .d (.bool false), .d (.bool false), .d (.bool false), .d (.bool false), .d (.bool false), .d (.bool false), .d (.bool false), .d (.bool false), .d (.bool false), .d (.bool false), .d (.bool false), .d (.bool false), .d (.bool false), .d (.bool false), .d (.bool false), .d (.bool false), .d (.bool false), .d (.bool false)], true, .other⟩

def ti122 : TI := ⟨9, 96, [.d (.str []), .d (.int .i64 0), .d (.bool false), .d (.int .i64 0), .d (.str []), .d (.int .i64 0), .d (.bool false), .d (.int .i64 0), .d (.str [])], true, .struct [(0, 9), (1, 85), (5, 85)]⟩

def ti134 : TI := ⟨1, 8, [.d (.int .u64 0)], false, .int .u64⟩

def ti146 : TI := ⟨1, 24, [.nil], false, .slice 88⟩

def ti152 : TI := ⟨1, 8, [.d (.int .u64 0)], false, .int .u64⟩

def ti157 : TI := ⟨1, 16, [.nili], false, .other⟩

def Γ : Types := [(2, ti2), (3, ti3), (4, ti4), (5, ti5), (9, ti9), (12, ti12), (21, ti21), (22, ti22), (25, ti25), (26, ti26), (28, ti28), (31, ti31), (34, ti34), (43, ti43), (61, ti61), (65, ti65), (66, ti66), (68, ti68), (78, ti78), (81, ti81), (85, ti85), (87, ti87), (88, ti88), (89, ti89), (93, ti93), (112, ti112), (122, ti122), (134, ti134), (146, ti146), (152, ti152), (157, ti157)]

theorem hΓ : TypesOk prog Γ := typesOk_of (by kernel_rfl)

instance : TOk prog Γ := ⟨hΓ⟩

theorem hm : prog.follows .mixedOrders = true := by kernel_rfl

instance : Mixed prog := ⟨hm⟩

/-! ### beaconfleet/fleetmake.Below -/
def fleetmake_Below_x1_k : Int → AEx
  | _ => .normal

def fleetmake_Below_x1_S (qx : Int) (qn : Int) : Int → St
  | vx => Mem.st ⟨[], []⟩ (tl [(0, .v (.one (.d (.int .i64 vx))))]) 0

def fleetmake_Below_x1_I (qx : Int) (qn : Int) : St := Mem.st ⟨[], []⟩ (tl [(0, .v (.one (.d (.int .i64 (qx.tmod qn))))), (1, .v (.one (.d (.int .i64 qn))))]) 0

theorem fleetmake_Below_x1_ok (qx : Int) (qn : Int) {r} (hF : fleetmake_Below_x1 qx qn = some r) : Awp prog 0 16 (cL (cR (cR (cR (cB f47))))) (Out 0 fleetmake_Below_x1_k (fleetmake_Below_x1_S qx qn) r) (fleetmake_Below_x1_I qx qn) := by
  unfold fleetmake_Below_x1 at hF
  refine awp_seq ?_
  refine awp_region ?_
  refine aR 2 ?_
  refine aE ?_
  refine cE hF (fun h3 hF => ?_) fun h3 hF => ?_
  · refine awp_true (by kernel_rfl) h3 ?_
    refine awp_region ?_
    refine aR 4 ?_
    refine aE ?_
    exact oO hF [] [] rfl
  · refine awp_false (by kernel_rfl) h3 ?_
    refine awp_skip ?_
    exact oO hF [] [] rfl

def fleetmake_Below_R (qx : Int) (qn : Int) (r : Int) : TV × Mem := (.v (.one (.d (.int .i64 r))), ⟨[], []⟩)

theorem fleetmake_Below_ok {qx : Int} {qn : Int} {r} (hF : fleetmake_Below qx qn = some r) : Holds prog 47 [.v (.one (.d (.int .i64 qx))), .v (.one (.d (.int .i64 qn)))] ⟨[], []⟩ (Is (fleetmake_Below_R qx qn r)) := by
  unfold fleetmake_Below at hF
  refine holds_of_awp hΓ (fn := f47) (c := cB f47) (A := 0) (nx := 0) (by kernel_rfl) (by kernel_rfl) (by kernel_rfl) (by kernel_rfl) (by kernel_rfl) (by kernel_rfl) (lowc_of (by kernel_rfl)) ?_
  show Awp prog 0 16 (cB f47) _ _
  refine awp_seq ?_
  refine awp_region ?_
  refine aR 1 ?_
  refine aE ?_
  refine awp_seq ?_
  refine awp_seq ?_
  refine awp_region ?_
  refine aR 2 ?_
  refine aE ?_
  refine cE hF (fun h1 hF => ?_) fun h1 hF => ?_
  · refine awp_true (by kernel_rfl) h1 ?_
    refine awp_seq ?_
    refine awp_region ?_
    refine aR 1 ?_
    refine aE ?_
    refine awp_ret ?_
    exact oF hF [] []
  · refine awp_false (by kernel_rfl) h1 ?_
    refine awp_skip ?_
    refine awp_seq ?_
    refine gE hF fun h2 hF => ?_
    refine awp_region ?_
    refine aR 2 ?_
    refine aX (x_rem h2) ?_
    refine aR 1 ?_
    refine aE ?_
    refine awp_seq ?_
    refine awp_to (st' := fleetmake_Below_x1_I qx qn) (oT [] []) ?_
    refine bE hF fun vx1 h4 hF => ?_
    refine awp_sub (fleetmake_Below_x1_ok qx qn h4) ?_
    refine awp_seq ?_
    refine awp_region ?_
    refine aR 2 ?_
    refine aE ?_
    refine awp_ret ?_
    exact oF hF [] []

/-! ### (*beaconfleet/fleetmake.Stream).Next -/
def fleetmake_Stream_Next_R (qs : fleetmake_Stream) (qn : Int) (r : Int) : TV × Mem := (.v (.one (.d (.int .i64 r))), ⟨[], [(0, [.d (.lst (List.map (encI .i64) qs.L)), .d (.int .i64 (IntKind.wrap .i64 (qs.at_ + 1)))])]⟩)

theorem fleetmake_Stream_Next_ok {qs : fleetmake_Stream} {qn : Int} {r} (hF : fleetmake_Stream_Next qs qn = some r) : Holds prog 23 [.v (.one (.box 0 0)), .v (.one (.d (.int .i64 qn)))] ⟨[], [(0, [.d (.lst (List.map (encI .i64) qs.L)), .d (.int .i64 qs.at_)])]⟩ (Is (fleetmake_Stream_Next_R qs qn r)) := by
  unfold fleetmake_Stream_Next at hF
  refine holds_of_awp hΓ (fn := f23) (c := cB f23) (A := 1) (nx := 1) (by kernel_rfl) (by kernel_rfl) (by kernel_rfl) (by kernel_rfl) (by kernel_rfl) (by kernel_rfl) (lowc_of (by kernel_rfl)) ?_
  show Awp prog 1 64 (cB f23) _ _
  refine awp_seq ?_
  refine awp_region ?_
  refine aR 1 ?_
  refine aE ?_
  refine awp_seq ?_
  refine awp_region ?_
  refine aR 8 ?_
  refine aE ?_
  refine awp_seq ?_
  refine awp_seq ?_
  refine awp_region ?_
  refine aR 4 ?_
  refine aL (encI .i64) qs.L ?_
  refine aR 1 ?_
  refine aE ?_
  refine cE hF (fun h1 hF => ?_) fun h1 hF => ?_
  · refine awp_true (by kernel_rfl) h1 ?_
    refine awp_seq ?_
    refine bE hF fun vr h2 hF => ?_
    refine awp_region ?_
    refine aR 6 ?_
    refine aC (fleetmake_Below_ok h2) [] [] [] ?_
    refine aR 1 ?_
    refine aE ?_
    refine awp_ret ?_
    exact oF hF [] []
  · refine awp_false (by kernel_rfl) h1 ?_
    refine awp_skip ?_
    refine awp_seq ?_
    refine gE hF fun h3 hF => ?_
    refine aD ?_
    refine dR 9 ?_
    refine dL (encI .i64) qs.L ?_
    refine dX (x_rem h3) ?_
    refine dR 1 ?_
    refine dE ?_
    refine awp_seq ?_
    refine aD ?_
    refine dR 9 ?_
    refine dL (encI .i64) qs.L ?_
    refine dX (x_quo h3) ?_
    refine dR 1 ?_
    refine dE ?_
    refine awp_seq ?_
    refine bE hF fun vy h4 hF => ?_
    refine bE hF fun vr1 h5 hF => ?_
    refine bE hF fun vr2 h6 hF => ?_
    refine awp_region ?_
    refine aR 5 ?_
    refine aX (x_idx (encI .i64) h4) ?_
    refine aR 1 ?_
    refine aC (fleetmake_Below_ok h5) [] [] [] ?_
    refine aR 6 ?_
    refine aC (fleetmake_Below_ok h6) [] [] [] ?_
    refine aR 1 ?_
    refine aE ?_
    refine awp_ret ?_
    exact oF hF [] []

/-! ### (*beaconfleet/fleetmake.Stream).Range -/
def fleetmake_Stream_Range_R (qs : fleetmake_Stream) (qlow : Int) (qhigh : Int) (r : fleetmake_Stream × Int) : TV × Mem := (.v (.one (.d (.int .i64 r.2))), ⟨[], [(0, [.d (.lst (List.map (encI .i64) r.1.L)), .d (.int .i64 r.1.at_)])]⟩)

theorem fleetmake_Stream_Range_ok {qs : fleetmake_Stream} {qlow : Int} {qhigh : Int} {r} (hF : fleetmake_Stream_Range qs qlow qhigh = some r) : Holds prog 6 [.v (.one (.box 0 0)), .v (.one (.d (.int .i64 qlow))), .v (.one (.d (.int .i64 qhigh)))] ⟨[], [(0, [.d (.lst (List.map (encI .i64) qs.L)), .d (.int .i64 qs.at_)])]⟩ (Is (fleetmake_Stream_Range_R qs qlow qhigh r)) := by
  unfold fleetmake_Stream_Range at hF
  refine holds_of_awp hΓ (fn := f6) (c := cB f6) (A := 1) (nx := 1) (by kernel_rfl) (by kernel_rfl) (by kernel_rfl) (by kernel_rfl) (by kernel_rfl) (by kernel_rfl) (lowc_of (by kernel_rfl)) ?_
  show Awp prog 1 19 (cB f6) _ _
  refine awp_seq ?_
  refine awp_region ?_
  refine aR 1 ?_
  refine aE ?_
  refine awp_seq ?_
  refine awp_seq ?_
  refine awp_region ?_
  refine aR 3 ?_
  refine aE ?_
  refine cE hF (fun h1 hF => ?_) fun h1 hF => ?_
  · refine awp_true (by kernel_rfl) h1 ?_
    refine awp_seq ?_
    refine awp_region ?_
    refine aR 2 ?_
    refine aE ?_
    refine awp_ret ?_
    exact oF hF [] []
  · refine awp_false (by kernel_rfl) h1 ?_
    refine awp_skip ?_
    refine awp_seq ?_
    refine bE hF fun vr3 h2 hF => ?_
    refine awp_region ?_
    refine aR 6 ?_
    refine aC (fleetmake_Stream_Next_ok h2) [] [] [] ?_
    refine aR 2 ?_
    refine aE ?_
    refine awp_ret ?_
    exact oF hF [] []

/-! ### (*beaconfleet/fleetmake.Stream).Pick -/
def fleetmake_Stream_Pick_o1_R (qs : fleetmake_Stream) (ql : List Int) (r : Int) : TV × Mem := (.v (.one (.d (.int .i64 r))), ⟨[], [(0, [.d (.lst (List.map (encI .i64) qs.L)), .d (.int .i64 (IntKind.wrap .i64 (qs.at_ + 1)))])]⟩)

theorem fleetmake_Stream_Pick_o1_ok {qs : fleetmake_Stream} {ql : List Int} {r} (hF : fleetmake_Stream_Pick_o1 qs ql = some r) : Holds prog 21 [.v (.one (.box 0 0)), .v (.one (.own 1 none))] ⟨[(1, ⟨3, 1, List.map (encI .i64) ql⟩)], [(0, [.d (.lst (List.map (encI .i64) qs.L)), .d (.int .i64 qs.at_)])]⟩ (Is (fleetmake_Stream_Pick_o1_R qs ql r)) := by
  unfold fleetmake_Stream_Pick_o1 at hF
  refine holds_of_awp hΓ (fn := f21) (c := cB f21) (A := 2) (nx := 2) (by kernel_rfl) (by kernel_rfl) (by kernel_rfl) (by kernel_rfl) (by kernel_rfl) (by kernel_rfl) (lowc_of (by kernel_rfl)) ?_
  show Awp prog 2 12 (cB f21) _ _
  refine awp_seq ?_
  refine awp_region ?_
  refine aR 1 ?_
  refine aE ?_
  refine awp_to (oT (m := ⟨[], [(0, [.d (.lst (List.map (encI .i64) qs.L)), .d (.int .i64 qs.at_)])]⟩) (ts := [(0, .v (.one (.box 0 0))), (1, .v (.one (.d (.lst (List.map (encI .i64) ql)))))]) (nx := 2) [] []) ?_
  refine awp_seq ?_
  refine bE hF fun vr3 h1 hF => ?_
  refine bE hF fun vy h2 hF => ?_
  refine awp_region ?_
  refine aR 3 ?_
  refine aL (encI .i64) ql ?_
  refine aC (fleetmake_Stream_Next_ok h1) [] [] [] ?_
  refine aX (x_idx (encI .i64) h2) ?_
  refine aR 2 ?_
  refine aE ?_
  refine awp_ret ?_
  exact oF hF [] []

/-! ### (*beaconfleet/fleetmake.Stream).Place -/
def fleetmake_Stream_Place_R (qs : fleetmake_Stream) (r : api_Spot) : TV × Mem := (.v (.agg [.d (.int .i64 r.X), .d (.int .i64 r.Y)]), ⟨[], [(0, [.d (.lst (List.map (encI .i64) qs.L)), .d (.int .i64 (IntKind.wrap .i64 ((IntKind.wrap .i64 (qs.at_ + 1)) + 1)))])]⟩)

theorem fleetmake_Stream_Place_ok {qs : fleetmake_Stream} {r} (hF : fleetmake_Stream_Place qs = some r) : Holds prog 16 [.v (.one (.box 0 0))] ⟨[], [(0, [.d (.lst (List.map (encI .i64) qs.L)), .d (.int .i64 qs.at_)])]⟩ (Is (fleetmake_Stream_Place_R qs r)) := by
  unfold fleetmake_Stream_Place at hF
  refine holds_of_awp hΓ (fn := f16) (c := cB f16) (A := 1) (nx := 1) (by kernel_rfl) (by kernel_rfl) (by kernel_rfl) (by kernel_rfl) (by kernel_rfl) (by kernel_rfl) (lowc_of (by kernel_rfl)) ?_
  show Awp prog 1 10 (cB f16) _ _
  refine awp_seq ?_
  refine awp_region ?_
  refine aR 1 ?_
  refine aE ?_
  refine awp_seq ?_
  refine bE hF fun vr h1 hF => ?_
  refine bE hF fun vr1 h2 hF => ?_
  refine awp_region ?_
  refine aR 2 ?_
  refine aC (fleetmake_Stream_Pick_o1_ok h1) [(1, 2001)] [] [] ?_
  refine aR 2 ?_
  refine aC (fleetmake_Stream_Pick_o1_ok h2) [(1, 5001)] [] [] ?_
  refine aR 2 ?_
  refine aE ?_
  refine awp_ret ?_
  exact oF hF [] []

/-! ### (*beaconfleet/fleetmake.Stream).Flip -/
def fleetmake_Stream_Flip_R (qs : fleetmake_Stream) (qn : Int) (r : Bool) : TV × Mem := (.v (.one (.d (.bool r))), ⟨[], [(0, [.d (.lst (List.map (encI .i64) qs.L)), .d (.int .i64 (IntKind.wrap .i64 (qs.at_ + 1)))])]⟩)

theorem fleetmake_Stream_Flip_ok {qs : fleetmake_Stream} {qn : Int} {r} (hF : fleetmake_Stream_Flip qs qn = some r) : Holds prog 20 [.v (.one (.box 0 0)), .v (.one (.d (.int .i64 qn)))] ⟨[], [(0, [.d (.lst (List.map (encI .i64) qs.L)), .d (.int .i64 qs.at_)])]⟩ (Is (fleetmake_Stream_Flip_R qs qn r)) := by
  unfold fleetmake_Stream_Flip at hF
  refine holds_of_awp hΓ (fn := f20) (c := cB f20) (A := 1) (nx := 1) (by kernel_rfl) (by kernel_rfl) (by kernel_rfl) (by kernel_rfl) (by kernel_rfl) (by kernel_rfl) (lowc_of (by kernel_rfl)) ?_
  show Awp prog 1 9 (cB f20) _ _
  refine awp_seq ?_
  refine awp_region ?_
  refine aR 1 ?_
  refine aE ?_
  refine awp_seq ?_
  refine bE hF fun vr3 h1 hF => ?_
  refine awp_region ?_
  refine aR 2 ?_
  refine aC (fleetmake_Stream_Next_ok h1) [] [] [] ?_
  refine aR 2 ?_
  refine aE ?_
  refine awp_ret ?_
  exact oF hF [] []

/-! ### beaconfleet/fleetref2.in -/
def fleetref2_in_x1_k : Bool → AEx
  | _ => .normal

def fleetref2_in_x1_S (qn : Int) (qlow : Int) (qhigh : Int) : Bool → St
  | vx => Mem.st ⟨[], []⟩ (tl [(6, .v (.one (.d (.bool vx))))]) 0

def fleetref2_in_x1_I (qn : Int) (qlow : Int) (qhigh : Int) : St := Mem.st ⟨[], []⟩ (tl [(0, .v (.one (.d (.int .i64 qn)))), (1, .v (.one (.d (.int .i64 qlow)))), (2, .v (.one (.d (.int .i64 qhigh))))]) 0

theorem fleetref2_in_x1_ok (qn : Int) (qlow : Int) (qhigh : Int) {r} (hF : fleetref2_in_x1 qn qlow qhigh = some r) : Awp prog 0 15 (cL (cR (cB f80))) (Out 0 fleetref2_in_x1_k (fleetref2_in_x1_S qn qlow qhigh) r) (fleetref2_in_x1_I qn qlow qhigh) := by
  unfold fleetref2_in_x1 at hF
  refine cE hF (fun h1 hF => ?_) fun h1 hF => ?_
  · refine awp_region ?_
    refine aR 2 ?_
    refine aB h1 ?_
    refine aR 6 ?_
    refine aE ?_
    exact oO hF [] [] rfl
  · refine awp_region ?_
    refine aR 2 ?_
    refine aB h1 ?_
    refine aR 6 ?_
    refine aE ?_
    exact oO hF [] [] rfl

def fleetref2_in_R (qn : Int) (qlow : Int) (qhigh : Int) (r : Bool) : TV × Mem := (.v (.one (.d (.bool r))), ⟨[], []⟩)

theorem fleetref2_in_ok {qn : Int} {qlow : Int} {qhigh : Int} {r} (hF : fleetref2_in qn qlow qhigh = some r) : Holds prog 80 [.v (.one (.d (.int .i64 qn))), .v (.one (.d (.int .i64 qlow))), .v (.one (.d (.int .i64 qhigh)))] ⟨[], []⟩ (Is (fleetref2_in_R qn qlow qhigh r)) := by
  unfold fleetref2_in at hF
  refine holds_of_awp hΓ (fn := f80) (c := cB f80) (A := 0) (nx := 0) (by kernel_rfl) (by kernel_rfl) (by kernel_rfl) (by kernel_rfl) (by kernel_rfl) (by kernel_rfl) (lowc_of (by kernel_rfl)) ?_
  show Awp prog 0 15 (cB f80) _ _
  refine awp_seq ?_
  refine awp_region ?_
  refine aR 1 ?_
  refine aE ?_
  refine awp_seq ?_
  refine awp_to (st' := fleetref2_in_x1_I qn qlow qhigh) (oT [] []) ?_
  refine bE hF fun vx1 h2 hF => ?_
  refine awp_sub (fleetref2_in_x1_ok qn qlow qhigh h2) ?_
  refine awp_ret ?_
  exact oF hF [] []

/-! ### beaconfleet/fleetref2.SpotFault -/
def fleetref2_SpotFault_x1_k : Bool → AEx
  | _ => .normal

def fleetref2_SpotFault_x1_S (qs : api_Spot) : Bool → St
  | vx => Mem.st ⟨[], []⟩ (tl [(12, .v (.one (.d (.bool vx))))]) 0

def fleetref2_SpotFault_x1_I (qs : api_Spot) : St := Mem.st ⟨[], [(0, [.d (.int .i64 qs.X), .d (.int .i64 qs.Y)])]⟩ (tl [(1, .v (.one (.box 0 0)))]) 1

theorem fleetref2_SpotFault_x1_ok (qs : api_Spot) {r} (hF : fleetref2_SpotFault_x1 qs = some r) : Awp prog 0 13 (cL (cL (cR (cB f42)))) (Out 0 fleetref2_SpotFault_x1_k (fleetref2_SpotFault_x1_S qs) r) (fleetref2_SpotFault_x1_I qs) := by
  unfold fleetref2_SpotFault_x1 at hF
  refine bE hF fun vr h1 hF => ?_
  refine cE hF (fun h2 hF => ?_) fun h2 hF => ?_
  · refine awp_region ?_
    refine aR 2 ?_
    refine aC (fleetref2_in_ok h1) [] [] [] ?_
    refine aB h2 ?_
    refine aR 6 ?_
    refine aE ?_
    exact oO hF [] [] rfl
  · refine bE hF fun vr1 h3 hF => ?_
    refine awp_region ?_
    refine aR 2 ?_
    refine aC (fleetref2_in_ok h1) [] [] [] ?_
    refine aB h2 ?_
    refine aR 3 ?_
    refine aC (fleetref2_in_ok h3) [] [] [] ?_
    refine aR 2 ?_
    refine aE ?_
    exact oO hF [] [] rfl

def fleetref2_SpotFault_R (qs : api_Spot) (r : Int) : TV × Mem := (.v (.one (.d (.int .i64 r))), ⟨[], []⟩)

theorem fleetref2_SpotFault_ok {qs : api_Spot} {r} (hF : fleetref2_SpotFault qs = some r) : Holds prog 42 [.v (.agg [.d (.int .i64 qs.X), .d (.int .i64 qs.Y)])] ⟨[], []⟩ (Is (fleetref2_SpotFault_R qs r)) := by
  unfold fleetref2_SpotFault at hF
  refine holds_of_awp hΓ (fn := f42) (c := cB f42) (A := 0) (nx := 0) (by kernel_rfl) (by kernel_rfl) (by kernel_rfl) (by kernel_rfl) (by kernel_rfl) (by kernel_rfl) (lowc_of (by kernel_rfl)) ?_
  show Awp prog 0 13 (cB f42) _ _
  refine awp_seq ?_
  refine awp_region ?_
  refine aR 2 ?_
  refine aE ?_
  refine awp_seq ?_
  refine awp_seq ?_
  refine awp_to (st' := fleetref2_SpotFault_x1_I qs) (oT [] []) ?_
  refine bE hF fun vx1 h4 hF => ?_
  refine awp_sub (fleetref2_SpotFault_x1_ok qs h4) ?_
  refine cE hF (fun h5 hF => ?_) fun h5 hF => ?_
  · refine awp_true (by kernel_rfl) h5 ?_
    refine awp_seq ?_
    refine awp_region ?_
    refine aR 1 ?_
    refine aE ?_
    refine awp_ret ?_
    exact oF hF [] []
  · refine awp_false (by kernel_rfl) h5 ?_
    refine awp_skip ?_
    refine awp_seq ?_
    refine awp_region ?_
    refine aR 1 ?_
    refine aE ?_
    refine awp_ret ?_
    exact oF hF [] []

/-! ### slices.Index[[]beaconfleet/api.Spot,beaconfleet/api.Spot] -/
def slices_Index_api_Spot_api_Spot_x1_k : Unit ⊕ Int → AEx
  | .inl _ => .exit 0
  | .inr _ => .ret

def slices_Index_api_Spot_api_Spot_x1_S (qs : List api_Spot) (qv : api_Spot) : Unit ⊕ Int → St
  | .inl _ => Mem.st ⟨[], []⟩ (tl []) 0
  | .inr vx1 => Mem.st ⟨[], []⟩ (tl [(4, .v (.one (.d (.int .i64 vx1))))]) 0

def slices_Index_api_Spot_api_Spot_x1_H (qs : List api_Spot) (qv : api_Spot) : Int → St
  | vx => Mem.st ⟨[], [(0, [.d (.int .i64 qv.X), .d (.int .i64 qv.Y)])]⟩ (tl [(0, .v (.one (.d (.lst (List.map api_Spot.enc qs))))), (3, .v (.one (.box 0 0))), (7, .v (.one (.d (.int .i64 (qs.length : Int))))), (8, .v (.one (.d (.int .i64 vx))))]) 1

theorem slices_Index_api_Spot_api_Spot_x1_ok (qs : List api_Spot) (qv : api_Spot) (vx : Int) (r : (Int) ⊕ (Unit ⊕ Int)) (hF : slices_Index_api_Spot_api_Spot_x1 qs qv vx = some r) : Awp prog 0 19 (cL (cL (cR (cL (cR (cB f81)))))) (Out 0 (kk slices_Index_api_Spot_api_Spot_x1_k) (SS (slices_Index_api_Spot_api_Spot_x1_H qs qv) (slices_Index_api_Spot_api_Spot_x1_S qs qv)) r) (slices_Index_api_Spot_api_Spot_x1_H qs qv vx) := by
  unfold slices_Index_api_Spot_api_Spot_x1 at hF
  refine awp_seq ?_
  refine awp_region ?_
  refine aR 1 ?_
  refine aE ?_
  refine awp_seq ?_
  refine cE hF (fun h1 hF => ?_) fun h1 hF => ?_
  · refine awp_true (by kernel_rfl) h1 ?_
    refine awp_skip ?_
    refine awp_seq ?_
    refine awp_block ?_
    refine awp_seq ?_
    refine awp_region ?_
    refine aR 2 ?_
    refine aE ?_
    refine awp_seq ?_
    refine bE hF fun vy1 h2 hF => ?_
    refine aD ?_
    refine dR 3 ?_
    refine dX (x_idx api_Spot.enc h2) ?_
    refine dR 1 ?_
    refine dS (U := []) (stable_eqS (op := .eql) (xs := [.int .i64 qv.X, .int .i64 qv.Y]) (ys := [.int .i64 vy1.X, .int .i64 vy1.Y]) (b := (decide (qv.X = vy1.X) && (decide (qv.Y = vy1.Y) && true))) (c := (decide (qv.X = vy1.X) && (decide (qv.Y = vy1.Y) && true))) rfl (.inl ⟨rfl, rfl⟩) (by kernel_rfl) (by kernel_rfl) (by kernel_rfl) (by kernel_rfl) (by kernel_rfl) (by kernel_rfl)) ?_
    refine dE ?_
    refine cE hF (fun h3 hF => ?_) fun h3 hF => ?_
    · refine awp_true (by kernel_rfl) h3 ?_
      refine awp_seq ?_
      refine awp_region ?_
      refine aR 2 ?_
      refine aE ?_
      refine awp_ret ?_
      exact oO hF [] [] rfl
    · refine awp_false (by kernel_rfl) h3 ?_
      refine awp_skip ?_
      refine awp_region ?_
      refine aR 2 ?_
      refine aE ?_
      exact oO hF [] [] rfl
  · refine awp_false (by kernel_rfl) h1 ?_
    refine awp_exit ?_
    exact oO hF [] [] rfl

def slices_Index_api_Spot_api_Spot_R (qs : List api_Spot) (qv : api_Spot) (r : Int) : TV × Mem := (.v (.one (.d (.int .i64 r))), ⟨[], []⟩)

theorem slices_Index_api_Spot_api_Spot_ok {qs : List api_Spot} {qv : api_Spot} {r} (hF : slices_Index_api_Spot_api_Spot qs qv = some r) : Holds prog 81 [.v (.one (.d (.lst (List.map api_Spot.enc qs)))), .v (.agg [.d (.int .i64 qv.X), .d (.int .i64 qv.Y)])] ⟨[], []⟩ (Is (slices_Index_api_Spot_api_Spot_R qs qv r)) := by
  unfold slices_Index_api_Spot_api_Spot at hF
  refine holds_of_awp hΓ (fn := f81) (c := cB f81) (A := 0) (nx := 0) (by kernel_rfl) (by kernel_rfl) (by kernel_rfl) (by kernel_rfl) (by kernel_rfl) (by kernel_rfl) (lowc_of (by kernel_rfl)) ?_
  show Awp prog 0 19 (cB f81) _ _
  refine awp_seq ?_
  refine awp_region ?_
  refine aR 2 ?_
  refine aE ?_
  refine awp_seq ?_
  refine awp_seq ?_
  refine awp_region ?_
  refine aR 1 ?_
  refine aL api_Spot.enc qs ?_
  refine aR 1 ?_
  refine aE ?_
  refine awp_block ?_
  refine awp_to (st' := slices_Index_api_Spot_api_Spot_x1_H qs qv 0) (oT [] []) ?_
  refine bE hF fun x h4 hF => ?_
  rcases x with _ | vx1_1
  · refine awp_sub (awp_loop' (slices_Index_api_Spot_api_Spot_x1_H qs qv) slices_Index_api_Spot_api_Spot_x1_k (slices_Index_api_Spot_api_Spot_x1_S qs qv) (by intro x; rcases x with x | x <;> exact fun h => nomatch h) h4 (slices_Index_api_Spot_api_Spot_x1_ok qs qv)) ?_
    refine awp_seq ?_
    refine awp_region ?_
    refine aR 1 ?_
    refine aE ?_
    refine awp_ret ?_
    exact oF hF [] []
  · refine awp_sub (awp_loop' (slices_Index_api_Spot_api_Spot_x1_H qs qv) slices_Index_api_Spot_api_Spot_x1_k (slices_Index_api_Spot_api_Spot_x1_S qs qv) (by intro x; rcases x with x | x <;> exact fun h => nomatch h) h4 (slices_Index_api_Spot_api_Spot_x1_ok qs qv)) ?_
    exact oF hF [] []

/-! ### slices.Contains[[]beaconfleet/api.Spot,beaconfleet/api.Spot] -/
def slices_Contains_api_Spot_api_Spot_R (qs : List api_Spot) (qv : api_Spot) (r : Bool) : TV × Mem := (.v (.one (.d (.bool r))), ⟨[], []⟩)

theorem slices_Contains_api_Spot_api_Spot_ok {qs : List api_Spot} {qv : api_Spot} {r} (hF : slices_Contains_api_Spot_api_Spot qs qv = some r) : Holds prog 43 [.v (.one (.d (.lst (List.map api_Spot.enc qs)))), .v (.agg [.d (.int .i64 qv.X), .d (.int .i64 qv.Y)])] ⟨[], []⟩ (Is (slices_Contains_api_Spot_api_Spot_R qs qv r)) := by
  unfold slices_Contains_api_Spot_api_Spot at hF
  refine holds_of_awp hΓ (fn := f43) (c := cB f43) (A := 0) (nx := 0) (by kernel_rfl) (by kernel_rfl) (by kernel_rfl) (by kernel_rfl) (by kernel_rfl) (by kernel_rfl) (lowc_of (by kernel_rfl)) ?_
  show Awp prog 0 9 (cB f43) _ _
  refine awp_seq ?_
  refine awp_region ?_
  refine aR 2 ?_
  refine aE ?_
  refine awp_seq ?_
  refine bE hF fun vr h1 hF => ?_
  refine awp_region ?_
  refine aR 2 ?_
  refine aC (slices_Index_api_Spot_api_Spot_ok h1) [] [] [] ?_
  refine aR 2 ?_
  refine aE ?_
  refine awp_ret ?_
  exact oF hF [] []

/-! ### beaconfleet/fleetref2.edge -/
def fleetref2_edge_R (ql : List api_Spot) (qi : Int) (r : api_Spot × api_Spot) : TV × Mem := (.tup [.agg [.d (.int .i64 r.1.X), .d (.int .i64 r.1.Y)], .agg [.d (.int .i64 r.2.X), .d (.int .i64 r.2.Y)]], ⟨[], []⟩)

theorem fleetref2_edge_ok {ql : List api_Spot} {qi : Int} {r} (hF : fleetref2_edge ql qi = some r) : Holds prog 44 [.v (.one (.d (.lst (List.map api_Spot.enc ql)))), .v (.one (.d (.int .i64 qi)))] ⟨[], []⟩ (Is (fleetref2_edge_R ql qi r)) := by
  unfold fleetref2_edge at hF
  refine holds_of_awp hΓ (fn := f44) (c := cB f44) (A := 0) (nx := 0) (by kernel_rfl) (by kernel_rfl) (by kernel_rfl) (by kernel_rfl) (by kernel_rfl) (by kernel_rfl) (lowc_of (by kernel_rfl)) ?_
  show Awp prog 0 18 (cB f44) _ _
  refine awp_seq ?_
  refine awp_region ?_
  refine aR 2 ?_
  refine aE ?_
  refine awp_seq ?_
  refine bE hF fun vy h1 hF => ?_
  refine gE hF fun h2 hF => ?_
  refine bE hF fun vy1 h3 hF => ?_
  refine aD ?_
  refine dR 2 ?_
  refine dX (x_idx api_Spot.enc h1) ?_
  refine dR 5 ?_
  refine dL api_Spot.enc ql ?_
  refine dX (x_rem h2) ?_
  refine dX (x_idx api_Spot.enc h3) ?_
  refine dR 3 ?_
  refine dE ?_
  refine awp_ret ?_
  exact oF hF [] []

/-! ### beaconfleet/fleetref2.minus -/
def fleetref2_minus_R (qa : api_Spot) (qb : api_Spot) (r : Unit) : TV × Mem := (.v (.agg [.d (.int .i64 (IntKind.wrap .i64 (qa.X - qb.X))), .d (.int .i64 (IntKind.wrap .i64 (qa.Y - qb.Y)))]), ⟨[], []⟩)

theorem fleetref2_minus_ok {qa : api_Spot} {qb : api_Spot} {r} (hF : fleetref2_minus qa qb = some r) : Holds prog 84 [.v (.agg [.d (.int .i64 qa.X), .d (.int .i64 qa.Y)]), .v (.agg [.d (.int .i64 qb.X), .d (.int .i64 qb.Y)])] ⟨[], []⟩ (Is (fleetref2_minus_R qa qb r)) := by
  unfold fleetref2_minus at hF
  refine holds_of_awp hΓ (fn := f84) (c := cB f84) (A := 0) (nx := 0) (by kernel_rfl) (by kernel_rfl) (by kernel_rfl) (by kernel_rfl) (by kernel_rfl) (by kernel_rfl) (lowc_of (by kernel_rfl)) ?_
  show Awp prog 0 16 (cB f84) _ _
  refine awp_seq ?_
  refine awp_region ?_
  refine aR 3 ?_
  refine aE ?_
  refine awp_seq ?_
  refine awp_region ?_
  refine aR 12 ?_
  refine aE ?_
  refine awp_ret ?_
  exact oF hF [] []

/-! ### beaconfleet/fleetref2.cross -/
def fleetref2_cross_R (qa : api_Spot) (qb : api_Spot) (r : Unit) : TV × Mem := (.v (.one (.d (.int .i64 (IntKind.wrap .i64 ((IntKind.wrap .i64 (qa.X * qb.Y)) - (IntKind.wrap .i64 (qa.Y * qb.X))))))), ⟨[], []⟩)

theorem fleetref2_cross_ok {qa : api_Spot} {qb : api_Spot} {r} (hF : fleetref2_cross qa qb = some r) : Holds prog 112 [.v (.agg [.d (.int .i64 qa.X), .d (.int .i64 qa.Y)]), .v (.agg [.d (.int .i64 qb.X), .d (.int .i64 qb.Y)])] ⟨[], []⟩ (Is (fleetref2_cross_R qa qb r)) := by
  unfold fleetref2_cross at hF
  refine holds_of_awp hΓ (fn := f112) (c := cB f112) (A := 0) (nx := 0) (by kernel_rfl) (by kernel_rfl) (by kernel_rfl) (by kernel_rfl) (by kernel_rfl) (by kernel_rfl) (lowc_of (by kernel_rfl)) ?_
  show Awp prog 0 16 (cB f112) _ _
  refine awp_seq ?_
  refine awp_region ?_
  refine aR 3 ?_
  refine aE ?_
  refine awp_seq ?_
  refine awp_region ?_
  refine aR 12 ?_
  refine aE ?_
  refine awp_ret ?_
  exact oF hF [] []

/-! ### beaconfleet/fleetref2.sign -/
def fleetref2_sign_R (qn : Int) (r : Int) : TV × Mem := (.v (.one (.d (.int .i64 r))), ⟨[], []⟩)

theorem fleetref2_sign_ok {qn : Int} {r} (hF : fleetref2_sign qn = some r) : Holds prog 111 [.v (.one (.d (.int .i64 qn)))] ⟨[], []⟩ (Is (fleetref2_sign_R qn r)) := by
  unfold fleetref2_sign at hF
  refine holds_of_awp hΓ (fn := f111) (c := cB f111) (A := 0) (nx := 0) (by kernel_rfl) (by kernel_rfl) (by kernel_rfl) (by kernel_rfl) (by kernel_rfl) (by kernel_rfl) (lowc_of (by kernel_rfl)) ?_
  show Awp prog 0 9 (cB f111) _ _
  refine awp_seq ?_
  refine awp_region ?_
  refine aR 1 ?_
  refine aE ?_
  refine awp_seq ?_
  refine awp_block ?_
  refine awp_seq ?_
  refine awp_region ?_
  refine aR 3 ?_
  refine aE ?_
  refine cE hF (fun h1 hF => ?_) fun h1 hF => ?_
  · refine awp_true (by kernel_rfl) h1 ?_
    refine awp_seq ?_
    refine awp_region ?_
    refine aR 1 ?_
    refine aE ?_
    refine awp_ret ?_
    exact oF hF [] []
  · refine awp_false (by kernel_rfl) h1 ?_
    refine awp_seq ?_
    refine awp_region ?_
    refine aR 3 ?_
    refine aE ?_
    refine cE hF (fun h2 hF => ?_) fun h2 hF => ?_
    · refine awp_true (by kernel_rfl) h2 ?_
      refine awp_seq ?_
      refine awp_region ?_
      refine aR 1 ?_
      refine aE ?_
      refine awp_ret ?_
      exact oF hF [] []
    · refine awp_false (by kernel_rfl) h2 ?_
      refine awp_skip ?_
      refine awp_seq ?_
      refine awp_region ?_
      refine aR 1 ?_
      refine aE ?_
      refine awp_ret ?_
      exact oF hF [] []

/-! ### beaconfleet/fleetref2.side -/
def fleetref2_side_R (qa : api_Spot) (qb : api_Spot) (qs : api_Spot) (r : Int) : TV × Mem := (.v (.one (.d (.int .i64 r))), ⟨[], []⟩)

theorem fleetref2_side_ok {qa : api_Spot} {qb : api_Spot} {qs : api_Spot} {r} (hF : fleetref2_side qa qb qs = some r) : Holds prog 82 [.v (.agg [.d (.int .i64 qa.X), .d (.int .i64 qa.Y)]), .v (.agg [.d (.int .i64 qb.X), .d (.int .i64 qb.Y)]), .v (.agg [.d (.int .i64 qs.X), .d (.int .i64 qs.Y)])] ⟨[], []⟩ (Is (fleetref2_side_R qa qb qs r)) := by
  unfold fleetref2_side at hF
  refine holds_of_awp hΓ (fn := f82) (c := cB f82) (A := 0) (nx := 0) (by kernel_rfl) (by kernel_rfl) (by kernel_rfl) (by kernel_rfl) (by kernel_rfl) (by kernel_rfl) (lowc_of (by kernel_rfl)) ?_
  show Awp prog 0 15 (cB f82) _ _
  refine awp_seq ?_
  refine awp_region ?_
  refine aR 4 ?_
  refine aE ?_
  refine awp_seq ?_
  refine bE hF fun _ h1 hF => ?_
  refine bE hF fun _ h2 hF => ?_
  refine bE hF fun _ h3 hF => ?_
  refine bE hF fun vr h4 hF => ?_
  refine aD ?_
  refine dR 2 ?_
  refine dC (fleetref2_minus_ok h1) [] [] [] ?_
  refine dR 2 ?_
  refine dC (fleetref2_minus_ok h2) [] [] [] ?_
  refine dC (fleetref2_cross_ok h3) [] [] [] ?_
  refine dC (fleetref2_sign_ok h4) [] [] [] ?_
  refine dR 1 ?_
  refine dE ?_
  refine awp_ret ?_
  exact oF hF [] []

/-! ### beaconfleet/fleetref2.dot -/
def fleetref2_dot_R (qa : api_Spot) (qb : api_Spot) (r : Unit) : TV × Mem := (.v (.one (.d (.int .i64 (IntKind.wrap .i64 ((IntKind.wrap .i64 (qa.X * qb.X)) + (IntKind.wrap .i64 (qa.Y * qb.Y))))))), ⟨[], []⟩)

theorem fleetref2_dot_ok {qa : api_Spot} {qb : api_Spot} {r} (hF : fleetref2_dot qa qb = some r) : Holds prog 83 [.v (.agg [.d (.int .i64 qa.X), .d (.int .i64 qa.Y)]), .v (.agg [.d (.int .i64 qb.X), .d (.int .i64 qb.Y)])] ⟨[], []⟩ (Is (fleetref2_dot_R qa qb r)) := by
  unfold fleetref2_dot at hF
  refine holds_of_awp hΓ (fn := f83) (c := cB f83) (A := 0) (nx := 0) (by kernel_rfl) (by kernel_rfl) (by kernel_rfl) (by kernel_rfl) (by kernel_rfl) (by kernel_rfl) (lowc_of (by kernel_rfl)) ?_
  show Awp prog 0 16 (cB f83) _ _
  refine awp_seq ?_
  refine awp_region ?_
  refine aR 3 ?_
  refine aE ?_
  refine awp_seq ?_
  refine awp_region ?_
  refine aR 12 ?_
  refine aE ?_
  refine awp_ret ?_
  exact oF hF [] []

/-! ### beaconfleet/fleetref2.onWay -/
def fleetref2_onWay_x1_k : Bool → AEx
  | _ => .normal

def fleetref2_onWay_x1_S (qa : api_Spot) (qb : api_Spot) (qs : api_Spot) : Bool → St
  | vx => Mem.st ⟨[], []⟩ (tl [(6, .v (.one (.d (.bool vx))))]) 0

def fleetref2_onWay_x1_I (qa : api_Spot) (qb : api_Spot) (qs : api_Spot) : St := Mem.st ⟨[], [(0, [.d (.int .i64 qa.X), .d (.int .i64 qa.Y)]), (1, [.d (.int .i64 qb.X), .d (.int .i64 qb.Y)]), (2, [.d (.int .i64 qs.X), .d (.int .i64 qs.Y)])]⟩ (tl [(3, .v (.one (.box 0 0))), (4, .v (.one (.box 1 0))), (5, .v (.one (.box 2 0)))]) 3

theorem fleetref2_onWay_x1_ok (qa : api_Spot) (qb : api_Spot) (qs : api_Spot) {r} (hF : fleetref2_onWay_x1 qa qb qs = some r) : Awp prog 0 22 (cL (cR (cB f45))) (Out 0 fleetref2_onWay_x1_k (fleetref2_onWay_x1_S qa qb qs) r) (fleetref2_onWay_x1_I qa qb qs) := by
  unfold fleetref2_onWay_x1 at hF
  refine bE hF fun vr1 h1 hF => ?_
  refine cE hF (fun h2 hF => ?_) fun h2 hF => ?_
  · refine bE hF fun _ h3 hF => ?_
    refine bE hF fun _ h4 hF => ?_
    refine bE hF fun _ h5 hF => ?_
    refine aD ?_
    refine dR 3 ?_
    refine dC (fleetref2_side_ok h1) [] [] [] ?_
    refine dB h2 ?_
    refine dR 3 ?_
    refine dC (fleetref2_minus_ok h3) [] [] [] ?_
    refine dR 2 ?_
    refine dC (fleetref2_minus_ok h4) [] [] [] ?_
    refine dC (fleetref2_dot_ok h5) [] [] [] ?_
    refine dR 3 ?_
    refine dE ?_
    exact oO hF [] [] rfl
  · refine aD ?_
    refine dR 3 ?_
    refine dC (fleetref2_side_ok h1) [] [] [] ?_
    refine dB h2 ?_
    refine dR 11 ?_
    refine dE ?_
    exact oO hF [] [] rfl

def fleetref2_onWay_R (qa : api_Spot) (qb : api_Spot) (qs : api_Spot) (r : Bool) : TV × Mem := (.v (.one (.d (.bool r))), ⟨[], []⟩)

theorem fleetref2_onWay_ok {qa : api_Spot} {qb : api_Spot} {qs : api_Spot} {r} (hF : fleetref2_onWay qa qb qs = some r) : Holds prog 45 [.v (.agg [.d (.int .i64 qa.X), .d (.int .i64 qa.Y)]), .v (.agg [.d (.int .i64 qb.X), .d (.int .i64 qb.Y)]), .v (.agg [.d (.int .i64 qs.X), .d (.int .i64 qs.Y)])] ⟨[], []⟩ (Is (fleetref2_onWay_R qa qb qs r)) := by
  unfold fleetref2_onWay at hF
  refine holds_of_awp hΓ (fn := f45) (c := cB f45) (A := 0) (nx := 0) (by kernel_rfl) (by kernel_rfl) (by kernel_rfl) (by kernel_rfl) (by kernel_rfl) (by kernel_rfl) (lowc_of (by kernel_rfl)) ?_
  show Awp prog 0 22 (cB f45) _ _
  refine awp_seq ?_
  refine awp_region ?_
  refine aR 4 ?_
  refine aE ?_
  refine awp_seq ?_
  refine awp_to (st' := fleetref2_onWay_x1_I qa qb qs) (oT [(1, 1000), (2, 2000)] []) ?_
  refine bE hF fun vx1 h6 hF => ?_
  refine awp_sub (fleetref2_onWay_x1_ok qa qb qs h6) ?_
  refine awp_ret ?_
  exact oF hF [] []

/-! ### beaconfleet/fleetref2.touches -/
def fleetref2_touches_x1_k : Bool → AEx
  | _ => .normal

def fleetref2_touches_x1_S (qa : api_Spot) (qb : api_Spot) (qc : api_Spot) (qd : api_Spot) : Bool → St
  | vx => Mem.st ⟨[], [(0, [.d (.int .i64 qa.X), .d (.int .i64 qa.Y)]), (1, [.d (.int .i64 qb.X), .d (.int .i64 qb.Y)]), (2, [.d (.int .i64 qc.X), .d (.int .i64 qc.Y)]), (3, [.d (.int .i64 qd.X), .d (.int .i64 qd.Y)])]⟩ (tl [(4, .v (.one (.box 0 0))), (5, .v (.one (.box 1 0))), (6, .v (.one (.box 2 0))), (7, .v (.one (.box 3 0))), (30, .v (.one (.d (.bool vx))))]) 4

def fleetref2_touches_x1_I (qa : api_Spot) (qb : api_Spot) (qc : api_Spot) (qd : api_Spot) : St := Mem.st ⟨[], [(0, [.d (.int .i64 qa.X), .d (.int .i64 qa.Y)]), (1, [.d (.int .i64 qb.X), .d (.int .i64 qb.Y)]), (2, [.d (.int .i64 qc.X), .d (.int .i64 qc.Y)]), (3, [.d (.int .i64 qd.X), .d (.int .i64 qd.Y)])]⟩ (tl [(4, .v (.one (.box 0 0))), (5, .v (.one (.box 1 0))), (6, .v (.one (.box 2 0))), (7, .v (.one (.box 3 0)))]) 4

theorem fleetref2_touches_x1_ok (qa : api_Spot) (qb : api_Spot) (qc : api_Spot) (qd : api_Spot) {r} (hF : fleetref2_touches_x1 qa qb qc qd = some r) : Awp prog 0 53 (cL (cL (cR (cB f46)))) (Out 0 fleetref2_touches_x1_k (fleetref2_touches_x1_S qa qb qc qd) r) (fleetref2_touches_x1_I qa qb qc qd) := by
  unfold fleetref2_touches_x1 at hF
  refine bE hF fun vr h1 hF => ?_
  refine cE hF (fun h2 hF => ?_) fun h2 hF => ?_
  · refine awp_region ?_
    refine aR 3 ?_
    refine aCb (fleetref2_onWay_ok h1) [] [] [] h2 ?_
    refine aR 18 ?_
    refine aE ?_
    exact oO hF [] [] rfl
  · refine bE hF fun vr1 h3 hF => ?_
    refine cE hF (fun h4 hF => ?_) fun h4 hF => ?_
    · refine awp_region ?_
      refine aR 3 ?_
      refine aCb (fleetref2_onWay_ok h1) [] [] [] h2 ?_
      refine aR 4 ?_
      refine aCb (fleetref2_onWay_ok h3) [] [] [] h4 ?_
      refine aR 13 ?_
      refine aE ?_
      exact oO hF [] [] rfl
    · refine bE hF fun vr2 h5 hF => ?_
      refine cE hF (fun h6 hF => ?_) fun h6 hF => ?_
      · refine awp_region ?_
        refine aR 3 ?_
        refine aCb (fleetref2_onWay_ok h1) [] [] [] h2 ?_
        refine aR 4 ?_
        refine aCb (fleetref2_onWay_ok h3) [] [] [] h4 ?_
        refine aR 5 ?_
        refine aCb (fleetref2_onWay_ok h5) [] [] [] h6 ?_
        refine aR 7 ?_
        refine aE ?_
        exact oO hF [] [] rfl
      · refine bE hF fun vr3 h7 hF => ?_
        refine awp_region ?_
        refine aR 3 ?_
        refine aCb (fleetref2_onWay_ok h1) [] [] [] h2 ?_
        refine aR 4 ?_
        refine aCb (fleetref2_onWay_ok h3) [] [] [] h4 ?_
        refine aR 5 ?_
        refine aCb (fleetref2_onWay_ok h5) [] [] [] h6 ?_
        refine aR 5 ?_
        refine aC (fleetref2_onWay_ok h7) [] [] [] ?_
        refine aR 1 ?_
        refine aE ?_
        exact oO hF [] [] rfl

def fleetref2_touches_x2_k : Bool → AEx
  | _ => .normal

def fleetref2_touches_x2_S (qa : api_Spot) (qb : api_Spot) (qc : api_Spot) (qd : api_Spot) : Bool → St
  | vx2 => Mem.st ⟨[], []⟩ (tl [(8, .v (.one (.d (.bool vx2))))]) 0

def fleetref2_touches_x2_I (qa : api_Spot) (qb : api_Spot) (qc : api_Spot) (qd : api_Spot) : St := Mem.st ⟨[], [(0, [.d (.int .i64 qa.X), .d (.int .i64 qa.Y)]), (1, [.d (.int .i64 qb.X), .d (.int .i64 qb.Y)]), (2, [.d (.int .i64 qc.X), .d (.int .i64 qc.Y)]), (3, [.d (.int .i64 qd.X), .d (.int .i64 qd.Y)])]⟩ (tl [(4, .v (.one (.box 0 0))), (5, .v (.one (.box 1 0))), (6, .v (.one (.box 2 0))), (7, .v (.one (.box 3 0)))]) 4

theorem fleetref2_touches_x2_ok (qa : api_Spot) (qb : api_Spot) (qc : api_Spot) (qd : api_Spot) {r} (hF : fleetref2_touches_x2 qa qb qc qd = some r) : Awp prog 0 53 (cL (cR (cR (cB f46)))) (Out 0 fleetref2_touches_x2_k (fleetref2_touches_x2_S qa qb qc qd) r) (fleetref2_touches_x2_I qa qb qc qd) := by
  unfold fleetref2_touches_x2 at hF
  refine bE hF fun vr1_1 h10 hF => ?_
  refine bE hF fun vr1_2 h11 hF => ?_
  refine cE hF (fun h12 hF => ?_) fun h12 hF => ?_
  · refine bE hF fun vr1_3 h13 hF => ?_
    refine bE hF fun vr1_4 h14 hF => ?_
    refine aD ?_
    refine dR 3 ?_
    refine dC (fleetref2_side_ok h10) [] [] [] ?_
    refine dR 3 ?_
    refine dC (fleetref2_side_ok h11) [] [] [] ?_
    refine dR 1 ?_
    refine dB h12 ?_
    refine dR 4 ?_
    refine dC (fleetref2_side_ok h13) [] [] [] ?_
    refine dR 3 ?_
    refine dC (fleetref2_side_ok h14) [] [] [] ?_
    refine dR 4 ?_
    refine dE ?_
    exact oO hF [] [] rfl
  · refine aD ?_
    refine dR 3 ?_
    refine dC (fleetref2_side_ok h10) [] [] [] ?_
    refine dR 3 ?_
    refine dC (fleetref2_side_ok h11) [] [] [] ?_
    refine dR 1 ?_
    refine dB h12 ?_
    refine dR 13 ?_
    refine dE ?_
    exact oO hF [] [] rfl

def fleetref2_touches_R (qa : api_Spot) (qb : api_Spot) (qc : api_Spot) (qd : api_Spot) (r : Bool) : TV × Mem := (.v (.one (.d (.bool r))), ⟨[], []⟩)

theorem fleetref2_touches_ok {qa : api_Spot} {qb : api_Spot} {qc : api_Spot} {qd : api_Spot} {r} (hF : fleetref2_touches qa qb qc qd = some r) : Holds prog 46 [.v (.agg [.d (.int .i64 qa.X), .d (.int .i64 qa.Y)]), .v (.agg [.d (.int .i64 qb.X), .d (.int .i64 qb.Y)]), .v (.agg [.d (.int .i64 qc.X), .d (.int .i64 qc.Y)]), .v (.agg [.d (.int .i64 qd.X), .d (.int .i64 qd.Y)])] ⟨[], []⟩ (Is (fleetref2_touches_R qa qb qc qd r)) := by
  unfold fleetref2_touches at hF
  refine holds_of_awp hΓ (fn := f46) (c := cB f46) (A := 0) (nx := 0) (by kernel_rfl) (by kernel_rfl) (by kernel_rfl) (by kernel_rfl) (by kernel_rfl) (by kernel_rfl) (lowc_of (by kernel_rfl)) ?_
  show Awp prog 0 53 (cB f46) _ _
  refine awp_seq ?_
  refine awp_region ?_
  refine aR 5 ?_
  refine aE ?_
  refine awp_seq ?_
  refine awp_seq ?_
  refine awp_to (st' := fleetref2_touches_x1_I qa qb qc qd) (oT [(1, 1000), (2, 2000), (3, 3000)] []) ?_
  refine bE hF fun vx1 h8 hF => ?_
  refine awp_sub (fleetref2_touches_x1_ok qa qb qc qd h8) ?_
  refine cE hF (fun h9 hF => ?_) fun h9 hF => ?_
  · refine awp_true (by kernel_rfl) h9 ?_
    refine awp_seq ?_
    refine awp_region ?_
    refine aR 1 ?_
    refine aE ?_
    refine awp_ret ?_
    exact oF hF [] []
  · refine awp_false (by kernel_rfl) h9 ?_
    refine awp_skip ?_
    refine awp_seq ?_
    refine awp_to (st' := fleetref2_touches_x2_I qa qb qc qd) (oT [] []) ?_
    refine bE hF fun vx2_1 h15 hF => ?_
    refine awp_sub (fleetref2_touches_x2_ok qa qb qc qd h15) ?_
    refine awp_ret ?_
    exact oF hF [] []

/-! ### beaconfleet/fleetref2.CornersFault -/
def fleetref2_CornersFault_x1_k : Unit ⊕ Int → AEx
  | .inl _ => .exit 1
  | .inr _ => .ret

def fleetref2_CornersFault_x1_S (qx : List api_Spot) : Unit ⊕ Int → St
  | .inl _ => Mem.st ⟨[], []⟩ (tl [(0, .v (.one (.d (.lst (List.map api_Spot.enc qx)))))]) 0
  | .inr vx1 => Mem.st ⟨[], []⟩ (tl [(2, .v (.one (.d (.int .i64 vx1))))]) 0

def fleetref2_CornersFault_x1_H (qx : List api_Spot) : Int → St
  | vx => Mem.st ⟨[], []⟩ (tl [(0, .v (.one (.d (.lst (List.map api_Spot.enc qx))))), (20, .v (.one (.d (.lst (List.map api_Spot.enc qx))))), (21, .v (.one (.d (.int .i64 (qx.length : Int))))), (22, .v (.one (.d (.int .i64 vx))))]) 0

theorem fleetref2_CornersFault_x1_ok (qx : List api_Spot) (vx : Int) (r : (Int) ⊕ (Unit ⊕ Int)) (hF : fleetref2_CornersFault_x1 qx vx = some r) : Awp prog 0 90 (cL (cL (cR (cL (cR (cR (cB f22))))))) (Out 0 (kk fleetref2_CornersFault_x1_k) (SS (fleetref2_CornersFault_x1_H qx) (fleetref2_CornersFault_x1_S qx)) r) (fleetref2_CornersFault_x1_H qx vx) := by
  unfold fleetref2_CornersFault_x1 at hF
  refine awp_seq ?_
  refine awp_region ?_
  refine aR 1 ?_
  refine aE ?_
  refine awp_seq ?_
  refine cE hF (fun h3 hF => ?_) fun h3 hF => ?_
  · refine awp_true (by kernel_rfl) h3 ?_
    refine awp_skip ?_
    refine awp_seq ?_
    refine awp_block ?_
    refine awp_seq ?_
    refine bE hF fun vy1 h4 hF => ?_
    refine awp_region ?_
    refine aR 1 ?_
    refine aX (x_idx api_Spot.enc h4) ?_
    refine aR 4 ?_
    refine aE ?_
    refine awp_seq ?_
    refine awp_seq ?_
    refine bE hF fun vr2_1 h5 hF => ?_
    refine awp_region ?_
    refine aR 1 ?_
    refine aC (fleetref2_SpotFault_ok h5) [] [] [] ?_
    refine aR 1 ?_
    refine aE ?_
    refine awp_seq ?_
    refine awp_region ?_
    refine aR 2 ?_
    refine aE ?_
    refine cE hF (fun h6 hF => ?_) fun h6 hF => ?_
    · refine awp_true (by kernel_rfl) h6 ?_
      refine awp_seq ?_
      refine awp_region ?_
      refine aR 2 ?_
      refine aE ?_
      refine awp_ret ?_
      exact oO hF [] [] rfl
    · refine awp_false (by kernel_rfl) h6 ?_
      refine awp_skip ?_
      refine awp_seq ?_
      refine bE hF fun vl1 h7 hF => ?_
      refine bE hF fun vr1_1 h8 hF => ?_
      refine aD ?_
      refine dR 2 ?_
      refine dX (x_slice api_Spot.enc h7) ?_
      refine dR 1 ?_
      refine dC (slices_Contains_api_Spot_api_Spot_ok h8) [] [] [] ?_
      refine dE ?_
      refine cE hF (fun h9 hF => ?_) fun h9 hF => ?_
      · refine awp_true (by kernel_rfl) h9 ?_
        refine awp_seq ?_
        refine awp_region ?_
        refine aR 1 ?_
        refine aE ?_
        refine awp_ret ?_
        exact oO hF [] [] rfl
      · refine awp_false (by kernel_rfl) h9 ?_
        refine awp_skip ?_
        refine awp_region ?_
        refine aR 2 ?_
        refine aE ?_
        exact oO hF [] [] rfl
  · refine awp_false (by kernel_rfl) h3 ?_
    refine awp_exit ?_
    exact oO hF [] [] rfl

def fleetref2_CornersFault_x5_k : Bool → AEx
  | _ => .normal

def fleetref2_CornersFault_x5_S (qx : List api_Spot) (vx2 : Int) (vr9 : api_Spot) (vr1_5 : api_Spot) (vx6 : Int) (vr13 : api_Spot) (vr1_7 : api_Spot) : Bool → St
  | vx8 => Mem.st ⟨[], [(0, [.d (.int .i64 vr9.X), .d (.int .i64 vr9.Y)]), (1, [.d (.int .i64 vr1_5.X), .d (.int .i64 vr1_5.Y)])]⟩ (tl [(0, .v (.one (.d (.lst (List.map api_Spot.enc qx))))), (6, .v (.one (.d (.int .i64 vx2)))), (7, .v (.one (.box 0 0))), (8, .v (.one (.box 1 0))), (39, .v (.one (.d (.int .i64 (qx.length : Int))))), (40, .v (.one (.d (.int .i64 vx2)))), (50, .v (.one (.d (.int .i64 (qx.length : Int))))), (51, .v (.one (.d (.int .i64 vx6)))), (77, .v (.one (.d (.bool vx8))))]) 2

def fleetref2_CornersFault_x5_I (qx : List api_Spot) (vx2 : Int) (vr9 : api_Spot) (vr1_5 : api_Spot) (vx6 : Int) (vr13 : api_Spot) (vr1_7 : api_Spot) : St := Mem.st ⟨[], [(0, [.d (.int .i64 vr9.X), .d (.int .i64 vr9.Y)]), (1, [.d (.int .i64 vr1_5.X), .d (.int .i64 vr1_5.Y)]), (2, [.d (.int .i64 vr13.X), .d (.int .i64 vr13.Y)]), (3, [.d (.int .i64 vr1_7.X), .d (.int .i64 vr1_7.Y)])]⟩ (tl [(0, .v (.one (.d (.lst (List.map api_Spot.enc qx))))), (6, .v (.one (.d (.int .i64 vx2)))), (7, .v (.one (.box 0 0))), (8, .v (.one (.box 1 0))), (10, .v (.one (.box 2 0))), (11, .v (.one (.box 3 0))), (39, .v (.one (.d (.int .i64 (qx.length : Int))))), (40, .v (.one (.d (.int .i64 vx2)))), (50, .v (.one (.d (.int .i64 (qx.length : Int))))), (51, .v (.one (.d (.int .i64 vx6))))]) 4

theorem fleetref2_CornersFault_x5_ok (qx : List api_Spot) (vx2 : Int) (vr9 : api_Spot) (vr1_5 : api_Spot) (vx6 : Int) (vr13 : api_Spot) (vr1_7 : api_Spot) {r} (hF : fleetref2_CornersFault_x5 vr9 vr1_5 vr13 vr1_7 = some r) : Awp prog 0 90 (cL (cL (cR (cR (cR (cL (cR (cR (cL (cL (cR (cR (cL (cL (cR (cR (cR (cL (cL (cR (cR (cL (cL (cR (cL (cR (cR (cR (cB f22))))))))))))))))))))))))))))) (Out 0 fleetref2_CornersFault_x5_k (fleetref2_CornersFault_x5_S qx vx2 vr9 vr1_5 vx6 vr13 vr1_7) r) (fleetref2_CornersFault_x5_I qx vx2 vr9 vr1_5 vx6 vr13 vr1_7) := by
  unfold fleetref2_CornersFault_x5 at hF
  refine bE hF fun vr14 h17 hF => ?_
  refine cE hF (fun h18 hF => ?_) fun h18 hF => ?_
  · refine awp_region ?_
    refine aR 3 ?_
    refine aCb (fleetref2_onWay_ok h17) [] [] [] h18 ?_
    refine aR 6 ?_
    refine aE ?_
    exact oO hF [] [] rfl
  · refine bE hF fun vr15 h19 hF => ?_
    refine awp_region ?_
    refine aR 3 ?_
    refine aCb (fleetref2_onWay_ok h17) [] [] [] h18 ?_
    refine aR 4 ?_
    refine aC (fleetref2_onWay_ok h19) [] [] [] ?_
    refine aR 1 ?_
    refine aE ?_
    exact oO hF [] [] rfl

def fleetref2_CornersFault_x4_k : Unit ⊕ Unit → AEx
  | .inl _ => .normal
  | .inr _ => .ret

def fleetref2_CornersFault_x4_S (qx : List api_Spot) (vx2 : Int) (vr9 : api_Spot) (vr1_5 : api_Spot) (vx6 : Int) : Unit ⊕ Unit → St
  | .inl _ => Mem.st ⟨[], [(0, [.d (.int .i64 vr9.X), .d (.int .i64 vr9.Y)]), (1, [.d (.int .i64 vr1_5.X), .d (.int .i64 vr1_5.Y)])]⟩ (tl [(0, .v (.one (.d (.lst (List.map api_Spot.enc qx))))), (6, .v (.one (.d (.int .i64 vx2)))), (7, .v (.one (.box 0 0))), (8, .v (.one (.box 1 0))), (39, .v (.one (.d (.int .i64 (qx.length : Int))))), (40, .v (.one (.d (.int .i64 vx2)))), (50, .v (.one (.d (.int .i64 (qx.length : Int))))), (51, .v (.one (.d (.int .i64 vx6))))]) 2
  | .inr _ => Mem.st ⟨[], []⟩ (tl [(2, .v (.one (.d (.int .i64 13))))]) 0

def fleetref2_CornersFault_x4_I (qx : List api_Spot) (vx2 : Int) (vr9 : api_Spot) (vr1_5 : api_Spot) (vx6 : Int) : St := Mem.st ⟨[], [(0, [.d (.int .i64 vr9.X), .d (.int .i64 vr9.Y)]), (1, [.d (.int .i64 vr1_5.X), .d (.int .i64 vr1_5.Y)])]⟩ (tl [(0, .v (.one (.d (.lst (List.map api_Spot.enc qx))))), (6, .v (.one (.d (.int .i64 vx2)))), (7, .v (.one (.box 0 0))), (8, .v (.one (.box 1 0))), (39, .v (.one (.d (.int .i64 (qx.length : Int))))), (40, .v (.one (.d (.int .i64 vx2)))), (50, .v (.one (.d (.int .i64 (qx.length : Int))))), (51, .v (.one (.d (.int .i64 vx6))))]) 2

theorem fleetref2_CornersFault_x4_ok (qx : List api_Spot) (vx2 : Int) (vr9 : api_Spot) (vr1_5 : api_Spot) (vx6 : Int) {r} (hF : fleetref2_CornersFault_x4 qx vx2 vr9 vr1_5 vx6 = some r) : Awp prog 0 90 (cL (cR (cR (cL (cL (cR (cR (cR (cL (cL (cR (cR (cL (cL (cR (cL (cR (cR (cR (cB f22)))))))))))))))))))) (Out 0 fleetref2_CornersFault_x4_k (fleetref2_CornersFault_x4_S qx vx2 vr9 vr1_5 vx6) r) (fleetref2_CornersFault_x4_I qx vx2 vr9 vr1_5 vx6) := by
  unfold fleetref2_CornersFault_x4 at hF
  refine awp_block ?_
  refine awp_seq ?_
  refine awp_region ?_
  refine aR 2 ?_
  refine aE ?_
  refine awp_seq ?_
  refine bE hF fun x h14 hF => ?_
  obtain ⟨vr13, vr1_7⟩ := x
  refine awp_region ?_
  refine aR 2 ?_
  refine aC (fleetref2_edge_ok h14) [] [] [] ?_
  refine aR 7 ?_
  refine aE ?_
  refine awp_block ?_
  refine awp_seq ?_
  refine awp_region ?_
  refine aR 4 ?_
  refine aE ?_
  refine cE hF (fun h15 hF => ?_) fun h15 hF => ?_
  · refine awp_true (by kernel_rfl) h15 ?_
    refine awp_skip ?_
    exact oO hF [] [] rfl
  · refine awp_false (by kernel_rfl) h15 ?_
    refine awp_seq ?_
    refine awp_region ?_
    refine aR 2 ?_
    refine aS (does_eqS (op := .eql) (xs := [.int .i64 vr1_5.X, .int .i64 vr1_5.Y]) (ys := [.int .i64 vr13.X, .int .i64 vr13.Y]) (b := (decide (vr1_5.X = vr13.X) && (decide (vr1_5.Y = vr13.Y) && true))) (c := (decide (vr1_5.X = vr13.X) && (decide (vr1_5.Y = vr13.Y) && true))) rfl (.inl ⟨rfl, rfl⟩) (by kernel_rfl) (by kernel_rfl) (by kernel_rfl) (by kernel_rfl) (by kernel_rfl) (by kernel_rfl)) ?_
    refine aR 1 ?_
    refine aE ?_
    refine cE hF (fun h16 hF => ?_) fun h16 hF => ?_
    · refine awp_true (by kernel_rfl) h16 ?_
      refine awp_seq ?_
      refine awp_to (st' := fleetref2_CornersFault_x5_I qx vx2 vr9 vr1_5 vx6 vr13 vr1_7) (oT [(2, 8002), (3, 9002)] []) ?_
      refine bE hF fun vx8_1 h20 hF => ?_
      refine awp_sub (fleetref2_CornersFault_x5_ok qx vx2 vr9 vr1_5 vx6 vr13 vr1_7 h20) ?_
      refine cE hF (fun h21 hF => ?_) fun h21 hF => ?_
      · refine awp_true (by kernel_rfl) h21 ?_
        refine awp_seq ?_
        refine awp_region ?_
        refine aR 1 ?_
        refine aE ?_
        refine awp_ret ?_
        exact oO hF [] [] rfl
      · refine awp_false (by kernel_rfl) h21 ?_
        refine awp_skip ?_
        exact oO hF [] [] rfl
    · refine awp_false (by kernel_rfl) h16 ?_
      refine awp_seq ?_
      refine awp_region ?_
      refine aR 2 ?_
      refine aS (does_eqS (op := .eql) (xs := [.int .i64 vr1_7.X, .int .i64 vr1_7.Y]) (ys := [.int .i64 vr9.X, .int .i64 vr9.Y]) (b := (decide (vr1_7.X = vr9.X) && (decide (vr1_7.Y = vr9.Y) && true))) (c := (decide (vr1_7.X = vr9.X) && (decide (vr1_7.Y = vr9.Y) && true))) rfl (.inl ⟨rfl, rfl⟩) (by kernel_rfl) (by kernel_rfl) (by kernel_rfl) (by kernel_rfl) (by kernel_rfl) (by kernel_rfl)) ?_
      refine aR 1 ?_
      refine aE ?_
      refine cE hF (fun h22 hF => ?_) fun h22 hF => ?_
      · refine awp_true (by kernel_rfl) h22 ?_
        refine awp_skip ?_
        exact oO hF [] [] rfl
      · refine awp_false (by kernel_rfl) h22 ?_
        refine awp_seq ?_
        refine bE hF fun vr4_4 h23 hF => ?_
        refine awp_region ?_
        refine aR 4 ?_
        refine aC (fleetref2_touches_ok h23) [] [] [] ?_
        refine aR 1 ?_
        refine aE ?_
        refine cE hF (fun h24 hF => ?_) fun h24 hF => ?_
        · refine awp_true (by kernel_rfl) h24 ?_
          refine awp_seq ?_
          refine awp_region ?_
          refine aR 1 ?_
          refine aE ?_
          refine awp_ret ?_
          exact oO hF [] [] rfl
        · refine awp_false (by kernel_rfl) h24 ?_
          refine awp_skip ?_
          exact oO hF [] [] rfl

def fleetref2_CornersFault_x3_k : Unit ⊕ Unit → AEx
  | .inl _ => .exit 5
  | .inr _ => .ret

def fleetref2_CornersFault_x3_S (qx : List api_Spot) (vx2 : Int) (vr9 : api_Spot) (vr1_5 : api_Spot) : Unit ⊕ Unit → St
  | .inl _ => Mem.st ⟨[], []⟩ (tl [(0, .v (.one (.d (.lst (List.map api_Spot.enc qx))))), (39, .v (.one (.d (.int .i64 (qx.length : Int))))), (40, .v (.one (.d (.int .i64 vx2))))]) 0
  | .inr _ => Mem.st ⟨[], []⟩ (tl [(2, .v (.one (.d (.int .i64 13))))]) 0

def fleetref2_CornersFault_x3_H (qx : List api_Spot) (vx2 : Int) (vr9 : api_Spot) (vr1_5 : api_Spot) : Int → St
  | vx6 => Mem.st ⟨[], [(0, [.d (.int .i64 vr9.X), .d (.int .i64 vr9.Y)]), (1, [.d (.int .i64 vr1_5.X), .d (.int .i64 vr1_5.Y)])]⟩ (tl [(0, .v (.one (.d (.lst (List.map api_Spot.enc qx))))), (6, .v (.one (.d (.int .i64 vx2)))), (7, .v (.one (.box 0 0))), (8, .v (.one (.box 1 0))), (39, .v (.one (.d (.int .i64 (qx.length : Int))))), (40, .v (.one (.d (.int .i64 vx2)))), (50, .v (.one (.d (.int .i64 (qx.length : Int))))), (51, .v (.one (.d (.int .i64 vx6))))]) 2

theorem fleetref2_CornersFault_x3_ok (qx : List api_Spot) (vx2 : Int) (vr9 : api_Spot) (vr1_5 : api_Spot) (vx6 : Int) (r : (Int) ⊕ (Unit ⊕ Unit)) (hF : fleetref2_CornersFault_x3 qx vx2 vr9 vr1_5 vx6 = some r) : Awp prog 0 90 (cL (cL (cR (cR (cR (cL (cL (cR (cR (cL (cL (cR (cL (cR (cR (cR (cB f22))))))))))))))))) (Out 0 (kk fleetref2_CornersFault_x3_k) (SS (fleetref2_CornersFault_x3_H qx vx2 vr9 vr1_5) (fleetref2_CornersFault_x3_S qx vx2 vr9 vr1_5)) r) (fleetref2_CornersFault_x3_H qx vx2 vr9 vr1_5 vx6) := by
  unfold fleetref2_CornersFault_x3 at hF
  refine awp_seq ?_
  refine awp_region ?_
  refine aR 1 ?_
  refine aE ?_
  refine awp_seq ?_
  refine cE hF (fun h13 hF => ?_) fun h13 hF => ?_
  · refine awp_true (by kernel_rfl) h13 ?_
    refine awp_skip ?_
    refine awp_seq ?_
    refine awp_to (st' := fleetref2_CornersFault_x4_I qx vx2 vr9 vr1_5 vx6) (oT [] []) ?_
    refine bE hF fun x h25 hF => ?_
    rcases x with _ | _
    · refine awp_sub (fleetref2_CornersFault_x4_ok qx vx2 vr9 vr1_5 vx6 h25) ?_
      refine awp_region ?_
      refine aR 2 ?_
      refine aE ?_
      exact oO hF [] [] rfl
    · refine awp_sub (fleetref2_CornersFault_x4_ok qx vx2 vr9 vr1_5 vx6 h25) ?_
      exact oO hF [] [] rfl
  · refine awp_false (by kernel_rfl) h13 ?_
    refine awp_exit ?_
    exact oO hF [] [] rfl

def fleetref2_CornersFault_x2_k : Unit ⊕ Unit → AEx
  | .inl _ => .exit 3
  | .inr _ => .ret

def fleetref2_CornersFault_x2_S (qx : List api_Spot) : Unit ⊕ Unit → St
  | .inl _ => Mem.st ⟨[], []⟩ (tl []) 0
  | .inr _ => Mem.st ⟨[], []⟩ (tl [(2, .v (.one (.d (.int .i64 13))))]) 0

def fleetref2_CornersFault_x2_H (qx : List api_Spot) : Int → St
  | vx2 => Mem.st ⟨[], []⟩ (tl [(0, .v (.one (.d (.lst (List.map api_Spot.enc qx))))), (39, .v (.one (.d (.int .i64 (qx.length : Int))))), (40, .v (.one (.d (.int .i64 vx2))))]) 0

theorem fleetref2_CornersFault_x2_ok (qx : List api_Spot) (vx2 : Int) (r : (Int) ⊕ (Unit ⊕ Unit)) (hF : fleetref2_CornersFault_x2 qx vx2 = some r) : Awp prog 0 90 (cL (cL (cR (cL (cR (cR (cR (cB f22)))))))) (Out 0 (kk fleetref2_CornersFault_x2_k) (SS (fleetref2_CornersFault_x2_H qx) (fleetref2_CornersFault_x2_S qx)) r) (fleetref2_CornersFault_x2_H qx vx2) := by
  unfold fleetref2_CornersFault_x2 at hF
  refine awp_seq ?_
  refine awp_region ?_
  refine aR 1 ?_
  refine aE ?_
  refine awp_seq ?_
  refine cE hF (fun h11 hF => ?_) fun h11 hF => ?_
  · refine awp_true (by kernel_rfl) h11 ?_
    refine awp_skip ?_
    refine awp_seq ?_
    refine awp_block ?_
    refine awp_seq ?_
    refine awp_region ?_
    refine aR 2 ?_
    refine aE ?_
    refine awp_seq ?_
    refine bE hF fun x h12 hF => ?_
    obtain ⟨vr9, vr1_5⟩ := x
    refine awp_region ?_
    refine aR 2 ?_
    refine aC (fleetref2_edge_ok h12) [] [] [] ?_
    refine aR 7 ?_
    refine aE ?_
    refine awp_seq ?_
    refine awp_region ?_
    refine aR 1 ?_
    refine aL api_Spot.enc qx ?_
    refine aR 1 ?_
    refine aE ?_
    refine awp_block ?_
    refine awp_to (st' := fleetref2_CornersFault_x3_H qx vx2 vr9 vr1_5 0) (oT [(0, 9000), (1, 10000)] []) ?_
    refine bE hF fun x h26 hF => ?_
    rcases x with _ | _
    · refine awp_sub (awp_loop' (fleetref2_CornersFault_x3_H qx vx2 vr9 vr1_5) fleetref2_CornersFault_x3_k (fleetref2_CornersFault_x3_S qx vx2 vr9 vr1_5) (by intro x; rcases x with x | x <;> exact fun h => nomatch h) h26 (fleetref2_CornersFault_x3_ok qx vx2 vr9 vr1_5)) ?_
      refine awp_region ?_
      refine aR 2 ?_
      refine aE ?_
      exact oO hF [] [] rfl
    · refine awp_sub (awp_loop' (fleetref2_CornersFault_x3_H qx vx2 vr9 vr1_5) fleetref2_CornersFault_x3_k (fleetref2_CornersFault_x3_S qx vx2 vr9 vr1_5) (by intro x; rcases x with x | x <;> exact fun h => nomatch h) h26 (fleetref2_CornersFault_x3_ok qx vx2 vr9 vr1_5)) ?_
      exact oO hF [] [] rfl
  · refine awp_false (by kernel_rfl) h11 ?_
    refine awp_exit ?_
    exact oO hF [] [] rfl

def fleetref2_CornersFault_R (qx : List api_Spot) (r : Int) : TV × Mem := (.v (.one (.d (.int .i64 r))), ⟨[], []⟩)

theorem fleetref2_CornersFault_ok {qx : List api_Spot} {r} (hF : fleetref2_CornersFault qx = some r) : Holds prog 22 [.v (.one (.d (.lst (List.map api_Spot.enc qx))))] ⟨[], []⟩ (Is (fleetref2_CornersFault_R qx r)) := by
  unfold fleetref2_CornersFault at hF
  refine holds_of_awp hΓ (fn := f22) (c := cB f22) (A := 0) (nx := 0) (by kernel_rfl) (by kernel_rfl) (by kernel_rfl) (by kernel_rfl) (by kernel_rfl) (by kernel_rfl) (lowc_of (by kernel_rfl)) ?_
  show Awp prog 0 90 (cB f22) _ _
  refine awp_seq ?_
  refine awp_region ?_
  refine aR 1 ?_
  refine aE ?_
  refine awp_seq ?_
  refine awp_block ?_
  refine awp_seq ?_
  refine awp_region ?_
  refine aR 1 ?_
  refine aL api_Spot.enc qx ?_
  refine aR 2 ?_
  refine aE ?_
  refine cE hF (fun h1 hF => ?_) fun h1 hF => ?_
  · refine awp_true (by kernel_rfl) h1 ?_
    refine awp_seq ?_
    refine awp_region ?_
    refine aR 1 ?_
    refine aE ?_
    refine awp_ret ?_
    exact oF hF [] []
  · refine awp_false (by kernel_rfl) h1 ?_
    refine awp_seq ?_
    refine awp_region ?_
    refine aR 1 ?_
    refine aL api_Spot.enc qx ?_
    refine aR 2 ?_
    refine aE ?_
    refine cE hF (fun h2 hF => ?_) fun h2 hF => ?_
    · refine awp_true (by kernel_rfl) h2 ?_
      refine awp_seq ?_
      refine awp_region ?_
      refine aR 1 ?_
      refine aE ?_
      refine awp_ret ?_
      exact oF hF [] []
    · refine awp_false (by kernel_rfl) h2 ?_
      refine awp_skip ?_
      refine awp_seq ?_
      refine awp_seq ?_
      refine awp_region ?_
      refine aR 1 ?_
      refine aL api_Spot.enc qx ?_
      refine aR 1 ?_
      refine aE ?_
      refine awp_block ?_
      refine awp_to (st' := fleetref2_CornersFault_x1_H qx 0) (oT [] []) ?_
      refine bE hF fun x h10 hF => ?_
      rcases x with _ | vx1_1
      · refine awp_sub (awp_loop' (fleetref2_CornersFault_x1_H qx) fleetref2_CornersFault_x1_k (fleetref2_CornersFault_x1_S qx) (by intro x; rcases x with x | x <;> exact fun h => nomatch h) h10 (fleetref2_CornersFault_x1_ok qx)) ?_
        refine awp_seq ?_
        refine awp_seq ?_
        refine awp_region ?_
        refine aR 1 ?_
        refine aL api_Spot.enc qx ?_
        refine aR 1 ?_
        refine aE ?_
        refine awp_block ?_
        refine awp_to (st' := fleetref2_CornersFault_x2_H qx 0) (oT [] []) ?_
        refine bE hF fun x h27 hF => ?_
        rcases x with _ | _
        · refine awp_sub (awp_loop' (fleetref2_CornersFault_x2_H qx) fleetref2_CornersFault_x2_k (fleetref2_CornersFault_x2_S qx) (by intro x; rcases x with x | x <;> exact fun h => nomatch h) h27 (fleetref2_CornersFault_x2_ok qx)) ?_
          refine awp_seq ?_
          refine awp_region ?_
          refine aR 1 ?_
          refine aE ?_
          refine awp_ret ?_
          exact oF hF [] []
        · refine awp_sub (awp_loop' (fleetref2_CornersFault_x2_H qx) fleetref2_CornersFault_x2_k (fleetref2_CornersFault_x2_S qx) (by intro x; rcases x with x | x <;> exact fun h => nomatch h) h27 (fleetref2_CornersFault_x2_ok qx)) ?_
          exact oF hF [] []
      · refine awp_sub (awp_loop' (fleetref2_CornersFault_x1_H qx) fleetref2_CornersFault_x1_k (fleetref2_CornersFault_x1_S qx) (by intro x; rcases x with x | x <;> exact fun h => nomatch h) h10 (fleetref2_CornersFault_x1_ok qx)) ?_
        exact oF hF [] []

/-! ### (*beaconfleet/fleetmake.Stream).RightFence -/
def fleetmake_Stream_RightFence_x2_k : (fleetmake_Stream × (List api_Spot)) → AEx
  | _ => .exit 2

def fleetmake_Stream_RightFence_x2_S (vx : Int) (vr5 : Int) : (fleetmake_Stream × (List api_Spot)) → St
  | (vs9, vx10) => Mem.st ⟨[(3, ⟨43, 2, List.map api_Spot.enc ([api_Spot.mk 0 0, api_Spot.mk 10 0, api_Spot.mk 10 10, api_Spot.mk 0 10] : List api_Spot)⟩), (4, ⟨43, 2, List.map api_Spot.enc vx10⟩)], [(0, [.d (.lst (List.map (encI .i64) vs9.L)), .d (.int .i64 vs9.at_)]), (1, [.d (.str ([] : List UInt8)), .nil]), (2, [.d (.str ([102] : List UInt8)), .own 3 none])]⟩ (tl [(0, .v (.one (.box 0 0))), (2, .v (.one (.box 1 0))), (3, .v (.one (.box 2 0))), (4, .v (.one (.own 4 none))), (12, .v (.one (.d (.int .i64 vx))))]) 5

def fleetmake_Stream_RightFence_x2_H (vx : Int) (vr5 : Int) : fleetmake_Stream × (List api_Spot) × Int → St
  | (vs8, vx8, vx9) => Mem.st ⟨[(3, ⟨43, 2, List.map api_Spot.enc ([api_Spot.mk 0 0, api_Spot.mk 10 0, api_Spot.mk 10 10, api_Spot.mk 0 10] : List api_Spot)⟩), (4, ⟨43, 2, List.map api_Spot.enc vx8⟩)], [(0, [.d (.lst (List.map (encI .i64) vs8.L)), .d (.int .i64 vs8.at_)]), (1, [.d (.str ([] : List UInt8)), .nil]), (2, [.d (.str ([102] : List UInt8)), .own 3 none])]⟩ (tl [(0, .v (.one (.box 0 0))), (2, .v (.one (.box 1 0))), (3, .v (.one (.box 2 0))), (4, .v (.one (.own 4 none))), (12, .v (.one (.d (.int .i64 vx)))), (15, .v (.one (.d (.int .i64 vr5)))), (16, .v (.one (.d (.int .i64 vx9))))]) 5

theorem fleetmake_Stream_RightFence_x2_ok (vx : Int) (vr5 : Int) (s : fleetmake_Stream × (List api_Spot) × Int) (r : (fleetmake_Stream × (List api_Spot) × Int) ⊕ ((fleetmake_Stream × (List api_Spot)))) (hF : fleetmake_Stream_RightFence_x2 vr5 s = some r) : Awp prog 1 82 (cL (cL (cR (cL (cR (cL (cL (cR (cR (cL (cL (cR (cL (cR (cR (cB f5)))))))))))))))) (Out 1 (kk fleetmake_Stream_RightFence_x2_k) (SS (fleetmake_Stream_RightFence_x2_H vx vr5) (fleetmake_Stream_RightFence_x2_S vx vr5)) r) (fleetmake_Stream_RightFence_x2_H vx vr5 s) := by
  obtain ⟨vs8, vx8, vx9⟩ := s
  unfold fleetmake_Stream_RightFence_x2 at hF
  refine awp_seq ?_
  refine awp_region ?_
  refine aR 1 ?_
  refine aE ?_
  refine awp_seq ?_
  refine cE hF (fun h3 hF => ?_) fun h3 hF => ?_
  · refine awp_true (by kernel_rfl) h3 ?_
    refine awp_skip ?_
    refine awp_seq ?_
    refine awp_block ?_
    refine bE hF fun vr2_3 h4 hF => ?_
    refine gE hF fun h5 hF => ?_
    refine awp_region ?_
    refine aR 2 ?_
    refine aC (fleetmake_Stream_Place_ok h4) [] [] [] ?_
    refine aR 1 ?_
    refine aX (x_app api_Spot.enc 4 h5) ?_
    refine aR 1 ?_
    refine aE ?_
    refine awp_region ?_
    refine aR 2 ?_
    refine aE ?_
    exact oO hF [(4, 5005)] [] rfl
  · refine awp_false (by kernel_rfl) h3 ?_
    refine awp_exit ?_
    exact oO hF [] [] rfl

def fleetmake_Stream_RightFence_x4_k : (fleetmake_Stream × (List api_Spot)) → AEx
  | _ => .exit 4

def fleetmake_Stream_RightFence_x4_S (vx : Int) (vx10_1 : List api_Spot) : (fleetmake_Stream × (List api_Spot)) → St
  | (vs11, vx13) => Mem.st ⟨[(3, ⟨43, 2, List.map api_Spot.enc ([api_Spot.mk 0 0, api_Spot.mk 10 0, api_Spot.mk 10 10, api_Spot.mk 0 10] : List api_Spot)⟩), (4, ⟨43, 2, List.map api_Spot.enc vx13⟩)], [(0, [.d (.lst (List.map (encI .i64) vs11.L)), .d (.int .i64 vs11.at_)]), (1, [.d (.str ([] : List UInt8)), .nil]), (2, [.d (.str ([102] : List UInt8)), .own 3 none])]⟩ (tl [(0, .v (.one (.box 0 0))), (2, .v (.one (.box 1 0))), (3, .v (.one (.box 2 0))), (4, .v (.one (.own 4 none))), (12, .v (.one (.d (.int .i64 vx))))]) 5

def fleetmake_Stream_RightFence_x4_H (vx : Int) (vx10_1 : List api_Spot) : fleetmake_Stream × (List api_Spot) × Int → St
  | (vs10, vx11, vx12) => Mem.st ⟨[(3, ⟨43, 2, List.map api_Spot.enc ([api_Spot.mk 0 0, api_Spot.mk 10 0, api_Spot.mk 10 10, api_Spot.mk 0 10] : List api_Spot)⟩), (4, ⟨43, 2, List.map api_Spot.enc vx11⟩)], [(0, [.d (.lst (List.map (encI .i64) vs10.L)), .d (.int .i64 vs10.at_)]), (1, [.d (.str ([] : List UInt8)), .nil]), (2, [.d (.str ([102] : List UInt8)), .own 3 none])]⟩ (tl [(0, .v (.one (.box 0 0))), (2, .v (.one (.box 1 0))), (3, .v (.one (.box 2 0))), (4, .v (.one (.own 4 none))), (12, .v (.one (.d (.int .i64 vx)))), (27, .v (.one (.d (.int .i64 (vx10_1.length : Int))))), (28, .v (.one (.d (.int .i64 vx12))))]) 5

theorem fleetmake_Stream_RightFence_x4_ok (vx : Int) (vx10_1 : List api_Spot) (s : fleetmake_Stream × (List api_Spot) × Int) (r : (fleetmake_Stream × (List api_Spot) × Int) ⊕ ((fleetmake_Stream × (List api_Spot)))) (hF : fleetmake_Stream_RightFence_x4 vx10_1 s = some r) : Awp prog 1 82 (cL (cL (cR (cL (cR (cL (cR (cR (cL (cL (cR (cR (cL (cL (cR (cL (cR (cR (cB f5))))))))))))))))))) (Out 1 (kk fleetmake_Stream_RightFence_x4_k) (SS (fleetmake_Stream_RightFence_x4_H vx vx10_1) (fleetmake_Stream_RightFence_x4_S vx vx10_1)) r) (fleetmake_Stream_RightFence_x4_H vx vx10_1 s) := by
  obtain ⟨vs10, vx11, vx12⟩ := s
  unfold fleetmake_Stream_RightFence_x4 at hF
  refine awp_seq ?_
  refine awp_region ?_
  refine aR 1 ?_
  refine aE ?_
  refine awp_seq ?_
  refine cE hF (fun h9 hF => ?_) fun h9 hF => ?_
  · refine awp_true (by kernel_rfl) h9 ?_
    refine awp_skip ?_
    refine awp_seq ?_
    refine awp_block ?_
    refine awp_seq ?_
    refine awp_region ?_
    refine aR 2 ?_
    refine aE ?_
    refine bE hF fun vy3 h10 hF => ?_
    refine bE hF fun vr8 h11 hF => ?_
    refine aDw [4] ?_
    refine dR 2 ?_
    refine dI api_Spot.enc 4 h10 rfl ?_
    refine dR 1 ?_
    refine dX (x_ldE api_Spot.enc h10) ?_
    refine dR 2 ?_
    refine dC (fleetmake_Stream_Pick_o1_ok h11) [(1, 9005)] [] [] ?_
    refine dR 1 ?_
    refine dI api_Spot.enc 4 h10 rfl ?_
    refine dR 1 ?_
    refine dW api_Spot.enc (api_Spot.mk (IntKind.wrap .i64 (vy3.X * vr8)) vy3.Y) h10 rfl ?_
    refine dE ?_
    refine awp_region ?_
    refine aR 2 ?_
    refine aE ?_
    exact oO hF [] [] rfl
  · refine awp_false (by kernel_rfl) h9 ?_
    refine awp_exit ?_
    exact oO hF [] [] rfl

def fleetmake_Stream_RightFence_x3_k : (fleetmake_Stream × (List api_Spot)) → AEx
  | _ => .normal

def fleetmake_Stream_RightFence_x3_S (vx : Int) (vs9_1 : fleetmake_Stream) (vx10_1 : List api_Spot) : (fleetmake_Stream × (List api_Spot)) → St
  | (vs12, vx14) => Mem.st ⟨[(3, ⟨43, 2, List.map api_Spot.enc ([api_Spot.mk 0 0, api_Spot.mk 10 0, api_Spot.mk 10 10, api_Spot.mk 0 10] : List api_Spot)⟩), (4, ⟨43, 2, List.map api_Spot.enc vx14⟩)], [(0, [.d (.lst (List.map (encI .i64) vs12.L)), .d (.int .i64 vs12.at_)]), (1, [.d (.str ([] : List UInt8)), .nil]), (2, [.d (.str ([102] : List UInt8)), .own 3 none])]⟩ (tl [(0, .v (.one (.box 0 0))), (2, .v (.one (.box 1 0))), (3, .v (.one (.box 2 0))), (4, .v (.one (.own 4 none))), (12, .v (.one (.d (.int .i64 vx))))]) 5

def fleetmake_Stream_RightFence_x3_I (vx : Int) (vs9_1 : fleetmake_Stream) (vx10_1 : List api_Spot) : St := Mem.st ⟨[(3, ⟨43, 2, List.map api_Spot.enc ([api_Spot.mk 0 0, api_Spot.mk 10 0, api_Spot.mk 10 10, api_Spot.mk 0 10] : List api_Spot)⟩), (4, ⟨43, 2, List.map api_Spot.enc vx10_1⟩)], [(0, [.d (.lst (List.map (encI .i64) vs9_1.L)), .d (.int .i64 vs9_1.at_)]), (1, [.d (.str ([] : List UInt8)), .nil]), (2, [.d (.str ([102] : List UInt8)), .own 3 none])]⟩ (tl [(0, .v (.one (.box 0 0))), (2, .v (.one (.box 1 0))), (3, .v (.one (.box 2 0))), (4, .v (.one (.own 4 none))), (12, .v (.one (.d (.int .i64 vx))))]) 5

theorem fleetmake_Stream_RightFence_x3_ok (vx : Int) (vs9_1 : fleetmake_Stream) (vx10_1 : List api_Spot) {r} (hF : fleetmake_Stream_RightFence_x3 vs9_1 vx10_1 = some r) : Awp prog 1 82 (cL (cR (cR (cL (cL (cR (cR (cL (cL (cR (cL (cR (cR (cB f5)))))))))))))) (Out 1 fleetmake_Stream_RightFence_x3_k (fleetmake_Stream_RightFence_x3_S vx vs9_1 vx10_1) r) (fleetmake_Stream_RightFence_x3_I vx vs9_1 vx10_1) := by
  unfold fleetmake_Stream_RightFence_x3 at hF
  refine awp_seq ?_
  refine bE hF fun vr6 h7 hF => ?_
  refine awp_region ?_
  refine aR 1 ?_
  refine aC (fleetmake_Stream_Flip_ok h7) [] [] [] ?_
  refine aE ?_
  refine cE hF (fun h8 hF => ?_) fun h8 hF => ?_
  · refine awp_true (by kernel_rfl) h8 ?_
    refine awp_seq ?_
    refine awp_region ?_
    refine aR 1 ?_
    refine aL api_Spot.enc vx10_1 ?_
    refine aR 1 ?_
    refine aE ?_
    refine awp_block ?_
    refine awp_to (st' := fleetmake_Stream_RightFence_x4_H vx vx10_1 (fleetmake_Stream.mk vs9_1.L (IntKind.wrap .i64 (vs9_1.at_ + 1)), vx10_1, 0)) (oT [] []) ?_
    refine bE hF fun x h12 hF => ?_
    obtain ⟨vs11_1, vx13_1⟩ := x
    refine awp_sub (awp_loop' (fleetmake_Stream_RightFence_x4_H vx vx10_1) fleetmake_Stream_RightFence_x4_k (fleetmake_Stream_RightFence_x4_S vx vx10_1) (by intro x; exact fun h => nomatch h) h12 (fleetmake_Stream_RightFence_x4_ok vx vx10_1)) ?_
    exact oO hF [] [] rfl
  · refine awp_false (by kernel_rfl) h8 ?_
    refine awp_skip ?_
    exact oO hF [] [] rfl

def fleetmake_Stream_RightFence_x1_k : fleetmake_Stream ⊕ (fleetmake_Stream × (List api_Spot)) → AEx
  | .inl _ => .exit 0
  | .inr _ => .ret

def fleetmake_Stream_RightFence_x1_S : fleetmake_Stream ⊕ (fleetmake_Stream × (List api_Spot)) → St
  | .inl vs13 => Mem.st ⟨[(3, ⟨43, 2, List.map api_Spot.enc ([api_Spot.mk 0 0, api_Spot.mk 10 0, api_Spot.mk 10 10, api_Spot.mk 0 10] : List api_Spot)⟩)], [(0, [.d (.lst (List.map (encI .i64) vs13.L)), .d (.int .i64 vs13.at_)]), (1, [.d (.str ([] : List UInt8)), .nil]), (2, [.d (.str ([102] : List UInt8)), .own 3 none])]⟩ (tl [(0, .v (.one (.box 0 0))), (2, .v (.one (.box 1 0))), (3, .v (.one (.box 2 0)))]) 4
  | .inr (vs14, vx15) => Mem.st ⟨[(2, ⟨43, 2, List.map api_Spot.enc vx15⟩)], [(0, [.d (.lst (List.map (encI .i64) vs14.L)), .d (.int .i64 vs14.at_)]), (1, [.d (.str ([102] : List UInt8)), .own 2 none])]⟩ (tl [(2, .v (.one (.box 1 0)))]) 3

def fleetmake_Stream_RightFence_x1_H : fleetmake_Stream × Int → St
  | (vs, vx) => Mem.st ⟨[(3, ⟨43, 2, List.map api_Spot.enc ([api_Spot.mk 0 0, api_Spot.mk 10 0, api_Spot.mk 10 10, api_Spot.mk 0 10] : List api_Spot)⟩)], [(0, [.d (.lst (List.map (encI .i64) vs.L)), .d (.int .i64 vs.at_)]), (1, [.d (.str ([] : List UInt8)), .nil]), (2, [.d (.str ([102] : List UInt8)), .own 3 none])]⟩ (tl [(0, .v (.one (.box 0 0))), (2, .v (.one (.box 1 0))), (3, .v (.one (.box 2 0))), (12, .v (.one (.d (.int .i64 vx))))]) 4

theorem fleetmake_Stream_RightFence_x1_ok (s : fleetmake_Stream × Int) (r : (fleetmake_Stream × Int) ⊕ (fleetmake_Stream ⊕ (fleetmake_Stream × (List api_Spot)))) (hF : fleetmake_Stream_RightFence_x1  s = some r) : Awp prog 1 82 (cL (cL (cR (cL (cR (cR (cB f5))))))) (Out 1 (kk fleetmake_Stream_RightFence_x1_k) (SS (fleetmake_Stream_RightFence_x1_H ) (fleetmake_Stream_RightFence_x1_S )) r) (fleetmake_Stream_RightFence_x1_H  s) := by
  obtain ⟨vs, vx⟩ := s
  unfold fleetmake_Stream_RightFence_x1 at hF
  refine awp_seq ?_
  refine awp_region ?_
  refine aR 1 ?_
  refine aE ?_
  refine awp_seq ?_
  refine cE hF (fun h1 hF => ?_) fun h1 hF => ?_
  · refine awp_true (by kernel_rfl) h1 ?_
    refine awp_skip ?_
    refine awp_seq ?_
    refine awp_block ?_
    refine awp_seq ?_
    refine awp_region ?_
    refine aR 1 ?_
    refine aE ?_
    refine awp_seq ?_
    refine awp_seq ?_
    refine bE hF fun x h2 hF => ?_
    obtain ⟨vs7, vr5⟩ := x
    refine awp_region ?_
    refine aR 1 ?_
    refine aC (fleetmake_Stream_Range_ok h2) [] [] [] ?_
    refine aR 1 ?_
    refine aE ?_
    refine awp_block ?_
    refine awp_to (st' := fleetmake_Stream_RightFence_x2_H vx vr5 (vs7, [], 0)) (oT [] [4]) ?_
    refine bE hF fun x h6 hF => ?_
    obtain ⟨vs9_1, vx10_1⟩ := x
    refine awp_sub (awp_loop' (fleetmake_Stream_RightFence_x2_H vx vr5) fleetmake_Stream_RightFence_x2_k (fleetmake_Stream_RightFence_x2_S vx vr5) (by intro x; exact fun h => nomatch h) h6 (fleetmake_Stream_RightFence_x2_ok vx vr5)) ?_
    refine awp_seq ?_
    refine awp_to (st' := fleetmake_Stream_RightFence_x3_I vx vs9_1 vx10_1) (oT [] []) ?_
    refine bE hF fun x h13 hF => ?_
    obtain ⟨vs12_1, vx14_1⟩ := x
    refine awp_sub (fleetmake_Stream_RightFence_x3_ok vx vs9_1 vx10_1 h13) ?_
    refine awp_seq ?_
    refine bE hF fun vr16_1 h14 hF => ?_
    refine awp_region ?_
    refine aR 1 ?_
    refine aC (fleetref2_CornersFault_ok h14) [] [] [4] ?_
    refine aR 1 ?_
    refine aE ?_
    refine cE hF (fun h15 hF => ?_) fun h15 hF => ?_
    · refine awp_true (by kernel_rfl) h15 ?_
      refine awp_seq ?_
      refine awp_region ?_
      refine aR 3 ?_
      refine aE ?_
      refine awp_seq ?_
      refine awp_region ?_
      refine aR 2 ?_
      refine aE ?_
      refine awp_ret ?_
      exact oO hF [(2, 4)] [] rfl
    · refine awp_false (by kernel_rfl) h15 ?_
      refine awp_skip ?_
      refine awp_region ?_
      refine aR 2 ?_
      refine aE ?_
      exact oO hF [] [] rfl
  · refine awp_false (by kernel_rfl) h1 ?_
    refine awp_exit ?_
    exact oO hF [] [] rfl

def fleetmake_Stream_RightFence_x5_k : (List api_Spot) → AEx
  | _ => .normal

def fleetmake_Stream_RightFence_x5_S (vs13_1 : fleetmake_Stream) : (List api_Spot) → St
  | vx16 => Mem.st ⟨[(3, ⟨43, 2, List.map api_Spot.enc vx16⟩)], [(0, [.d (.lst (List.map (encI .i64) vs13_1.L)), .d (.int .i64 (IntKind.wrap .i64 (vs13_1.at_ + 1)))]), (1, [.d (.str ([] : List UInt8)), .nil]), (2, [.d (.str ([102] : List UInt8)), .own 3 none])]⟩ (tl [(2, .v (.one (.box 1 0))), (3, .v (.one (.box 2 0)))]) 4

def fleetmake_Stream_RightFence_x5_I (vs13_1 : fleetmake_Stream) : St := Mem.st ⟨[(3, ⟨43, 2, List.map api_Spot.enc ([api_Spot.mk 0 0, api_Spot.mk 10 0, api_Spot.mk 10 10, api_Spot.mk 0 10] : List api_Spot)⟩)], [(0, [.d (.lst (List.map (encI .i64) vs13_1.L)), .d (.int .i64 vs13_1.at_)]), (1, [.d (.str ([] : List UInt8)), .nil]), (2, [.d (.str ([102] : List UInt8)), .own 3 none])]⟩ (tl [(0, .v (.one (.box 0 0))), (2, .v (.one (.box 1 0))), (3, .v (.one (.box 2 0)))]) 4

theorem fleetmake_Stream_RightFence_x5_ok (vs13_1 : fleetmake_Stream) {r} (hF : fleetmake_Stream_RightFence_x5 vs13_1 = some r) : Awp prog 1 82 (cL (cR (cR (cR (cB f5))))) (Out 1 fleetmake_Stream_RightFence_x5_k (fleetmake_Stream_RightFence_x5_S vs13_1) r) (fleetmake_Stream_RightFence_x5_I vs13_1) := by
  unfold fleetmake_Stream_RightFence_x5 at hF
  refine awp_seq ?_
  refine bE hF fun vr3_1 h17 hF => ?_
  refine awp_region ?_
  refine aR 1 ?_
  refine aC (fleetmake_Stream_Next_ok h17) [] [] [] ?_
  refine aE ?_
  refine awp_block ?_
  refine awp_seq ?_
  refine awp_region ?_
  refine aR 2 ?_
  refine aE ?_
  refine cE hF (fun h18 hF => ?_) fun h18 hF => ?_
  · refine awp_true (by kernel_rfl) h18 ?_
    refine awp_region ?_
    refine aR 8 ?_
    refine aE ?_
    exact oO hF [(3, 9004)] [] rfl
  · refine awp_false (by kernel_rfl) h18 ?_
    refine awp_seq ?_
    refine awp_region ?_
    refine aR 2 ?_
    refine aE ?_
    refine cE hF (fun h19 hF => ?_) fun h19 hF => ?_
    · refine awp_true (by kernel_rfl) h19 ?_
      refine awp_region ?_
      refine aR 7 ?_
      refine aE ?_
      exact oO hF [(3, 10004)] [] rfl
    · refine awp_false (by kernel_rfl) h19 ?_
      refine awp_seq ?_
      refine awp_region ?_
      refine aR 2 ?_
      refine aE ?_
      refine cE hF (fun h20 hF => ?_) fun h20 hF => ?_
      · refine awp_true (by kernel_rfl) h20 ?_
        refine awp_region ?_
        refine aR 11 ?_
        refine aE ?_
        exact oO hF [(3, 16004)] [] rfl
      · refine awp_false (by kernel_rfl) h20 ?_
        refine awp_skip ?_
        exact oO hF [] [] rfl

def fleetmake_Stream_RightFence_R (qx : fleetmake_Stream) (r : fleetmake_Stream × (List api_Spot)) : TV × Mem := (.v (.agg [.d (.str ([102] : List UInt8)), .own 1 none]), ⟨[(1, ⟨43, 2, List.map api_Spot.enc r.2⟩)], [(0, [.d (.lst (List.map (encI .i64) r.1.L)), .d (.int .i64 r.1.at_)])]⟩)

theorem fleetmake_Stream_RightFence_ok {qx : fleetmake_Stream} {r} (hF : fleetmake_Stream_RightFence qx = some r) : Holds prog 5 [.v (.one (.box 0 0))] ⟨[], [(0, [.d (.lst (List.map (encI .i64) qx.L)), .d (.int .i64 qx.at_)])]⟩ (Is (fleetmake_Stream_RightFence_R qx r)) := by
  unfold fleetmake_Stream_RightFence at hF
  refine holds_of_awp hΓ (fn := f5) (c := cB f5) (A := 1) (nx := 1) (by kernel_rfl) (by kernel_rfl) (by kernel_rfl) (by kernel_rfl) (by kernel_rfl) (by kernel_rfl) (lowc_of (by kernel_rfl)) ?_
  show Awp prog 1 82 (cB f5) _ _
  refine awp_seq ?_
  refine awp_region ?_
  refine aR 1 ?_
  refine aE ?_
  refine awp_seq ?_
  refine awp_region ?_
  refine aR 8 ?_
  refine aE ?_
  refine awp_seq ?_
  refine awp_seq ?_
  refine awp_region ?_
  refine aR 1 ?_
  refine aE ?_
  refine awp_block ?_
  refine awp_to (st' := fleetmake_Stream_RightFence_x1_H  (qx, 0)) (oT [(2, 7001), (3, 5001)] []) ?_
  refine bE hF fun x h16 hF => ?_
  rcases x with vs13_1 | ⟨vs14_1, vx15_1⟩
  · refine awp_sub (awp_loop' (fleetmake_Stream_RightFence_x1_H ) fleetmake_Stream_RightFence_x1_k (fleetmake_Stream_RightFence_x1_S ) (by intro x; rcases x with x | x <;> exact fun h => nomatch h) h16 (fleetmake_Stream_RightFence_x1_ok )) ?_
    refine awp_seq ?_
    refine awp_to (st' := fleetmake_Stream_RightFence_x5_I vs13_1) (oT [] []) ?_
    refine bE hF fun vx16_1 h21 hF => ?_
    refine awp_sub (fleetmake_Stream_RightFence_x5_ok vs13_1 h21) ?_
    refine awp_seq ?_
    refine awp_region ?_
    refine aR 2 ?_
    refine aE ?_
    refine awp_ret ?_
    exact oF hF [(1, 3)] []
  · refine awp_sub (awp_loop' (fleetmake_Stream_RightFence_x1_H ) fleetmake_Stream_RightFence_x1_k (fleetmake_Stream_RightFence_x1_S ) (by intro x; rcases x with x | x <;> exact fun h => nomatch h) h16 (fleetmake_Stream_RightFence_x1_ok )) ?_
    exact oF hF [(1, 2)] []

/-! ### beaconfleet/base.Key -/
def base_Key_x1_k : Bool → AEx
  | _ => .normal

def base_Key_x1_S (qs : List UInt8) : Bool → St
  | vx => Mem.st ⟨[], []⟩ (tl [(0, .v (.one (.d (.str qs)))), (21, .v (.one (.d (.bool vx))))]) 0

def base_Key_x1_I (qs : List UInt8) : St := Mem.st ⟨[], []⟩ (tl [(0, .v (.one (.d (.str qs))))]) 0

theorem base_Key_x1_ok (qs : List UInt8) {r} (hF : base_Key_x1 qs = some r) : Awp prog 0 54 (cL (cL (cR (cB f48)))) (Out 0 base_Key_x1_k (base_Key_x1_S qs) r) (base_Key_x1_I qs) := by
  unfold base_Key_x1 at hF
  refine cE hF (fun h1 hF => ?_) fun h1 hF => ?_
  · refine awp_region ?_
    refine aR 1 ?_
    refine aB h1 ?_
    refine aR 15 ?_
    refine aE ?_
    exact oO hF [] [] rfl
  · refine cE hF (fun h2 hF => ?_) fun h2 hF => ?_
    · refine awp_region ?_
      refine aR 1 ?_
      refine aB h1 ?_
      refine aR 3 ?_
      refine aB h2 ?_
      refine aR 11 ?_
      refine aE ?_
      exact oO hF [] [] rfl
    · refine bE hF fun vc h3 hF => ?_
      refine cE hF (fun h4 hF => ?_) fun h4 hF => ?_
      · refine awp_region ?_
        refine aR 1 ?_
        refine aB h1 ?_
        refine aR 3 ?_
        refine aB h2 ?_
        refine aR 3 ?_
        refine aX (x_idxS h3) ?_
        refine aB h4 ?_
        refine aR 6 ?_
        refine aE ?_
        exact oO hF [] [] rfl
      · refine awp_region ?_
        refine aR 1 ?_
        refine aB h1 ?_
        refine aR 3 ?_
        refine aB h2 ?_
        refine aR 3 ?_
        refine aX (x_idxS h3) ?_
        refine aB h4 ?_
        refine aR 3 ?_
        refine aX (x_idxS h3) ?_
        refine aR 2 ?_
        refine aE ?_
        exact oO hF [] [] rfl

def base_Key_x3_k : Bool → AEx
  | _ => .normal

def base_Key_x3_S (qs : List UInt8) (vx2 : Int) (vc2 : UInt8) : Bool → St
  | vx4 => Mem.st ⟨[], []⟩ (tl [(0, .v (.one (.d (.str qs)))), (23, .v (.one (.d (.int .i64 (qs.length : Int))))), (24, .v (.one (.d (.int .i64 vx2)))), (52, .v (.one (.d (.bool vx4))))]) 0

def base_Key_x3_I (qs : List UInt8) (vx2 : Int) (vc2 : UInt8) : St := Mem.st ⟨[], []⟩ (tl [(0, .v (.one (.d (.str qs)))), (4, .v (.one (.d (.int .u8 (vc2.toNat : Int))))), (23, .v (.one (.d (.int .i64 (qs.length : Int))))), (24, .v (.one (.d (.int .i64 vx2))))]) 0

theorem base_Key_x3_ok (qs : List UInt8) (vx2 : Int) (vc2 : UInt8) {r} (hF : base_Key_x3 vc2 = some r) : Awp prog 0 54 (cL (cR (cR (cL (cL (cR (cR (cL (cL (cR (cL (cR (cR (cB f48)))))))))))))) (Out 0 base_Key_x3_k (base_Key_x3_S qs vx2 vc2) r) (base_Key_x3_I qs vx2 vc2) := by
  unfold base_Key_x3 at hF
  refine cE hF (fun h9 hF => ?_) fun h9 hF => ?_
  · refine cE hF (fun h10 hF => ?_) fun h10 hF => ?_
    · refine awp_region ?_
      refine aR 1 ?_
      refine aB h9 ?_
      refine aR 2 ?_
      refine aB h10 ?_
      refine aR 18 ?_
      refine aE ?_
      exact oO hF [] [] rfl
    · refine cE hF (fun h11 hF => ?_) fun h11 hF => ?_
      · refine cE hF (fun h12 hF => ?_) fun h12 hF => ?_
        · refine awp_region ?_
          refine aR 1 ?_
          refine aB h9 ?_
          refine aR 2 ?_
          refine aB h10 ?_
          refine aR 3 ?_
          refine aB h11 ?_
          refine aR 2 ?_
          refine aB h12 ?_
          refine aR 11 ?_
          refine aE ?_
          exact oO hF [] [] rfl
        · refine cE hF (fun h13 hF => ?_) fun h13 hF => ?_
          · refine awp_region ?_
            refine aR 1 ?_
            refine aB h9 ?_
            refine aR 2 ?_
            refine aB h10 ?_
            refine aR 3 ?_
            refine aB h11 ?_
            refine aR 2 ?_
            refine aB h12 ?_
            refine aR 4 ?_
            refine aB h13 ?_
            refine aR 6 ?_
            refine aE ?_
            exact oO hF [] [] rfl
          · refine awp_region ?_
            refine aR 1 ?_
            refine aB h9 ?_
            refine aR 2 ?_
            refine aB h10 ?_
            refine aR 3 ?_
            refine aB h11 ?_
            refine aR 2 ?_
            refine aB h12 ?_
            refine aR 4 ?_
            refine aB h13 ?_
            refine aR 6 ?_
            refine aE ?_
            exact oO hF [] [] rfl
      · refine cE hF (fun h14 hF => ?_) fun h14 hF => ?_
        · refine awp_region ?_
          refine aR 1 ?_
          refine aB h9 ?_
          refine aR 2 ?_
          refine aB h10 ?_
          refine aR 3 ?_
          refine aB h11 ?_
          refine aR 7 ?_
          refine aB h14 ?_
          refine aR 6 ?_
          refine aE ?_
          exact oO hF [] [] rfl
        · refine awp_region ?_
          refine aR 1 ?_
          refine aB h9 ?_
          refine aR 2 ?_
          refine aB h10 ?_
          refine aR 3 ?_
          refine aB h11 ?_
          refine aR 7 ?_
          refine aB h14 ?_
          refine aR 6 ?_
          refine aE ?_
          exact oO hF [] [] rfl
  · refine cE hF (fun h15 hF => ?_) fun h15 hF => ?_
    · refine cE hF (fun h16 hF => ?_) fun h16 hF => ?_
      · refine awp_region ?_
        refine aR 1 ?_
        refine aB h9 ?_
        refine aR 6 ?_
        refine aB h15 ?_
        refine aR 2 ?_
        refine aB h16 ?_
        refine aR 11 ?_
        refine aE ?_
        exact oO hF [] [] rfl
      · refine cE hF (fun h17 hF => ?_) fun h17 hF => ?_
        · refine awp_region ?_
          refine aR 1 ?_
          refine aB h9 ?_
          refine aR 6 ?_
          refine aB h15 ?_
          refine aR 2 ?_
          refine aB h16 ?_
          refine aR 4 ?_
          refine aB h17 ?_
          refine aR 6 ?_
          refine aE ?_
          exact oO hF [] [] rfl
        · refine awp_region ?_
          refine aR 1 ?_
          refine aB h9 ?_
          refine aR 6 ?_
          refine aB h15 ?_
          refine aR 2 ?_
          refine aB h16 ?_
          refine aR 4 ?_
          refine aB h17 ?_
          refine aR 6 ?_
          refine aE ?_
          exact oO hF [] [] rfl
    · refine cE hF (fun h18 hF => ?_) fun h18 hF => ?_
      · refine awp_region ?_
        refine aR 1 ?_
        refine aB h9 ?_
        refine aR 6 ?_
        refine aB h15 ?_
        refine aR 7 ?_
        refine aB h18 ?_
        refine aR 6 ?_
        refine aE ?_
        exact oO hF [] [] rfl
      · refine awp_region ?_
        refine aR 1 ?_
        refine aB h9 ?_
        refine aR 6 ?_
        refine aB h15 ?_
        refine aR 7 ?_
        refine aB h18 ?_
        refine aR 6 ?_
        refine aE ?_
        exact oO hF [] [] rfl

def base_Key_x2_k : Unit ⊕ Unit → AEx
  | .inl _ => .exit 0
  | .inr _ => .ret

def base_Key_x2_S (qs : List UInt8) : Unit ⊕ Unit → St
  | .inl _ => Mem.st ⟨[], []⟩ (tl []) 0
  | .inr _ => Mem.st ⟨[], []⟩ (tl [(2, .v (.one (.d (.bool false))))]) 0

def base_Key_x2_H (qs : List UInt8) : Int → St
  | vx2 => Mem.st ⟨[], []⟩ (tl [(0, .v (.one (.d (.str qs)))), (23, .v (.one (.d (.int .i64 (qs.length : Int))))), (24, .v (.one (.d (.int .i64 vx2))))]) 0

theorem base_Key_x2_ok (qs : List UInt8) (vx2 : Int) (r : (Int) ⊕ (Unit ⊕ Unit)) (hF : base_Key_x2 qs vx2 = some r) : Awp prog 0 54 (cL (cL (cR (cL (cR (cR (cB f48))))))) (Out 0 (kk base_Key_x2_k) (SS (base_Key_x2_H qs) (base_Key_x2_S qs)) r) (base_Key_x2_H qs vx2) := by
  unfold base_Key_x2 at hF
  refine awp_seq ?_
  refine awp_region ?_
  refine aR 1 ?_
  refine aE ?_
  refine awp_seq ?_
  refine cE hF (fun h7 hF => ?_) fun h7 hF => ?_
  · refine awp_true (by kernel_rfl) h7 ?_
    refine awp_skip ?_
    refine awp_seq ?_
    refine awp_block ?_
    refine awp_seq ?_
    refine awp_region ?_
    refine aR 2 ?_
    refine aE ?_
    refine awp_seq ?_
    refine bE hF fun vc2 h8 hF => ?_
    refine awp_region ?_
    refine aR 2 ?_
    refine aX (x_idxS h8) ?_
    refine aR 1 ?_
    refine aE ?_
    refine awp_seq ?_
    refine awp_to (st' := base_Key_x3_I qs vx2 vc2) (oT [] []) ?_
    refine bE hF fun vx4_1 h19 hF => ?_
    refine awp_sub (base_Key_x3_ok qs vx2 vc2 h19) ?_
    refine cE hF (fun h20 hF => ?_) fun h20 hF => ?_
    · refine awp_true (by kernel_rfl) h20 ?_
      refine awp_seq ?_
      refine awp_region ?_
      refine aR 1 ?_
      refine aE ?_
      refine awp_ret ?_
      exact oO hF [] [] rfl
    · refine awp_false (by kernel_rfl) h20 ?_
      refine awp_skip ?_
      refine awp_region ?_
      refine aR 2 ?_
      refine aE ?_
      exact oO hF [] [] rfl
  · refine awp_false (by kernel_rfl) h7 ?_
    refine awp_exit ?_
    exact oO hF [] [] rfl

def base_Key_R (qs : List UInt8) (r : Bool) : TV × Mem := (.v (.one (.d (.bool r))), ⟨[], []⟩)

theorem base_Key_ok {qs : List UInt8} {r} (hF : base_Key qs = some r) : Holds prog 48 [.v (.one (.d (.str qs)))] ⟨[], []⟩ (Is (base_Key_R qs r)) := by
  unfold base_Key at hF
  refine holds_of_awp hΓ (fn := f48) (c := cB f48) (A := 0) (nx := 0) (by kernel_rfl) (by kernel_rfl) (by kernel_rfl) (by kernel_rfl) (by kernel_rfl) (by kernel_rfl) (lowc_of (by kernel_rfl)) ?_
  show Awp prog 0 54 (cB f48) _ _
  refine awp_seq ?_
  refine awp_region ?_
  refine aR 1 ?_
  refine aE ?_
  refine awp_seq ?_
  refine awp_seq ?_
  refine awp_to (st' := base_Key_x1_I qs) (oT [] []) ?_
  refine bE hF fun vx1 h5 hF => ?_
  refine awp_sub (base_Key_x1_ok qs h5) ?_
  refine cE hF (fun h6 hF => ?_) fun h6 hF => ?_
  · refine awp_true (by kernel_rfl) h6 ?_
    refine awp_seq ?_
    refine awp_region ?_
    refine aR 1 ?_
    refine aE ?_
    refine awp_ret ?_
    exact oF hF [] []
  · refine awp_false (by kernel_rfl) h6 ?_
    refine awp_skip ?_
    refine awp_seq ?_
    refine awp_seq ?_
    refine awp_region ?_
    refine aR 3 ?_
    refine aE ?_
    refine awp_block ?_
    refine awp_to (st' := base_Key_x2_H qs 0) (oT [] []) ?_
    refine bE hF fun x h21 hF => ?_
    rcases x with _ | _
    · refine awp_sub (awp_loop' (base_Key_x2_H qs) base_Key_x2_k (base_Key_x2_S qs) (by intro x; rcases x with x | x <;> exact fun h => nomatch h) h21 (base_Key_x2_ok qs)) ?_
      refine awp_seq ?_
      refine awp_region ?_
      refine aR 1 ?_
      refine aE ?_
      refine awp_ret ?_
      exact oF hF [] []
    · refine awp_sub (awp_loop' (base_Key_x2_H qs) base_Key_x2_k (base_Key_x2_S qs) (by intro x; rcases x with x | x <;> exact fun h => nomatch h) h21 (base_Key_x2_ok qs)) ?_
      exact oF hF [] []

/-! ### beaconfleet/base.Out -/
def base_Out_x1_k : Bool → AEx
  | _ => .normal

def base_Out_x1_S (qn : Int) (qlow : Int) (qhigh : Int) : Bool → St
  | vx => Mem.st ⟨[], []⟩ (tl [(6, .v (.one (.d (.bool vx))))]) 0

def base_Out_x1_I (qn : Int) (qlow : Int) (qhigh : Int) : St := Mem.st ⟨[], []⟩ (tl [(0, .v (.one (.d (.int .i64 qn)))), (1, .v (.one (.d (.int .i64 qlow)))), (2, .v (.one (.d (.int .i64 qhigh))))]) 0

theorem base_Out_x1_ok (qn : Int) (qlow : Int) (qhigh : Int) {r} (hF : base_Out_x1 qn qlow qhigh = some r) : Awp prog 0 15 (cL (cR (cB f27))) (Out 0 base_Out_x1_k (base_Out_x1_S qn qlow qhigh) r) (base_Out_x1_I qn qlow qhigh) := by
  unfold base_Out_x1 at hF
  refine cE hF (fun h1 hF => ?_) fun h1 hF => ?_
  · refine awp_region ?_
    refine aR 2 ?_
    refine aB h1 ?_
    refine aR 6 ?_
    refine aE ?_
    exact oO hF [] [] rfl
  · refine awp_region ?_
    refine aR 2 ?_
    refine aB h1 ?_
    refine aR 6 ?_
    refine aE ?_
    exact oO hF [] [] rfl

def base_Out_R (qn : Int) (qlow : Int) (qhigh : Int) (r : Bool) : TV × Mem := (.v (.one (.d (.bool r))), ⟨[], []⟩)

theorem base_Out_ok {qn : Int} {qlow : Int} {qhigh : Int} {r} (hF : base_Out qn qlow qhigh = some r) : Holds prog 27 [.v (.one (.d (.int .i64 qn))), .v (.one (.d (.int .i64 qlow))), .v (.one (.d (.int .i64 qhigh)))] ⟨[], []⟩ (Is (base_Out_R qn qlow qhigh r)) := by
  unfold base_Out at hF
  refine holds_of_awp hΓ (fn := f27) (c := cB f27) (A := 0) (nx := 0) (by kernel_rfl) (by kernel_rfl) (by kernel_rfl) (by kernel_rfl) (by kernel_rfl) (by kernel_rfl) (lowc_of (by kernel_rfl)) ?_
  show Awp prog 0 15 (cB f27) _ _
  refine awp_seq ?_
  refine awp_region ?_
  refine aR 1 ?_
  refine aE ?_
  refine awp_seq ?_
  refine awp_to (st' := base_Out_x1_I qn qlow qhigh) (oT [] []) ?_
  refine bE hF fun vx1 h2 hF => ?_
  refine awp_sub (base_Out_x1_ok qn qlow qhigh h2) ?_
  refine awp_ret ?_
  exact oF hF [] []

/-! ### beaconfleet/place.isSpot -/
def place_isSpot_x1_k : Bool → AEx
  | _ => .normal

def place_isSpot_x1_S (qs : api_Spot) : Bool → St
  | vx => Mem.st ⟨[], []⟩ (tl [(2, .v (.one (.d (.bool vx))))]) 0

def place_isSpot_x1_I (qs : api_Spot) : St := Mem.st ⟨[], [(0, [.d (.int .i64 qs.X), .d (.int .i64 qs.Y)])]⟩ (tl [(1, .v (.one (.box 0 0)))]) 1

theorem place_isSpot_x1_ok (qs : api_Spot) {r} (hF : place_isSpot_x1 qs = some r) : Awp prog 0 13 (cL (cR (cB f34))) (Out 0 place_isSpot_x1_k (place_isSpot_x1_S qs) r) (place_isSpot_x1_I qs) := by
  unfold place_isSpot_x1 at hF
  refine bE hF fun vr h1 hF => ?_
  refine cE hF (fun h2 hF => ?_) fun h2 hF => ?_
  · refine bE hF fun vr1 h3 hF => ?_
    refine awp_region ?_
    refine aR 2 ?_
    refine aC (base_Out_ok h1) [] [] [] ?_
    refine aB h2 ?_
    refine aR 3 ?_
    refine aC (base_Out_ok h3) [] [] [] ?_
    refine aR 3 ?_
    refine aE ?_
    exact oO hF [] [] rfl
  · refine awp_region ?_
    refine aR 2 ?_
    refine aC (base_Out_ok h1) [] [] [] ?_
    refine aB h2 ?_
    refine aR 7 ?_
    refine aE ?_
    exact oO hF [] [] rfl

def place_isSpot_R (qs : api_Spot) (r : Bool) : TV × Mem := (.v (.one (.d (.bool r))), ⟨[], []⟩)

theorem place_isSpot_ok {qs : api_Spot} {r} (hF : place_isSpot qs = some r) : Holds prog 34 [.v (.agg [.d (.int .i64 qs.X), .d (.int .i64 qs.Y)])] ⟨[], []⟩ (Is (place_isSpot_R qs r)) := by
  unfold place_isSpot at hF
  refine holds_of_awp hΓ (fn := f34) (c := cB f34) (A := 0) (nx := 0) (by kernel_rfl) (by kernel_rfl) (by kernel_rfl) (by kernel_rfl) (by kernel_rfl) (by kernel_rfl) (lowc_of (by kernel_rfl)) ?_
  show Awp prog 0 13 (cB f34) _ _
  refine awp_seq ?_
  refine awp_region ?_
  refine aR 2 ?_
  refine aE ?_
  refine awp_seq ?_
  refine awp_to (st' := place_isSpot_x1_I qs) (oT [] []) ?_
  refine bE hF fun vx1 h4 hF => ?_
  refine awp_sub (place_isSpot_x1_ok qs h4) ?_
  refine awp_ret ?_
  exact oF hF [] []

/-! ### beaconfleet/place.side -/
def place_side_R (qa : api_Spot) (qb : api_Spot) (qs : api_Spot) (r : Unit) : TV × Mem := (.v (.one (.d (.int .i64 (IntKind.wrap .i64 ((IntKind.wrap .i64 ((IntKind.wrap .i64 (qb.X - qa.X)) * (IntKind.wrap .i64 (qs.Y - qa.Y)))) - (IntKind.wrap .i64 ((IntKind.wrap .i64 (qb.Y - qa.Y)) * (IntKind.wrap .i64 (qs.X - qa.X))))))))), ⟨[], []⟩)

theorem place_side_ok {qa : api_Spot} {qb : api_Spot} {qs : api_Spot} {r} (hF : place_side qa qb qs = some r) : Holds prog 69 [.v (.agg [.d (.int .i64 qa.X), .d (.int .i64 qa.Y)]), .v (.agg [.d (.int .i64 qb.X), .d (.int .i64 qb.Y)]), .v (.agg [.d (.int .i64 qs.X), .d (.int .i64 qs.Y)])] ⟨[], []⟩ (Is (place_side_R qa qb qs r)) := by
  unfold place_side at hF
  refine holds_of_awp hΓ (fn := f69) (c := cB f69) (A := 0) (nx := 0) (by kernel_rfl) (by kernel_rfl) (by kernel_rfl) (by kernel_rfl) (by kernel_rfl) (by kernel_rfl) (lowc_of (by kernel_rfl)) ?_
  show Awp prog 0 30 (cB f69) _ _
  refine awp_seq ?_
  refine awp_region ?_
  refine aR 4 ?_
  refine aE ?_
  refine awp_seq ?_
  refine awp_region ?_
  refine aR 24 ?_
  refine aE ?_
  refine awp_ret ?_
  exact oF hF [] []

/-! ### beaconfleet/place.on -/
def place_on_x1_k : Bool → AEx
  | _ => .normal

def place_on_x1_S (qa : api_Spot) (qb : api_Spot) (qs : api_Spot) : Bool → St
  | vx => Mem.st ⟨[], []⟩ (tl [(6, .v (.one (.d (.bool vx))))]) 0

def place_on_x1_I (qa : api_Spot) (qb : api_Spot) (qs : api_Spot) : St := Mem.st ⟨[], [(0, [.d (.int .i64 qa.X), .d (.int .i64 qa.Y)]), (1, [.d (.int .i64 qb.X), .d (.int .i64 qb.Y)]), (2, [.d (.int .i64 qs.X), .d (.int .i64 qs.Y)])]⟩ (tl [(3, .v (.one (.box 0 0))), (4, .v (.one (.box 1 0))), (5, .v (.one (.box 2 0)))]) 3

theorem place_on_x1_ok (qa : api_Spot) (qb : api_Spot) (qs : api_Spot) {r} (hF : place_on_x1 qa qb qs = some r) : Awp prog 0 52 (cL (cR (cB f67))) (Out 0 place_on_x1_k (place_on_x1_S qa qb qs) r) (place_on_x1_I qa qb qs) := by
  unfold place_on_x1 at hF
  refine bE hF fun _ h1 hF => ?_
  refine cE hF (fun h2 hF => ?_) fun h2 hF => ?_
  · refine cE hF (fun h3 hF => ?_) fun h3 hF => ?_
    · refine cE hF (fun h4 hF => ?_) fun h4 hF => ?_
      · refine cE hF (fun h5 hF => ?_) fun h5 hF => ?_
        · refine awp_region ?_
          refine aR 3 ?_
          refine aC (place_side_ok h1) [] [] [] ?_
          refine aB h2 ?_
          refine aR 8 ?_
          refine aB h3 ?_
          refine aR 9 ?_
          refine aB h4 ?_
          refine aR 9 ?_
          refine aB h5 ?_
          refine aR 12 ?_
          refine aE ?_
          exact oO hF [] [] rfl
        · refine awp_region ?_
          refine aR 3 ?_
          refine aC (place_side_ok h1) [] [] [] ?_
          refine aB h2 ?_
          refine aR 8 ?_
          refine aB h3 ?_
          refine aR 9 ?_
          refine aB h4 ?_
          refine aR 9 ?_
          refine aB h5 ?_
          refine aR 12 ?_
          refine aE ?_
          exact oO hF [] [] rfl
      · refine awp_region ?_
        refine aR 3 ?_
        refine aC (place_side_ok h1) [] [] [] ?_
        refine aB h2 ?_
        refine aR 8 ?_
        refine aB h3 ?_
        refine aR 9 ?_
        refine aB h4 ?_
        refine aR 22 ?_
        refine aE ?_
        exact oO hF [] [] rfl
    · refine awp_region ?_
      refine aR 3 ?_
      refine aC (place_side_ok h1) [] [] [] ?_
      refine aB h2 ?_
      refine aR 8 ?_
      refine aB h3 ?_
      refine aR 32 ?_
      refine aE ?_
      exact oO hF [] [] rfl
  · refine awp_region ?_
    refine aR 3 ?_
    refine aC (place_side_ok h1) [] [] [] ?_
    refine aB h2 ?_
    refine aR 41 ?_
    refine aE ?_
    exact oO hF [] [] rfl

def place_on_R (qa : api_Spot) (qb : api_Spot) (qs : api_Spot) (r : Bool) : TV × Mem := (.v (.one (.d (.bool r))), ⟨[], []⟩)

theorem place_on_ok {qa : api_Spot} {qb : api_Spot} {qs : api_Spot} {r} (hF : place_on qa qb qs = some r) : Holds prog 67 [.v (.agg [.d (.int .i64 qa.X), .d (.int .i64 qa.Y)]), .v (.agg [.d (.int .i64 qb.X), .d (.int .i64 qb.Y)]), .v (.agg [.d (.int .i64 qs.X), .d (.int .i64 qs.Y)])] ⟨[], []⟩ (Is (place_on_R qa qb qs r)) := by
  unfold place_on at hF
  refine holds_of_awp hΓ (fn := f67) (c := cB f67) (A := 0) (nx := 0) (by kernel_rfl) (by kernel_rfl) (by kernel_rfl) (by kernel_rfl) (by kernel_rfl) (by kernel_rfl) (lowc_of (by kernel_rfl)) ?_
  show Awp prog 0 52 (cB f67) _ _
  refine awp_seq ?_
  refine awp_region ?_
  refine aR 4 ?_
  refine aE ?_
  refine awp_seq ?_
  refine awp_to (st' := place_on_x1_I qa qb qs) (oT [(1, 1000), (2, 2000)] []) ?_
  refine bE hF fun vx1 h6 hF => ?_
  refine awp_sub (place_on_x1_ok qa qb qs h6) ?_
  refine awp_ret ?_
  exact oF hF [] []

/-! ### cmp.isNaN[int] -/
def cmp_isNaN_int_R (qx : Int) (r : Unit) : TV × Mem := (.v (.one (.d (.bool (!decide (qx = qx))))), ⟨[], []⟩)

theorem cmp_isNaN_int_ok {qx : Int} {r} (hF : cmp_isNaN_int qx = some r) : Holds prog 113 [.v (.one (.d (.int .i64 qx)))] ⟨[], []⟩ (Is (cmp_isNaN_int_R qx r)) := by
  unfold cmp_isNaN_int at hF
  refine holds_of_awp hΓ (fn := f113) (c := cB f113) (A := 0) (nx := 0) (by kernel_rfl) (by kernel_rfl) (by kernel_rfl) (by kernel_rfl) (by kernel_rfl) (by kernel_rfl) (lowc_of (by kernel_rfl)) ?_
  show Awp prog 0 6 (cB f113) _ _
  refine awp_seq ?_
  refine awp_region ?_
  refine aR 1 ?_
  refine aE ?_
  refine awp_seq ?_
  refine awp_region ?_
  refine aR 4 ?_
  refine aE ?_
  refine awp_ret ?_
  exact oF hF [] []

/-! ### cmp.Compare[int] -/
def cmp_Compare_int_R (qx : Int) (qy : Int) (r : Int) : TV × Mem := (.v (.one (.d (.int .i64 r))), ⟨[], []⟩)

theorem cmp_Compare_int_ok {qx : Int} {qy : Int} {r} (hF : cmp_Compare_int qx qy = some r) : Holds prog 85 [.v (.one (.d (.int .i64 qx))), .v (.one (.d (.int .i64 qy)))] ⟨[], []⟩ (Is (cmp_Compare_int_R qx qy r)) := by
  unfold cmp_Compare_int at hF
  refine holds_of_awp hΓ (fn := f85) (c := cB f85) (A := 0) (nx := 0) (by kernel_rfl) (by kernel_rfl) (by kernel_rfl) (by kernel_rfl) (by kernel_rfl) (by kernel_rfl) (lowc_of (by kernel_rfl)) ?_
  show Awp prog 0 20 (cB f85) _ _
  refine awp_seq ?_
  refine awp_region ?_
  refine aR 1 ?_
  refine aE ?_
  refine awp_seq ?_
  refine bE hF fun _ h1 hF => ?_
  refine awp_region ?_
  refine aR 1 ?_
  refine aC (cmp_isNaN_int_ok h1) [] [] [] ?_
  refine aR 1 ?_
  refine aE ?_
  refine awp_seq ?_
  refine bE hF fun _ h2 hF => ?_
  refine awp_region ?_
  refine aR 1 ?_
  refine aC (cmp_isNaN_int_ok h2) [] [] [] ?_
  refine aR 1 ?_
  refine aE ?_
  refine awp_seq ?_
  refine awp_seq ?_
  refine awp_region ?_
  refine aR 1 ?_
  refine aE ?_
  refine cE hF (fun h3 hF => ?_) fun h3 hF => ?_
  · refine awp_true (by kernel_rfl) h3 ?_
    refine awp_seq ?_
    refine awp_seq ?_
    refine awp_region ?_
    refine aR 1 ?_
    refine aE ?_
    refine cE hF (fun h4 hF => ?_) fun h4 hF => ?_
    · refine awp_true (by kernel_rfl) h4 ?_
      refine awp_seq ?_
      refine awp_region ?_
      refine aR 1 ?_
      refine aE ?_
      refine awp_ret ?_
      exact oF hF [] []
    · refine awp_false (by kernel_rfl) h4 ?_
      refine awp_skip ?_
      refine awp_seq ?_
      refine awp_region ?_
      refine aR 1 ?_
      refine aE ?_
      refine awp_ret ?_
      exact oF hF [] []
  · refine awp_false (by kernel_rfl) h3 ?_
    refine awp_skip ?_
    refine awp_seq ?_
    refine awp_seq ?_
    refine awp_region ?_
    refine aR 1 ?_
    refine aE ?_
    refine cE hF (fun h5 hF => ?_) fun h5 hF => ?_
    · refine awp_true (by kernel_rfl) h5 ?_
      refine awp_seq ?_
      refine awp_region ?_
      refine aR 1 ?_
      refine aE ?_
      refine awp_ret ?_
      exact oF hF [] []
    · refine awp_false (by kernel_rfl) h5 ?_
      refine awp_skip ?_
      refine awp_seq ?_
      refine awp_seq ?_
      refine awp_region ?_
      refine aR 3 ?_
      refine aE ?_
      refine cE hF (fun h6 hF => ?_) fun h6 hF => ?_
      · refine awp_true (by kernel_rfl) h6 ?_
        refine awp_seq ?_
        refine awp_region ?_
        refine aR 1 ?_
        refine aE ?_
        refine awp_ret ?_
        exact oF hF [] []
      · refine awp_false (by kernel_rfl) h6 ?_
        refine awp_skip ?_
        refine awp_seq ?_
        refine awp_seq ?_
        refine awp_region ?_
        refine aR 3 ?_
        refine aE ?_
        refine cE hF (fun h7 hF => ?_) fun h7 hF => ?_
        · refine awp_true (by kernel_rfl) h7 ?_
          refine awp_seq ?_
          refine awp_region ?_
          refine aR 1 ?_
          refine aE ?_
          refine awp_ret ?_
          exact oF hF [] []
        · refine awp_false (by kernel_rfl) h7 ?_
          refine awp_skip ?_
          refine awp_seq ?_
          refine awp_region ?_
          refine aR 1 ?_
          refine aE ?_
          refine awp_ret ?_
          exact oF hF [] []

/-! ### beaconfleet/place.meets -/
def place_meets_x1_k : Bool → AEx
  | _ => .normal

def place_meets_x1_S (qx : api_Spot) (qx1 : api_Spot) (qx2 : api_Spot) (qx3 : api_Spot) : Bool → St
  | vx => Mem.st ⟨[], [(0, [.d (.int .i64 qx.X), .d (.int .i64 qx.Y)]), (1, [.d (.int .i64 qx1.X), .d (.int .i64 qx1.Y)]), (2, [.d (.int .i64 qx2.X), .d (.int .i64 qx2.Y)]), (3, [.d (.int .i64 qx3.X), .d (.int .i64 qx3.Y)])]⟩ (tl [(4, .v (.one (.box 0 0))), (5, .v (.one (.box 1 0))), (6, .v (.one (.box 2 0))), (7, .v (.one (.box 3 0))), (34, .v (.one (.d (.bool vx))))]) 4

def place_meets_x1_I (qx : api_Spot) (qx1 : api_Spot) (qx2 : api_Spot) (qx3 : api_Spot) : St := Mem.st ⟨[], [(0, [.d (.int .i64 qx.X), .d (.int .i64 qx.Y)]), (1, [.d (.int .i64 qx1.X), .d (.int .i64 qx1.Y)]), (2, [.d (.int .i64 qx2.X), .d (.int .i64 qx2.Y)]), (3, [.d (.int .i64 qx3.X), .d (.int .i64 qx3.Y)])]⟩ (tl [(4, .v (.one (.box 0 0))), (5, .v (.one (.box 1 0))), (6, .v (.one (.box 2 0))), (7, .v (.one (.box 3 0)))]) 4

theorem place_meets_x1_ok (qx : api_Spot) (qx1 : api_Spot) (qx2 : api_Spot) (qx3 : api_Spot) {r} (hF : place_meets_x1 qx qx1 qx2 qx3 = some r) : Awp prog 0 65 (cL (cL (cR (cB f53)))) (Out 0 place_meets_x1_k (place_meets_x1_S qx qx1 qx2 qx3) r) (place_meets_x1_I qx qx1 qx2 qx3) := by
  unfold place_meets_x1 at hF
  refine bE hF fun vr h1 hF => ?_
  refine cE hF (fun h2 hF => ?_) fun h2 hF => ?_
  · refine awp_region ?_
    refine aR 3 ?_
    refine aCb (place_on_ok h1) [] [] [] h2 ?_
    refine aR 18 ?_
    refine aE ?_
    exact oO hF [] [] rfl
  · refine bE hF fun vr1 h3 hF => ?_
    refine cE hF (fun h4 hF => ?_) fun h4 hF => ?_
    · refine awp_region ?_
      refine aR 3 ?_
      refine aCb (place_on_ok h1) [] [] [] h2 ?_
      refine aR 4 ?_
      refine aCb (place_on_ok h3) [] [] [] h4 ?_
      refine aR 13 ?_
      refine aE ?_
      exact oO hF [] [] rfl
    · refine bE hF fun vr2 h5 hF => ?_
      refine cE hF (fun h6 hF => ?_) fun h6 hF => ?_
      · refine awp_region ?_
        refine aR 3 ?_
        refine aCb (place_on_ok h1) [] [] [] h2 ?_
        refine aR 4 ?_
        refine aCb (place_on_ok h3) [] [] [] h4 ?_
        refine aR 5 ?_
        refine aCb (place_on_ok h5) [] [] [] h6 ?_
        refine aR 7 ?_
        refine aE ?_
        exact oO hF [] [] rfl
      · refine bE hF fun vr3 h7 hF => ?_
        refine awp_region ?_
        refine aR 3 ?_
        refine aCb (place_on_ok h1) [] [] [] h2 ?_
        refine aR 4 ?_
        refine aCb (place_on_ok h3) [] [] [] h4 ?_
        refine aR 5 ?_
        refine aCb (place_on_ok h5) [] [] [] h6 ?_
        refine aR 5 ?_
        refine aC (place_on_ok h7) [] [] [] ?_
        refine aR 1 ?_
        refine aE ?_
        exact oO hF [] [] rfl

def place_meets_x2_k : Bool → AEx
  | _ => .normal

def place_meets_x2_S (vr4 : Int) (vr5 : Int) (vr6 : Int) (vr7 : Int) : Bool → St
  | vx2 => Mem.st ⟨[], []⟩ (tl [(8, .v (.one (.d (.bool vx2))))]) 0

def place_meets_x2_I (vr4 : Int) (vr5 : Int) (vr6 : Int) (vr7 : Int) : St := Mem.st ⟨[], []⟩ (tl [(9, .v (.one (.d (.int .i64 vr4)))), (10, .v (.one (.d (.int .i64 vr5)))), (11, .v (.one (.d (.int .i64 vr6)))), (12, .v (.one (.d (.int .i64 vr7))))]) 0

theorem place_meets_x2_ok (vr4 : Int) (vr5 : Int) (vr6 : Int) (vr7 : Int) {r} (hF : place_meets_x2 vr4 vr5 vr6 vr7 = some r) : Awp prog 0 65 (cL (cR (cR (cR (cB f53))))) (Out 0 place_meets_x2_k (place_meets_x2_S vr4 vr5 vr6 vr7) r) (place_meets_x2_I vr4 vr5 vr6 vr7) := by
  unfold place_meets_x2 at hF
  refine cE hF (fun h18 hF => ?_) fun h18 hF => ?_
  · refine awp_region ?_
    refine aR 3 ?_
    refine aB h18 ?_
    refine aR 7 ?_
    refine aE ?_
    exact oO hF [] [] rfl
  · refine awp_region ?_
    refine aR 3 ?_
    refine aB h18 ?_
    refine aR 7 ?_
    refine aE ?_
    exact oO hF [] [] rfl

def place_meets_R (qx : api_Spot) (qx1 : api_Spot) (qx2 : api_Spot) (qx3 : api_Spot) (r : Bool) : TV × Mem := (.v (.one (.d (.bool r))), ⟨[], []⟩)

theorem place_meets_ok {qx : api_Spot} {qx1 : api_Spot} {qx2 : api_Spot} {qx3 : api_Spot} {r} (hF : place_meets qx qx1 qx2 qx3 = some r) : Holds prog 53 [.v (.agg [.d (.int .i64 qx.X), .d (.int .i64 qx.Y)]), .v (.agg [.d (.int .i64 qx1.X), .d (.int .i64 qx1.Y)]), .v (.agg [.d (.int .i64 qx2.X), .d (.int .i64 qx2.Y)]), .v (.agg [.d (.int .i64 qx3.X), .d (.int .i64 qx3.Y)])] ⟨[], []⟩ (Is (place_meets_R qx qx1 qx2 qx3 r)) := by
  unfold place_meets at hF
  refine holds_of_awp hΓ (fn := f53) (c := cB f53) (A := 0) (nx := 0) (by kernel_rfl) (by kernel_rfl) (by kernel_rfl) (by kernel_rfl) (by kernel_rfl) (by kernel_rfl) (lowc_of (by kernel_rfl)) ?_
  show Awp prog 0 65 (cB f53) _ _
  refine awp_seq ?_
  refine awp_region ?_
  refine aR 5 ?_
  refine aE ?_
  refine awp_seq ?_
  refine awp_seq ?_
  refine awp_to (st' := place_meets_x1_I qx qx1 qx2 qx3) (oT [(1, 1000), (2, 2000), (3, 3000)] []) ?_
  refine bE hF fun vx1 h8 hF => ?_
  refine awp_sub (place_meets_x1_ok qx qx1 qx2 qx3 h8) ?_
  refine cE hF (fun h9 hF => ?_) fun h9 hF => ?_
  · refine awp_true (by kernel_rfl) h9 ?_
    refine awp_seq ?_
    refine awp_region ?_
    refine aR 1 ?_
    refine aE ?_
    refine awp_ret ?_
    exact oF hF [] []
  · refine awp_false (by kernel_rfl) h9 ?_
    refine awp_skip ?_
    refine awp_seq ?_
    refine bE hF fun _ h10 hF => ?_
    refine bE hF fun vr4 h11 hF => ?_
    refine bE hF fun _ h12 hF => ?_
    refine bE hF fun vr5 h13 hF => ?_
    refine bE hF fun _ h14 hF => ?_
    refine bE hF fun vr6 h15 hF => ?_
    refine bE hF fun _ h16 hF => ?_
    refine bE hF fun vr7 h17 hF => ?_
    refine aD ?_
    refine dR 3 ?_
    refine dC (place_side_ok h10) [] [] [] ?_
    refine dC (cmp_Compare_int_ok h11) [] [] [] ?_
    refine dR 3 ?_
    refine dC (place_side_ok h12) [] [] [] ?_
    refine dC (cmp_Compare_int_ok h13) [] [] [] ?_
    refine dR 3 ?_
    refine dC (place_side_ok h14) [] [] [] ?_
    refine dC (cmp_Compare_int_ok h15) [] [] [] ?_
    refine dR 3 ?_
    refine dC (place_side_ok h16) [] [] [] ?_
    refine dC (cmp_Compare_int_ok h17) [] [] [] ?_
    refine dR 4 ?_
    refine dE ?_
    refine awp_seq ?_
    refine awp_to (st' := place_meets_x2_I vr4 vr5 vr6 vr7) (oT [] []) ?_
    refine bE hF fun vx2_1 h19 hF => ?_
    refine awp_sub (place_meets_x2_ok vr4 vr5 vr6 vr7 h19) ?_
    refine awp_ret ?_
    exact oF hF [] []

/-! ### beaconfleet/place.crossed -/
def place_crossed_x3_k : Bool → AEx
  | _ => .normal

def place_crossed_x3_S (qx : List api_Spot) (vx : Int) (vy6 : api_Spot) (vy7 : api_Spot) (vx8 : Int) (vy10 : api_Spot) (vy11 : api_Spot) : Bool → St
  | vx12 => Mem.st ⟨[], [(0, [.d (.int .i64 vy6.X), .d (.int .i64 vy6.Y)]), (1, [.d (.int .i64 vy7.X), .d (.int .i64 vy7.Y)]), (2, [.d (.int .i64 vy10.X), .d (.int .i64 vy10.Y)]), (3, [.d (.int .i64 vy11.X), .d (.int .i64 vy11.Y)])]⟩ (tl [(0, .v (.one (.d (.lst (List.map api_Spot.enc qx))))), (3, .v (.one (.d (.int .i64 (qx.length : Int))))), (4, .v (.one (.d (.int .i64 vx)))), (5, .v (.one (.box 0 0))), (6, .v (.one (.box 1 0))), (7, .v (.one (.d (.int .i64 vx8)))), (8, .v (.one (.box 2 0))), (9, .v (.one (.box 3 0))), (10, .v (.one (.d (.bool (decide (vx8 = (IntKind.wrap .i64 (vx + 1)))))))), (11, .v (.one (.d (.bool (decide (((IntKind.wrap .i64 (vx8 + 1)).tmod (qx.length : Int)) = vx)))))), (14, .v (.one (.d (.lst (List.map api_Spot.enc qx))))), (15, .v (.one (.d (.int .i64 (qx.length : Int))))), (16, .v (.one (.d (.int .i64 vx)))), (56, .v (.one (.d (.bool vx12))))]) 4

def place_crossed_x3_I (qx : List api_Spot) (vx : Int) (vy6 : api_Spot) (vy7 : api_Spot) (vx8 : Int) (vy10 : api_Spot) (vy11 : api_Spot) : St := Mem.st ⟨[], [(0, [.d (.int .i64 vy6.X), .d (.int .i64 vy6.Y)]), (1, [.d (.int .i64 vy7.X), .d (.int .i64 vy7.Y)]), (2, [.d (.int .i64 vy10.X), .d (.int .i64 vy10.Y)]), (3, [.d (.int .i64 vy11.X), .d (.int .i64 vy11.Y)])]⟩ (tl [(0, .v (.one (.d (.lst (List.map api_Spot.enc qx))))), (3, .v (.one (.d (.int .i64 (qx.length : Int))))), (4, .v (.one (.d (.int .i64 vx)))), (5, .v (.one (.box 0 0))), (6, .v (.one (.box 1 0))), (7, .v (.one (.d (.int .i64 vx8)))), (8, .v (.one (.box 2 0))), (9, .v (.one (.box 3 0))), (10, .v (.one (.d (.bool (decide (vx8 = (IntKind.wrap .i64 (vx + 1)))))))), (11, .v (.one (.d (.bool (decide (((IntKind.wrap .i64 (vx8 + 1)).tmod (qx.length : Int)) = vx)))))), (14, .v (.one (.d (.lst (List.map api_Spot.enc qx))))), (15, .v (.one (.d (.int .i64 (qx.length : Int))))), (16, .v (.one (.d (.int .i64 vx))))]) 4

theorem place_crossed_x3_ok (qx : List api_Spot) (vx : Int) (vy6 : api_Spot) (vy7 : api_Spot) (vx8 : Int) (vy10 : api_Spot) (vy11 : api_Spot) {r} (hF : place_crossed_x3 qx vx vy6 vy7 vx8 vy10 vy11 = some r) : Awp prog 0 99 (cL (cL (cR (cR (cL (cL (cR (cL (cL (cR (cR (cR (cL (cL (cR (cR (cL (cL (cR (cL (cR (cR (cB f49))))))))))))))))))))))) (Out 0 place_crossed_x3_k (place_crossed_x3_S qx vx vy6 vy7 vx8 vy10 vy11) r) (place_crossed_x3_I qx vx vy6 vy7 vx8 vy10 vy11) := by
  unfold place_crossed_x3 at hF
  refine cE hF (fun h9 hF => ?_) fun h9 hF => ?_
  · refine cE hF (fun h10 hF => ?_) fun h10 hF => ?_
    · refine bE hF fun vr8_3 h11 hF => ?_
      refine awp_region ?_
      refine aR 1 ?_
      refine aB h9 ?_
      refine aR 2 ?_
      refine aB h10 ?_
      refine aR 6 ?_
      refine aC (place_meets_ok h11) [] [] [] ?_
      refine aR 2 ?_
      refine aE ?_
      exact oO hF [] [] rfl
    · refine awp_region ?_
      refine aR 1 ?_
      refine aB h9 ?_
      refine aR 2 ?_
      refine aB h10 ?_
      refine aR 9 ?_
      refine aE ?_
      exact oO hF [] [] rfl
  · refine awp_region ?_
    refine aR 1 ?_
    refine aB h9 ?_
    refine aR 12 ?_
    refine aE ?_
    exact oO hF [] [] rfl

def place_crossed_x4_k : Bool → AEx
  | _ => .normal

def place_crossed_x4_S (qx : List api_Spot) (vx : Int) (vy6 : api_Spot) (vy7 : api_Spot) (vx8 : Int) (vy10 : api_Spot) (vy11 : api_Spot) : Bool → St
  | vx13 => Mem.st ⟨[], [(0, [.d (.int .i64 vy6.X), .d (.int .i64 vy6.Y)]), (1, [.d (.int .i64 vy7.X), .d (.int .i64 vy7.Y)]), (2, [.d (.int .i64 vy10.X), .d (.int .i64 vy10.Y)]), (3, [.d (.int .i64 vy11.X), .d (.int .i64 vy11.Y)])]⟩ (tl [(0, .v (.one (.d (.lst (List.map api_Spot.enc qx))))), (3, .v (.one (.d (.int .i64 (qx.length : Int))))), (4, .v (.one (.d (.int .i64 vx)))), (5, .v (.one (.box 0 0))), (6, .v (.one (.box 1 0))), (7, .v (.one (.d (.int .i64 vx8)))), (8, .v (.one (.box 2 0))), (9, .v (.one (.box 3 0))), (11, .v (.one (.d (.bool (decide (((IntKind.wrap .i64 (vx8 + 1)).tmod (qx.length : Int)) = vx)))))), (14, .v (.one (.d (.lst (List.map api_Spot.enc qx))))), (15, .v (.one (.d (.int .i64 (qx.length : Int))))), (16, .v (.one (.d (.int .i64 vx)))), (70, .v (.one (.d (.bool vx13))))]) 4

def place_crossed_x4_I (qx : List api_Spot) (vx : Int) (vy6 : api_Spot) (vy7 : api_Spot) (vx8 : Int) (vy10 : api_Spot) (vy11 : api_Spot) : St := Mem.st ⟨[], [(0, [.d (.int .i64 vy6.X), .d (.int .i64 vy6.Y)]), (1, [.d (.int .i64 vy7.X), .d (.int .i64 vy7.Y)]), (2, [.d (.int .i64 vy10.X), .d (.int .i64 vy10.Y)]), (3, [.d (.int .i64 vy11.X), .d (.int .i64 vy11.Y)])]⟩ (tl [(0, .v (.one (.d (.lst (List.map api_Spot.enc qx))))), (3, .v (.one (.d (.int .i64 (qx.length : Int))))), (4, .v (.one (.d (.int .i64 vx)))), (5, .v (.one (.box 0 0))), (6, .v (.one (.box 1 0))), (7, .v (.one (.d (.int .i64 vx8)))), (8, .v (.one (.box 2 0))), (9, .v (.one (.box 3 0))), (10, .v (.one (.d (.bool (decide (vx8 = (IntKind.wrap .i64 (vx + 1)))))))), (11, .v (.one (.d (.bool (decide (((IntKind.wrap .i64 (vx8 + 1)).tmod (qx.length : Int)) = vx)))))), (14, .v (.one (.d (.lst (List.map api_Spot.enc qx))))), (15, .v (.one (.d (.int .i64 (qx.length : Int))))), (16, .v (.one (.d (.int .i64 vx))))]) 4

theorem place_crossed_x4_ok (qx : List api_Spot) (vx : Int) (vy6 : api_Spot) (vy7 : api_Spot) (vx8 : Int) (vy10 : api_Spot) (vy11 : api_Spot) {r} (hF : place_crossed_x4 vx vy6 vy7 vx8 vy10 vy11 = some r) : Awp prog 0 99 (cL (cR (cR (cL (cR (cR (cL (cL (cR (cL (cL (cR (cR (cR (cL (cL (cR (cR (cL (cL (cR (cL (cR (cR (cB f49))))))))))))))))))))))))) (Out 0 place_crossed_x4_k (place_crossed_x4_S qx vx vy6 vy7 vx8 vy10 vy11) r) (place_crossed_x4_I qx vx vy6 vy7 vx8 vy10 vy11) := by
  unfold place_crossed_x4 at hF
  refine cE hF (fun h14 hF => ?_) fun h14 hF => ?_
  · refine bE hF fun vr13 h15 hF => ?_
    refine cE hF (fun h16 hF => ?_) fun h16 hF => ?_
    · refine awp_region ?_
      refine aB h14 ?_
      refine aR 4 ?_
      refine aCb (place_on_ok h15) [] [] [] h16 ?_
      refine aR 8 ?_
      refine aE ?_
      exact oO hF [] [] rfl
    · refine bE hF fun vr14 h17 hF => ?_
      refine awp_region ?_
      refine aB h14 ?_
      refine aR 4 ?_
      refine aCb (place_on_ok h15) [] [] [] h16 ?_
      refine aR 4 ?_
      refine aC (place_on_ok h17) [] [] [] ?_
      refine aR 3 ?_
      refine aE ?_
      exact oO hF [] [] rfl
  · refine awp_region ?_
    refine aB h14 ?_
    refine aR 13 ?_
    refine aE ?_
    exact oO hF [] [] rfl

def place_crossed_x5_k : Bool → AEx
  | _ => .normal

def place_crossed_x5_S (qx : List api_Spot) (vx : Int) (vy6 : api_Spot) (vy7 : api_Spot) (vx8 : Int) (vy10 : api_Spot) (vy11 : api_Spot) : Bool → St
  | vx14 => Mem.st ⟨[], [(0, [.d (.int .i64 vy6.X), .d (.int .i64 vy6.Y)]), (1, [.d (.int .i64 vy7.X), .d (.int .i64 vy7.Y)])]⟩ (tl [(0, .v (.one (.d (.lst (List.map api_Spot.enc qx))))), (3, .v (.one (.d (.int .i64 (qx.length : Int))))), (4, .v (.one (.d (.int .i64 vx)))), (5, .v (.one (.box 0 0))), (6, .v (.one (.box 1 0))), (7, .v (.one (.d (.int .i64 vx8)))), (14, .v (.one (.d (.lst (List.map api_Spot.enc qx))))), (15, .v (.one (.d (.int .i64 (qx.length : Int))))), (16, .v (.one (.d (.int .i64 vx)))), (84, .v (.one (.d (.bool vx14))))]) 2

def place_crossed_x5_I (qx : List api_Spot) (vx : Int) (vy6 : api_Spot) (vy7 : api_Spot) (vx8 : Int) (vy10 : api_Spot) (vy11 : api_Spot) : St := Mem.st ⟨[], [(0, [.d (.int .i64 vy6.X), .d (.int .i64 vy6.Y)]), (1, [.d (.int .i64 vy7.X), .d (.int .i64 vy7.Y)]), (2, [.d (.int .i64 vy10.X), .d (.int .i64 vy10.Y)]), (3, [.d (.int .i64 vy11.X), .d (.int .i64 vy11.Y)])]⟩ (tl [(0, .v (.one (.d (.lst (List.map api_Spot.enc qx))))), (3, .v (.one (.d (.int .i64 (qx.length : Int))))), (4, .v (.one (.d (.int .i64 vx)))), (5, .v (.one (.box 0 0))), (6, .v (.one (.box 1 0))), (7, .v (.one (.d (.int .i64 vx8)))), (8, .v (.one (.box 2 0))), (9, .v (.one (.box 3 0))), (11, .v (.one (.d (.bool (decide (((IntKind.wrap .i64 (vx8 + 1)).tmod (qx.length : Int)) = vx)))))), (14, .v (.one (.d (.lst (List.map api_Spot.enc qx))))), (15, .v (.one (.d (.int .i64 (qx.length : Int))))), (16, .v (.one (.d (.int .i64 vx))))]) 4

theorem place_crossed_x5_ok (qx : List api_Spot) (vx : Int) (vy6 : api_Spot) (vy7 : api_Spot) (vx8 : Int) (vy10 : api_Spot) (vy11 : api_Spot) {r} (hF : place_crossed_x5 qx vx vy6 vy7 vx8 vy10 vy11 = some r) : Awp prog 0 99 (cL (cR (cR (cR (cR (cL (cR (cR (cL (cL (cR (cL (cL (cR (cR (cR (cL (cL (cR (cR (cL (cL (cR (cL (cR (cR (cB f49))))))))))))))))))))))))))) (Out 0 place_crossed_x5_k (place_crossed_x5_S qx vx vy6 vy7 vx8 vy10 vy11) r) (place_crossed_x5_I qx vx vy6 vy7 vx8 vy10 vy11) := by
  unfold place_crossed_x5 at hF
  refine cE hF (fun h20 hF => ?_) fun h20 hF => ?_
  · refine bE hF fun vr15 h21 hF => ?_
    refine cE hF (fun h22 hF => ?_) fun h22 hF => ?_
    · refine awp_region ?_
      refine aB h20 ?_
      refine aR 4 ?_
      refine aCb (place_on_ok h21) [] [] [] h22 ?_
      refine aR 8 ?_
      refine aE ?_
      exact oO hF [] [] rfl
    · refine bE hF fun vr16 h23 hF => ?_
      refine awp_region ?_
      refine aB h20 ?_
      refine aR 4 ?_
      refine aCb (place_on_ok h21) [] [] [] h22 ?_
      refine aR 4 ?_
      refine aC (place_on_ok h23) [] [] [] ?_
      refine aR 3 ?_
      refine aE ?_
      exact oO hF [] [] rfl
  · refine awp_region ?_
    refine aB h20 ?_
    refine aR 13 ?_
    refine aE ?_
    exact oO hF [] [] rfl

def place_crossed_x2_k : Unit ⊕ Unit → AEx
  | .inl _ => .exit 2
  | .inr _ => .ret

def place_crossed_x2_S (qx : List api_Spot) (vx : Int) (vy6 : api_Spot) (vy7 : api_Spot) : Unit ⊕ Unit → St
  | .inl _ => Mem.st ⟨[], []⟩ (tl [(0, .v (.one (.d (.lst (List.map api_Spot.enc qx))))), (3, .v (.one (.d (.int .i64 (qx.length : Int))))), (14, .v (.one (.d (.lst (List.map api_Spot.enc qx))))), (15, .v (.one (.d (.int .i64 (qx.length : Int))))), (16, .v (.one (.d (.int .i64 vx))))]) 0
  | .inr _ => Mem.st ⟨[], []⟩ (tl [(2, .v (.one (.d (.bool true))))]) 0

def place_crossed_x2_H (qx : List api_Spot) (vx : Int) (vy6 : api_Spot) (vy7 : api_Spot) : Int → St
  | vx8 => Mem.st ⟨[], [(0, [.d (.int .i64 vy6.X), .d (.int .i64 vy6.Y)]), (1, [.d (.int .i64 vy7.X), .d (.int .i64 vy7.Y)])]⟩ (tl [(0, .v (.one (.d (.lst (List.map api_Spot.enc qx))))), (3, .v (.one (.d (.int .i64 (qx.length : Int))))), (4, .v (.one (.d (.int .i64 vx)))), (5, .v (.one (.box 0 0))), (6, .v (.one (.box 1 0))), (7, .v (.one (.d (.int .i64 vx8)))), (14, .v (.one (.d (.lst (List.map api_Spot.enc qx))))), (15, .v (.one (.d (.int .i64 (qx.length : Int))))), (16, .v (.one (.d (.int .i64 vx))))]) 2

theorem place_crossed_x2_ok (qx : List api_Spot) (vx : Int) (vy6 : api_Spot) (vy7 : api_Spot) (vx8 : Int) (r : (Int) ⊕ (Unit ⊕ Unit)) (hF : place_crossed_x2 qx vx vy6 vy7 vx8 = some r) : Awp prog 0 99 (cL (cL (cR (cR (cR (cL (cL (cR (cR (cL (cL (cR (cL (cR (cR (cB f49)))))))))))))))) (Out 0 (kk place_crossed_x2_k) (SS (place_crossed_x2_H qx vx vy6 vy7) (place_crossed_x2_S qx vx vy6 vy7)) r) (place_crossed_x2_H qx vx vy6 vy7 vx8) := by
  unfold place_crossed_x2 at hF
  refine awp_seq ?_
  refine awp_seq ?_
  refine awp_region ?_
  refine aR 3 ?_
  refine aE ?_
  refine cE hF (fun h5 hF => ?_) fun h5 hF => ?_
  · refine awp_true (by kernel_rfl) h5 ?_
    refine awp_skip ?_
    refine awp_seq ?_
    refine awp_block ?_
    refine awp_seq ?_
    refine bE hF fun vy10 h6 hF => ?_
    refine gE hF fun h7 hF => ?_
    refine bE hF fun vy11 h8 hF => ?_
    refine aD ?_
    refine dR 2 ?_
    refine dX (x_idx api_Spot.enc h6) ?_
    refine dR 5 ?_
    refine dX (x_rem h7) ?_
    refine dX (x_idx api_Spot.enc h8) ?_
    refine dR 5 ?_
    refine dE ?_
    refine awp_seq ?_
    refine aD ?_
    refine dR 7 ?_
    refine dX (x_rem h7) ?_
    refine dR 4 ?_
    refine dE ?_
    refine awp_block ?_
    refine awp_seq ?_
    refine awp_to (st' := place_crossed_x3_I qx vx vy6 vy7 vx8 vy10 vy11) (oT [(2, 14002), (3, 15002)] []) ?_
    refine bE hF fun vx12_1 h12 hF => ?_
    refine awp_sub (place_crossed_x3_ok qx vx vy6 vy7 vx8 vy10 vy11 h12) ?_
    refine cE hF (fun h13 hF => ?_) fun h13 hF => ?_
    · refine awp_true (by kernel_rfl) h13 ?_
      refine awp_seq ?_
      refine awp_region ?_
      refine aR 1 ?_
      refine aE ?_
      refine awp_ret ?_
      exact oO hF [] [] rfl
    · refine awp_false (by kernel_rfl) h13 ?_
      refine awp_seq ?_
      refine awp_to (st' := place_crossed_x4_I qx vx vy6 vy7 vx8 vy10 vy11) (oT [] []) ?_
      refine bE hF fun vx13_1 h18 hF => ?_
      refine awp_sub (place_crossed_x4_ok qx vx vy6 vy7 vx8 vy10 vy11 h18) ?_
      refine cE hF (fun h19 hF => ?_) fun h19 hF => ?_
      · refine awp_true (by kernel_rfl) h19 ?_
        refine awp_seq ?_
        refine awp_region ?_
        refine aR 1 ?_
        refine aE ?_
        refine awp_ret ?_
        exact oO hF [] [] rfl
      · refine awp_false (by kernel_rfl) h19 ?_
        refine awp_seq ?_
        refine awp_to (st' := place_crossed_x5_I qx vx vy6 vy7 vx8 vy10 vy11) (oT [] []) ?_
        refine bE hF fun vx14_1 h24 hF => ?_
        refine awp_sub (place_crossed_x5_ok qx vx vy6 vy7 vx8 vy10 vy11 h24) ?_
        refine cE hF (fun h25 hF => ?_) fun h25 hF => ?_
        · refine awp_true (by kernel_rfl) h25 ?_
          refine awp_seq ?_
          refine awp_region ?_
          refine aR 1 ?_
          refine aE ?_
          refine awp_ret ?_
          exact oO hF [] [] rfl
        · refine awp_false (by kernel_rfl) h25 ?_
          refine awp_skip ?_
          refine awp_region ?_
          refine aR 3 ?_
          refine aE ?_
          exact oO hF [] [] rfl
  · refine awp_false (by kernel_rfl) h5 ?_
    refine awp_exit ?_
    exact oO hF [] [] rfl

def place_crossed_x1_k : Unit ⊕ Unit → AEx
  | .inl _ => .exit 0
  | .inr _ => .ret

def place_crossed_x1_S (qx : List api_Spot) : Unit ⊕ Unit → St
  | .inl _ => Mem.st ⟨[], []⟩ (tl []) 0
  | .inr _ => Mem.st ⟨[], []⟩ (tl [(2, .v (.one (.d (.bool true))))]) 0

def place_crossed_x1_H (qx : List api_Spot) : Int → St
  | vx => Mem.st ⟨[], []⟩ (tl [(0, .v (.one (.d (.lst (List.map api_Spot.enc qx))))), (3, .v (.one (.d (.int .i64 (qx.length : Int))))), (14, .v (.one (.d (.lst (List.map api_Spot.enc qx))))), (15, .v (.one (.d (.int .i64 (qx.length : Int))))), (16, .v (.one (.d (.int .i64 vx))))]) 0

theorem place_crossed_x1_ok (qx : List api_Spot) (vx : Int) (r : (Int) ⊕ (Unit ⊕ Unit)) (hF : place_crossed_x1 qx vx = some r) : Awp prog 0 99 (cL (cL (cR (cL (cR (cR (cB f49))))))) (Out 0 (kk place_crossed_x1_k) (SS (place_crossed_x1_H qx) (place_crossed_x1_S qx)) r) (place_crossed_x1_H qx vx) := by
  unfold place_crossed_x1 at hF
  refine awp_seq ?_
  refine awp_region ?_
  refine aR 1 ?_
  refine aE ?_
  refine awp_seq ?_
  refine cE hF (fun h1 hF => ?_) fun h1 hF => ?_
  · refine awp_true (by kernel_rfl) h1 ?_
    refine awp_skip ?_
    refine awp_seq ?_
    refine awp_block ?_
    refine awp_seq ?_
    refine bE hF fun vy6 h2 hF => ?_
    refine awp_region ?_
    refine aR 1 ?_
    refine aX (x_idx api_Spot.enc h2) ?_
    refine aR 4 ?_
    refine aE ?_
    refine awp_seq ?_
    refine gE hF fun h3 hF => ?_
    refine bE hF fun vy7 h4 hF => ?_
    refine awp_region ?_
    refine aR 4 ?_
    refine aX (x_rem h3) ?_
    refine aX (x_idx api_Spot.enc h4) ?_
    refine aR 3 ?_
    refine aE ?_
    refine awp_seq ?_
    refine awp_region ?_
    refine aR 3 ?_
    refine aE ?_
    refine awp_block ?_
    refine awp_to (st' := place_crossed_x2_H qx vx vy6 vy7 (IntKind.wrap .i64 (vx + 1))) (oT [(0, 4000), (1, 14000)] []) ?_
    refine bE hF fun x h26 hF => ?_
    rcases x with _ | _
    · refine awp_sub (awp_loop' (place_crossed_x2_H qx vx vy6 vy7) place_crossed_x2_k (place_crossed_x2_S qx vx vy6 vy7) (by intro x; rcases x with x | x <;> exact fun h => nomatch h) h26 (place_crossed_x2_ok qx vx vy6 vy7)) ?_
      refine awp_region ?_
      refine aR 2 ?_
      refine aE ?_
      exact oO hF [] [] rfl
    · refine awp_sub (awp_loop' (place_crossed_x2_H qx vx vy6 vy7) place_crossed_x2_k (place_crossed_x2_S qx vx vy6 vy7) (by intro x; rcases x with x | x <;> exact fun h => nomatch h) h26 (place_crossed_x2_ok qx vx vy6 vy7)) ?_
      exact oO hF [] [] rfl
  · refine awp_false (by kernel_rfl) h1 ?_
    refine awp_exit ?_
    exact oO hF [] [] rfl

def place_crossed_R (qx : List api_Spot) (r : Bool) : TV × Mem := (.v (.one (.d (.bool r))), ⟨[], []⟩)

theorem place_crossed_ok {qx : List api_Spot} {r} (hF : place_crossed qx = some r) : Holds prog 49 [.v (.one (.d (.lst (List.map api_Spot.enc qx))))] ⟨[], []⟩ (Is (place_crossed_R qx r)) := by
  unfold place_crossed at hF
  refine holds_of_awp hΓ (fn := f49) (c := cB f49) (A := 0) (nx := 0) (by kernel_rfl) (by kernel_rfl) (by kernel_rfl) (by kernel_rfl) (by kernel_rfl) (by kernel_rfl) (lowc_of (by kernel_rfl)) ?_
  show Awp prog 0 99 (cB f49) _ _
  refine awp_seq ?_
  refine awp_region ?_
  refine aR 1 ?_
  refine aE ?_
  refine awp_seq ?_
  refine awp_region ?_
  refine aR 1 ?_
  refine aL api_Spot.enc qx ?_
  refine aR 1 ?_
  refine aE ?_
  refine awp_seq ?_
  refine awp_seq ?_
  refine awp_region ?_
  refine aR 1 ?_
  refine aL api_Spot.enc qx ?_
  refine aR 1 ?_
  refine aE ?_
  refine awp_block ?_
  refine awp_to (st' := place_crossed_x1_H qx 0) (oT [] []) ?_
  refine bE hF fun x h27 hF => ?_
  rcases x with _ | _
  · refine awp_sub (awp_loop' (place_crossed_x1_H qx) place_crossed_x1_k (place_crossed_x1_S qx) (by intro x; rcases x with x | x <;> exact fun h => nomatch h) h27 (place_crossed_x1_ok qx)) ?_
    refine awp_seq ?_
    refine awp_region ?_
    refine aR 1 ?_
    refine aE ?_
    refine awp_ret ?_
    exact oF hF [] []
  · refine awp_sub (awp_loop' (place_crossed_x1_H qx) place_crossed_x1_k (place_crossed_x1_S qx) (by intro x; rcases x with x | x <;> exact fun h => nomatch h) h27 (place_crossed_x1_ok qx)) ?_
    exact oF hF [] []

/-! ### beaconfleet/place.CheckFence -/
def place_CheckFence_x1_k : Unit ⊕ Int → AEx
  | .inl _ => .exit 1
  | .inr _ => .ret

def place_CheckFence_x1_S (qf : api_Fence) : Unit ⊕ Int → St
  | .inl _ => Mem.st ⟨[], [(0, [.d (.str qf.Key), .d (.lst (List.map api_Spot.enc qf.Corners))])]⟩ (tl [(1, .v (.one (.box 0 0)))]) 1
  | .inr vx1 => Mem.st ⟨[], []⟩ (tl [(2, .v (.one (.d (.int .i64 vx1))))]) 0

def place_CheckFence_x1_H (qf : api_Fence) : Int → St
  | vx => Mem.st ⟨[], [(0, [.d (.str qf.Key), .d (.lst (List.map api_Spot.enc qf.Corners))])]⟩ (tl [(1, .v (.one (.box 0 0))), (21, .v (.one (.d (.lst (List.map api_Spot.enc qf.Corners))))), (22, .v (.one (.d (.int .i64 (qf.Corners.length : Int))))), (23, .v (.one (.d (.int .i64 vx))))]) 1

theorem place_CheckFence_x1_ok (qf : api_Fence) (vx : Int) (r : (Int) ⊕ (Unit ⊕ Int)) (hF : place_CheckFence_x1 qf vx = some r) : Awp prog 0 41 (cL (cL (cR (cL (cR (cR (cB f25))))))) (Out 0 (kk place_CheckFence_x1_k) (SS (place_CheckFence_x1_H qf) (place_CheckFence_x1_S qf)) r) (place_CheckFence_x1_H qf vx) := by
  unfold place_CheckFence_x1 at hF
  refine awp_seq ?_
  refine awp_region ?_
  refine aR 1 ?_
  refine aE ?_
  refine awp_seq ?_
  refine cE hF (fun h5 hF => ?_) fun h5 hF => ?_
  · refine awp_true (by kernel_rfl) h5 ?_
    refine awp_skip ?_
    refine awp_seq ?_
    refine awp_block ?_
    refine awp_seq ?_
    refine bE hF fun vy1 h6 hF => ?_
    refine awp_region ?_
    refine aR 1 ?_
    refine aX (x_idx api_Spot.enc h6) ?_
    refine aR 4 ?_
    refine aE ?_
    refine awp_seq ?_
    refine awp_seq ?_
    refine bE hF fun vr2_1 h7 hF => ?_
    refine awp_region ?_
    refine aR 1 ?_
    refine aC (place_isSpot_ok h7) [] [] [] ?_
    refine aR 1 ?_
    refine aE ?_
    refine cE hF (fun h8 hF => ?_) fun h8 hF => ?_
    · refine awp_true (by kernel_rfl) h8 ?_
      refine awp_seq ?_
      refine awp_region ?_
      refine aR 1 ?_
      refine aE ?_
      refine awp_ret ?_
      exact oO hF [] [] rfl
    · refine awp_false (by kernel_rfl) h8 ?_
      refine awp_skip ?_
      refine awp_seq ?_
      refine bE hF fun vl1 h9 hF => ?_
      refine bE hF fun vr1_1 h10 hF => ?_
      refine aD ?_
      refine dR 3 ?_
      refine dX (x_slice api_Spot.enc h9) ?_
      refine dR 1 ?_
      refine dC (slices_Contains_api_Spot_api_Spot_ok h10) [] [] [] ?_
      refine dE ?_
      refine cE hF (fun h11 hF => ?_) fun h11 hF => ?_
      · refine awp_true (by kernel_rfl) h11 ?_
        refine awp_seq ?_
        refine awp_region ?_
        refine aR 1 ?_
        refine aE ?_
        refine awp_ret ?_
        exact oO hF [] [] rfl
      · refine awp_false (by kernel_rfl) h11 ?_
        refine awp_skip ?_
        refine awp_region ?_
        refine aR 2 ?_
        refine aE ?_
        exact oO hF [] [] rfl
  · refine awp_false (by kernel_rfl) h5 ?_
    refine awp_exit ?_
    exact oO hF [] [] rfl

def place_CheckFence_R (qf : api_Fence) (r : Int) : TV × Mem := (.v (.one (.d (.int .i64 r))), ⟨[], []⟩)

theorem place_CheckFence_ok {qf : api_Fence} {r} (hF : place_CheckFence qf = some r) : Holds prog 25 [.v (.agg [.d (.str qf.Key), .d (.lst (List.map api_Spot.enc qf.Corners))])] ⟨[], []⟩ (Is (place_CheckFence_R qf r)) := by
  unfold place_CheckFence at hF
  refine holds_of_awp hΓ (fn := f25) (c := cB f25) (A := 0) (nx := 0) (by kernel_rfl) (by kernel_rfl) (by kernel_rfl) (by kernel_rfl) (by kernel_rfl) (by kernel_rfl) (lowc_of (by kernel_rfl)) ?_
  show Awp prog 0 41 (cB f25) _ _
  refine awp_seq ?_
  refine awp_region ?_
  refine aR 2 ?_
  refine aE ?_
  refine awp_seq ?_
  refine awp_block ?_
  refine awp_seq ?_
  refine bE hF fun vr h1 hF => ?_
  refine awp_region ?_
  refine aR 2 ?_
  refine aC (base_Key_ok h1) [] [] [] ?_
  refine aR 2 ?_
  refine aE ?_
  refine cE hF (fun h2 hF => ?_) fun h2 hF => ?_
  · refine awp_true (by kernel_rfl) h2 ?_
    refine awp_seq ?_
    refine awp_region ?_
    refine aR 1 ?_
    refine aE ?_
    refine awp_ret ?_
    exact oF hF [] []
  · refine awp_false (by kernel_rfl) h2 ?_
    refine awp_seq ?_
    refine awp_region ?_
    refine aR 2 ?_
    refine aL api_Spot.enc qf.Corners ?_
    refine aR 2 ?_
    refine aE ?_
    refine cE hF (fun h3 hF => ?_) fun h3 hF => ?_
    · refine awp_true (by kernel_rfl) h3 ?_
      refine awp_seq ?_
      refine awp_region ?_
      refine aR 1 ?_
      refine aE ?_
      refine awp_ret ?_
      exact oF hF [] []
    · refine awp_false (by kernel_rfl) h3 ?_
      refine awp_seq ?_
      refine awp_region ?_
      refine aR 2 ?_
      refine aL api_Spot.enc qf.Corners ?_
      refine aR 2 ?_
      refine aE ?_
      refine cE hF (fun h4 hF => ?_) fun h4 hF => ?_
      · refine awp_true (by kernel_rfl) h4 ?_
        refine awp_seq ?_
        refine awp_region ?_
        refine aR 1 ?_
        refine aE ?_
        refine awp_ret ?_
        exact oF hF [] []
      · refine awp_false (by kernel_rfl) h4 ?_
        refine awp_skip ?_
        refine awp_seq ?_
        refine awp_seq ?_
        refine awp_region ?_
        refine aR 2 ?_
        refine aL api_Spot.enc qf.Corners ?_
        refine aR 1 ?_
        refine aE ?_
        refine awp_block ?_
        refine awp_to (st' := place_CheckFence_x1_H qf 0) (oT [] []) ?_
        refine bE hF fun x h12 hF => ?_
        rcases x with _ | vx1_1
        · refine awp_sub (awp_loop' (place_CheckFence_x1_H qf) place_CheckFence_x1_k (place_CheckFence_x1_S qf) (by intro x; rcases x with x | x <;> exact fun h => nomatch h) h12 (place_CheckFence_x1_ok qf)) ?_
          refine awp_seq ?_
          refine awp_seq ?_
          refine bE hF fun vr17 h13 hF => ?_
          refine awp_region ?_
          refine aR 2 ?_
          refine aC (place_crossed_ok h13) [] [] [] ?_
          refine aE ?_
          refine cE hF (fun h14 hF => ?_) fun h14 hF => ?_
          · refine awp_true (by kernel_rfl) h14 ?_
            refine awp_seq ?_
            refine awp_region ?_
            refine aR 1 ?_
            refine aE ?_
            refine awp_ret ?_
            exact oF hF [] []
          · refine awp_false (by kernel_rfl) h14 ?_
            refine awp_skip ?_
            refine awp_seq ?_
            refine awp_region ?_
            refine aR 1 ?_
            refine aE ?_
            refine awp_ret ?_
            exact oF hF [] []
        · refine awp_sub (awp_loop' (place_CheckFence_x1_H qf) place_CheckFence_x1_k (place_CheckFence_x1_S qf) (by intro x; rcases x with x | x <;> exact fun h => nomatch h) h12 (place_CheckFence_x1_ok qf)) ?_
          exact oF hF [] []

/-! ### beaconfleet/base.First -/
def base_First_x1_k : Unit ⊕ Int → AEx
  | .inl _ => .exit 0
  | .inr _ => .ret

def base_First_x1_S (ql : List Int) : Unit ⊕ Int → St
  | .inl _ => Mem.st ⟨[], []⟩ (tl []) 0
  | .inr vx1 => Mem.st ⟨[], []⟩ (tl [(2, .v (.one (.d (.int .i64 vx1))))]) 0

def base_First_x1_H (ql : List Int) : Int → St
  | vx => Mem.st ⟨[], []⟩ (tl [(5, .v (.one (.d (.lst (List.map (encI .i64) ql))))), (6, .v (.one (.d (.int .i64 (ql.length : Int))))), (7, .v (.one (.d (.int .i64 vx))))]) 0

theorem base_First_x1_ok (ql : List Int) (vx : Int) (r : (Int) ⊕ (Unit ⊕ Int)) (hF : base_First_x1 ql vx = some r) : Awp prog 0 15 (cL (cL (cR (cL (cR (cB f24)))))) (Out 0 (kk base_First_x1_k) (SS (base_First_x1_H ql) (base_First_x1_S ql)) r) (base_First_x1_H ql vx) := by
  unfold base_First_x1 at hF
  refine awp_seq ?_
  refine awp_region ?_
  refine aR 1 ?_
  refine aE ?_
  refine awp_seq ?_
  refine cE hF (fun h1 hF => ?_) fun h1 hF => ?_
  · refine awp_true (by kernel_rfl) h1 ?_
    refine awp_skip ?_
    refine awp_seq ?_
    refine awp_block ?_
    refine awp_seq ?_
    refine bE hF fun vy1 h2 hF => ?_
    refine awp_region ?_
    refine aX (x_idx (encI .i64) h2) ?_
    refine aR 2 ?_
    refine aE ?_
    refine awp_seq ?_
    refine awp_region ?_
    refine aR 2 ?_
    refine aE ?_
    refine cE hF (fun h3 hF => ?_) fun h3 hF => ?_
    · refine awp_true (by kernel_rfl) h3 ?_
      refine awp_seq ?_
      refine awp_region ?_
      refine aR 2 ?_
      refine aE ?_
      refine awp_ret ?_
      exact oO hF [] [] rfl
    · refine awp_false (by kernel_rfl) h3 ?_
      refine awp_skip ?_
      refine awp_region ?_
      refine aR 2 ?_
      refine aE ?_
      exact oO hF [] [] rfl
  · refine awp_false (by kernel_rfl) h1 ?_
    refine awp_exit ?_
    exact oO hF [] [] rfl

def base_First_R (ql : List Int) (r : Int) : TV × Mem := (.v (.one (.d (.int .i64 r))), ⟨[], []⟩)

theorem base_First_ok {ql : List Int} {r} (hF : base_First ql = some r) : Holds prog 24 [.v (.one (.d (.lst (List.map (encI .i64) ql))))] ⟨[], []⟩ (Is (base_First_R ql r)) := by
  unfold base_First at hF
  refine holds_of_awp hΓ (fn := f24) (c := cB f24) (A := 0) (nx := 0) (by kernel_rfl) (by kernel_rfl) (by kernel_rfl) (by kernel_rfl) (by kernel_rfl) (by kernel_rfl) (lowc_of (by kernel_rfl)) ?_
  show Awp prog 0 15 (cB f24) _ _
  refine awp_seq ?_
  refine awp_region ?_
  refine aR 1 ?_
  refine aE ?_
  refine awp_seq ?_
  refine awp_seq ?_
  refine awp_region ?_
  refine aR 1 ?_
  refine aL (encI .i64) ql ?_
  refine aR 1 ?_
  refine aE ?_
  refine awp_block ?_
  refine awp_to (st' := base_First_x1_H ql 0) (oT [] []) ?_
  refine bE hF fun x h4 hF => ?_
  rcases x with _ | vx1_1
  · refine awp_sub (awp_loop' (base_First_x1_H ql) base_First_x1_k (base_First_x1_S ql) (by intro x; rcases x with x | x <;> exact fun h => nomatch h) h4 (base_First_x1_ok ql)) ?_
    refine awp_seq ?_
    refine awp_region ?_
    refine aR 1 ?_
    refine aE ?_
    refine awp_ret ?_
    exact oF hF [] []
  · refine awp_sub (awp_loop' (base_First_x1_H ql) base_First_x1_k (base_First_x1_S ql) (by intro x; rcases x with x | x <;> exact fun h => nomatch h) h4 (base_First_x1_ok ql)) ?_
    exact oF hF [] []

/-! ### beaconfleet/place.where$1 -/
def place_where_1_R (qa : api_Spot) (qb : api_Spot) (qx : api_Spot) (r : Bool) : TV × Mem := (.v (.one (.d (.bool r))), ⟨[], [(0, [.d (.int .i64 qx.X), .d (.int .i64 qx.Y)])]⟩)

theorem place_where_1_ok {qa : api_Spot} {qb : api_Spot} {qx : api_Spot} {r} (hF : place_where_1 qa qb qx = some r) : Holds prog 66 [.v (.agg [.d (.int .i64 qa.X), .d (.int .i64 qa.Y)]), .v (.agg [.d (.int .i64 qb.X), .d (.int .i64 qb.Y)]), .v (.one (.box 0 0))] ⟨[], [(0, [.d (.int .i64 qx.X), .d (.int .i64 qx.Y)])]⟩ (Is (place_where_1_R qa qb qx r)) := by
  unfold place_where_1 at hF
  refine holds_of_awp hΓ (fn := f66) (c := cB f66) (A := 1) (nx := 1) (by kernel_rfl) (by kernel_rfl) (by kernel_rfl) (by kernel_rfl) (by kernel_rfl) (by kernel_rfl) (lowc_of (by kernel_rfl)) ?_
  show Awp prog 1 10 (cB f66) _ _
  refine awp_seq ?_
  refine awp_region ?_
  refine aR 3 ?_
  refine aE ?_
  refine awp_seq ?_
  refine bE hF fun vr h1 hF => ?_
  refine awp_region ?_
  refine aR 3 ?_
  refine aC (place_on_ok h1) [] [] [] ?_
  refine aR 1 ?_
  refine aE ?_
  refine awp_ret ?_
  exact oF hF [] []

/-! ### beaconfleet/place.edges -/
def place_edges_f1_place_where_1_x1_k : Unit ⊕ Unit → AEx
  | .inl _ => .exit 0
  | .inr _ => .ret

def place_edges_f1_place_where_1_x1_S (ql : List api_Spot) (qf : api_Spot) : Unit ⊕ Unit → St
  | .inl _ => Mem.st ⟨[], [(0, [.d (.int .i64 qf.X), .d (.int .i64 qf.Y)])]⟩ (tl []) 1
  | .inr _ => Mem.st ⟨[], [(0, [.d (.int .i64 qf.X), .d (.int .i64 qf.Y)])]⟩ (tl [(4, .v (.one (.d (.bool true))))]) 1

def place_edges_f1_place_where_1_x1_H (ql : List api_Spot) (qf : api_Spot) : Int → St
  | vx => Mem.st ⟨[], [(0, [.d (.int .i64 qf.X), .d (.int .i64 qf.Y)])]⟩ (tl [(0, .v (.one (.d (.lst (List.map api_Spot.enc ql))))), (1, .v (.one (.fn 66 [0]))), (7, .v (.one (.d (.lst (List.map api_Spot.enc ql))))), (8, .v (.one (.d (.int .i64 (ql.length : Int))))), (9, .v (.one (.d (.int .i64 vx))))]) 1

theorem place_edges_f1_place_where_1_x1_ok (ql : List api_Spot) (qf : api_Spot) (vx : Int) (r : (Int) ⊕ (Unit ⊕ Unit)) (hF : place_edges_f1_place_where_1_x1 ql qf vx = some r) : Awp prog 1 26 (cL (cL (cR (cL (cR (cB f50)))))) (Out 1 (kk place_edges_f1_place_where_1_x1_k) (SS (place_edges_f1_place_where_1_x1_H ql qf) (place_edges_f1_place_where_1_x1_S ql qf)) r) (place_edges_f1_place_where_1_x1_H ql qf vx) := by
  unfold place_edges_f1_place_where_1_x1 at hF
  refine awp_seq ?_
  refine awp_region ?_
  refine aR 1 ?_
  refine aE ?_
  refine awp_seq ?_
  refine cE hF (fun h1 hF => ?_) fun h1 hF => ?_
  · refine awp_true (by kernel_rfl) h1 ?_
    refine awp_skip ?_
    refine awp_seq ?_
    refine awp_block ?_
    refine awp_seq ?_
    refine bE hF fun vy2 h2 hF => ?_
    refine awp_region ?_
    refine aR 1 ?_
    refine aX (x_idx api_Spot.enc h2) ?_
    refine aR 4 ?_
    refine aE ?_
    refine awp_seq ?_
    refine gE hF fun h3 hF => ?_
    refine bE hF fun vy3 h4 hF => ?_
    refine bE hF fun vr1_1 h5 hF => ?_
    refine aD ?_
    refine dR 6 ?_
    refine dL api_Spot.enc ql ?_
    refine dX (x_rem h3) ?_
    refine dX (x_idx api_Spot.enc h4) ?_
    refine dR 1 ?_
    refine dC (place_where_1_ok h5) [] [] [] ?_
    refine dE ?_
    refine cE hF (fun h6 hF => ?_) fun h6 hF => ?_
    · refine awp_true (by kernel_rfl) h6 ?_
      refine awp_seq ?_
      refine awp_region ?_
      refine aR 1 ?_
      refine aE ?_
      refine awp_ret ?_
      exact oO hF [] [] rfl
    · refine awp_false (by kernel_rfl) h6 ?_
      refine awp_skip ?_
      refine awp_region ?_
      refine aR 2 ?_
      refine aE ?_
      exact oO hF [] [] rfl
  · refine awp_false (by kernel_rfl) h1 ?_
    refine awp_exit ?_
    exact oO hF [] [] rfl

def place_edges_f1_place_where_1_R (ql : List api_Spot) (qf : api_Spot) (r : Bool) : TV × Mem := (.v (.one (.d (.bool r))), ⟨[], [(0, [.d (.int .i64 qf.X), .d (.int .i64 qf.Y)])]⟩)

theorem place_edges_f1_place_where_1_ok {ql : List api_Spot} {qf : api_Spot} {r} (hF : place_edges_f1_place_where_1 ql qf = some r) : Holds prog 50 [.v (.one (.d (.lst (List.map api_Spot.enc ql)))), .v (.one (.fn 66 [0]))] ⟨[], [(0, [.d (.int .i64 qf.X), .d (.int .i64 qf.Y)])]⟩ (Is (place_edges_f1_place_where_1_R ql qf r)) := by
  unfold place_edges_f1_place_where_1 at hF
  refine holds_of_awp hΓ (fn := f50) (c := cB f50) (A := 1) (nx := 1) (by kernel_rfl) (by kernel_rfl) (by kernel_rfl) (by kernel_rfl) (by kernel_rfl) (by kernel_rfl) (lowc_of (by kernel_rfl)) ?_
  show Awp prog 1 26 (cB f50) _ _
  refine awp_seq ?_
  refine awp_region ?_
  refine aR 1 ?_
  refine aE ?_
  refine awp_seq ?_
  refine awp_seq ?_
  refine awp_region ?_
  refine aR 1 ?_
  refine aL api_Spot.enc ql ?_
  refine aR 1 ?_
  refine aE ?_
  refine awp_block ?_
  refine awp_to (st' := place_edges_f1_place_where_1_x1_H ql qf 0) (oT [] []) ?_
  refine bE hF fun x h7 hF => ?_
  rcases x with _ | _
  · refine awp_sub (awp_loop' (place_edges_f1_place_where_1_x1_H ql qf) place_edges_f1_place_where_1_x1_k (place_edges_f1_place_where_1_x1_S ql qf) (by intro x; rcases x with x | x <;> exact fun h => nomatch h) h7 (place_edges_f1_place_where_1_x1_ok ql qf)) ?_
    refine awp_seq ?_
    refine awp_region ?_
    refine aR 1 ?_
    refine aE ?_
    refine awp_ret ?_
    exact oF hF [] []
  · refine awp_sub (awp_loop' (place_edges_f1_place_where_1_x1_H ql qf) place_edges_f1_place_where_1_x1_k (place_edges_f1_place_where_1_x1_S ql qf) (by intro x; rcases x with x | x <;> exact fun h => nomatch h) h7 (place_edges_f1_place_where_1_x1_ok ql qf)) ?_
    exact oF hF [] []

/-! ### beaconfleet/place.where$2 -/
def place_where_2_x1_k : (api_Spot × api_Spot) → AEx
  | _ => .normal

def place_where_2_x1_S (qa : api_Spot) (qb : api_Spot) (qx : api_Spot) (qx1 : Bool) : (api_Spot × api_Spot) → St
  | (va, vb) => Mem.st ⟨[], [(0, [.d (.int .i64 qx.X), .d (.int .i64 qx.Y)]), (1, [.d (.bool qx1)]), (2, [.d (.int .i64 va.X), .d (.int .i64 va.Y)]), (3, [.d (.int .i64 vb.X), .d (.int .i64 vb.Y)])]⟩ (tl [(2, .v (.one (.box 0 0))), (3, .v (.one (.box 1 0))), (4, .v (.one (.box 2 0))), (5, .v (.one (.box 3 0)))]) 4

def place_where_2_x1_I (qa : api_Spot) (qb : api_Spot) (qx : api_Spot) (qx1 : Bool) : St := Mem.st ⟨[], [(0, [.d (.int .i64 qx.X), .d (.int .i64 qx.Y)]), (1, [.d (.bool qx1)]), (2, [.d (.int .i64 qa.X), .d (.int .i64 qa.Y)]), (3, [.d (.int .i64 qb.X), .d (.int .i64 qb.Y)])]⟩ (tl [(2, .v (.one (.box 0 0))), (3, .v (.one (.box 1 0))), (4, .v (.one (.box 2 0))), (5, .v (.one (.box 3 0)))]) 4

theorem place_where_2_x1_ok (qa : api_Spot) (qb : api_Spot) (qx : api_Spot) (qx1 : Bool) {r} (hF : place_where_2_x1 qa qb = some r) : Awp prog 2 35 (cL (cR (cB f68))) (Out 2 place_where_2_x1_k (place_where_2_x1_S qa qb qx qx1) r) (place_where_2_x1_I qa qb qx qx1) := by
  unfold place_where_2_x1 at hF
  refine awp_seq ?_
  refine awp_region ?_
  refine aR 5 ?_
  refine aE ?_
  refine cE hF (fun h1 hF => ?_) fun h1 hF => ?_
  · refine awp_true (by kernel_rfl) h1 ?_
    refine awp_region ?_
    refine aR 4 ?_
    refine aE ?_
    exact oO hF [] [] rfl
  · refine awp_false (by kernel_rfl) h1 ?_
    refine awp_skip ?_
    exact oO hF [] [] rfl

def place_where_2_x3_k : Bool → AEx
  | _ => .normal

def place_where_2_x3_S (qx : api_Spot) (qx1 : Bool) (va1 : api_Spot) (vb1 : api_Spot) : Bool → St
  | vx => Mem.st ⟨[], [(0, [.d (.int .i64 qx.X), .d (.int .i64 qx.Y)]), (1, [.d (.bool qx1)])]⟩ (tl [(3, .v (.one (.box 1 0))), (32, .v (.one (.d (.bool vx))))]) 2

def place_where_2_x3_I (qx : api_Spot) (qx1 : Bool) (va1 : api_Spot) (vb1 : api_Spot) : St := Mem.st ⟨[], [(0, [.d (.int .i64 qx.X), .d (.int .i64 qx.Y)]), (1, [.d (.bool qx1)]), (2, [.d (.int .i64 va1.X), .d (.int .i64 va1.Y)]), (3, [.d (.int .i64 vb1.X), .d (.int .i64 vb1.Y)])]⟩ (tl [(2, .v (.one (.box 0 0))), (3, .v (.one (.box 1 0))), (4, .v (.one (.box 2 0))), (5, .v (.one (.box 3 0)))]) 4

theorem place_where_2_x3_ok (qx : api_Spot) (qx1 : Bool) (va1 : api_Spot) (vb1 : api_Spot) {r} (hF : place_where_2_x3 qx va1 vb1 = some r) : Awp prog 2 35 (cL (cL (cR (cR (cB f68))))) (Out 2 place_where_2_x3_k (place_where_2_x3_S qx qx1 va1 vb1) r) (place_where_2_x3_I qx qx1 va1 vb1) := by
  unfold place_where_2_x3 at hF
  refine cE hF (fun h3 hF => ?_) fun h3 hF => ?_
  · refine cE hF (fun h4 hF => ?_) fun h4 hF => ?_
    · refine bE hF fun _ h5 hF => ?_
      refine awp_region ?_
      refine aR 4 ?_
      refine aB h3 ?_
      refine aR 5 ?_
      refine aB h4 ?_
      refine aR 5 ?_
      refine aC (place_side_ok h5) [] [] [] ?_
      refine aR 2 ?_
      refine aE ?_
      exact oO hF [] [] rfl
    · refine awp_region ?_
      refine aR 4 ?_
      refine aB h3 ?_
      refine aR 5 ?_
      refine aB h4 ?_
      refine aR 8 ?_
      refine aE ?_
      exact oO hF [] [] rfl
  · refine awp_region ?_
    refine aR 4 ?_
    refine aB h3 ?_
    refine aR 14 ?_
    refine aE ?_
    exact oO hF [] [] rfl

def place_where_2_x2_k : Bool → AEx
  | _ => .normal

def place_where_2_x2_S (qx : api_Spot) (qx1 : Bool) (va1 : api_Spot) (vb1 : api_Spot) : Bool → St
  | vs => Mem.st ⟨[], [(0, [.d (.int .i64 qx.X), .d (.int .i64 qx.Y)]), (1, [.d (.bool vs)])]⟩ (tl []) 2

def place_where_2_x2_I (qx : api_Spot) (qx1 : Bool) (va1 : api_Spot) (vb1 : api_Spot) : St := Mem.st ⟨[], [(0, [.d (.int .i64 qx.X), .d (.int .i64 qx.Y)]), (1, [.d (.bool qx1)]), (2, [.d (.int .i64 va1.X), .d (.int .i64 va1.Y)]), (3, [.d (.int .i64 vb1.X), .d (.int .i64 vb1.Y)])]⟩ (tl [(2, .v (.one (.box 0 0))), (3, .v (.one (.box 1 0))), (4, .v (.one (.box 2 0))), (5, .v (.one (.box 3 0)))]) 4

theorem place_where_2_x2_ok (qx : api_Spot) (qx1 : Bool) (va1 : api_Spot) (vb1 : api_Spot) {r} (hF : place_where_2_x2 qx qx1 va1 vb1 = some r) : Awp prog 2 35 (cL (cR (cR (cB f68)))) (Out 2 place_where_2_x2_k (place_where_2_x2_S qx qx1 va1 vb1) r) (place_where_2_x2_I qx qx1 va1 vb1) := by
  unfold place_where_2_x2 at hF
  refine awp_seq ?_
  refine awp_to (st' := place_where_2_x3_I qx qx1 va1 vb1) (oT [] []) ?_
  refine bE hF fun vx1 h6 hF => ?_
  refine awp_sub (place_where_2_x3_ok qx qx1 va1 vb1 h6) ?_
  refine cE hF (fun h7 hF => ?_) fun h7 hF => ?_
  · refine awp_true (by kernel_rfl) h7 ?_
    refine awp_region ?_
    refine aR 3 ?_
    refine aE ?_
    exact oO hF [] [] rfl
  · refine awp_false (by kernel_rfl) h7 ?_
    refine awp_skip ?_
    exact oO hF [] [] rfl

def place_where_2_R (qa : api_Spot) (qb : api_Spot) (qx : api_Spot) (qx1 : Bool) (r : Bool) : TV × Mem := (.v (.one (.d (.bool false))), ⟨[], [(0, [.d (.int .i64 qx.X), .d (.int .i64 qx.Y)]), (1, [.d (.bool r)])]⟩)

theorem place_where_2_ok {qa : api_Spot} {qb : api_Spot} {qx : api_Spot} {qx1 : Bool} {r} (hF : place_where_2 qa qb qx qx1 = some r) : Holds prog 68 [.v (.agg [.d (.int .i64 qa.X), .d (.int .i64 qa.Y)]), .v (.agg [.d (.int .i64 qb.X), .d (.int .i64 qb.Y)]), .v (.one (.box 0 0)), .v (.one (.box 1 0))] ⟨[], [(0, [.d (.int .i64 qx.X), .d (.int .i64 qx.Y)]), (1, [.d (.bool qx1)])]⟩ (Is (place_where_2_R qa qb qx qx1 r)) := by
  unfold place_where_2 at hF
  refine holds_of_awp hΓ (fn := f68) (c := cB f68) (A := 2) (nx := 2) (by kernel_rfl) (by kernel_rfl) (by kernel_rfl) (by kernel_rfl) (by kernel_rfl) (by kernel_rfl) (lowc_of (by kernel_rfl)) ?_
  show Awp prog 2 35 (cB f68) _ _
  refine awp_seq ?_
  refine awp_region ?_
  refine aR 3 ?_
  refine aE ?_
  refine awp_seq ?_
  refine awp_to (st' := place_where_2_x1_I qa qb qx qx1) (oT [(3, 1002)] []) ?_
  refine bE hF fun x h2 hF => ?_
  obtain ⟨va1, vb1⟩ := x
  refine awp_sub (place_where_2_x1_ok qa qb qx qx1 h2) ?_
  refine awp_seq ?_
  refine awp_to (st' := place_where_2_x2_I qx qx1 va1 vb1) (oT [] []) ?_
  refine bE hF fun vs1 h8 hF => ?_
  refine awp_sub (place_where_2_x2_ok qx qx1 va1 vb1 h8) ?_
  refine awp_seq ?_
  refine awp_region ?_
  refine aR 1 ?_
  refine aE ?_
  refine awp_ret ?_
  exact oF hF [] []

/-! ### beaconfleet/place.edges -/
def place_edges_f1_place_where_2_x1_k : Bool → AEx
  | _ => .exit 0

def place_edges_f1_place_where_2_x1_S (ql : List api_Spot) (qf : api_Spot) : Bool → St
  | vs1 => Mem.st ⟨[], [(0, [.d (.int .i64 qf.X), .d (.int .i64 qf.Y)]), (1, [.d (.bool vs1)])]⟩ (tl []) 2

def place_edges_f1_place_where_2_x1_H (ql : List api_Spot) (qf : api_Spot) : Bool × Int → St
  | (vs, vx) => Mem.st ⟨[], [(0, [.d (.int .i64 qf.X), .d (.int .i64 qf.Y)]), (1, [.d (.bool vs)])]⟩ (tl [(0, .v (.one (.d (.lst (List.map api_Spot.enc ql))))), (1, .v (.one (.fn 68 [0, 1]))), (7, .v (.one (.d (.lst (List.map api_Spot.enc ql))))), (8, .v (.one (.d (.int .i64 (ql.length : Int))))), (9, .v (.one (.d (.int .i64 vx))))]) 2

theorem place_edges_f1_place_where_2_x1_ok (ql : List api_Spot) (qf : api_Spot) (s : Bool × Int) (r : (Bool × Int) ⊕ (Bool)) (hF : place_edges_f1_place_where_2_x1 ql qf s = some r) : Awp prog 2 26 (cL (cL (cR (cL (cR (cB f50)))))) (Out 2 (kk place_edges_f1_place_where_2_x1_k) (SS (place_edges_f1_place_where_2_x1_H ql qf) (place_edges_f1_place_where_2_x1_S ql qf)) r) (place_edges_f1_place_where_2_x1_H ql qf s) := by
  obtain ⟨vs, vx⟩ := s
  unfold place_edges_f1_place_where_2_x1 at hF
  refine awp_seq ?_
  refine awp_region ?_
  refine aR 1 ?_
  refine aE ?_
  refine awp_seq ?_
  refine cE hF (fun h1 hF => ?_) fun h1 hF => ?_
  · refine awp_true (by kernel_rfl) h1 ?_
    refine awp_skip ?_
    refine awp_seq ?_
    refine awp_block ?_
    refine awp_seq ?_
    refine bE hF fun vy2 h2 hF => ?_
    refine awp_region ?_
    refine aR 1 ?_
    refine aX (x_idx api_Spot.enc h2) ?_
    refine aR 4 ?_
    refine aE ?_
    refine awp_seq ?_
    refine gE hF fun h3 hF => ?_
    refine bE hF fun vy3 h4 hF => ?_
    refine bE hF fun vs2_1 h5 hF => ?_
    refine aD ?_
    refine dR 6 ?_
    refine dL api_Spot.enc ql ?_
    refine dX (x_rem h3) ?_
    refine dX (x_idx api_Spot.enc h4) ?_
    refine dR 1 ?_
    refine dC (place_where_2_ok h5) [] [] [] ?_
    refine dE ?_
    refine awp_false (by kernel_rfl) rfl ?_
    refine awp_skip ?_
    refine awp_region ?_
    refine aR 2 ?_
    refine aE ?_
    exact oO hF [] [] rfl
  · refine awp_false (by kernel_rfl) h1 ?_
    refine awp_exit ?_
    exact oO hF [] [] rfl

def place_edges_f1_place_where_2_R (ql : List api_Spot) (qf : api_Spot) (qf1 : Bool) (r : Bool) : TV × Mem := (.v (.one (.d (.bool false))), ⟨[], [(0, [.d (.int .i64 qf.X), .d (.int .i64 qf.Y)]), (1, [.d (.bool r)])]⟩)

theorem place_edges_f1_place_where_2_ok {ql : List api_Spot} {qf : api_Spot} {qf1 : Bool} {r} (hF : place_edges_f1_place_where_2 ql qf qf1 = some r) : Holds prog 50 [.v (.one (.d (.lst (List.map api_Spot.enc ql)))), .v (.one (.fn 68 [0, 1]))] ⟨[], [(0, [.d (.int .i64 qf.X), .d (.int .i64 qf.Y)]), (1, [.d (.bool qf1)])]⟩ (Is (place_edges_f1_place_where_2_R ql qf qf1 r)) := by
  unfold place_edges_f1_place_where_2 at hF
  refine holds_of_awp hΓ (fn := f50) (c := cB f50) (A := 2) (nx := 2) (by kernel_rfl) (by kernel_rfl) (by kernel_rfl) (by kernel_rfl) (by kernel_rfl) (by kernel_rfl) (lowc_of (by kernel_rfl)) ?_
  show Awp prog 2 26 (cB f50) _ _
  refine awp_seq ?_
  refine awp_region ?_
  refine aR 1 ?_
  refine aE ?_
  refine awp_seq ?_
  refine awp_seq ?_
  refine awp_region ?_
  refine aR 1 ?_
  refine aL api_Spot.enc ql ?_
  refine aR 1 ?_
  refine aE ?_
  refine awp_block ?_
  refine awp_to (st' := place_edges_f1_place_where_2_x1_H ql qf (qf1, 0)) (oT [] []) ?_
  refine bE hF fun vs1_1 h6 hF => ?_
  refine awp_sub (awp_loop' (place_edges_f1_place_where_2_x1_H ql qf) place_edges_f1_place_where_2_x1_k (place_edges_f1_place_where_2_x1_S ql qf) (by intro x; exact fun h => nomatch h) h6 (place_edges_f1_place_where_2_x1_ok ql qf)) ?_
  refine awp_seq ?_
  refine awp_region ?_
  refine aR 1 ?_
  refine aE ?_
  refine awp_ret ?_
  exact oF hF [] []

/-! ### beaconfleet/place.where -/
def place_where_R (ql : List api_Spot) (qs : api_Spot) (r : Int) : TV × Mem := (.v (.one (.d (.int .i64 r))), ⟨[], []⟩)

theorem place_where_ok {ql : List api_Spot} {qs : api_Spot} {r} (hF : place_where ql qs = some r) : Holds prog 38 [.v (.one (.d (.lst (List.map api_Spot.enc ql)))), .v (.agg [.d (.int .i64 qs.X), .d (.int .i64 qs.Y)])] ⟨[], []⟩ (Is (place_where_R ql qs r)) := by
  unfold place_where at hF
  refine holds_of_awp hΓ (fn := f38) (c := cB f38) (A := 0) (nx := 0) (by kernel_rfl) (by kernel_rfl) (by kernel_rfl) (by kernel_rfl) (by kernel_rfl) (by kernel_rfl) (lowc_of (by kernel_rfl)) ?_
  show Awp prog 0 13 (cB f38) _ _
  refine awp_seq ?_
  refine awp_region ?_
  refine aR 2 ?_
  refine aE ?_
  refine awp_seq ?_
  refine awp_seq ?_
  refine bE hF fun vr h1 hF => ?_
  refine awp_region ?_
  refine aR 2 ?_
  refine aC (place_edges_f1_place_where_1_ok h1) [] [] [] ?_
  refine aE ?_
  refine cE hF (fun h2 hF => ?_) fun h2 hF => ?_
  · refine awp_true (by kernel_rfl) h2 ?_
    refine awp_seq ?_
    refine awp_region ?_
    refine aR 1 ?_
    refine aE ?_
    refine awp_ret ?_
    exact oF hF [] []
  · refine awp_false (by kernel_rfl) h2 ?_
    refine awp_skip ?_
    refine awp_seq ?_
    refine awp_region ?_
    refine aR 2 ?_
    refine aE ?_
    refine awp_seq ?_
    refine bE hF fun vs3 h3 hF => ?_
    refine awp_region ?_
    refine aR 2 ?_
    refine aC (place_edges_f1_place_where_2_ok h3) [(1, 5000)] [] [] ?_
    refine aE ?_
    refine awp_seq ?_
    refine awp_seq ?_
    refine awp_region ?_
    refine aR 1 ?_
    refine aE ?_
    refine cE hF (fun h4 hF => ?_) fun h4 hF => ?_
    · refine awp_true (by kernel_rfl) h4 ?_
      refine awp_seq ?_
      refine awp_region ?_
      refine aR 1 ?_
      refine aE ?_
      refine awp_ret ?_
      exact oF hF [] []
    · refine awp_false (by kernel_rfl) h4 ?_
      refine awp_skip ?_
      refine awp_seq ?_
      refine awp_region ?_
      refine aR 1 ?_
      refine aE ?_
      refine awp_ret ?_
      exact oF hF [] []

/-! ### beaconfleet/place.touch$1$1 -/
def place_touch_1_1_R (qc : api_Spot) (qd : api_Spot) (qx : api_Spot) (qx1 : api_Spot) (r : Bool) : TV × Mem := (.v (.one (.d (.bool r))), ⟨[], [(0, [.d (.int .i64 qx.X), .d (.int .i64 qx.Y)]), (1, [.d (.int .i64 qx1.X), .d (.int .i64 qx1.Y)])]⟩)

theorem place_touch_1_1_ok {qc : api_Spot} {qd : api_Spot} {qx : api_Spot} {qx1 : api_Spot} {r} (hF : place_touch_1_1 qc qd qx qx1 = some r) : Holds prog 52 [.v (.agg [.d (.int .i64 qc.X), .d (.int .i64 qc.Y)]), .v (.agg [.d (.int .i64 qd.X), .d (.int .i64 qd.Y)]), .v (.one (.box 0 0)), .v (.one (.box 1 0))] ⟨[], [(0, [.d (.int .i64 qx.X), .d (.int .i64 qx.Y)]), (1, [.d (.int .i64 qx1.X), .d (.int .i64 qx1.Y)])]⟩ (Is (place_touch_1_1_R qc qd qx qx1 r)) := by
  unfold place_touch_1_1 at hF
  refine holds_of_awp hΓ (fn := f52) (c := cB f52) (A := 2) (nx := 2) (by kernel_rfl) (by kernel_rfl) (by kernel_rfl) (by kernel_rfl) (by kernel_rfl) (by kernel_rfl) (lowc_of (by kernel_rfl)) ?_
  show Awp prog 2 12 (cB f52) _ _
  refine awp_seq ?_
  refine awp_region ?_
  refine aR 3 ?_
  refine aE ?_
  refine awp_seq ?_
  refine bE hF fun vr8 h1 hF => ?_
  refine awp_region ?_
  refine aR 4 ?_
  refine aC (place_meets_ok h1) [] [] [] ?_
  refine aR 1 ?_
  refine aE ?_
  refine awp_ret ?_
  exact oF hF [] []

/-! ### beaconfleet/place.edges -/
def place_edges_f1_place_touch_1_1_x1_k : Unit ⊕ Unit → AEx
  | .inl _ => .exit 0
  | .inr _ => .ret

def place_edges_f1_place_touch_1_1_x1_S (ql : List api_Spot) (qf : api_Spot) (qf1 : api_Spot) : Unit ⊕ Unit → St
  | .inl _ => Mem.st ⟨[], [(0, [.d (.int .i64 qf.X), .d (.int .i64 qf.Y)]), (1, [.d (.int .i64 qf1.X), .d (.int .i64 qf1.Y)])]⟩ (tl []) 2
  | .inr _ => Mem.st ⟨[], [(0, [.d (.int .i64 qf.X), .d (.int .i64 qf.Y)]), (1, [.d (.int .i64 qf1.X), .d (.int .i64 qf1.Y)])]⟩ (tl [(4, .v (.one (.d (.bool true))))]) 2

def place_edges_f1_place_touch_1_1_x1_H (ql : List api_Spot) (qf : api_Spot) (qf1 : api_Spot) : Int → St
  | vx => Mem.st ⟨[], [(0, [.d (.int .i64 qf.X), .d (.int .i64 qf.Y)]), (1, [.d (.int .i64 qf1.X), .d (.int .i64 qf1.Y)])]⟩ (tl [(0, .v (.one (.d (.lst (List.map api_Spot.enc ql))))), (1, .v (.one (.fn 52 [0, 1]))), (7, .v (.one (.d (.lst (List.map api_Spot.enc ql))))), (8, .v (.one (.d (.int .i64 (ql.length : Int))))), (9, .v (.one (.d (.int .i64 vx))))]) 2

theorem place_edges_f1_place_touch_1_1_x1_ok (ql : List api_Spot) (qf : api_Spot) (qf1 : api_Spot) (vx : Int) (r : (Int) ⊕ (Unit ⊕ Unit)) (hF : place_edges_f1_place_touch_1_1_x1 ql qf qf1 vx = some r) : Awp prog 2 26 (cL (cL (cR (cL (cR (cB f50)))))) (Out 2 (kk place_edges_f1_place_touch_1_1_x1_k) (SS (place_edges_f1_place_touch_1_1_x1_H ql qf qf1) (place_edges_f1_place_touch_1_1_x1_S ql qf qf1)) r) (place_edges_f1_place_touch_1_1_x1_H ql qf qf1 vx) := by
  unfold place_edges_f1_place_touch_1_1_x1 at hF
  refine awp_seq ?_
  refine awp_region ?_
  refine aR 1 ?_
  refine aE ?_
  refine awp_seq ?_
  refine cE hF (fun h1 hF => ?_) fun h1 hF => ?_
  · refine awp_true (by kernel_rfl) h1 ?_
    refine awp_skip ?_
    refine awp_seq ?_
    refine awp_block ?_
    refine awp_seq ?_
    refine bE hF fun vy2 h2 hF => ?_
    refine awp_region ?_
    refine aR 1 ?_
    refine aX (x_idx api_Spot.enc h2) ?_
    refine aR 4 ?_
    refine aE ?_
    refine awp_seq ?_
    refine gE hF fun h3 hF => ?_
    refine bE hF fun vy3 h4 hF => ?_
    refine bE hF fun vr1 h5 hF => ?_
    refine aD ?_
    refine dR 6 ?_
    refine dL api_Spot.enc ql ?_
    refine dX (x_rem h3) ?_
    refine dX (x_idx api_Spot.enc h4) ?_
    refine dR 1 ?_
    refine dC (place_touch_1_1_ok h5) [] [] [] ?_
    refine dE ?_
    refine cE hF (fun h6 hF => ?_) fun h6 hF => ?_
    · refine awp_true (by kernel_rfl) h6 ?_
      refine awp_seq ?_
      refine awp_region ?_
      refine aR 1 ?_
      refine aE ?_
      refine awp_ret ?_
      exact oO hF [] [] rfl
    · refine awp_false (by kernel_rfl) h6 ?_
      refine awp_skip ?_
      refine awp_region ?_
      refine aR 2 ?_
      refine aE ?_
      exact oO hF [] [] rfl
  · refine awp_false (by kernel_rfl) h1 ?_
    refine awp_exit ?_
    exact oO hF [] [] rfl

def place_edges_f1_place_touch_1_1_R (ql : List api_Spot) (qf : api_Spot) (qf1 : api_Spot) (r : Bool) : TV × Mem := (.v (.one (.d (.bool r))), ⟨[], [(0, [.d (.int .i64 qf.X), .d (.int .i64 qf.Y)]), (1, [.d (.int .i64 qf1.X), .d (.int .i64 qf1.Y)])]⟩)

theorem place_edges_f1_place_touch_1_1_ok {ql : List api_Spot} {qf : api_Spot} {qf1 : api_Spot} {r} (hF : place_edges_f1_place_touch_1_1 ql qf qf1 = some r) : Holds prog 50 [.v (.one (.d (.lst (List.map api_Spot.enc ql)))), .v (.one (.fn 52 [0, 1]))] ⟨[], [(0, [.d (.int .i64 qf.X), .d (.int .i64 qf.Y)]), (1, [.d (.int .i64 qf1.X), .d (.int .i64 qf1.Y)])]⟩ (Is (place_edges_f1_place_touch_1_1_R ql qf qf1 r)) := by
  unfold place_edges_f1_place_touch_1_1 at hF
  refine holds_of_awp hΓ (fn := f50) (c := cB f50) (A := 2) (nx := 2) (by kernel_rfl) (by kernel_rfl) (by kernel_rfl) (by kernel_rfl) (by kernel_rfl) (by kernel_rfl) (lowc_of (by kernel_rfl)) ?_
  show Awp prog 2 26 (cB f50) _ _
  refine awp_seq ?_
  refine awp_region ?_
  refine aR 1 ?_
  refine aE ?_
  refine awp_seq ?_
  refine awp_seq ?_
  refine awp_region ?_
  refine aR 1 ?_
  refine aL api_Spot.enc ql ?_
  refine aR 1 ?_
  refine aE ?_
  refine awp_block ?_
  refine awp_to (st' := place_edges_f1_place_touch_1_1_x1_H ql qf qf1 0) (oT [] []) ?_
  refine bE hF fun x h7 hF => ?_
  rcases x with _ | _
  · refine awp_sub (awp_loop' (place_edges_f1_place_touch_1_1_x1_H ql qf qf1) place_edges_f1_place_touch_1_1_x1_k (place_edges_f1_place_touch_1_1_x1_S ql qf qf1) (by intro x; rcases x with x | x <;> exact fun h => nomatch h) h7 (place_edges_f1_place_touch_1_1_x1_ok ql qf qf1)) ?_
    refine awp_seq ?_
    refine awp_region ?_
    refine aR 1 ?_
    refine aE ?_
    refine awp_ret ?_
    exact oF hF [] []
  · refine awp_sub (awp_loop' (place_edges_f1_place_touch_1_1_x1_H ql qf qf1) place_edges_f1_place_touch_1_1_x1_k (place_edges_f1_place_touch_1_1_x1_S ql qf qf1) (by intro x; rcases x with x | x <;> exact fun h => nomatch h) h7 (place_edges_f1_place_touch_1_1_x1_ok ql qf qf1)) ?_
    exact oF hF [] []

/-! ### beaconfleet/place.touch$1 -/
def place_touch_1_R (qa : api_Spot) (qb : api_Spot) (qx : List api_Spot) (r : Bool) : TV × Mem := (.v (.one (.d (.bool r))), ⟨[], [(0, [.d (.lst (List.map api_Spot.enc qx))])]⟩)

theorem place_touch_1_ok {qa : api_Spot} {qb : api_Spot} {qx : List api_Spot} {r} (hF : place_touch_1 qa qb qx = some r) : Holds prog 51 [.v (.agg [.d (.int .i64 qa.X), .d (.int .i64 qa.Y)]), .v (.agg [.d (.int .i64 qb.X), .d (.int .i64 qb.Y)]), .v (.one (.box 0 0))] ⟨[], [(0, [.d (.lst (List.map api_Spot.enc qx))])]⟩ (Is (place_touch_1_R qa qb qx r)) := by
  unfold place_touch_1 at hF
  refine holds_of_awp hΓ (fn := f51) (c := cB f51) (A := 1) (nx := 1) (by kernel_rfl) (by kernel_rfl) (by kernel_rfl) (by kernel_rfl) (by kernel_rfl) (by kernel_rfl) (lowc_of (by kernel_rfl)) ?_
  show Awp prog 1 9 (cB f51) _ _
  refine awp_seq ?_
  refine awp_region ?_
  refine aR 3 ?_
  refine aE ?_
  refine awp_seq ?_
  refine bE hF fun vr2 h1 hF => ?_
  refine awp_region ?_
  refine aR 2 ?_
  refine aC (place_edges_f1_place_touch_1_1_ok h1) [(0, 1), (1, 1001)] [] [] ?_
  refine aR 1 ?_
  refine aE ?_
  refine awp_ret ?_
  exact oF hF [] []

/-! ### beaconfleet/place.edges -/
def place_edges_f1_place_touch_1_x1_k : Unit ⊕ Unit → AEx
  | .inl _ => .exit 0
  | .inr _ => .ret

def place_edges_f1_place_touch_1_x1_S (ql : List api_Spot) (qf : List api_Spot) : Unit ⊕ Unit → St
  | .inl _ => Mem.st ⟨[], [(0, [.d (.lst (List.map api_Spot.enc qf))])]⟩ (tl []) 1
  | .inr _ => Mem.st ⟨[], [(0, [.d (.lst (List.map api_Spot.enc qf))])]⟩ (tl [(4, .v (.one (.d (.bool true))))]) 1

def place_edges_f1_place_touch_1_x1_H (ql : List api_Spot) (qf : List api_Spot) : Int → St
  | vx => Mem.st ⟨[], [(0, [.d (.lst (List.map api_Spot.enc qf))])]⟩ (tl [(0, .v (.one (.d (.lst (List.map api_Spot.enc ql))))), (1, .v (.one (.fn 51 [0]))), (7, .v (.one (.d (.lst (List.map api_Spot.enc ql))))), (8, .v (.one (.d (.int .i64 (ql.length : Int))))), (9, .v (.one (.d (.int .i64 vx))))]) 1

theorem place_edges_f1_place_touch_1_x1_ok (ql : List api_Spot) (qf : List api_Spot) (vx : Int) (r : (Int) ⊕ (Unit ⊕ Unit)) (hF : place_edges_f1_place_touch_1_x1 ql qf vx = some r) : Awp prog 1 26 (cL (cL (cR (cL (cR (cB f50)))))) (Out 1 (kk place_edges_f1_place_touch_1_x1_k) (SS (place_edges_f1_place_touch_1_x1_H ql qf) (place_edges_f1_place_touch_1_x1_S ql qf)) r) (place_edges_f1_place_touch_1_x1_H ql qf vx) := by
  unfold place_edges_f1_place_touch_1_x1 at hF
  refine awp_seq ?_
  refine awp_region ?_
  refine aR 1 ?_
  refine aE ?_
  refine awp_seq ?_
  refine cE hF (fun h1 hF => ?_) fun h1 hF => ?_
  · refine awp_true (by kernel_rfl) h1 ?_
    refine awp_skip ?_
    refine awp_seq ?_
    refine awp_block ?_
    refine awp_seq ?_
    refine bE hF fun vy2 h2 hF => ?_
    refine awp_region ?_
    refine aR 1 ?_
    refine aX (x_idx api_Spot.enc h2) ?_
    refine aR 4 ?_
    refine aE ?_
    refine awp_seq ?_
    refine gE hF fun h3 hF => ?_
    refine bE hF fun vy3 h4 hF => ?_
    refine bE hF fun vr1 h5 hF => ?_
    refine aD ?_
    refine dR 6 ?_
    refine dL api_Spot.enc ql ?_
    refine dX (x_rem h3) ?_
    refine dX (x_idx api_Spot.enc h4) ?_
    refine dR 1 ?_
    refine dC (place_touch_1_ok h5) [] [] [] ?_
    refine dE ?_
    refine cE hF (fun h6 hF => ?_) fun h6 hF => ?_
    · refine awp_true (by kernel_rfl) h6 ?_
      refine awp_seq ?_
      refine awp_region ?_
      refine aR 1 ?_
      refine aE ?_
      refine awp_ret ?_
      exact oO hF [] [] rfl
    · refine awp_false (by kernel_rfl) h6 ?_
      refine awp_skip ?_
      refine awp_region ?_
      refine aR 2 ?_
      refine aE ?_
      exact oO hF [] [] rfl
  · refine awp_false (by kernel_rfl) h1 ?_
    refine awp_exit ?_
    exact oO hF [] [] rfl

def place_edges_f1_place_touch_1_R (ql : List api_Spot) (qf : List api_Spot) (r : Bool) : TV × Mem := (.v (.one (.d (.bool r))), ⟨[], [(0, [.d (.lst (List.map api_Spot.enc qf))])]⟩)

theorem place_edges_f1_place_touch_1_ok {ql : List api_Spot} {qf : List api_Spot} {r} (hF : place_edges_f1_place_touch_1 ql qf = some r) : Holds prog 50 [.v (.one (.d (.lst (List.map api_Spot.enc ql)))), .v (.one (.fn 51 [0]))] ⟨[], [(0, [.d (.lst (List.map api_Spot.enc qf))])]⟩ (Is (place_edges_f1_place_touch_1_R ql qf r)) := by
  unfold place_edges_f1_place_touch_1 at hF
  refine holds_of_awp hΓ (fn := f50) (c := cB f50) (A := 1) (nx := 1) (by kernel_rfl) (by kernel_rfl) (by kernel_rfl) (by kernel_rfl) (by kernel_rfl) (by kernel_rfl) (lowc_of (by kernel_rfl)) ?_
  show Awp prog 1 26 (cB f50) _ _
  refine awp_seq ?_
  refine awp_region ?_
  refine aR 1 ?_
  refine aE ?_
  refine awp_seq ?_
  refine awp_seq ?_
  refine awp_region ?_
  refine aR 1 ?_
  refine aL api_Spot.enc ql ?_
  refine aR 1 ?_
  refine aE ?_
  refine awp_block ?_
  refine awp_to (st' := place_edges_f1_place_touch_1_x1_H ql qf 0) (oT [] []) ?_
  refine bE hF fun x h7 hF => ?_
  rcases x with _ | _
  · refine awp_sub (awp_loop' (place_edges_f1_place_touch_1_x1_H ql qf) place_edges_f1_place_touch_1_x1_k (place_edges_f1_place_touch_1_x1_S ql qf) (by intro x; rcases x with x | x <;> exact fun h => nomatch h) h7 (place_edges_f1_place_touch_1_x1_ok ql qf)) ?_
    refine awp_seq ?_
    refine awp_region ?_
    refine aR 1 ?_
    refine aE ?_
    refine awp_ret ?_
    exact oF hF [] []
  · refine awp_sub (awp_loop' (place_edges_f1_place_touch_1_x1_H ql qf) place_edges_f1_place_touch_1_x1_k (place_edges_f1_place_touch_1_x1_S ql qf) (by intro x; rcases x with x | x <;> exact fun h => nomatch h) h7 (place_edges_f1_place_touch_1_x1_ok ql qf)) ?_
    exact oF hF [] []

/-! ### beaconfleet/place.touch -/
def place_touch_x1_k : Bool → AEx
  | _ => .normal

def place_touch_x1_S (ql : List api_Spot) (qm : List api_Spot) : Bool → St
  | vx => Mem.st ⟨[], []⟩ (tl [(4, .v (.one (.d (.bool vx))))]) 0

def place_touch_x1_I (ql : List api_Spot) (qm : List api_Spot) : St := Mem.st ⟨[], [(0, [.d (.lst (List.map api_Spot.enc qm))])]⟩ (tl [(0, .v (.one (.d (.lst (List.map api_Spot.enc ql))))), (3, .v (.one (.box 0 0)))]) 1

theorem place_touch_x1_ok (ql : List api_Spot) (qm : List api_Spot) {r} (hF : place_touch_x1 ql qm = some r) : Awp prog 0 24 (cL (cR (cB f26))) (Out 0 place_touch_x1_k (place_touch_x1_S ql qm) r) (place_touch_x1_I ql qm) := by
  unfold place_touch_x1 at hF
  refine bE hF fun vy h1 hF => ?_
  refine bE hF fun vr1 h2 hF => ?_
  refine cE hF (fun h3 hF => ?_) fun h3 hF => ?_
  · refine aD ?_
    refine dR 2 ?_
    refine dX (x_idx api_Spot.enc h1) ?_
    refine dR 1 ?_
    refine dC (place_where_ok h2) [] [] [] ?_
    refine dB h3 ?_
    refine dR 14 ?_
    refine dE ?_
    exact oO hF [] [] rfl
  · refine bE hF fun vy1 h4 hF => ?_
    refine bE hF fun vr1_1 h5 hF => ?_
    refine cE hF (fun h6 hF => ?_) fun h6 hF => ?_
    · refine aD ?_
      refine dR 2 ?_
      refine dX (x_idx api_Spot.enc h1) ?_
      refine dR 1 ?_
      refine dC (place_where_ok h2) [] [] [] ?_
      refine dB h3 ?_
      refine dR 3 ?_
      refine dX (x_idx api_Spot.enc h4) ?_
      refine dR 1 ?_
      refine dC (place_where_ok h5) [] [] [] ?_
      refine dB h6 ?_
      refine dR 7 ?_
      refine dE ?_
      exact oO hF [] [] rfl
    · refine bE hF fun vr2 h7 hF => ?_
      refine aD ?_
      refine dR 2 ?_
      refine dX (x_idx api_Spot.enc h1) ?_
      refine dR 1 ?_
      refine dC (place_where_ok h2) [] [] [] ?_
      refine dB h3 ?_
      refine dR 3 ?_
      refine dX (x_idx api_Spot.enc h4) ?_
      refine dR 1 ?_
      refine dC (place_where_ok h5) [] [] [] ?_
      refine dB h6 ?_
      refine dR 4 ?_
      refine dC (place_edges_f1_place_touch_1_ok h7) [] [] [] ?_
      refine dR 2 ?_
      refine dE ?_
      exact oO hF [] [] rfl

def place_touch_R (ql : List api_Spot) (qm : List api_Spot) (r : Bool) : TV × Mem := (.v (.one (.d (.bool r))), ⟨[], []⟩)

theorem place_touch_ok {ql : List api_Spot} {qm : List api_Spot} {r} (hF : place_touch ql qm = some r) : Holds prog 26 [.v (.one (.d (.lst (List.map api_Spot.enc ql)))), .v (.one (.d (.lst (List.map api_Spot.enc qm))))] ⟨[], []⟩ (Is (place_touch_R ql qm r)) := by
  unfold place_touch at hF
  refine holds_of_awp hΓ (fn := f26) (c := cB f26) (A := 0) (nx := 0) (by kernel_rfl) (by kernel_rfl) (by kernel_rfl) (by kernel_rfl) (by kernel_rfl) (by kernel_rfl) (lowc_of (by kernel_rfl)) ?_
  show Awp prog 0 24 (cB f26) _ _
  refine awp_seq ?_
  refine awp_region ?_
  refine aR 2 ?_
  refine aE ?_
  refine awp_seq ?_
  refine awp_to (st' := place_touch_x1_I ql qm) (oT [] []) ?_
  refine bE hF fun vx1 h8 hF => ?_
  refine awp_sub (place_touch_x1_ok ql qm h8) ?_
  refine awp_ret ?_
  exact oF hF [] []

/-! ### beaconfleet/place.Meet -/
def place_Meet_R (qf : api_Fence) (qg : api_Fence) (r : Bool × Int) : TV × Mem := (.tup [.one (.d (.bool r.1)), .one (.d (.int .i64 r.2))], ⟨[], []⟩)

theorem place_Meet_ok {qf : api_Fence} {qg : api_Fence} {r} (hF : place_Meet qf qg = some r) : Holds prog 7 [.v (.agg [.d (.str qf.Key), .d (.lst (List.map api_Spot.enc qf.Corners))]), .v (.agg [.d (.str qg.Key), .d (.lst (List.map api_Spot.enc qg.Corners))])] ⟨[], []⟩ (Is (place_Meet_R qf qg r)) := by
  unfold place_Meet at hF
  refine holds_of_awp hΓ (fn := f7) (c := cB f7) (A := 0) (nx := 0) (by kernel_rfl) (by kernel_rfl) (by kernel_rfl) (by kernel_rfl) (by kernel_rfl) (by kernel_rfl) (lowc_of (by kernel_rfl)) ?_
  show Awp prog 0 21 (cB f7) _ _
  refine awp_seq ?_
  refine awp_region ?_
  refine aR 4 ?_
  refine aE ?_
  refine awp_seq ?_
  refine awp_seq ?_
  refine bE hF fun vr3 h1 hF => ?_
  refine bE hF fun vr3_1 h2 hF => ?_
  refine bE hF fun vr h3 hF => ?_
  refine aD ?_
  refine dR 1 ?_
  refine dC (place_CheckFence_ok h1) [] [] [] ?_
  refine dR 1 ?_
  refine dC (place_CheckFence_ok h2) [] [] [] ?_
  refine dR 1 ?_
  refine dC (base_First_ok h3) [] [] [8000] ?_
  refine dR 1 ?_
  refine dE ?_
  refine awp_seq ?_
  refine awp_region ?_
  refine aR 2 ?_
  refine aE ?_
  refine cE hF (fun h4 hF => ?_) fun h4 hF => ?_
  · refine awp_true (by kernel_rfl) h4 ?_
    refine awp_seq ?_
    refine awp_region ?_
    refine aR 3 ?_
    refine aE ?_
    refine awp_ret ?_
    exact oF hF [] []
  · refine awp_false (by kernel_rfl) h4 ?_
    refine awp_skip ?_
    refine awp_seq ?_
    refine bE hF fun vr1 h5 hF => ?_
    refine awp_region ?_
    refine aR 4 ?_
    refine aC (place_touch_ok h5) [] [] [] ?_
    refine aR 2 ?_
    refine aE ?_
    refine awp_ret ?_
    exact oF hF [] []

/-! ### beaconfleet/place.cellBox -/
def place_cellBox_x1_k : (api_Spot × Int) → AEx
  | _ => .exit 0

def place_cellBox_x1_S (qkey : List UInt8) : (api_Spot × Int) → St
  | (vs1, vlong1) => Mem.st ⟨[], [(0, [.d (.int .i64 0), .d (.int .i64 0)]), (1, [.d (.int .i64 vs1.X), .d (.int .i64 vs1.Y)])]⟩ (tl [(2, .v (.one (.box 0 0))), (4, .v (.one (.box 1 0))), (5, .v (.one (.d (.int .i64 vlong1))))]) 2

def place_cellBox_x1_H (qkey : List UInt8) : api_Spot × Int × Int → St
  | (vs, vlong, vx) => Mem.st ⟨[], [(0, [.d (.int .i64 0), .d (.int .i64 0)]), (1, [.d (.int .i64 vs.X), .d (.int .i64 vs.Y)])]⟩ (tl [(0, .v (.one (.d (.str qkey)))), (2, .v (.one (.box 0 0))), (4, .v (.one (.box 1 0))), (5, .v (.one (.d (.int .i64 vlong)))), (9, .v (.one (.d (.int .i64 (qkey.length : Int))))), (10, .v (.one (.d (.int .i64 vx))))]) 2

theorem place_cellBox_x1_ok (qkey : List UInt8) (s : api_Spot × Int × Int) (r : (api_Spot × Int × Int) ⊕ ((api_Spot × Int))) (hF : place_cellBox_x1 qkey s = some r) : Awp prog 0 42 (cL (cL (cR (cL (cR (cR (cB f36))))))) (Out 0 (kk place_cellBox_x1_k) (SS (place_cellBox_x1_H qkey) (place_cellBox_x1_S qkey)) r) (place_cellBox_x1_H qkey s) := by
  obtain ⟨vs, vlong, vx⟩ := s
  unfold place_cellBox_x1 at hF
  refine awp_seq ?_
  refine awp_region ?_
  refine aR 1 ?_
  refine aE ?_
  refine awp_seq ?_
  refine cE hF (fun h1 hF => ?_) fun h1 hF => ?_
  · refine awp_true (by kernel_rfl) h1 ?_
    refine awp_skip ?_
    refine awp_seq ?_
    refine awp_block ?_
    refine awp_seq ?_
    refine awp_region ?_
    refine aR 2 ?_
    refine aE ?_
    refine awp_seq ?_
    refine awp_region ?_
    refine aR 3 ?_
    refine aE ?_
    refine awp_seq ?_
    refine bE hF fun vc1 h2 hF => ?_
    refine aD ?_
    refine dR 4 ?_
    refine dX (x_idxS h2) ?_
    refine dR 8 ?_
    refine dE ?_
    refine aD ?_
    refine dR 4 ?_
    refine dX (x_idxS h2) ?_
    refine dR 8 ?_
    refine dE ?_
    refine awp_region ?_
    refine aR 2 ?_
    refine aE ?_
    exact oO hF [] [] rfl
  · refine awp_false (by kernel_rfl) h1 ?_
    refine awp_exit ?_
    exact oO hF [] [] rfl

def place_cellBox_R (qkey : List UInt8) (r : api_Spot × Int) : TV × Mem := (.tup [.agg [.d (.int .i64 r.1.X), .d (.int .i64 r.1.Y)], .one (.d (.int .i64 r.2))], ⟨[], []⟩)

theorem place_cellBox_ok {qkey : List UInt8} {r} (hF : place_cellBox qkey = some r) : Holds prog 36 [.v (.one (.d (.str qkey)))] ⟨[], []⟩ (Is (place_cellBox_R qkey r)) := by
  unfold place_cellBox at hF
  refine holds_of_awp hΓ (fn := f36) (c := cB f36) (A := 0) (nx := 0) (by kernel_rfl) (by kernel_rfl) (by kernel_rfl) (by kernel_rfl) (by kernel_rfl) (by kernel_rfl) (lowc_of (by kernel_rfl)) ?_
  show Awp prog 0 42 (cB f36) _ _
  refine awp_seq ?_
  refine awp_region ?_
  refine aR 2 ?_
  refine aE ?_
  refine awp_seq ?_
  refine awp_region ?_
  refine aR 4 ?_
  refine aE ?_
  refine awp_seq ?_
  refine awp_seq ?_
  refine awp_region ?_
  refine aR 3 ?_
  refine aE ?_
  refine awp_block ?_
  refine awp_to (st' := place_cellBox_x1_H qkey (api_Spot.mk (-16384) (-16384), 32768, 0)) (oT [(1, 3000)] []) ?_
  refine bE hF fun x h3 hF => ?_
  obtain ⟨vs1_1, vlong1_1⟩ := x
  refine awp_sub (awp_loop' (place_cellBox_x1_H qkey) place_cellBox_x1_k (place_cellBox_x1_S qkey) (by intro x; exact fun h => nomatch h) h3 (place_cellBox_x1_ok qkey)) ?_
  refine awp_seq ?_
  refine awp_region ?_
  refine aR 4 ?_
  refine aE ?_
  refine awp_ret ?_
  exact oF hF [] []

/-! ### beaconfleet/place.cells -/
def place_cells_o3_R (qx : List api_Spot) (qx1 : List UInt8) (qx2 : Int) (qx3 : List (List UInt8)) (r : (List (List UInt8))) : TV × Mem := (.v (.one (.own 1 none)), ⟨[(1, ⟨9, 1, List.map encS r⟩)], []⟩)

def place_cells_o3_x1_k : Bool → AEx
  | _ => .normal

def place_cells_o3_x1_S (qx : List api_Spot) (qx1 : List UInt8) (qx2 : Int) (qx3 : List (List UInt8)) (vr : api_Spot) (vr1 : Int) : Bool → St
  | vx => Mem.st ⟨[(1, ⟨9, 1, List.map encS qx3⟩)], []⟩ (tl [(0, .v (.one (.d (.lst (List.map api_Spot.enc qx))))), (1, .v (.one (.d (.str qx1)))), (2, .v (.one (.d (.int .i64 qx2)))), (3, .v (.one (.own 1 none))), (52, .v (.one (.d (.bool vx))))]) 2

def place_cells_o3_x1_I (qx : List api_Spot) (qx1 : List UInt8) (qx2 : Int) (qx3 : List (List UInt8)) (vr : api_Spot) (vr1 : Int) : St := Mem.st ⟨[(1, ⟨9, 1, List.map encS qx3⟩)], []⟩ (tl [(0, .v (.one (.d (.lst (List.map api_Spot.enc qx))))), (1, .v (.one (.d (.str qx1)))), (2, .v (.one (.d (.int .i64 qx2)))), (3, .v (.one (.own 1 none))), (11, .v (.one (.d (.lst (List.map api_Spot.enc ([vr, api_Spot.mk (IntKind.wrap .i64 (vr.X + vr1)) vr.Y, api_Spot.mk (IntKind.wrap .i64 (vr.X + vr1)) (IntKind.wrap .i64 (vr.Y + vr1)), api_Spot.mk vr.X (IntKind.wrap .i64 (vr.Y + vr1))] : List api_Spot))))))]) 2

theorem place_cells_o3_x1_ok {recF : (List api_Spot) → (List UInt8) → Int → (List (List UInt8)) → Option ((List (List UInt8)))} (ih : ∀ {qx : List api_Spot} {qx1 : List UInt8} {qx2 : Int} {qx3 : List (List UInt8)} {r}, recF qx qx1 qx2 qx3 = some r → Holds prog 28 [.v (.one (.d (.lst (List.map api_Spot.enc qx)))), .v (.one (.d (.str qx1))), .v (.one (.d (.int .i64 qx2))), .v (.one (.own 0 none))] ⟨[(0, ⟨9, 1, List.map encS qx3⟩)], []⟩ (Is (place_cells_o3_R qx qx1 qx2 qx3 r))) (qx : List api_Spot) (qx1 : List UInt8) (qx2 : Int) (qx3 : List (List UInt8)) (vr : api_Spot) (vr1 : Int) {r} (hF : place_cells_o3_x1 recF qx qx3 vr vr1 = some r) : Awp prog 1 77 (cL (cL (cR (cR (cR (cB f28)))))) (Out 1 place_cells_o3_x1_k (place_cells_o3_x1_S qx qx1 qx2 qx3 vr vr1) r) (place_cells_o3_x1_I qx qx1 qx2 qx3 vr vr1) := by
  unfold place_cells_o3_x1 at hF
  refine cE hF (fun h2 hF => ?_) fun h2 hF => ?_
  · refine awp_region ?_
    refine aR 1 ?_
    refine aL encS qx3 ?_
    refine aB h2 ?_
    refine aR 6 ?_
    refine aE ?_
    exact oO hF [] [] rfl
  · refine bE hF fun vr2 h3 hF => ?_
    refine awp_region ?_
    refine aR 1 ?_
    refine aL encS qx3 ?_
    refine aB h2 ?_
    refine aR 3 ?_
    refine aC (place_touch_ok h3) [] [] [] ?_
    refine aR 2 ?_
    refine aE ?_
    exact oO hF [] [] rfl

def place_cells_o3_x2_k : (List (List UInt8)) → AEx
  | _ => .exit 0

def place_cells_o3_x2_S (qx : List api_Spot) (qx1 : List UInt8) (qx2 : Int) : (List (List UInt8)) → St
  | vx4 => Mem.st ⟨[(1, ⟨9, 1, List.map encS vx4⟩)], []⟩ (tl [(3, .v (.one (.own 1 none)))]) 2

def place_cells_o3_x2_H (qx : List api_Spot) (qx1 : List UInt8) (qx2 : Int) : (List (List UInt8)) × Int → St
  | (vx2, vx3) => Mem.st ⟨[(1, ⟨9, 1, List.map encS vx2⟩)], []⟩ (tl [(0, .v (.one (.d (.lst (List.map api_Spot.enc qx))))), (1, .v (.one (.d (.str qx1)))), (2, .v (.one (.d (.int .i64 qx2)))), (3, .v (.one (.own 1 none))), (62, .v (.one (.d (.lst (List.map encS ([([48] : List UInt8), ([49] : List UInt8), ([50] : List UInt8), ([51] : List UInt8)] : List (List UInt8))))))), (63, .v (.one (.d (.int .i64 (([([48] : List UInt8), ([49] : List UInt8), ([50] : List UInt8), ([51] : List UInt8)] : List (List UInt8)).length : Int))))), (64, .v (.one (.d (.int .i64 vx3))))]) 2

theorem place_cells_o3_x2_ok {recF : (List api_Spot) → (List UInt8) → Int → (List (List UInt8)) → Option ((List (List UInt8)))} (ih : ∀ {qx : List api_Spot} {qx1 : List UInt8} {qx2 : Int} {qx3 : List (List UInt8)} {r}, recF qx qx1 qx2 qx3 = some r → Holds prog 28 [.v (.one (.d (.lst (List.map api_Spot.enc qx)))), .v (.one (.d (.str qx1))), .v (.one (.d (.int .i64 qx2))), .v (.one (.own 0 none))] ⟨[(0, ⟨9, 1, List.map encS qx3⟩)], []⟩ (Is (place_cells_o3_R qx qx1 qx2 qx3 r))) (qx : List api_Spot) (qx1 : List UInt8) (qx2 : Int) (s : (List (List UInt8)) × Int) (r : ((List (List UInt8)) × Int) ⊕ ((List (List UInt8)))) (hF : place_cells_o3_x2 recF qx qx1 qx2 s = some r) : Awp prog 1 77 (cL (cL (cR (cL (cR (cR (cR (cR (cR (cB f28)))))))))) (Out 1 (kk place_cells_o3_x2_k) (SS (place_cells_o3_x2_H qx qx1 qx2) (place_cells_o3_x2_S qx qx1 qx2)) r) (place_cells_o3_x2_H qx qx1 qx2 s) := by
  obtain ⟨vx2, vx3⟩ := s
  unfold place_cells_o3_x2 at hF
  refine awp_seq ?_
  refine awp_region ?_
  refine aR 1 ?_
  refine aE ?_
  refine awp_seq ?_
  refine cE hF (fun h8 hF => ?_) fun h8 hF => ?_
  · refine awp_true (by kernel_rfl) h8 ?_
    refine awp_skip ?_
    refine awp_seq ?_
    refine awp_block ?_
    refine awp_seq ?_
    refine bE hF fun vy1 h9 hF => ?_
    refine awp_region ?_
    refine aX (x_idx encS h9) ?_
    refine aR 2 ?_
    refine aE ?_
    refine gE hF fun h10 hF => ?_
    refine bE hF fun vr3_1 h11 hF => ?_
    refine awp_region ?_
    refine aR 3 ?_
    refine aX (x_cat h10) ?_
    refine aR 2 ?_
    refine aC (ih h11) [(0, 1)] [] [] ?_
    refine aR 1 ?_
    refine aE ?_
    refine awp_region ?_
    refine aR 2 ?_
    refine aE ?_
    exact oO hF [(1, 10003)] [] rfl
  · refine awp_false (by kernel_rfl) h8 ?_
    refine awp_exit ?_
    exact oO hF [] [] rfl

theorem place_cells_o3_n_ok (n : Nat) : ∀ {qx : List api_Spot} {qx1 : List UInt8} {qx2 : Int} {qx3 : List (List UInt8)} {r}, place_cells_o3_n n qx qx1 qx2 qx3 = some r → Holds prog 28 [.v (.one (.d (.lst (List.map api_Spot.enc qx)))), .v (.one (.d (.str qx1))), .v (.one (.d (.int .i64 qx2))), .v (.one (.own 0 none))] ⟨[(0, ⟨9, 1, List.map encS qx3⟩)], []⟩ (Is (place_cells_o3_R qx qx1 qx2 qx3 r)) := by
  induction n with
  | zero => intro qx qx1 qx2 qx3 r hF; exact nE hF
  | succ n ih =>
    intro qx qx1 qx2 qx3 r hF
    unfold place_cells_o3_n at hF
    refine holds_of_awp hΓ (fn := f28) (c := cB f28) (A := 1) (nx := 1) (by kernel_rfl) (by kernel_rfl) (by kernel_rfl) (by kernel_rfl) (by kernel_rfl) (by kernel_rfl) (lowc_of (by kernel_rfl)) ?_
    show Awp prog 1 77 (cB f28) _ _
    refine awp_seq ?_
    refine awp_region ?_
    refine aR 1 ?_
    refine aE ?_
    refine awp_seq ?_
    refine bE hF fun x h1 hF => ?_
    obtain ⟨vr, vr1⟩ := x
    refine awp_region ?_
    refine aR 1 ?_
    refine aC (place_cellBox_ok h1) [] [] [] ?_
    refine aR 6 ?_
    refine aE ?_
    refine awp_seq ?_
    refine awp_region ?_
    refine aR 26 ?_
    refine aE ?_
    refine awp_to (oT (m := ⟨[(1, ⟨9, 1, List.map encS qx3⟩)], []⟩) (ts := [(0, .v (.one (.d (.lst (List.map api_Spot.enc qx))))), (1, .v (.one (.d (.str qx1)))), (2, .v (.one (.d (.int .i64 qx2)))), (3, .v (.one (.own 1 none))), (11, .v (.one (.d (.lst (List.map api_Spot.enc ([vr, api_Spot.mk (IntKind.wrap .i64 (vr.X + vr1)) vr.Y, api_Spot.mk (IntKind.wrap .i64 (vr.X + vr1)) (IntKind.wrap .i64 (vr.Y + vr1)), api_Spot.mk vr.X (IntKind.wrap .i64 (vr.Y + vr1))] : List api_Spot))))))]) (nx := 2) [(1, 0)] []) ?_
    refine awp_seq ?_
    refine awp_seq ?_
    refine awp_to (st' := place_cells_o3_x1_I qx qx1 qx2 qx3 vr vr1) (oT [] []) ?_
    refine bE hF fun vx1 h4 hF => ?_
    refine awp_sub (place_cells_o3_x1_ok @ih qx qx1 qx2 qx3 vr vr1 h4) ?_
    refine cE hF (fun h5 hF => ?_) fun h5 hF => ?_
    · refine awp_true (by kernel_rfl) h5 ?_
      refine awp_seq ?_
      refine awp_region ?_
      refine aR 2 ?_
      refine aE ?_
      refine awp_ret ?_
      exact oF hF [] []
    · refine awp_false (by kernel_rfl) h5 ?_
      refine awp_skip ?_
      refine awp_seq ?_
      refine awp_seq ?_
      refine awp_region ?_
      refine aR 4 ?_
      refine aE ?_
      refine cE hF (fun h6 hF => ?_) fun h6 hF => ?_
      · refine awp_true (by kernel_rfl) h6 ?_
        refine awp_seq ?_
        refine gE hF fun h7 hF => ?_
        refine awp_region ?_
        refine aR 3 ?_
        refine aX (x_app encS 1 h7) ?_
        refine aR 1 ?_
        refine aE ?_
        refine awp_ret ?_
        exact oF hF [(1, 7002)] []
      · refine awp_false (by kernel_rfl) h6 ?_
        refine awp_skip ?_
        refine awp_seq ?_
        refine awp_seq ?_
        refine awp_region ?_
        refine aR 1 ?_
        refine aL encS ([([48] : List UInt8), ([49] : List UInt8), ([50] : List UInt8), ([51] : List UInt8)] : List (List UInt8)) ?_
        refine aR 1 ?_
        refine aE ?_
        refine awp_to (oT (m := ⟨[(1, ⟨9, 1, List.map encS qx3⟩)], []⟩) (ts := [(0, .v (.one (.d (.lst (List.map api_Spot.enc qx))))), (1, .v (.one (.d (.str qx1)))), (2, .v (.one (.d (.int .i64 qx2)))), (3, .v (.one (.own 1 none))), (62, .v (.one (.d (.lst (List.map encS ([([48] : List UInt8), ([49] : List UInt8), ([50] : List UInt8), ([51] : List UInt8)] : List (List UInt8))))))), (63, .v (.one (.d (.int .i64 (([([48] : List UInt8), ([49] : List UInt8), ([50] : List UInt8), ([51] : List UInt8)] : List (List UInt8)).length : Int))))), (64, .v (.one (.d (.int .i64 0))))]) (nx := 2) [] []) ?_
        refine awp_block ?_
        refine awp_to (st' := place_cells_o3_x2_H qx qx1 qx2 (qx3, 0)) (oT [] []) ?_
        refine bE hF fun vx4_1 h12 hF => ?_
        refine awp_sub (awp_loop' (place_cells_o3_x2_H qx qx1 qx2) place_cells_o3_x2_k (place_cells_o3_x2_S qx qx1 qx2) (by intro x; exact fun h => nomatch h) h12 (place_cells_o3_x2_ok @ih qx qx1 qx2)) ?_
        refine awp_seq ?_
        refine awp_region ?_
        refine aR 2 ?_
        refine aE ?_
        refine awp_ret ?_
        exact oF hF [] []

theorem place_cells_o3_ok {qx : List api_Spot} {qx1 : List UInt8} {qx2 : Int} {qx3 : List (List UInt8)} {r} (hF : place_cells_o3 qx qx1 qx2 qx3 = some r) : Holds prog 28 [.v (.one (.d (.lst (List.map api_Spot.enc qx)))), .v (.one (.d (.str qx1))), .v (.one (.d (.int .i64 qx2))), .v (.one (.own 0 none))] ⟨[(0, ⟨9, 1, List.map encS qx3⟩)], []⟩ (Is (place_cells_o3_R qx qx1 qx2 qx3 r)) :=
  let ⟨n, h⟩ := fixO_some hF
  place_cells_o3_n_ok n h

/-! ### beaconfleet/place.cells -/
def place_cells_n3_R (qx : List api_Spot) (qx1 : List UInt8) (qx2 : Int) (r : (List (List UInt8))) : TV × Mem := (.v (.one (.own 0 none)), ⟨[(0, ⟨9, 1, List.map encS r⟩)], []⟩)

def place_cells_n3_x1_k : Bool → AEx
  | _ => .normal

def place_cells_n3_x1_S (qx : List api_Spot) (qx1 : List UInt8) (qx2 : Int) (vr : api_Spot) (vr1 : Int) : Bool → St
  | vx => Mem.st ⟨[], []⟩ (tl [(0, .v (.one (.d (.lst (List.map api_Spot.enc qx))))), (1, .v (.one (.d (.str qx1)))), (2, .v (.one (.d (.int .i64 qx2)))), (3, .v (.one (.nil))), (52, .v (.one (.d (.bool vx))))]) 0

def place_cells_n3_x1_I (qx : List api_Spot) (qx1 : List UInt8) (qx2 : Int) (vr : api_Spot) (vr1 : Int) : St := Mem.st ⟨[], []⟩ (tl [(0, .v (.one (.d (.lst (List.map api_Spot.enc qx))))), (1, .v (.one (.d (.str qx1)))), (2, .v (.one (.d (.int .i64 qx2)))), (3, .v (.one (.nil))), (11, .v (.one (.d (.lst (List.map api_Spot.enc ([vr, api_Spot.mk (IntKind.wrap .i64 (vr.X + vr1)) vr.Y, api_Spot.mk (IntKind.wrap .i64 (vr.X + vr1)) (IntKind.wrap .i64 (vr.Y + vr1)), api_Spot.mk vr.X (IntKind.wrap .i64 (vr.Y + vr1))] : List api_Spot))))))]) 0

theorem place_cells_n3_x1_ok {recF : (List api_Spot) → (List UInt8) → Int → Option ((List (List UInt8)))} (ih : ∀ {qx : List api_Spot} {qx1 : List UInt8} {qx2 : Int} {r}, recF qx qx1 qx2 = some r → Holds prog 28 [.v (.one (.d (.lst (List.map api_Spot.enc qx)))), .v (.one (.d (.str qx1))), .v (.one (.d (.int .i64 qx2))), .v (.one (.nil))] ⟨[], []⟩ (Is (place_cells_n3_R qx qx1 qx2 r))) (qx : List api_Spot) (qx1 : List UInt8) (qx2 : Int) (vr : api_Spot) (vr1 : Int) {r} (hF : place_cells_n3_x1 recF qx vr vr1 = some r) : Awp prog 0 77 (cL (cL (cR (cR (cR (cB f28)))))) (Out 0 place_cells_n3_x1_k (place_cells_n3_x1_S qx qx1 qx2 vr vr1) r) (place_cells_n3_x1_I qx qx1 qx2 vr vr1) := by
  unfold place_cells_n3_x1 at hF
  refine cE hF (fun h2 hF => ?_) fun h2 hF => ?_
  · refine awp_region ?_
    refine aR 2 ?_
    refine aB h2 ?_
    refine aR 6 ?_
    refine aE ?_
    exact oO hF [] [] rfl
  · refine bE hF fun vr2 h3 hF => ?_
    refine awp_region ?_
    refine aR 2 ?_
    refine aB h2 ?_
    refine aR 3 ?_
    refine aC (place_touch_ok h3) [] [] [] ?_
    refine aR 2 ?_
    refine aE ?_
    exact oO hF [] [] rfl

def place_cells_n3_x2_k : (List (List UInt8)) → AEx
  | _ => .exit 0

def place_cells_n3_x2_S (qx : List api_Spot) (qx1 : List UInt8) (qx2 : Int) : (List (List UInt8)) → St
  | vx4 => Mem.st ⟨[(0, ⟨9, 1, List.map encS vx4⟩)], []⟩ (tl [(3, .v (.one (.own 0 none)))]) 1

def place_cells_n3_x2_H (qx : List api_Spot) (qx1 : List UInt8) (qx2 : Int) : (List (List UInt8)) × Int → St
  | (vx2, vx3) => Mem.st ⟨[(0, ⟨9, 1, List.map encS vx2⟩)], []⟩ (tl [(0, .v (.one (.d (.lst (List.map api_Spot.enc qx))))), (1, .v (.one (.d (.str qx1)))), (2, .v (.one (.d (.int .i64 qx2)))), (3, .v (.one (.own 0 none))), (62, .v (.one (.d (.lst (List.map encS ([([48] : List UInt8), ([49] : List UInt8), ([50] : List UInt8), ([51] : List UInt8)] : List (List UInt8))))))), (63, .v (.one (.d (.int .i64 (([([48] : List UInt8), ([49] : List UInt8), ([50] : List UInt8), ([51] : List UInt8)] : List (List UInt8)).length : Int))))), (64, .v (.one (.d (.int .i64 vx3))))]) 1

theorem place_cells_n3_x2_ok {recF : (List api_Spot) → (List UInt8) → Int → Option ((List (List UInt8)))} (ih : ∀ {qx : List api_Spot} {qx1 : List UInt8} {qx2 : Int} {r}, recF qx qx1 qx2 = some r → Holds prog 28 [.v (.one (.d (.lst (List.map api_Spot.enc qx)))), .v (.one (.d (.str qx1))), .v (.one (.d (.int .i64 qx2))), .v (.one (.nil))] ⟨[], []⟩ (Is (place_cells_n3_R qx qx1 qx2 r))) (qx : List api_Spot) (qx1 : List UInt8) (qx2 : Int) (s : (List (List UInt8)) × Int) (r : ((List (List UInt8)) × Int) ⊕ ((List (List UInt8)))) (hF : place_cells_n3_x2 recF qx qx1 qx2 s = some r) : Awp prog 0 77 (cL (cL (cR (cL (cR (cR (cR (cR (cR (cB f28)))))))))) (Out 0 (kk place_cells_n3_x2_k) (SS (place_cells_n3_x2_H qx qx1 qx2) (place_cells_n3_x2_S qx qx1 qx2)) r) (place_cells_n3_x2_H qx qx1 qx2 s) := by
  obtain ⟨vx2, vx3⟩ := s
  unfold place_cells_n3_x2 at hF
  refine awp_seq ?_
  refine awp_region ?_
  refine aR 1 ?_
  refine aE ?_
  refine awp_seq ?_
  refine cE hF (fun h7 hF => ?_) fun h7 hF => ?_
  · refine awp_true (by kernel_rfl) h7 ?_
    refine awp_skip ?_
    refine awp_seq ?_
    refine awp_block ?_
    refine awp_seq ?_
    refine bE hF fun vy1 h8 hF => ?_
    refine awp_region ?_
    refine aX (x_idx encS h8) ?_
    refine aR 2 ?_
    refine aE ?_
    refine gE hF fun h9 hF => ?_
    refine bE hF fun vr4_1 h10 hF => ?_
    refine awp_region ?_
    refine aR 3 ?_
    refine aX (x_cat h9) ?_
    refine aR 2 ?_
    refine aC (place_cells_o3_ok h10) [] [] [] ?_
    refine aR 1 ?_
    refine aE ?_
    refine awp_region ?_
    refine aR 2 ?_
    refine aE ?_
    exact oO hF [(0, 10002)] [] rfl
  · refine awp_false (by kernel_rfl) h7 ?_
    refine awp_exit ?_
    exact oO hF [] [] rfl

theorem place_cells_n3_n_ok (n : Nat) : ∀ {qx : List api_Spot} {qx1 : List UInt8} {qx2 : Int} {r}, place_cells_n3_n n qx qx1 qx2 = some r → Holds prog 28 [.v (.one (.d (.lst (List.map api_Spot.enc qx)))), .v (.one (.d (.str qx1))), .v (.one (.d (.int .i64 qx2))), .v (.one (.nil))] ⟨[], []⟩ (Is (place_cells_n3_R qx qx1 qx2 r)) := by
  induction n with
  | zero => intro qx qx1 qx2 r hF; exact nE hF
  | succ n ih =>
    intro qx qx1 qx2 r hF
    unfold place_cells_n3_n at hF
    refine holds_of_awp hΓ (fn := f28) (c := cB f28) (A := 0) (nx := 0) (by kernel_rfl) (by kernel_rfl) (by kernel_rfl) (by kernel_rfl) (by kernel_rfl) (by kernel_rfl) (lowc_of (by kernel_rfl)) ?_
    show Awp prog 0 77 (cB f28) _ _
    refine awp_seq ?_
    refine awp_region ?_
    refine aR 1 ?_
    refine aE ?_
    refine awp_seq ?_
    refine bE hF fun x h1 hF => ?_
    obtain ⟨vr, vr1⟩ := x
    refine awp_region ?_
    refine aR 1 ?_
    refine aC (place_cellBox_ok h1) [] [] [] ?_
    refine aR 6 ?_
    refine aE ?_
    refine awp_seq ?_
    refine awp_region ?_
    refine aR 26 ?_
    refine aE ?_
    refine awp_to (oT (m := ⟨[], []⟩) (ts := [(0, .v (.one (.d (.lst (List.map api_Spot.enc qx))))), (1, .v (.one (.d (.str qx1)))), (2, .v (.one (.d (.int .i64 qx2)))), (3, .v (.one (.nil))), (11, .v (.one (.d (.lst (List.map api_Spot.enc ([vr, api_Spot.mk (IntKind.wrap .i64 (vr.X + vr1)) vr.Y, api_Spot.mk (IntKind.wrap .i64 (vr.X + vr1)) (IntKind.wrap .i64 (vr.Y + vr1)), api_Spot.mk vr.X (IntKind.wrap .i64 (vr.Y + vr1))] : List api_Spot))))))]) (nx := 0) [] []) ?_
    refine awp_seq ?_
    refine awp_seq ?_
    refine awp_to (st' := place_cells_n3_x1_I qx qx1 qx2 vr vr1) (oT [] []) ?_
    refine bE hF fun vx1 h4 hF => ?_
    refine awp_sub (place_cells_n3_x1_ok @ih qx qx1 qx2 vr vr1 h4) ?_
    refine cE hF (fun h5 hF => ?_) fun h5 hF => ?_
    · refine awp_true (by kernel_rfl) h5 ?_
      refine awp_seq ?_
      refine awp_region ?_
      refine aR 2 ?_
      refine aE ?_
      refine awp_ret ?_
      exact oF hF [] [0]
    · refine awp_false (by kernel_rfl) h5 ?_
      refine awp_skip ?_
      refine awp_seq ?_
      refine awp_seq ?_
      refine awp_region ?_
      refine aR 4 ?_
      refine aE ?_
      refine cE hF (fun h6 hF => ?_) fun h6 hF => ?_
      · refine awp_true (by kernel_rfl) h6 ?_
        refine awp_seq ?_
        refine awp_region ?_
        refine aR 3 ?_
        refine aX (x_appN encS ([qx1] : List (List UInt8)) (by kernel_rfl)) ?_
        refine aR 1 ?_
        refine aE ?_
        refine awp_ret ?_
        exact oF hF [(0, 7000)] []
      · refine awp_false (by kernel_rfl) h6 ?_
        refine awp_skip ?_
        refine awp_seq ?_
        refine awp_seq ?_
        refine awp_region ?_
        refine aR 1 ?_
        refine aL encS ([([48] : List UInt8), ([49] : List UInt8), ([50] : List UInt8), ([51] : List UInt8)] : List (List UInt8)) ?_
        refine aR 1 ?_
        refine aE ?_
        refine awp_to (oT (m := ⟨[], []⟩) (ts := [(0, .v (.one (.d (.lst (List.map api_Spot.enc qx))))), (1, .v (.one (.d (.str qx1)))), (2, .v (.one (.d (.int .i64 qx2)))), (3, .v (.one (.nil))), (62, .v (.one (.d (.lst (List.map encS ([([48] : List UInt8), ([49] : List UInt8), ([50] : List UInt8), ([51] : List UInt8)] : List (List UInt8))))))), (63, .v (.one (.d (.int .i64 (([([48] : List UInt8), ([49] : List UInt8), ([50] : List UInt8), ([51] : List UInt8)] : List (List UInt8)).length : Int))))), (64, .v (.one (.d (.int .i64 0))))]) (nx := 0) [] []) ?_
        refine awp_block ?_
        refine awp_to (st' := place_cells_n3_x2_H qx qx1 qx2 ([], 0)) (oT [] [0]) ?_
        refine bE hF fun vx4_1 h11 hF => ?_
        refine awp_sub (awp_loop' (place_cells_n3_x2_H qx qx1 qx2) place_cells_n3_x2_k (place_cells_n3_x2_S qx qx1 qx2) (by intro x; exact fun h => nomatch h) h11 (place_cells_n3_x2_ok @ih qx qx1 qx2)) ?_
        refine awp_seq ?_
        refine awp_region ?_
        refine aR 2 ?_
        refine aE ?_
        refine awp_ret ?_
        exact oF hF [] []

theorem place_cells_n3_ok {qx : List api_Spot} {qx1 : List UInt8} {qx2 : Int} {r} (hF : place_cells_n3 qx qx1 qx2 = some r) : Holds prog 28 [.v (.one (.d (.lst (List.map api_Spot.enc qx)))), .v (.one (.d (.str qx1))), .v (.one (.d (.int .i64 qx2))), .v (.one (.nil))] ⟨[], []⟩ (Is (place_cells_n3_R qx qx1 qx2 r)) :=
  let ⟨n, h⟩ := fixO_some hF
  place_cells_n3_n_ok n h

/-! ### beaconfleet/place.Cells -/
def place_Cells_R (qf : api_Fence) (qlevel : Int) (r : (List (List UInt8)) × Int) : TV × Mem := (.tup [.one (.own 0 none), .one (.d (.int .i64 r.2))], ⟨[(0, ⟨9, 1, List.map encS r.1⟩)], []⟩)

theorem place_Cells_ok {qf : api_Fence} {qlevel : Int} {r} (hF : place_Cells qf qlevel = some r) : Holds prog 8 [.v (.agg [.d (.str qf.Key), .d (.lst (List.map api_Spot.enc qf.Corners))]), .v (.one (.d (.int .i64 qlevel)))] ⟨[], []⟩ (Is (place_Cells_R qf qlevel r)) := by
  unfold place_Cells at hF
  refine holds_of_awp hΓ (fn := f8) (c := cB f8) (A := 0) (nx := 0) (by kernel_rfl) (by kernel_rfl) (by kernel_rfl) (by kernel_rfl) (by kernel_rfl) (by kernel_rfl) (lowc_of (by kernel_rfl)) ?_
  show Awp prog 0 23 (cB f8) _ _
  refine awp_seq ?_
  refine awp_region ?_
  refine aR 3 ?_
  refine aE ?_
  refine awp_seq ?_
  refine awp_seq ?_
  refine bE hF fun vr3 h1 hF => ?_
  refine awp_region ?_
  refine aR 1 ?_
  refine aC (place_CheckFence_ok h1) [] [] [] ?_
  refine aR 1 ?_
  refine aE ?_
  refine awp_seq ?_
  refine awp_region ?_
  refine aR 2 ?_
  refine aE ?_
  refine cE hF (fun h2 hF => ?_) fun h2 hF => ?_
  · refine awp_true (by kernel_rfl) h2 ?_
    refine awp_seq ?_
    refine awp_region ?_
    refine aR 3 ?_
    refine aE ?_
    refine awp_ret ?_
    exact oF hF [] [0]
  · refine awp_false (by kernel_rfl) h2 ?_
    refine awp_skip ?_
    refine awp_seq ?_
    refine awp_seq ?_
    refine bE hF fun vr h3 hF => ?_
    refine awp_region ?_
    refine aR 1 ?_
    refine aC (base_Out_ok h3) [] [] [] ?_
    refine aE ?_
    refine cE hF (fun h4 hF => ?_) fun h4 hF => ?_
    · refine awp_true (by kernel_rfl) h4 ?_
      refine awp_seq ?_
      refine awp_region ?_
      refine aR 2 ?_
      refine aE ?_
      refine awp_ret ?_
      exact oF hF [] [0]
    · refine awp_false (by kernel_rfl) h4 ?_
      refine awp_skip ?_
      refine awp_seq ?_
      refine bE hF fun vr3_1 h5 hF => ?_
      refine awp_region ?_
      refine aR 3 ?_
      refine aC (place_cells_n3_ok h5) [] [] [] ?_
      refine aR 1 ?_
      refine aE ?_
      refine awp_seq ?_
      refine awp_seq ?_
      refine awp_region ?_
      refine aR 1 ?_
      refine aL encS vr3_1 ?_
      refine aR 1 ?_
      refine aE ?_
      refine cE hF (fun h6 hF => ?_) fun h6 hF => ?_
      · refine awp_true (by kernel_rfl) h6 ?_
        refine awp_seq ?_
        refine awp_region ?_
        refine aR 2 ?_
        refine aE ?_
        refine awp_ret ?_
        exact oF hF [] [0]
      · refine awp_false (by kernel_rfl) h6 ?_
        refine awp_skip ?_
        refine awp_seq ?_
        refine awp_region ?_
        refine aR 3 ?_
        refine aE ?_
        refine awp_ret ?_
        exact oF hF [(0, 13000)] []

/-! ### beaconfleet/base.Moment -/
def base_Moment_R (qn : Int) (r : Bool) : TV × Mem := (.v (.one (.d (.bool r))), ⟨[], []⟩)

theorem base_Moment_ok {qn : Int} {r} (hF : base_Moment qn = some r) : Holds prog 105 [.v (.one (.d (.int .i64 qn)))] ⟨[], []⟩ (Is (base_Moment_R qn r)) := by
  unfold base_Moment at hF
  refine holds_of_awp hΓ (fn := f105) (c := cB f105) (A := 0) (nx := 0) (by kernel_rfl) (by kernel_rfl) (by kernel_rfl) (by kernel_rfl) (by kernel_rfl) (by kernel_rfl) (lowc_of (by kernel_rfl)) ?_
  show Awp prog 0 6 (cB f105) _ _
  refine awp_seq ?_
  refine awp_region ?_
  refine aR 1 ?_
  refine aE ?_
  refine awp_seq ?_
  refine bE hF fun vr h1 hF => ?_
  refine awp_region ?_
  refine aR 1 ?_
  refine aC (base_Out_ok h1) [] [] [] ?_
  refine aR 2 ?_
  refine aE ?_
  refine awp_ret ?_
  exact oF hF [] []

/-! ### internal/bytealg.CompareString -/
def bytealg_CompareString_R (qa : List UInt8) (qb : List UInt8) (r : Unit) : TV × Mem := (.v (.one (.d (.int .i64 (Lib.compareBytes qa qb)))), ⟨[], []⟩)

theorem bytealg_CompareString_ok {qa : List UInt8} {qb : List UInt8} {r} (hF : bytealg_CompareString qa qb = some r) : Holds prog 139 [.v (.one (.d (.str qa))), .v (.one (.d (.str qb)))] ⟨[], []⟩ (Is (bytealg_CompareString_R qa qb r)) := by
  unfold bytealg_CompareString at hF
  refine holds_of_awp hΓ (fn := f139) (c := cB f139) (A := 0) (nx := 0) (by kernel_rfl) (by kernel_rfl) (by kernel_rfl) (by kernel_rfl) (by kernel_rfl) (by kernel_rfl) (lowc_of (by kernel_rfl)) ?_
  show Awp prog 0 8 (cB f139) _ _
  refine awp_seq ?_
  refine awp_region ?_
  refine aR 1 ?_
  refine aE ?_
  refine awp_seq ?_
  refine awp_region ?_
  refine aR 2 ?_
  refine aS (does_cmpstring (g := 165) (fn := f165) (a := qa) (b := qb) rfl (by kernel_rfl) (by kernel_rfl) (by kernel_rfl) (by kernel_rfl) (by kernel_rfl) (by kernel_rfl)) ?_
  refine aR 1 ?_
  refine aE ?_
  refine awp_ret ?_
  exact oF hF [] []

/-! ### strings.Compare -/
def strings_Compare_R (qa : List UInt8) (qb : List UInt8) (r : Unit) : TV × Mem := (.v (.one (.d (.int .i64 (Lib.compareBytes qa qb)))), ⟨[], []⟩)

theorem strings_Compare_ok {qa : List UInt8} {qb : List UInt8} {r} (hF : strings_Compare qa qb = some r) : Holds prog 110 [.v (.one (.d (.str qa))), .v (.one (.d (.str qb)))] ⟨[], []⟩ (Is (strings_Compare_R qa qb r)) := by
  unfold strings_Compare at hF
  refine holds_of_awp hΓ (fn := f110) (c := cB f110) (A := 0) (nx := 0) (by kernel_rfl) (by kernel_rfl) (by kernel_rfl) (by kernel_rfl) (by kernel_rfl) (by kernel_rfl) (lowc_of (by kernel_rfl)) ?_
  show Awp prog 0 8 (cB f110) _ _
  refine awp_seq ?_
  refine awp_region ?_
  refine aR 1 ?_
  refine aE ?_
  refine awp_seq ?_
  refine bE hF fun _ h1 hF => ?_
  refine awp_region ?_
  refine aR 2 ?_
  refine aC (bytealg_CompareString_ok h1) [] [] [] ?_
  refine aR 1 ?_
  refine aE ?_
  refine awp_ret ?_
  exact oF hF [] []

/-! ### cmp.Or[int] -/
def cmp_Or_int_x1_k : Unit ⊕ Int → AEx
  | .inl _ => .exit 0
  | .inr _ => .ret

def cmp_Or_int_x1_S (qvals : List Int) : Unit ⊕ Int → St
  | .inl _ => Mem.st ⟨[], []⟩ (tl [(3, .v (.one (.d (.int .i64 0))))]) 0
  | .inr vx1 => Mem.st ⟨[], []⟩ (tl [(2, .v (.one (.d (.int .i64 vx1))))]) 0

def cmp_Or_int_x1_H (qvals : List Int) : Int → St
  | vx => Mem.st ⟨[], []⟩ (tl [(3, .v (.one (.d (.int .i64 0)))), (6, .v (.one (.d (.lst (List.map (encI .i64) qvals))))), (7, .v (.one (.d (.int .i64 (qvals.length : Int))))), (8, .v (.one (.d (.int .i64 vx))))]) 0

theorem cmp_Or_int_x1_ok (qvals : List Int) (vx : Int) (r : (Int) ⊕ (Unit ⊕ Int)) (hF : cmp_Or_int_x1 qvals vx = some r) : Awp prog 0 18 (cL (cL (cR (cL (cR (cR (cB f109))))))) (Out 0 (kk cmp_Or_int_x1_k) (SS (cmp_Or_int_x1_H qvals) (cmp_Or_int_x1_S qvals)) r) (cmp_Or_int_x1_H qvals vx) := by
  unfold cmp_Or_int_x1 at hF
  refine awp_seq ?_
  refine awp_region ?_
  refine aR 1 ?_
  refine aE ?_
  refine awp_seq ?_
  refine cE hF (fun h1 hF => ?_) fun h1 hF => ?_
  · refine awp_true (by kernel_rfl) h1 ?_
    refine awp_skip ?_
    refine awp_seq ?_
    refine awp_block ?_
    refine awp_seq ?_
    refine bE hF fun vy1 h2 hF => ?_
    refine awp_region ?_
    refine aX (x_idx (encI .i64) h2) ?_
    refine aR 2 ?_
    refine aE ?_
    refine awp_seq ?_
    refine awp_region ?_
    refine aR 3 ?_
    refine aE ?_
    refine cE hF (fun h3 hF => ?_) fun h3 hF => ?_
    · refine awp_true (by kernel_rfl) h3 ?_
      refine awp_seq ?_
      refine awp_region ?_
      refine aR 2 ?_
      refine aE ?_
      refine awp_ret ?_
      exact oO hF [] [] rfl
    · refine awp_false (by kernel_rfl) h3 ?_
      refine awp_skip ?_
      refine awp_region ?_
      refine aR 2 ?_
      refine aE ?_
      exact oO hF [] [] rfl
  · refine awp_false (by kernel_rfl) h1 ?_
    refine awp_exit ?_
    exact oO hF [] [] rfl

def cmp_Or_int_R (qvals : List Int) (r : Int) : TV × Mem := (.v (.one (.d (.int .i64 r))), ⟨[], []⟩)

theorem cmp_Or_int_ok {qvals : List Int} {r} (hF : cmp_Or_int qvals = some r) : Holds prog 109 [.v (.one (.d (.lst (List.map (encI .i64) qvals))))] ⟨[], []⟩ (Is (cmp_Or_int_R qvals r)) := by
  unfold cmp_Or_int at hF
  refine holds_of_awp hΓ (fn := f109) (c := cB f109) (A := 0) (nx := 0) (by kernel_rfl) (by kernel_rfl) (by kernel_rfl) (by kernel_rfl) (by kernel_rfl) (by kernel_rfl) (lowc_of (by kernel_rfl)) ?_
  show Awp prog 0 18 (cB f109) _ _
  refine awp_seq ?_
  refine awp_region ?_
  refine aR 1 ?_
  refine aE ?_
  refine awp_seq ?_
  refine awp_region ?_
  refine aR 1 ?_
  refine aE ?_
  refine awp_seq ?_
  refine awp_seq ?_
  refine awp_region ?_
  refine aR 1 ?_
  refine aL (encI .i64) qvals ?_
  refine aR 1 ?_
  refine aE ?_
  refine awp_block ?_
  refine awp_to (st' := cmp_Or_int_x1_H qvals 0) (oT [] []) ?_
  refine bE hF fun x h4 hF => ?_
  rcases x with _ | vx1_1
  · refine awp_sub (awp_loop' (cmp_Or_int_x1_H qvals) cmp_Or_int_x1_k (cmp_Or_int_x1_S qvals) (by intro x; rcases x with x | x <;> exact fun h => nomatch h) h4 (cmp_Or_int_x1_ok qvals)) ?_
    refine awp_seq ?_
    refine awp_region ?_
    refine aR 2 ?_
    refine aE ?_
    refine awp_ret ?_
    exact oF hF [] []
  · refine awp_sub (awp_loop' (cmp_Or_int_x1_H qvals) cmp_Or_int_x1_k (cmp_Or_int_x1_S qvals) (by intro x; rcases x with x | x <;> exact fun h => nomatch h) h4 (cmp_Or_int_x1_ok qvals)) ?_
    exact oF hF [] []

/-! ### beaconfleet/series.byDevice -/
def series_byDevice_R (qa : api_Sample) (qb : api_Sample) (r : Int) : TV × Mem := (.v (.one (.d (.int .i64 r))), ⟨[], []⟩)

theorem series_byDevice_ok {qa : api_Sample} {qb : api_Sample} {r} (hF : series_byDevice qa qb = some r) : Holds prog 114 [.v (.agg [.d (.str qa.Device), .d (.str qa.Metric), .d (.int .i64 qa.At), .d (.int .i64 qa.Value)]), .v (.agg [.d (.str qb.Device), .d (.str qb.Metric), .d (.int .i64 qb.At), .d (.int .i64 qb.Value)])] ⟨[], []⟩ (Is (series_byDevice_R qa qb r)) := by
  unfold series_byDevice at hF
  refine holds_of_awp hΓ (fn := f114) (c := cB f114) (A := 0) (nx := 0) (by kernel_rfl) (by kernel_rfl) (by kernel_rfl) (by kernel_rfl) (by kernel_rfl) (by kernel_rfl) (lowc_of (by kernel_rfl)) ?_
  show Awp prog 0 22 (cB f114) _ _
  refine awp_seq ?_
  refine awp_region ?_
  refine aR 3 ?_
  refine aE ?_
  refine awp_seq ?_
  refine bE hF fun _ h1 hF => ?_
  refine bE hF fun _ h2 hF => ?_
  refine bE hF fun vr h3 hF => ?_
  refine bE hF fun vr1 h4 hF => ?_
  refine aD ?_
  refine dR 4 ?_
  refine dC (strings_Compare_ok h1) [] [] [] ?_
  refine dR 4 ?_
  refine dC (strings_Compare_ok h2) [] [] [] ?_
  refine dR 4 ?_
  refine dC (cmp_Compare_int_ok h3) [] [] [] ?_
  refine dR 1 ?_
  refine dC (cmp_Or_int_ok h4) [] [] [18000] ?_
  refine dR 1 ?_
  refine dE ?_
  refine awp_ret ?_
  exact oF hF [] []

/-! ### beaconfleet/series.Check -/
def series_Check_x2_k : Bool → AEx
  | _ => .normal

def series_Check_x2_S (ql : List api_Sample) (vx : Int) (vy2 : api_Sample) : Bool → St
  | vx4 => Mem.st ⟨[], [(0, [.d (.str vy2.Device), .d (.str vy2.Metric), .d (.int .i64 vy2.At), .d (.int .i64 vy2.Value)])]⟩ (tl [(0, .v (.one (.d (.lst (List.map api_Sample.enc ql))))), (3, .v (.one (.d (.int .i64 vx)))), (4, .v (.one (.box 0 0))), (8, .v (.one (.d (.lst (List.map api_Sample.enc ql))))), (9, .v (.one (.d (.int .i64 (ql.length : Int))))), (10, .v (.one (.d (.int .i64 vx)))), (15, .v (.one (.d (.bool vx4))))]) 1

def series_Check_x2_I (ql : List api_Sample) (vx : Int) (vy2 : api_Sample) : St := Mem.st ⟨[], [(0, [.d (.str vy2.Device), .d (.str vy2.Metric), .d (.int .i64 vy2.At), .d (.int .i64 vy2.Value)])]⟩ (tl [(0, .v (.one (.d (.lst (List.map api_Sample.enc ql))))), (3, .v (.one (.d (.int .i64 vx)))), (4, .v (.one (.box 0 0))), (8, .v (.one (.d (.lst (List.map api_Sample.enc ql))))), (9, .v (.one (.d (.int .i64 (ql.length : Int))))), (10, .v (.one (.d (.int .i64 vx))))]) 1

theorem series_Check_x2_ok (ql : List api_Sample) (vx : Int) (vy2 : api_Sample) {r} (hF : series_Check_x2 vy2 = some r) : Awp prog 0 50 (cL (cL (cR (cL (cL (cR (cR (cL (cL (cR (cL (cR (cR (cB f86)))))))))))))) (Out 0 series_Check_x2_k (series_Check_x2_S ql vx vy2) r) (series_Check_x2_I ql vx vy2) := by
  unfold series_Check_x2 at hF
  refine bE hF fun vr3 h4 hF => ?_
  refine cE hF (fun h5 hF => ?_) fun h5 hF => ?_
  · refine awp_region ?_
    refine aR 2 ?_
    refine aC (base_Key_ok h4) [] [] [] ?_
    refine aB h5 ?_
    refine aR 7 ?_
    refine aE ?_
    exact oO hF [] [] rfl
  · refine bE hF fun vr4 h6 hF => ?_
    refine awp_region ?_
    refine aR 2 ?_
    refine aC (base_Key_ok h4) [] [] [] ?_
    refine aB h5 ?_
    refine aR 3 ?_
    refine aC (base_Key_ok h6) [] [] [] ?_
    refine aR 3 ?_
    refine aE ?_
    exact oO hF [] [] rfl

def series_Check_x3_k : Bool → AEx
  | _ => .normal

def series_Check_x3_S (ql : List api_Sample) (vx : Int) (vy2 : api_Sample) : Bool → St
  | vx5 => Mem.st ⟨[], [(0, [.d (.str vy2.Device), .d (.str vy2.Metric), .d (.int .i64 vy2.At), .d (.int .i64 vy2.Value)])]⟩ (tl [(0, .v (.one (.d (.lst (List.map api_Sample.enc ql))))), (3, .v (.one (.d (.int .i64 vx)))), (4, .v (.one (.box 0 0))), (8, .v (.one (.d (.lst (List.map api_Sample.enc ql))))), (9, .v (.one (.d (.int .i64 (ql.length : Int))))), (10, .v (.one (.d (.int .i64 vx)))), (26, .v (.one (.d (.bool vx5))))]) 1

def series_Check_x3_I (ql : List api_Sample) (vx : Int) (vy2 : api_Sample) : St := Mem.st ⟨[], [(0, [.d (.str vy2.Device), .d (.str vy2.Metric), .d (.int .i64 vy2.At), .d (.int .i64 vy2.Value)])]⟩ (tl [(0, .v (.one (.d (.lst (List.map api_Sample.enc ql))))), (3, .v (.one (.d (.int .i64 vx)))), (4, .v (.one (.box 0 0))), (8, .v (.one (.d (.lst (List.map api_Sample.enc ql))))), (9, .v (.one (.d (.int .i64 (ql.length : Int))))), (10, .v (.one (.d (.int .i64 vx))))]) 1

theorem series_Check_x3_ok (ql : List api_Sample) (vx : Int) (vy2 : api_Sample) {r} (hF : series_Check_x3 vy2 = some r) : Awp prog 0 50 (cL (cR (cR (cL (cR (cL (cL (cR (cR (cL (cL (cR (cL (cR (cR (cB f86)))))))))))))))) (Out 0 series_Check_x3_k (series_Check_x3_S ql vx vy2) r) (series_Check_x3_I ql vx vy2) := by
  unfold series_Check_x3 at hF
  refine bE hF fun vr1_2 h9 hF => ?_
  refine cE hF (fun h10 hF => ?_) fun h10 hF => ?_
  · refine awp_region ?_
    refine aR 2 ?_
    refine aC (base_Moment_ok h9) [] [] [] ?_
    refine aB h10 ?_
    refine aR 6 ?_
    refine aE ?_
    exact oO hF [] [] rfl
  · refine bE hF fun vr5 h11 hF => ?_
    refine awp_region ?_
    refine aR 2 ?_
    refine aC (base_Moment_ok h9) [] [] [] ?_
    refine aB h10 ?_
    refine aR 3 ?_
    refine aC (base_Out_ok h11) [] [] [] ?_
    refine aR 2 ?_
    refine aE ?_
    exact oO hF [] [] rfl

def series_Check_x4_k : Bool → AEx
  | _ => .normal

def series_Check_x4_S (ql : List api_Sample) (vx : Int) (vy2 : api_Sample) : Bool → St
  | vx6 => Mem.st ⟨[], []⟩ (tl [(0, .v (.one (.d (.lst (List.map api_Sample.enc ql))))), (8, .v (.one (.d (.lst (List.map api_Sample.enc ql))))), (9, .v (.one (.d (.int .i64 (ql.length : Int))))), (10, .v (.one (.d (.int .i64 vx)))), (36, .v (.one (.d (.bool vx6))))]) 0

def series_Check_x4_I (ql : List api_Sample) (vx : Int) (vy2 : api_Sample) : St := Mem.st ⟨[], [(0, [.d (.str vy2.Device), .d (.str vy2.Metric), .d (.int .i64 vy2.At), .d (.int .i64 vy2.Value)])]⟩ (tl [(0, .v (.one (.d (.lst (List.map api_Sample.enc ql))))), (3, .v (.one (.d (.int .i64 vx)))), (4, .v (.one (.box 0 0))), (8, .v (.one (.d (.lst (List.map api_Sample.enc ql))))), (9, .v (.one (.d (.int .i64 (ql.length : Int))))), (10, .v (.one (.d (.int .i64 vx))))]) 1

theorem series_Check_x4_ok (ql : List api_Sample) (vx : Int) (vy2 : api_Sample) {r} (hF : series_Check_x4 ql vx vy2 = some r) : Awp prog 0 50 (cL (cR (cR (cR (cR (cL (cR (cL (cL (cR (cR (cL (cL (cR (cL (cR (cR (cB f86)))))))))))))))))) (Out 0 series_Check_x4_k (series_Check_x4_S ql vx vy2) r) (series_Check_x4_I ql vx vy2) := by
  unfold series_Check_x4 at hF
  refine cE hF (fun h14 hF => ?_) fun h14 hF => ?_
  · refine bE hF fun vy3 h15 hF => ?_
    refine bE hF fun vr2_2 h16 hF => ?_
    refine aD ?_
    refine dR 1 ?_
    refine dB h14 ?_
    refine dR 5 ?_
    refine dX (x_idx api_Sample.enc h15) ?_
    refine dR 1 ?_
    refine dC (series_byDevice_ok h16) [] [] [] ?_
    refine dR 3 ?_
    refine dE ?_
    exact oO hF [] [] rfl
  · refine aD ?_
    refine dR 1 ?_
    refine dB h14 ?_
    refine dR 11 ?_
    refine dE ?_
    exact oO hF [] [] rfl

def series_Check_x1_k : Unit ⊕ Int → AEx
  | .inl _ => .exit 0
  | .inr _ => .ret

def series_Check_x1_S (ql : List api_Sample) : Unit ⊕ Int → St
  | .inl _ => Mem.st ⟨[], []⟩ (tl []) 0
  | .inr vx7 => Mem.st ⟨[], []⟩ (tl [(2, .v (.one (.d (.int .i64 vx7))))]) 0

def series_Check_x1_H (ql : List api_Sample) : Int → St
  | vx => Mem.st ⟨[], []⟩ (tl [(0, .v (.one (.d (.lst (List.map api_Sample.enc ql))))), (8, .v (.one (.d (.lst (List.map api_Sample.enc ql))))), (9, .v (.one (.d (.int .i64 (ql.length : Int))))), (10, .v (.one (.d (.int .i64 vx))))]) 0

theorem series_Check_x1_ok (ql : List api_Sample) (vx : Int) (r : (Int) ⊕ (Unit ⊕ Int)) (hF : series_Check_x1 ql vx = some r) : Awp prog 0 50 (cL (cL (cR (cL (cR (cR (cB f86))))))) (Out 0 (kk series_Check_x1_k) (SS (series_Check_x1_H ql) (series_Check_x1_S ql)) r) (series_Check_x1_H ql vx) := by
  unfold series_Check_x1 at hF
  refine awp_seq ?_
  refine awp_region ?_
  refine aR 1 ?_
  refine aE ?_
  refine awp_seq ?_
  refine cE hF (fun h2 hF => ?_) fun h2 hF => ?_
  · refine awp_true (by kernel_rfl) h2 ?_
    refine awp_skip ?_
    refine awp_seq ?_
    refine awp_block ?_
    refine awp_seq ?_
    refine bE hF fun vy2 h3 hF => ?_
    refine awp_region ?_
    refine aR 1 ?_
    refine aX (x_idx api_Sample.enc h3) ?_
    refine aR 4 ?_
    refine aE ?_
    refine awp_block ?_
    refine awp_seq ?_
    refine awp_to (st' := series_Check_x2_I ql vx vy2) (oT [(0, 4000)] []) ?_
    refine bE hF fun vx4_1 h7 hF => ?_
    refine awp_sub (series_Check_x2_ok ql vx vy2 h7) ?_
    refine cE hF (fun h8 hF => ?_) fun h8 hF => ?_
    · refine awp_true (by kernel_rfl) h8 ?_
      refine awp_seq ?_
      refine awp_region ?_
      refine aR 1 ?_
      refine aE ?_
      refine awp_ret ?_
      exact oO hF [] [] rfl
    · refine awp_false (by kernel_rfl) h8 ?_
      refine awp_seq ?_
      refine awp_to (st' := series_Check_x3_I ql vx vy2) (oT [] []) ?_
      refine bE hF fun vx5_1 h12 hF => ?_
      refine awp_sub (series_Check_x3_ok ql vx vy2 h12) ?_
      refine cE hF (fun h13 hF => ?_) fun h13 hF => ?_
      · refine awp_true (by kernel_rfl) h13 ?_
        refine awp_seq ?_
        refine awp_region ?_
        refine aR 1 ?_
        refine aE ?_
        refine awp_ret ?_
        exact oO hF [] [] rfl
      · refine awp_false (by kernel_rfl) h13 ?_
        refine awp_seq ?_
        refine awp_to (st' := series_Check_x4_I ql vx vy2) (oT [] []) ?_
        refine bE hF fun vx6_1 h17 hF => ?_
        refine awp_sub (series_Check_x4_ok ql vx vy2 h17) ?_
        refine cE hF (fun h18 hF => ?_) fun h18 hF => ?_
        · refine awp_true (by kernel_rfl) h18 ?_
          refine awp_seq ?_
          refine awp_region ?_
          refine aR 1 ?_
          refine aE ?_
          refine awp_ret ?_
          exact oO hF [] [] rfl
        · refine awp_false (by kernel_rfl) h18 ?_
          refine awp_skip ?_
          refine awp_region ?_
          refine aR 2 ?_
          refine aE ?_
          exact oO hF [] [] rfl
  · refine awp_false (by kernel_rfl) h2 ?_
    refine awp_exit ?_
    exact oO hF [] [] rfl

def series_Check_R (ql : List api_Sample) (r : Int) : TV × Mem := (.v (.one (.d (.int .i64 r))), ⟨[], []⟩)

theorem series_Check_ok {ql : List api_Sample} {r} (hF : series_Check ql = some r) : Holds prog 86 [.v (.one (.d (.lst (List.map api_Sample.enc ql))))] ⟨[], []⟩ (Is (series_Check_R ql r)) := by
  unfold series_Check at hF
  refine holds_of_awp hΓ (fn := f86) (c := cB f86) (A := 0) (nx := 0) (by kernel_rfl) (by kernel_rfl) (by kernel_rfl) (by kernel_rfl) (by kernel_rfl) (by kernel_rfl) (lowc_of (by kernel_rfl)) ?_
  show Awp prog 0 50 (cB f86) _ _
  refine awp_seq ?_
  refine awp_region ?_
  refine aR 1 ?_
  refine aE ?_
  refine awp_seq ?_
  refine awp_seq ?_
  refine awp_region ?_
  refine aR 1 ?_
  refine aL api_Sample.enc ql ?_
  refine aR 1 ?_
  refine aE ?_
  refine cE hF (fun h1 hF => ?_) fun h1 hF => ?_
  · refine awp_true (by kernel_rfl) h1 ?_
    refine awp_seq ?_
    refine awp_region ?_
    refine aR 1 ?_
    refine aE ?_
    refine awp_ret ?_
    exact oF hF [] []
  · refine awp_false (by kernel_rfl) h1 ?_
    refine awp_skip ?_
    refine awp_seq ?_
    refine awp_seq ?_
    refine awp_region ?_
    refine aR 1 ?_
    refine aL api_Sample.enc ql ?_
    refine aR 1 ?_
    refine aE ?_
    refine awp_block ?_
    refine awp_to (st' := series_Check_x1_H ql 0) (oT [] []) ?_
    refine bE hF fun x h19 hF => ?_
    rcases x with _ | vx7_1
    · refine awp_sub (awp_loop' (series_Check_x1_H ql) series_Check_x1_k (series_Check_x1_S ql) (by intro x; rcases x with x | x <;> exact fun h => nomatch h) h19 (series_Check_x1_ok ql)) ?_
      refine awp_seq ?_
      refine awp_region ?_
      refine aR 1 ?_
      refine aE ?_
      refine awp_ret ?_
      exact oF hF [] []
    · refine awp_sub (awp_loop' (series_Check_x1_H ql) series_Check_x1_k (series_Check_x1_S ql) (by intro x; rcases x with x | x <;> exact fun h => nomatch h) h19 (series_Check_x1_ok ql)) ?_
      exact oF hF [] []

/-! ### beaconfleet/series.CheckSeries$1 -/
def series_CheckSeries_1_x1_k : Bool → AEx
  | _ => .normal

def series_CheckSeries_1_x1_S (qs : api_Sample) (qx : List api_Sample) : Bool → St
  | vx => Mem.st ⟨[], [(0, [.d (.lst (List.map api_Sample.enc qx))])]⟩ (tl [(3, .v (.one (.d (.bool vx))))]) 1

def series_CheckSeries_1_x1_I (qs : api_Sample) (qx : List api_Sample) : St := Mem.st ⟨[], [(0, [.d (.lst (List.map api_Sample.enc qx))]), (1, [.d (.str qs.Device), .d (.str qs.Metric), .d (.int .i64 qs.At), .d (.int .i64 qs.Value)])]⟩ (tl [(1, .v (.one (.box 0 0))), (2, .v (.one (.box 1 0)))]) 2

theorem series_CheckSeries_1_x1_ok (qs : api_Sample) (qx : List api_Sample) {r} (hF : series_CheckSeries_1_x1 qs qx = some r) : Awp prog 1 20 (cL (cR (cB f88))) (Out 1 series_CheckSeries_1_x1_k (series_CheckSeries_1_x1_S qs qx) r) (series_CheckSeries_1_x1_I qs qx) := by
  unfold series_CheckSeries_1_x1 at hF
  refine bE hF fun vy h1 hF => ?_
  refine cE hF (fun h2 hF => ?_) fun h2 hF => ?_
  · refine aD ?_
    refine dR 3 ?_
    refine dX (x_idx api_Sample.enc h1) ?_
    refine dR 2 ?_
    refine dB h2 ?_
    refine dR 10 ?_
    refine dE ?_
    exact oO hF [] [] rfl
  · refine aD ?_
    refine dR 3 ?_
    refine dX (x_idx api_Sample.enc h1) ?_
    refine dR 2 ?_
    refine dB h2 ?_
    refine dR 4 ?_
    refine dX (x_idx api_Sample.enc h1) ?_
    refine dR 5 ?_
    refine dE ?_
    exact oO hF [] [] rfl

def series_CheckSeries_1_R (qs : api_Sample) (qx : List api_Sample) (r : Bool) : TV × Mem := (.v (.one (.d (.bool r))), ⟨[], [(0, [.d (.lst (List.map api_Sample.enc qx))])]⟩)

theorem series_CheckSeries_1_ok {qs : api_Sample} {qx : List api_Sample} {r} (hF : series_CheckSeries_1 qs qx = some r) : Holds prog 88 [.v (.agg [.d (.str qs.Device), .d (.str qs.Metric), .d (.int .i64 qs.At), .d (.int .i64 qs.Value)]), .v (.one (.box 0 0))] ⟨[], [(0, [.d (.lst (List.map api_Sample.enc qx))])]⟩ (Is (series_CheckSeries_1_R qs qx r)) := by
  unfold series_CheckSeries_1 at hF
  refine holds_of_awp hΓ (fn := f88) (c := cB f88) (A := 1) (nx := 1) (by kernel_rfl) (by kernel_rfl) (by kernel_rfl) (by kernel_rfl) (by kernel_rfl) (by kernel_rfl) (lowc_of (by kernel_rfl)) ?_
  show Awp prog 1 20 (cB f88) _ _
  refine awp_seq ?_
  refine awp_region ?_
  refine aR 2 ?_
  refine aE ?_
  refine awp_seq ?_
  refine awp_to (st' := series_CheckSeries_1_x1_I qs qx) (oT [] []) ?_
  refine bE hF fun vx1 h3 hF => ?_
  refine awp_sub (series_CheckSeries_1_x1_ok qs qx h3) ?_
  refine awp_ret ?_
  exact oF hF [] []

/-! ### slices.IndexFunc[[]beaconfleet/api.Sample,beaconfleet/api.Sample] -/
def slices_IndexFunc_api_Sample_api_Sample_f1_series_CheckSeries_1_x1_k : Unit ⊕ Int → AEx
  | .inl _ => .exit 0
  | .inr _ => .ret

def slices_IndexFunc_api_Sample_api_Sample_f1_series_CheckSeries_1_x1_S (qs : List api_Sample) : Unit ⊕ Int → St
  | .inl _ => Mem.st ⟨[], [(0, [.d (.lst (List.map api_Sample.enc qs))])]⟩ (tl []) 1
  | .inr vx1 => Mem.st ⟨[], [(0, [.d (.lst (List.map api_Sample.enc qs))])]⟩ (tl [(4, .v (.one (.d (.int .i64 vx1))))]) 1

def slices_IndexFunc_api_Sample_api_Sample_f1_series_CheckSeries_1_x1_H (qs : List api_Sample) : Int → St
  | vx => Mem.st ⟨[], [(0, [.d (.lst (List.map api_Sample.enc qs))])]⟩ (tl [(0, .v (.one (.d (.lst (List.map api_Sample.enc qs))))), (1, .v (.one (.fn 88 [0]))), (7, .v (.one (.d (.int .i64 (qs.length : Int))))), (8, .v (.one (.d (.int .i64 vx))))]) 1

theorem slices_IndexFunc_api_Sample_api_Sample_f1_series_CheckSeries_1_x1_ok (qs : List api_Sample) (vx : Int) (r : (Int) ⊕ (Unit ⊕ Int)) (hF : slices_IndexFunc_api_Sample_api_Sample_f1_series_CheckSeries_1_x1 qs vx = some r) : Awp prog 1 19 (cL (cL (cR (cL (cR (cB f115)))))) (Out 1 (kk slices_IndexFunc_api_Sample_api_Sample_f1_series_CheckSeries_1_x1_k) (SS (slices_IndexFunc_api_Sample_api_Sample_f1_series_CheckSeries_1_x1_H qs) (slices_IndexFunc_api_Sample_api_Sample_f1_series_CheckSeries_1_x1_S qs)) r) (slices_IndexFunc_api_Sample_api_Sample_f1_series_CheckSeries_1_x1_H qs vx) := by
  unfold slices_IndexFunc_api_Sample_api_Sample_f1_series_CheckSeries_1_x1 at hF
  refine awp_seq ?_
  refine awp_region ?_
  refine aR 1 ?_
  refine aE ?_
  refine awp_seq ?_
  refine cE hF (fun h1 hF => ?_) fun h1 hF => ?_
  · refine awp_true (by kernel_rfl) h1 ?_
    refine awp_skip ?_
    refine awp_seq ?_
    refine awp_block ?_
    refine awp_seq ?_
    refine awp_region ?_
    refine aR 2 ?_
    refine aE ?_
    refine awp_seq ?_
    refine bE hF fun vy1 h2 hF => ?_
    refine bE hF fun vr1 h3 hF => ?_
    refine awp_region ?_
    refine aR 3 ?_
    refine aX (x_idx api_Sample.enc h2) ?_
    refine aR 1 ?_
    refine aC (series_CheckSeries_1_ok h3) [] [] [] ?_
    refine aE ?_
    refine cE hF (fun h4 hF => ?_) fun h4 hF => ?_
    · refine awp_true (by kernel_rfl) h4 ?_
      refine awp_seq ?_
      refine awp_region ?_
      refine aR 2 ?_
      refine aE ?_
      refine awp_ret ?_
      exact oO hF [] [] rfl
    · refine awp_false (by kernel_rfl) h4 ?_
      refine awp_skip ?_
      refine awp_region ?_
      refine aR 2 ?_
      refine aE ?_
      exact oO hF [] [] rfl
  · refine awp_false (by kernel_rfl) h1 ?_
    refine awp_exit ?_
    exact oO hF [] [] rfl

def slices_IndexFunc_api_Sample_api_Sample_f1_series_CheckSeries_1_R (qs : List api_Sample) (r : Int) : TV × Mem := (.v (.one (.d (.int .i64 r))), ⟨[], [(0, [.d (.lst (List.map api_Sample.enc qs))])]⟩)

theorem slices_IndexFunc_api_Sample_api_Sample_f1_series_CheckSeries_1_ok {qs : List api_Sample} {r} (hF : slices_IndexFunc_api_Sample_api_Sample_f1_series_CheckSeries_1 qs = some r) : Holds prog 115 [.v (.one (.d (.lst (List.map api_Sample.enc qs)))), .v (.one (.fn 88 [0]))] ⟨[], [(0, [.d (.lst (List.map api_Sample.enc qs))])]⟩ (Is (slices_IndexFunc_api_Sample_api_Sample_f1_series_CheckSeries_1_R qs r)) := by
  unfold slices_IndexFunc_api_Sample_api_Sample_f1_series_CheckSeries_1 at hF
  refine holds_of_awp hΓ (fn := f115) (c := cB f115) (A := 1) (nx := 1) (by kernel_rfl) (by kernel_rfl) (by kernel_rfl) (by kernel_rfl) (by kernel_rfl) (by kernel_rfl) (lowc_of (by kernel_rfl)) ?_
  show Awp prog 1 19 (cB f115) _ _
  refine awp_seq ?_
  refine awp_region ?_
  refine aR 1 ?_
  refine aE ?_
  refine awp_seq ?_
  refine awp_seq ?_
  refine awp_region ?_
  refine aR 1 ?_
  refine aL api_Sample.enc qs ?_
  refine aR 1 ?_
  refine aE ?_
  refine awp_block ?_
  refine awp_to (st' := slices_IndexFunc_api_Sample_api_Sample_f1_series_CheckSeries_1_x1_H qs 0) (oT [] []) ?_
  refine bE hF fun x h5 hF => ?_
  rcases x with _ | vx1_1
  · refine awp_sub (awp_loop' (slices_IndexFunc_api_Sample_api_Sample_f1_series_CheckSeries_1_x1_H qs) slices_IndexFunc_api_Sample_api_Sample_f1_series_CheckSeries_1_x1_k (slices_IndexFunc_api_Sample_api_Sample_f1_series_CheckSeries_1_x1_S qs) (by intro x; rcases x with x | x <;> exact fun h => nomatch h) h5 (slices_IndexFunc_api_Sample_api_Sample_f1_series_CheckSeries_1_x1_ok qs)) ?_
    refine awp_seq ?_
    refine awp_region ?_
    refine aR 1 ?_
    refine aE ?_
    refine awp_ret ?_
    exact oF hF [] []
  · refine awp_sub (awp_loop' (slices_IndexFunc_api_Sample_api_Sample_f1_series_CheckSeries_1_x1_H qs) slices_IndexFunc_api_Sample_api_Sample_f1_series_CheckSeries_1_x1_k (slices_IndexFunc_api_Sample_api_Sample_f1_series_CheckSeries_1_x1_S qs) (by intro x; rcases x with x | x <;> exact fun h => nomatch h) h5 (slices_IndexFunc_api_Sample_api_Sample_f1_series_CheckSeries_1_x1_ok qs)) ?_
    exact oF hF [] []

/-! ### slices.ContainsFunc[[]beaconfleet/api.Sample,beaconfleet/api.Sample] -/
def slices_ContainsFunc_api_Sample_api_Sample_f1_series_CheckSeries_1_R (qs : List api_Sample) (r : Bool) : TV × Mem := (.v (.one (.d (.bool r))), ⟨[], [(0, [.d (.lst (List.map api_Sample.enc qs))])]⟩)

theorem slices_ContainsFunc_api_Sample_api_Sample_f1_series_CheckSeries_1_ok {qs : List api_Sample} {r} (hF : slices_ContainsFunc_api_Sample_api_Sample_f1_series_CheckSeries_1 qs = some r) : Holds prog 87 [.v (.one (.d (.lst (List.map api_Sample.enc qs)))), .v (.one (.fn 88 [0]))] ⟨[], [(0, [.d (.lst (List.map api_Sample.enc qs))])]⟩ (Is (slices_ContainsFunc_api_Sample_api_Sample_f1_series_CheckSeries_1_R qs r)) := by
  unfold slices_ContainsFunc_api_Sample_api_Sample_f1_series_CheckSeries_1 at hF
  refine holds_of_awp hΓ (fn := f87) (c := cB f87) (A := 1) (nx := 1) (by kernel_rfl) (by kernel_rfl) (by kernel_rfl) (by kernel_rfl) (by kernel_rfl) (by kernel_rfl) (lowc_of (by kernel_rfl)) ?_
  show Awp prog 1 9 (cB f87) _ _
  refine awp_seq ?_
  refine awp_region ?_
  refine aR 1 ?_
  refine aE ?_
  refine awp_seq ?_
  refine bE hF fun vr2 h1 hF => ?_
  refine awp_region ?_
  refine aR 2 ?_
  refine aC (slices_IndexFunc_api_Sample_api_Sample_f1_series_CheckSeries_1_ok h1) [] [] [] ?_
  refine aR 2 ?_
  refine aE ?_
  refine awp_ret ?_
  exact oF hF [] []

/-! ### beaconfleet/series.CheckSeries -/
def series_CheckSeries_R (ql : List api_Sample) (r : Int) : TV × Mem := (.v (.one (.d (.int .i64 r))), ⟨[], []⟩)

theorem series_CheckSeries_ok {ql : List api_Sample} {r} (hF : series_CheckSeries ql = some r) : Holds prog 54 [.v (.one (.d (.lst (List.map api_Sample.enc ql))))] ⟨[], []⟩ (Is (series_CheckSeries_R ql r)) := by
  unfold series_CheckSeries at hF
  refine holds_of_awp hΓ (fn := f54) (c := cB f54) (A := 0) (nx := 0) (by kernel_rfl) (by kernel_rfl) (by kernel_rfl) (by kernel_rfl) (by kernel_rfl) (by kernel_rfl) (lowc_of (by kernel_rfl)) ?_
  show Awp prog 0 12 (cB f54) _ _
  refine awp_seq ?_
  refine awp_region ?_
  refine aR 2 ?_
  refine aE ?_
  refine awp_seq ?_
  refine awp_seq ?_
  refine bE hF fun vr6 h1 hF => ?_
  refine awp_region ?_
  refine aR 1 ?_
  refine aC (series_Check_ok h1) [] [] [] ?_
  refine aR 1 ?_
  refine aE ?_
  refine awp_seq ?_
  refine awp_region ?_
  refine aR 2 ?_
  refine aE ?_
  refine cE hF (fun h2 hF => ?_) fun h2 hF => ?_
  · refine awp_true (by kernel_rfl) h2 ?_
    refine awp_seq ?_
    refine awp_region ?_
    refine aR 2 ?_
    refine aE ?_
    refine awp_ret ?_
    exact oF hF [] []
  · refine awp_false (by kernel_rfl) h2 ?_
    refine awp_skip ?_
    refine awp_seq ?_
    refine awp_seq ?_
    refine bE hF fun vr h3 hF => ?_
    refine awp_region ?_
    refine aR 2 ?_
    refine aC (slices_ContainsFunc_api_Sample_api_Sample_f1_series_CheckSeries_1_ok h3) [] [] [] ?_
    refine aE ?_
    refine cE hF (fun h4 hF => ?_) fun h4 hF => ?_
    · refine awp_true (by kernel_rfl) h4 ?_
      refine awp_seq ?_
      refine awp_region ?_
      refine aR 1 ?_
      refine aE ?_
      refine awp_ret ?_
      exact oF hF [] []
    · refine awp_false (by kernel_rfl) h4 ?_
      refine awp_skip ?_
      refine awp_seq ?_
      refine awp_region ?_
      refine aR 1 ?_
      refine aE ?_
      refine awp_ret ?_
      exact oF hF [] []

/-! ### beaconfleet/series.seven -/
def series_seven_n0_x1_k : ((List Int) × Int) → AEx
  | _ => .exit 0

def series_seven_n0_x1_S : ((List Int) × Int) → St
  | (vb1, vn1) => Mem.st ⟨[(0, ⟨5, 1, List.map (encI .u8) vb1⟩)], []⟩ (tl [(0, .v (.one (.own 0 none))), (1, .v (.one (.d (.int .u64 vn1))))]) 1

def series_seven_n0_x1_H : (List Int) × Int → St
  | (vb, vn) => Mem.st ⟨[(0, ⟨5, 1, List.map (encI .u8) vb⟩)], []⟩ (tl [(0, .v (.one (.own 0 none))), (1, .v (.one (.d (.int .u64 vn))))]) 1

theorem series_seven_n0_x1_ok (s : (List Int) × Int) (r : ((List Int) × Int) ⊕ (((List Int) × Int))) (hF : series_seven_n0_x1  s = some r) : Awp prog 0 21 (cL (cL (cL (cR (cB f89))))) (Out 0 (kk series_seven_n0_x1_k) (SS (series_seven_n0_x1_H ) (series_seven_n0_x1_S )) r) (series_seven_n0_x1_H  s) := by
  obtain ⟨vb, vn⟩ := s
  unfold series_seven_n0_x1 at hF
  refine awp_seq ?_
  refine awp_seq ?_
  refine awp_region ?_
  refine aR 2 ?_
  refine aE ?_
  refine cE hF (fun h1 hF => ?_) fun h1 hF => ?_
  · refine awp_true (by kernel_rfl) h1 ?_
    refine awp_skip ?_
    refine awp_block ?_
    refine gE hF fun h2 hF => ?_
    refine awp_region ?_
    refine aR 6 ?_
    refine aX (x_app (encI .u8) 0 h2) ?_
    refine aR 4 ?_
    refine aE ?_
    exact oO hF [(0, 8001)] [] rfl
  · refine awp_false (by kernel_rfl) h1 ?_
    refine awp_exit ?_
    exact oO hF [] [] rfl

def series_seven_n0_R (qn : Int) (r : (List Int)) : TV × Mem := (.v (.one (.own 0 none)), ⟨[(0, ⟨5, 1, List.map (encI .u8) r⟩)], []⟩)

theorem series_seven_n0_ok {qn : Int} {r} (hF : series_seven_n0 qn = some r) : Holds prog 89 [.v (.one (.nil)), .v (.one (.d (.int .u64 qn)))] ⟨[], []⟩ (Is (series_seven_n0_R qn r)) := by
  unfold series_seven_n0 at hF
  refine holds_of_awp hΓ (fn := f89) (c := cB f89) (A := 0) (nx := 0) (by kernel_rfl) (by kernel_rfl) (by kernel_rfl) (by kernel_rfl) (by kernel_rfl) (by kernel_rfl) (lowc_of (by kernel_rfl)) ?_
  show Awp prog 0 21 (cB f89) _ _
  refine awp_seq ?_
  refine awp_region ?_
  refine aR 1 ?_
  refine aE ?_
  refine awp_seq ?_
  refine awp_block ?_
  refine awp_to (st' := series_seven_n0_x1_H  ([], qn)) (oT [] [0]) ?_
  refine bE hF fun x h3 hF => ?_
  obtain ⟨vb1_1, vn1_1⟩ := x
  refine awp_sub (awp_loop' (series_seven_n0_x1_H ) series_seven_n0_x1_k (series_seven_n0_x1_S ) (by intro x; exact fun h => nomatch h) h3 (series_seven_n0_x1_ok )) ?_
  refine awp_seq ?_
  refine gE hF fun h4 hF => ?_
  refine awp_region ?_
  refine aR 4 ?_
  refine aX (x_app (encI .u8) 0 h4) ?_
  refine aR 1 ?_
  refine aE ?_
  refine awp_ret ?_
  exact oF hF [(0, 4001)] []

/-! ### beaconfleet/series.doubled -/
def series_doubled_R (qn : Int) (r : Int) : TV × Mem := (.v (.one (.d (.int .u64 r))), ⟨[], []⟩)

theorem series_doubled_ok {qn : Int} {r} (hF : series_doubled qn = some r) : Holds prog 90 [.v (.one (.d (.int .i64 qn)))] ⟨[], []⟩ (Is (series_doubled_R qn r)) := by
  unfold series_doubled at hF
  refine holds_of_awp hΓ (fn := f90) (c := cB f90) (A := 0) (nx := 0) (by kernel_rfl) (by kernel_rfl) (by kernel_rfl) (by kernel_rfl) (by kernel_rfl) (by kernel_rfl) (lowc_of (by kernel_rfl)) ?_
  show Awp prog 0 12 (cB f90) _ _
  refine awp_seq ?_
  refine awp_region ?_
  refine aR 1 ?_
  refine aE ?_
  refine awp_seq ?_
  refine awp_seq ?_
  refine awp_region ?_
  refine aR 2 ?_
  refine aE ?_
  refine cE hF (fun h1 hF => ?_) fun h1 hF => ?_
  · refine awp_true (by kernel_rfl) h1 ?_
    refine awp_seq ?_
    refine awp_region ?_
    refine aR 5 ?_
    refine aE ?_
    refine awp_ret ?_
    exact oF hF [] []
  · refine awp_false (by kernel_rfl) h1 ?_
    refine awp_skip ?_
    refine awp_seq ?_
    refine awp_region ?_
    refine aR 4 ?_
    refine aE ?_
    refine awp_ret ?_
    exact oF hF [] []

/-! ### beaconfleet/series.seven -/
def series_seven_o0_x1_k : ((List Int) × Int) → AEx
  | _ => .exit 0

def series_seven_o0_x1_S : ((List Int) × Int) → St
  | (vb1, vn1) => Mem.st ⟨[(1, ⟨5, 1, List.map (encI .u8) vb1⟩)], []⟩ (tl [(0, .v (.one (.own 1 none))), (1, .v (.one (.d (.int .u64 vn1))))]) 2

def series_seven_o0_x1_H : (List Int) × Int → St
  | (vb, vn) => Mem.st ⟨[(1, ⟨5, 1, List.map (encI .u8) vb⟩)], []⟩ (tl [(0, .v (.one (.own 1 none))), (1, .v (.one (.d (.int .u64 vn))))]) 2

theorem series_seven_o0_x1_ok (s : (List Int) × Int) (r : ((List Int) × Int) ⊕ (((List Int) × Int))) (hF : series_seven_o0_x1  s = some r) : Awp prog 1 21 (cL (cL (cL (cR (cB f89))))) (Out 1 (kk series_seven_o0_x1_k) (SS (series_seven_o0_x1_H ) (series_seven_o0_x1_S )) r) (series_seven_o0_x1_H  s) := by
  obtain ⟨vb, vn⟩ := s
  unfold series_seven_o0_x1 at hF
  refine awp_seq ?_
  refine awp_seq ?_
  refine awp_region ?_
  refine aR 2 ?_
  refine aE ?_
  refine cE hF (fun h1 hF => ?_) fun h1 hF => ?_
  · refine awp_true (by kernel_rfl) h1 ?_
    refine awp_skip ?_
    refine awp_block ?_
    refine gE hF fun h2 hF => ?_
    refine awp_region ?_
    refine aR 6 ?_
    refine aX (x_app (encI .u8) 1 h2) ?_
    refine aR 4 ?_
    refine aE ?_
    exact oO hF [(1, 8002)] [] rfl
  · refine awp_false (by kernel_rfl) h1 ?_
    refine awp_exit ?_
    exact oO hF [] [] rfl

def series_seven_o0_R (qb : List Int) (qn : Int) (r : (List Int)) : TV × Mem := (.v (.one (.own 1 none)), ⟨[(1, ⟨5, 1, List.map (encI .u8) r⟩)], []⟩)

theorem series_seven_o0_ok {qb : List Int} {qn : Int} {r} (hF : series_seven_o0 qb qn = some r) : Holds prog 89 [.v (.one (.own 0 none)), .v (.one (.d (.int .u64 qn)))] ⟨[(0, ⟨5, 1, List.map (encI .u8) qb⟩)], []⟩ (Is (series_seven_o0_R qb qn r)) := by
  unfold series_seven_o0 at hF
  refine holds_of_awp hΓ (fn := f89) (c := cB f89) (A := 1) (nx := 1) (by kernel_rfl) (by kernel_rfl) (by kernel_rfl) (by kernel_rfl) (by kernel_rfl) (by kernel_rfl) (lowc_of (by kernel_rfl)) ?_
  show Awp prog 1 21 (cB f89) _ _
  refine awp_seq ?_
  refine awp_region ?_
  refine aR 1 ?_
  refine aE ?_
  refine awp_seq ?_
  refine awp_block ?_
  refine awp_to (st' := series_seven_o0_x1_H  (qb, qn)) (oT [(1, 0)] []) ?_
  refine bE hF fun x h3 hF => ?_
  obtain ⟨vb1_1, vn1_1⟩ := x
  refine awp_sub (awp_loop' (series_seven_o0_x1_H ) series_seven_o0_x1_k (series_seven_o0_x1_S ) (by intro x; exact fun h => nomatch h) h3 (series_seven_o0_x1_ok )) ?_
  refine awp_seq ?_
  refine gE hF fun h4 hF => ?_
  refine awp_region ?_
  refine aR 4 ?_
  refine aX (x_app (encI .u8) 1 h4) ?_
  refine aR 1 ?_
  refine aE ?_
  refine awp_ret ?_
  exact oF hF [(1, 4002)] []

/-! ### beaconfleet/series.pack -/
def series_pack_x2_k : Int → AEx
  | _ => .normal

def series_pack_x2_S (ql : List api_Sample) (vat : Int) (vby : Int) (vx : Int) (vy1 : api_Sample) (vr8 : List Int) : Int → St
  | vby2 => Mem.st ⟨[(1, ⟨5, 1, List.map (encI .u8) vr8⟩)], [(0, [.d (.str vy1.Device), .d (.str vy1.Metric), .d (.int .i64 vy1.At), .d (.int .i64 vy1.Value)])]⟩ (tl [(3, .v (.one (.own 1 none))), (5, .v (.one (.d (.int .i64 vby2)))), (8, .v (.one (.box 0 0))), (14, .v (.one (.d (.lst (List.map api_Sample.enc ql))))), (15, .v (.one (.d (.int .i64 (ql.length : Int))))), (16, .v (.one (.d (.int .i64 vx))))]) 2

def series_pack_x2_I (ql : List api_Sample) (vat : Int) (vby : Int) (vx : Int) (vy1 : api_Sample) (vr8 : List Int) : St := Mem.st ⟨[(1, ⟨5, 1, List.map (encI .u8) vr8⟩)], [(0, [.d (.str vy1.Device), .d (.str vy1.Metric), .d (.int .i64 vy1.At), .d (.int .i64 vy1.Value)])]⟩ (tl [(3, .v (.one (.own 1 none))), (5, .v (.one (.d (.int .i64 vby)))), (7, .v (.one (.d (.int .i64 vx)))), (8, .v (.one (.box 0 0))), (9, .v (.one (.d (.int .i64 (IntKind.wrap .i64 (vy1.At - vat)))))), (14, .v (.one (.d (.lst (List.map api_Sample.enc ql))))), (15, .v (.one (.d (.int .i64 (ql.length : Int))))), (16, .v (.one (.d (.int .i64 vx))))]) 2

theorem series_pack_x2_ok (ql : List api_Sample) (vat : Int) (vby : Int) (vx : Int) (vy1 : api_Sample) (vr8 : List Int) {r} (hF : series_pack_x2 vat vby vx vy1 = some r) : Awp prog 0 47 (cL (cR (cR (cR (cR (cL (cL (cR (cR (cL (cL (cR (cL (cR (cR (cR (cB f55))))))))))))))))) (Out 0 series_pack_x2_k (series_pack_x2_S ql vat vby vx vy1 vr8) r) (series_pack_x2_I ql vat vby vx vy1 vr8) := by
  unfold series_pack_x2 at hF
  refine awp_seq ?_
  refine awp_region ?_
  refine aR 2 ?_
  refine aE ?_
  refine cE hF (fun h8 hF => ?_) fun h8 hF => ?_
  · refine awp_true (by kernel_rfl) h8 ?_
    refine awp_region ?_
    refine aR 2 ?_
    refine aE ?_
    exact oO hF [] [] rfl
  · refine awp_false (by kernel_rfl) h8 ?_
    refine awp_skip ?_
    exact oO hF [] [] rfl

def series_pack_x1_k : (List Int) → AEx
  | _ => .exit 0

def series_pack_x1_S (ql : List api_Sample) : (List Int) → St
  | vout1 => Mem.st ⟨[(0, ⟨5, 1, List.map (encI .u8) vout1⟩)], []⟩ (tl [(3, .v (.one (.own 0 none)))]) 1

def series_pack_x1_H (ql : List api_Sample) : (List Int) × Int × Int × Int × Int → St
  | (vout, vat, vby, vvalue, vx) => Mem.st ⟨[(0, ⟨5, 1, List.map (encI .u8) vout⟩)], []⟩ (tl [(3, .v (.one (.own 0 none))), (4, .v (.one (.d (.int .i64 vat)))), (5, .v (.one (.d (.int .i64 vby)))), (6, .v (.one (.d (.int .i64 vvalue)))), (14, .v (.one (.d (.lst (List.map api_Sample.enc ql))))), (15, .v (.one (.d (.int .i64 (ql.length : Int))))), (16, .v (.one (.d (.int .i64 vx))))]) 1

theorem series_pack_x1_ok (ql : List api_Sample) (s : (List Int) × Int × Int × Int × Int) (r : ((List Int) × Int × Int × Int × Int) ⊕ ((List Int))) (hF : series_pack_x1 ql s = some r) : Awp prog 0 47 (cL (cL (cR (cL (cR (cR (cR (cB f55)))))))) (Out 0 (kk series_pack_x1_k) (SS (series_pack_x1_H ql) (series_pack_x1_S ql)) r) (series_pack_x1_H ql s) := by
  obtain ⟨vout, vat, vby, vvalue, vx⟩ := s
  unfold series_pack_x1 at hF
  refine awp_seq ?_
  refine awp_region ?_
  refine aR 1 ?_
  refine aE ?_
  refine awp_seq ?_
  refine cE hF (fun h2 hF => ?_) fun h2 hF => ?_
  · refine awp_true (by kernel_rfl) h2 ?_
    refine awp_skip ?_
    refine awp_seq ?_
    refine awp_block ?_
    refine awp_seq ?_
    refine bE hF fun vy1 h3 hF => ?_
    refine awp_region ?_
    refine aR 1 ?_
    refine aX (x_idx api_Sample.enc h3) ?_
    refine aR 4 ?_
    refine aE ?_
    refine awp_seq ?_
    refine awp_region ?_
    refine aR 5 ?_
    refine aE ?_
    refine awp_seq ?_
    refine bE hF fun vr5 h4 hF => ?_
    refine bE hF fun vr6 h5 hF => ?_
    refine awp_region ?_
    refine aR 4 ?_
    refine aC (series_doubled_ok h4) [] [] [] ?_
    refine aC (series_seven_o0_ok h5) [] [] [] ?_
    refine aR 1 ?_
    refine aE ?_
    refine awp_seq ?_
    refine bE hF fun vr7 h6 hF => ?_
    refine bE hF fun vr8 h7 hF => ?_
    refine awp_region ?_
    refine aR 5 ?_
    refine aC (series_doubled_ok h6) [] [] [] ?_
    refine aC (series_seven_o0_ok h7) [(0, 17002)] [] [] ?_
    refine aR 1 ?_
    refine aE ?_
    refine awp_seq ?_
    refine awp_to (st' := series_pack_x2_I ql vat vby vx vy1 vr8) (oT [(0, 4001), (1, 25002)] []) ?_
    refine bE hF fun vby2_1 h9 hF => ?_
    refine awp_sub (series_pack_x2_ok ql vat vby vx vy1 vr8 h9) ?_
    refine aD ?_
    refine dR 6 ?_
    refine dE ?_
    refine awp_region ?_
    refine aR 2 ?_
    refine aE ?_
    exact oO hF [(0, 1)] [] rfl
  · refine awp_false (by kernel_rfl) h2 ?_
    refine awp_exit ?_
    exact oO hF [] [] rfl

def series_pack_R (ql : List api_Sample) (r : (List Int)) : TV × Mem := (.v (.one (.own 0 none)), ⟨[(0, ⟨5, 1, List.map (encI .u8) r⟩)], []⟩)

theorem series_pack_ok {ql : List api_Sample} {r} (hF : series_pack ql = some r) : Holds prog 55 [.v (.one (.d (.lst (List.map api_Sample.enc ql))))] ⟨[], []⟩ (Is (series_pack_R ql r)) := by
  unfold series_pack at hF
  refine holds_of_awp hΓ (fn := f55) (c := cB f55) (A := 0) (nx := 0) (by kernel_rfl) (by kernel_rfl) (by kernel_rfl) (by kernel_rfl) (by kernel_rfl) (by kernel_rfl) (lowc_of (by kernel_rfl)) ?_
  show Awp prog 0 47 (cB f55) _ _
  refine awp_seq ?_
  refine awp_region ?_
  refine aR 1 ?_
  refine aE ?_
  refine awp_seq ?_
  refine bE hF fun vr h1 hF => ?_
  refine awp_region ?_
  refine aR 1 ?_
  refine aL api_Sample.enc ql ?_
  refine aR 1 ?_
  refine aC (series_seven_n0_ok h1) [] [] [] ?_
  refine aR 1 ?_
  refine aE ?_
  refine awp_seq ?_
  refine awp_region ?_
  refine aR 3 ?_
  refine aE ?_
  refine awp_seq ?_
  refine awp_seq ?_
  refine awp_region ?_
  refine aR 1 ?_
  refine aL api_Sample.enc ql ?_
  refine aR 1 ?_
  refine aE ?_
  refine awp_block ?_
  refine awp_to (st' := series_pack_x1_H ql (vr, 0, 0, 0, 0)) (oT [(0, 4000)] []) ?_
  refine bE hF fun vout1_1 h10 hF => ?_
  refine awp_sub (awp_loop' (series_pack_x1_H ql) series_pack_x1_k (series_pack_x1_S ql) (by intro x; exact fun h => nomatch h) h10 (series_pack_x1_ok ql)) ?_
  refine awp_seq ?_
  refine awp_region ?_
  refine aR 2 ?_
  refine aE ?_
  refine awp_ret ?_
  exact oF hF [] []

/-! ### beaconfleet/series.Pack -/
def series_Pack_o0_R (ql : List api_Sample) (r : (List Int) × Int) : TV × Mem := (.tup [.one (.own 1 none), .one (.d (.int .i64 r.2))], ⟨[(1, ⟨5, 1, List.map (encI .u8) r.1⟩)], []⟩)

theorem series_Pack_o0_ok {ql : List api_Sample} {r} (hF : series_Pack_o0 ql = some r) : Holds prog 29 [.v (.one (.own 0 none))] ⟨[(0, ⟨65, 4, List.map api_Sample.enc ql⟩)], []⟩ (Is (series_Pack_o0_R ql r)) := by
  unfold series_Pack_o0 at hF
  refine holds_of_awp hΓ (fn := f29) (c := cB f29) (A := 1) (nx := 1) (by kernel_rfl) (by kernel_rfl) (by kernel_rfl) (by kernel_rfl) (by kernel_rfl) (by kernel_rfl) (lowc_of (by kernel_rfl)) ?_
  show Awp prog 1 12 (cB f29) _ _
  refine awp_seq ?_
  refine awp_region ?_
  refine aR 2 ?_
  refine aE ?_
  refine awp_to (oT (m := ⟨[], []⟩) (ts := [(0, .v (.one (.d (.lst (List.map api_Sample.enc ql)))))]) (nx := 1) [] []) ?_
  refine awp_seq ?_
  refine awp_seq ?_
  refine bE hF fun vr1 h1 hF => ?_
  refine awp_region ?_
  refine aR 1 ?_
  refine aC (series_CheckSeries_ok h1) [] [] [] ?_
  refine aR 1 ?_
  refine aE ?_
  refine awp_seq ?_
  refine awp_region ?_
  refine aR 2 ?_
  refine aE ?_
  refine cE hF (fun h2 hF => ?_) fun h2 hF => ?_
  · refine awp_true (by kernel_rfl) h2 ?_
    refine awp_seq ?_
    refine awp_region ?_
    refine aR 3 ?_
    refine aE ?_
    refine awp_ret ?_
    exact oF hF [] [1]
  · refine awp_false (by kernel_rfl) h2 ?_
    refine awp_skip ?_
    refine awp_seq ?_
    refine bE hF fun vr9 h3 hF => ?_
    refine awp_region ?_
    refine aR 1 ?_
    refine aC (series_pack_ok h3) [] [] [] ?_
    refine aR 2 ?_
    refine aE ?_
    refine awp_ret ?_
    exact oF hF [(1, 6001)] []

/-! ### internal/stringslite.IndexByte -/
def stringslite_IndexByte_R (qs : List UInt8) (qc : Int) (r : Unit) : TV × Mem := (.v (.one (.d (.int .i64 (Lib.indexByte qs qc.toNat.toUInt8)))), ⟨[], []⟩)

theorem stringslite_IndexByte_ok {qs : List UInt8} {qc : Int} {r} (hF : stringslite_IndexByte qs qc = some r) : Holds prog 172 [.v (.one (.d (.str qs))), .v (.one (.d (.int .u8 qc)))] ⟨[], []⟩ (Is (stringslite_IndexByte_R qs qc r)) := by
  unfold stringslite_IndexByte at hF
  refine holds_of_awp hΓ (fn := f172) (c := cB f172) (A := 0) (nx := 0) (by kernel_rfl) (by kernel_rfl) (by kernel_rfl) (by kernel_rfl) (by kernel_rfl) (by kernel_rfl) (lowc_of (by kernel_rfl)) ?_
  show Awp prog 0 8 (cB f172) _ _
  refine awp_seq ?_
  refine awp_region ?_
  refine aR 1 ?_
  refine aE ?_
  refine awp_seq ?_
  refine awp_region ?_
  refine aR 2 ?_
  refine aS (does_indexByte (g := 183) (fn := f183) (a := qs) (c := qc) rfl (by kernel_rfl) (by kernel_rfl) (by kernel_rfl) (by kernel_rfl) (by kernel_rfl) (by kernel_rfl)) ?_
  refine aR 1 ?_
  refine aE ?_
  refine awp_ret ?_
  exact oF hF [] []

/-! ### internal/stringslite.Index -/
def stringslite_Index_x1_k : Bool → AEx
  | _ => .normal

def stringslite_Index_x1_S (qx : List UInt8) (qx1 : List UInt8) : Bool → St
  | vx => Mem.st ⟨[], []⟩ (tl [(0, .v (.one (.d (.str qx)))), (1, .v (.one (.d (.str qx1)))), (5, .v (.one (.d (.int .i64 (qx1.length : Int))))), (16, .v (.one (.d (.bool vx))))]) 0

def stringslite_Index_x1_I (qx : List UInt8) (qx1 : List UInt8) : St := Mem.st ⟨[], []⟩ (tl [(0, .v (.one (.d (.str qx)))), (1, .v (.one (.d (.str qx1)))), (5, .v (.one (.d (.int .i64 (qx1.length : Int)))))]) 0

theorem stringslite_Index_x1_ok (qx : List UInt8) (qx1 : List UInt8) {r} (hF : stringslite_Index_x1 qx qx1 = some r) : Awp prog 0 143 (cL (cL (cL (cR (cR (cB f145)))))) (Out 0 stringslite_Index_x1_k (stringslite_Index_x1_S qx qx1) r) (stringslite_Index_x1_I qx qx1) := by
  unfold stringslite_Index_x1 at hF
  refine cE hF (fun h1 hF => ?_) fun h1 hF => ?_
  · refine awp_region ?_
    refine aR 1 ?_
    refine aB h1 ?_
    refine aR 6 ?_
    refine aE ?_
    exact oO hF [] [] rfl
  · refine awp_region ?_
    refine aR 1 ?_
    refine aB h1 ?_
    refine aR 6 ?_
    refine aE ?_
    exact oO hF [] [] rfl

def stringslite_Index_R (qx : List UInt8) (qx1 : List UInt8) (r : Int) : TV × Mem := (.v (.one (.d (.int .i64 r))), ⟨[], []⟩)

theorem stringslite_Index_ok {qx : List UInt8} {qx1 : List UInt8} {r} (hF : stringslite_Index qx qx1 = some r) : Holds prog 145 [.v (.one (.d (.str qx))), .v (.one (.d (.str qx1)))] ⟨[], []⟩ (Is (stringslite_Index_R qx qx1 r)) := by
  unfold stringslite_Index at hF
  refine holds_of_awp hΓ (fn := f145) (c := cB f145) (A := 0) (nx := 0) (by kernel_rfl) (by kernel_rfl) (by kernel_rfl) (by kernel_rfl) (by kernel_rfl) (by kernel_rfl) (lowc_of (by kernel_rfl)) ?_
  show Awp prog 0 143 (cB f145) _ _
  refine awp_seq ?_
  refine awp_region ?_
  refine aR 1 ?_
  refine aE ?_
  refine awp_seq ?_
  refine awp_region ?_
  refine aR 3 ?_
  refine aE ?_
  refine awp_seq ?_
  refine awp_block ?_
  refine awp_seq ?_
  refine awp_to (st' := stringslite_Index_x1_I qx qx1) (oT [] []) ?_
  refine bE hF fun vx1 h2 hF => ?_
  refine awp_sub (stringslite_Index_x1_ok qx qx1 h2) ?_
  refine cE hF (fun h3 hF => ?_) fun h3 hF => ?_
  · refine awp_true (by kernel_rfl) h3 ?_
    refine awp_seq ?_
    refine awp_region ?_
    refine aR 1 ?_
    refine aE ?_
    refine awp_ret ?_
    exact oF hF [] []
  · refine awp_false (by kernel_rfl) h3 ?_
    refine awp_seq ?_
    refine awp_region ?_
    refine aR 3 ?_
    refine aE ?_
    refine cE hF (fun h4 hF => ?_) fun h4 hF => ?_
    · refine awp_true (by kernel_rfl) h4 ?_
      refine awp_seq ?_
      refine bE hF fun vc h5 hF => ?_
      refine bE hF fun _ h6 hF => ?_
      refine awp_region ?_
      refine aR 2 ?_
      refine aX (x_idxS h5) ?_
      refine aC (stringslite_IndexByte_ok h6) [] [] [] ?_
      refine aR 1 ?_
      refine aE ?_
      refine awp_ret ?_
      exact oF hF [] []
    · refine awp_false (by kernel_rfl) h4 ?_
      refine awp_seq ?_
      refine awp_region ?_
      refine aR 5 ?_
      refine aE ?_
      refine cE hF (fun h7 hF => ?_) fun h7 hF => ?_
      · refine awp_true (by kernel_rfl) h7 ?_
        refine awp_seq ?_
        refine awp_region ?_
        refine aR 1 ?_
        refine aE ?_
        refine awp_ret ?_
        exact oF hF [] []
      · refine awp_false (by kernel_rfl) h7 ?_
        refine awp_seq ?_
        exact nE hF

/-! ### strings.Index -/
def strings_Index_R (qs : List UInt8) (qsubstr : List UInt8) (r : Int) : TV × Mem := (.v (.one (.d (.int .i64 r))), ⟨[], []⟩)

theorem strings_Index_ok {qs : List UInt8} {qsubstr : List UInt8} {r} (hF : strings_Index qs qsubstr = some r) : Holds prog 120 [.v (.one (.d (.str qs))), .v (.one (.d (.str qsubstr)))] ⟨[], []⟩ (Is (strings_Index_R qs qsubstr r)) := by
  unfold strings_Index at hF
  refine holds_of_awp hΓ (fn := f120) (c := cB f120) (A := 0) (nx := 0) (by kernel_rfl) (by kernel_rfl) (by kernel_rfl) (by kernel_rfl) (by kernel_rfl) (by kernel_rfl) (lowc_of (by kernel_rfl)) ?_
  show Awp prog 0 8 (cB f120) _ _
  refine awp_seq ?_
  refine awp_region ?_
  refine aR 1 ?_
  refine aE ?_
  refine awp_seq ?_
  refine bE hF fun vr h1 hF => ?_
  refine awp_region ?_
  refine aR 2 ?_
  refine aC (stringslite_Index_ok h1) [] [] [] ?_
  refine aR 1 ?_
  refine aE ?_
  refine awp_ret ?_
  exact oF hF [] []

/-! ### strings.Count -/
def strings_Count_x1_k : Int → AEx
  | _ => .ret

def strings_Count_x1_S (qsubstr : List UInt8) : Int → St
  | vx => Mem.st ⟨[], []⟩ (tl [(4, .v (.one (.d (.int .i64 vx))))]) 0

def strings_Count_x1_H (qsubstr : List UInt8) : (List UInt8) × Int → St
  | (vs, vn) => Mem.st ⟨[], []⟩ (tl [(0, .v (.one (.d (.str vs)))), (1, .v (.one (.d (.str qsubstr)))), (5, .v (.one (.d (.int .i64 vn))))]) 0

theorem strings_Count_x1_ok (qsubstr : List UInt8) (s : (List UInt8) × Int) (r : ((List UInt8) × Int) ⊕ (Int)) (hF : strings_Count_x1 qsubstr s = some r) : Awp prog 0 34 (cL (cL (cR (cR (cR (cR (cB f119))))))) (Out 0 (kk strings_Count_x1_k) (SS (strings_Count_x1_H qsubstr) (strings_Count_x1_S qsubstr)) r) (strings_Count_x1_H qsubstr s) := by
  obtain ⟨vs, vn⟩ := s
  unfold strings_Count_x1 at hF
  refine awp_block ?_
  refine awp_seq ?_
  refine bE hF fun vr1_1 h4 hF => ?_
  refine awp_region ?_
  refine aR 2 ?_
  refine aC (strings_Index_ok h4) [] [] [] ?_
  refine aR 1 ?_
  refine aE ?_
  refine awp_seq ?_
  refine awp_seq ?_
  refine awp_region ?_
  refine aR 2 ?_
  refine aE ?_
  refine cE hF (fun h5 hF => ?_) fun h5 hF => ?_
  · refine awp_true (by kernel_rfl) h5 ?_
    refine awp_seq ?_
    refine awp_region ?_
    refine aR 2 ?_
    refine aE ?_
    refine awp_ret ?_
    exact oO hF [] [] rfl
  · refine awp_false (by kernel_rfl) h5 ?_
    refine awp_skip ?_
    refine awp_seq ?_
    refine awp_region ?_
    refine aR 3 ?_
    refine aE ?_
    refine bE hF fun vs2 h6 hF => ?_
    refine awp_region ?_
    refine aR 5 ?_
    refine aX (x_sliceS h6) ?_
    refine aR 1 ?_
    refine aE ?_
    exact oO hF [] [] rfl

def strings_Count_R (qs : List UInt8) (qsubstr : List UInt8) (r : Int) : TV × Mem := (.v (.one (.d (.int .i64 r))), ⟨[], []⟩)

theorem strings_Count_ok {qs : List UInt8} {qsubstr : List UInt8} {r} (hF : strings_Count qs qsubstr = some r) : Holds prog 119 [.v (.one (.d (.str qs))), .v (.one (.d (.str qsubstr)))] ⟨[], []⟩ (Is (strings_Count_R qs qsubstr r)) := by
  unfold strings_Count at hF
  refine holds_of_awp hΓ (fn := f119) (c := cB f119) (A := 0) (nx := 0) (by kernel_rfl) (by kernel_rfl) (by kernel_rfl) (by kernel_rfl) (by kernel_rfl) (by kernel_rfl) (lowc_of (by kernel_rfl)) ?_
  show Awp prog 0 34 (cB f119) _ _
  refine awp_seq ?_
  refine awp_region ?_
  refine aR 1 ?_
  refine aE ?_
  refine awp_seq ?_
  refine awp_seq ?_
  refine awp_region ?_
  refine aR 3 ?_
  refine aE ?_
  refine cE hF (fun h1 hF => ?_) fun h1 hF => ?_
  · refine awp_true (by kernel_rfl) h1 ?_
    refine awp_seq ?_
    exact nE hF
  · refine awp_false (by kernel_rfl) h1 ?_
    refine awp_skip ?_
    refine awp_seq ?_
    refine awp_seq ?_
    refine awp_region ?_
    refine aR 3 ?_
    refine aE ?_
    refine cE hF (fun h2 hF => ?_) fun h2 hF => ?_
    · refine awp_true (by kernel_rfl) h2 ?_
      refine awp_seq ?_
      refine bE hF fun vc h3 hF => ?_
      refine awp_region ?_
      refine aR 2 ?_
      refine aX (x_idxS h3) ?_
      refine aS (does_count (g := 144) (fn := f144) (a := qs) (c := (vc.toNat : Int)) rfl (by kernel_rfl) (by kernel_rfl) (by kernel_rfl) (by kernel_rfl) (by kernel_rfl) (by kernel_rfl)) ?_
      refine aR 1 ?_
      refine aE ?_
      refine awp_ret ?_
      exact oF hF [] []
    · refine awp_false (by kernel_rfl) h2 ?_
      refine awp_skip ?_
      refine awp_seq ?_
      refine awp_region ?_
      refine aR 1 ?_
      refine aE ?_
      refine awp_block ?_
      refine awp_to (st' := strings_Count_x1_H qsubstr (qs, 0)) (oT [] []) ?_
      refine bE hF fun vx1 h7 hF => ?_
      refine awp_sub (awp_loop' (strings_Count_x1_H qsubstr) strings_Count_x1_k (strings_Count_x1_S qsubstr) (by intro x; exact fun h => nomatch h) h7 (strings_Count_x1_ok qsubstr)) ?_
      exact oF hF [] []

/-! ### strings.genSplit -/
def strings_genSplit_x1_k : Int → AEx
  | _ => .normal

def strings_genSplit_x1_S (qx : List UInt8) (qx1 : List UInt8) (qx2 : Int) (qx3 : Int) : Int → St
  | vx => Mem.st ⟨[], []⟩ (tl [(0, .v (.one (.d (.str qx)))), (1, .v (.one (.d (.str qx1)))), (2, .v (.one (.d (.int .i64 qx2)))), (3, .v (.one (.d (.int .i64 vx))))]) 0

def strings_genSplit_x1_I (qx : List UInt8) (qx1 : List UInt8) (qx2 : Int) (qx3 : Int) : St := Mem.st ⟨[], []⟩ (tl [(0, .v (.one (.d (.str qx)))), (1, .v (.one (.d (.str qx1)))), (2, .v (.one (.d (.int .i64 qx2)))), (3, .v (.one (.d (.int .i64 qx3))))]) 0

theorem strings_genSplit_x1_ok (qx : List UInt8) (qx1 : List UInt8) (qx2 : Int) (qx3 : Int) {r} (hF : strings_genSplit_x1 qx qx1 qx3 = some r) : Awp prog 0 66 (cL (cR (cR (cR (cB f92))))) (Out 0 strings_genSplit_x1_k (strings_genSplit_x1_S qx qx1 qx2 qx3) r) (strings_genSplit_x1_I qx qx1 qx2 qx3) := by
  unfold strings_genSplit_x1 at hF
  refine awp_seq ?_
  refine awp_region ?_
  refine aR 2 ?_
  refine aE ?_
  refine cE hF (fun h3 hF => ?_) fun h3 hF => ?_
  · refine awp_true (by kernel_rfl) h3 ?_
    refine bE hF fun vr h4 hF => ?_
    refine awp_region ?_
    refine aR 2 ?_
    refine aC (strings_Count_ok h4) [] [] [] ?_
    refine aR 2 ?_
    refine aE ?_
    exact oO hF [] [] rfl
  · refine awp_false (by kernel_rfl) h3 ?_
    refine awp_skip ?_
    exact oO hF [] [] rfl

def strings_genSplit_x2_k : ((List UInt8) × (List (List UInt8)) × Int) → AEx
  | _ => .exit 0

def strings_genSplit_x2_S (qx : List UInt8) (qx1 : List UInt8) (qx2 : Int) (vx1 : Int) : ((List UInt8) × (List (List UInt8)) × Int) → St
  | (vx5, vx6, vx7) => Mem.st ⟨[(0, ⟨9, 1, List.map encS vx6⟩)], []⟩ (tl [(0, .v (.one (.d (.str vx5)))), (9, .v (.one (.own 0 none))), (10, .v (.one (.d (.int .i64 vx7))))]) 1

def strings_genSplit_x2_H (qx : List UInt8) (qx1 : List UInt8) (qx2 : Int) (vx1 : Int) : (List UInt8) × (List (List UInt8)) × Int → St
  | (vx2, vx3, vx4) => Mem.st ⟨[(0, ⟨9, 1, List.map encS vx3⟩)], []⟩ (tl [(0, .v (.one (.d (.str vx2)))), (1, .v (.one (.d (.str qx1)))), (2, .v (.one (.d (.int .i64 qx2)))), (3, .v (.one (.d (.int .i64 (IntKind.wrap .i64 ((imin vx1 (IntKind.wrap .i64 ((qx.length : Int) + 1))) - 1)))))), (9, .v (.one (.own 0 none))), (10, .v (.one (.d (.int .i64 vx4))))]) 1

theorem strings_genSplit_x2_ok (qx : List UInt8) (qx1 : List UInt8) (qx2 : Int) (vx1 : Int) (s : (List UInt8) × (List (List UInt8)) × Int) (r : ((List UInt8) × (List (List UInt8)) × Int) ⊕ (((List UInt8) × (List (List UInt8)) × Int))) (hF : strings_genSplit_x2 qx qx1 qx2 vx1 s = some r) : Awp prog 0 66 (cL (cL (cL (cR (cR (cR (cR (cR (cR (cR (cR (cB f92)))))))))))) (Out 0 (kk strings_genSplit_x2_k) (SS (strings_genSplit_x2_H qx qx1 qx2 vx1) (strings_genSplit_x2_S qx qx1 qx2 vx1)) r) (strings_genSplit_x2_H qx qx1 qx2 vx1 s) := by
  obtain ⟨vx2, vx3, vx4⟩ := s
  unfold strings_genSplit_x2 at hF
  refine awp_seq ?_
  refine awp_seq ?_
  refine awp_region ?_
  refine aR 3 ?_
  refine aE ?_
  refine cE hF (fun h7 hF => ?_) fun h7 hF => ?_
  · refine awp_true (by kernel_rfl) h7 ?_
    refine awp_skip ?_
    refine awp_block ?_
    refine awp_seq ?_
    refine bE hF fun vr1_1 h8 hF => ?_
    refine awp_region ?_
    refine aR 2 ?_
    refine aC (strings_Index_ok h8) [] [] [] ?_
    refine aR 1 ?_
    refine aE ?_
    refine awp_seq ?_
    refine awp_seq ?_
    refine awp_region ?_
    refine aR 2 ?_
    refine aE ?_
    refine cE hF (fun h9 hF => ?_) fun h9 hF => ?_
    · refine awp_true (by kernel_rfl) h9 ?_
      refine awp_exit ?_
      exact oO hF [] [] rfl
    · refine awp_false (by kernel_rfl) h9 ?_
      refine awp_skip ?_
      refine awp_seq ?_
      refine bE hF fun vs2 h10 hF => ?_
      refine bE hF fun vy1 h11 hF => ?_
      refine awp_region ?_
      refine aR 6 ?_
      refine aX (x_sliceS h10) ?_
      refine aX (x_idxO encS 0 h11) ?_
      refine aX (x_stE encS vs2 h11) ?_
      refine aE ?_
      refine awp_seq ?_
      refine bE hF fun vs3 h12 hF => ?_
      refine awp_region ?_
      refine aR 5 ?_
      refine aX (x_sliceS h12) ?_
      refine aR 1 ?_
      refine aE ?_
      refine awp_region ?_
      refine aR 3 ?_
      refine aE ?_
      exact oO hF [] [] rfl
  · refine awp_false (by kernel_rfl) h7 ?_
    refine awp_exit ?_
    exact oO hF [] [] rfl

def strings_genSplit_R (qx : List UInt8) (qx1 : List UInt8) (qx2 : Int) (qx3 : Int) (r : (List (List UInt8))) : TV × Mem := (.v (.one (.own 0 none)), ⟨[(0, ⟨9, 1, List.map encS r⟩)], []⟩)

theorem strings_genSplit_ok {qx : List UInt8} {qx1 : List UInt8} {qx2 : Int} {qx3 : Int} {r} (hF : strings_genSplit qx qx1 qx2 qx3 = some r) : Holds prog 92 [.v (.one (.d (.str qx))), .v (.one (.d (.str qx1))), .v (.one (.d (.int .i64 qx2))), .v (.one (.d (.int .i64 qx3)))] ⟨[], []⟩ (Is (strings_genSplit_R qx qx1 qx2 qx3 r)) := by
  unfold strings_genSplit at hF
  refine holds_of_awp hΓ (fn := f92) (c := cB f92) (A := 0) (nx := 0) (by kernel_rfl) (by kernel_rfl) (by kernel_rfl) (by kernel_rfl) (by kernel_rfl) (by kernel_rfl) (lowc_of (by kernel_rfl)) ?_
  show Awp prog 0 66 (cB f92) _ _
  refine awp_seq ?_
  refine awp_region ?_
  refine aR 1 ?_
  refine aE ?_
  refine awp_seq ?_
  refine awp_seq ?_
  refine awp_region ?_
  refine aR 2 ?_
  refine aE ?_
  refine cE hF (fun h1 hF => ?_) fun h1 hF => ?_
  · refine awp_true (by kernel_rfl) h1 ?_
    refine awp_seq ?_
    refine awp_region ?_
    refine aR 1 ?_
    refine aE ?_
    refine awp_ret ?_
    exact oF hF [] [0]
  · refine awp_false (by kernel_rfl) h1 ?_
    refine awp_skip ?_
    refine awp_seq ?_
    refine awp_seq ?_
    refine awp_region ?_
    refine aR 2 ?_
    refine aE ?_
    refine cE hF (fun h2 hF => ?_) fun h2 hF => ?_
    · refine awp_true (by kernel_rfl) h2 ?_
      refine awp_seq ?_
      exact nE hF
    · refine awp_false (by kernel_rfl) h2 ?_
      refine awp_skip ?_
      refine awp_seq ?_
      refine awp_to (st' := strings_genSplit_x1_I qx qx1 qx2 qx3) (oT [] []) ?_
      refine bE hF fun vx1 h5 hF => ?_
      refine awp_sub (strings_genSplit_x1_ok qx qx1 qx2 qx3 h5) ?_
      refine awp_seq ?_
      refine awp_region ?_
      refine aR 6 ?_
      refine aE ?_
      refine awp_seq ?_
      refine gE hF fun h6 hF => ?_
      refine awp_region ?_
      refine aR 1 ?_
      refine aX (x_mk encS ([] : List UInt8) h6) ?_
      refine aR 1 ?_
      refine aE ?_
      refine awp_seq ?_
      refine awp_region ?_
      refine aR 3 ?_
      refine aE ?_
      refine awp_seq ?_
      refine awp_region ?_
      refine aR 1 ?_
      refine aE ?_
      refine awp_seq ?_
      refine awp_block ?_
      refine awp_to (st' := strings_genSplit_x2_H qx qx1 qx2 vx1 (qx, List.replicate (imin vx1 (IntKind.wrap .i64 ((qx.length : Int) + 1))).toNat ([] : List UInt8), 0)) (oT [(0, 7000)] []) ?_
      refine bE hF fun x h13 hF => ?_
      obtain ⟨vx5_1, vx6_1, vx7_1⟩ := x
      refine awp_sub (awp_loop' (strings_genSplit_x2_H qx qx1 qx2 vx1) strings_genSplit_x2_k (strings_genSplit_x2_S qx qx1 qx2 vx1) (by intro x; exact fun h => nomatch h) h13 (strings_genSplit_x2_ok qx qx1 qx2 vx1)) ?_
      refine awp_seq ?_
      refine bE hF fun vy2 h14 hF => ?_
      refine awp_region ?_
      refine aR 3 ?_
      refine aX (x_idxO encS 0 h14) ?_
      refine aX (x_stE encS vx5_1 h14) ?_
      refine aE ?_
      refine awp_seq ?_
      refine gE hF fun h15 hF => ?_
      refine awp_region ?_
      refine aR 3 ?_
      refine aT encS 0 h15 rfl ?_
      refine aR 1 ?_
      refine aE ?_
      refine awp_ret ?_
      exact oF hF [(0, 8001)] []

/-! ### strings.Split -/
def strings_Split_R (qs : List UInt8) (qsep : List UInt8) (r : (List (List UInt8))) : TV × Mem := (.v (.one (.own 0 none)), ⟨[(0, ⟨9, 1, List.map encS r⟩)], []⟩)

theorem strings_Split_ok {qs : List UInt8} {qsep : List UInt8} {r} (hF : strings_Split qs qsep = some r) : Holds prog 57 [.v (.one (.d (.str qs))), .v (.one (.d (.str qsep)))] ⟨[], []⟩ (Is (strings_Split_R qs qsep r)) := by
  unfold strings_Split at hF
  refine holds_of_awp hΓ (fn := f57) (c := cB f57) (A := 0) (nx := 0) (by kernel_rfl) (by kernel_rfl) (by kernel_rfl) (by kernel_rfl) (by kernel_rfl) (by kernel_rfl) (lowc_of (by kernel_rfl)) ?_
  show Awp prog 0 8 (cB f57) _ _
  refine awp_seq ?_
  refine awp_region ?_
  refine aR 1 ?_
  refine aE ?_
  refine awp_seq ?_
  refine bE hF fun vr2 h1 hF => ?_
  refine awp_region ?_
  refine aR 2 ?_
  refine aC (strings_genSplit_ok h1) [] [] [] ?_
  refine aR 1 ?_
  refine aE ?_
  refine awp_ret ?_
  exact oF hF [(0, 3000)] []

/-! ### internal/stringslite.HasPrefix -/
def stringslite_HasPrefix_x1_k : Bool → AEx
  | _ => .normal

def stringslite_HasPrefix_x1_S (qs : List UInt8) (qprefix : List UInt8) : Bool → St
  | vx => Mem.st ⟨[], []⟩ (tl [(4, .v (.one (.d (.bool vx))))]) 0

def stringslite_HasPrefix_x1_I (qs : List UInt8) (qprefix : List UInt8) : St := Mem.st ⟨[], []⟩ (tl [(0, .v (.one (.d (.str qs)))), (1, .v (.one (.d (.str qprefix))))]) 0

theorem stringslite_HasPrefix_x1_ok (qs : List UInt8) (qprefix : List UInt8) {r} (hF : stringslite_HasPrefix_x1 qs qprefix = some r) : Awp prog 0 18 (cL (cR (cB f166))) (Out 0 stringslite_HasPrefix_x1_k (stringslite_HasPrefix_x1_S qs qprefix) r) (stringslite_HasPrefix_x1_I qs qprefix) := by
  unfold stringslite_HasPrefix_x1 at hF
  refine cE hF (fun h1 hF => ?_) fun h1 hF => ?_
  · refine bE hF fun vs h2 hF => ?_
    refine awp_region ?_
    refine aR 4 ?_
    refine aB h1 ?_
    refine aR 4 ?_
    refine aX (x_sliceS h2) ?_
    refine aR 4 ?_
    refine aE ?_
    exact oO hF [] [] rfl
  · refine awp_region ?_
    refine aR 4 ?_
    refine aB h1 ?_
    refine aR 9 ?_
    refine aE ?_
    exact oO hF [] [] rfl

def stringslite_HasPrefix_R (qs : List UInt8) (qprefix : List UInt8) (r : Bool) : TV × Mem := (.v (.one (.d (.bool r))), ⟨[], []⟩)

theorem stringslite_HasPrefix_ok {qs : List UInt8} {qprefix : List UInt8} {r} (hF : stringslite_HasPrefix qs qprefix = some r) : Holds prog 166 [.v (.one (.d (.str qs))), .v (.one (.d (.str qprefix)))] ⟨[], []⟩ (Is (stringslite_HasPrefix_R qs qprefix r)) := by
  unfold stringslite_HasPrefix at hF
  refine holds_of_awp hΓ (fn := f166) (c := cB f166) (A := 0) (nx := 0) (by kernel_rfl) (by kernel_rfl) (by kernel_rfl) (by kernel_rfl) (by kernel_rfl) (by kernel_rfl) (lowc_of (by kernel_rfl)) ?_
  show Awp prog 0 18 (cB f166) _ _
  refine awp_seq ?_
  refine awp_region ?_
  refine aR 1 ?_
  refine aE ?_
  refine awp_seq ?_
  refine awp_to (st' := stringslite_HasPrefix_x1_I qs qprefix) (oT [] []) ?_
  refine bE hF fun vx1 h3 hF => ?_
  refine awp_sub (stringslite_HasPrefix_x1_ok qs qprefix h3) ?_
  refine awp_ret ?_
  exact oF hF [] []

/-! ### internal/stringslite.TrimPrefix -/
def stringslite_TrimPrefix_R (qs : List UInt8) (qprefix : List UInt8) (r : (List UInt8)) : TV × Mem := (.v (.one (.d (.str r))), ⟨[], []⟩)

theorem stringslite_TrimPrefix_ok {qs : List UInt8} {qprefix : List UInt8} {r} (hF : stringslite_TrimPrefix qs qprefix = some r) : Holds prog 140 [.v (.one (.d (.str qs))), .v (.one (.d (.str qprefix)))] ⟨[], []⟩ (Is (stringslite_TrimPrefix_R qs qprefix r)) := by
  unfold stringslite_TrimPrefix at hF
  refine holds_of_awp hΓ (fn := f140) (c := cB f140) (A := 0) (nx := 0) (by kernel_rfl) (by kernel_rfl) (by kernel_rfl) (by kernel_rfl) (by kernel_rfl) (by kernel_rfl) (lowc_of (by kernel_rfl)) ?_
  show Awp prog 0 13 (cB f140) _ _
  refine awp_seq ?_
  refine awp_region ?_
  refine aR 1 ?_
  refine aE ?_
  refine awp_seq ?_
  refine awp_seq ?_
  refine bE hF fun vr h1 hF => ?_
  refine awp_region ?_
  refine aR 2 ?_
  refine aC (stringslite_HasPrefix_ok h1) [] [] [] ?_
  refine aE ?_
  refine cE hF (fun h2 hF => ?_) fun h2 hF => ?_
  · refine awp_true (by kernel_rfl) h2 ?_
    refine awp_seq ?_
    refine bE hF fun vs h3 hF => ?_
    refine awp_region ?_
    refine aR 3 ?_
    refine aX (x_sliceS h3) ?_
    refine aR 1 ?_
    refine aE ?_
    refine awp_ret ?_
    exact oF hF [] []
  · refine awp_false (by kernel_rfl) h2 ?_
    refine awp_skip ?_
    refine awp_seq ?_
    refine awp_region ?_
    refine aR 2 ?_
    refine aE ?_
    refine awp_ret ?_
    exact oF hF [] []

/-! ### strings.TrimPrefix -/
def strings_TrimPrefix_R (qs : List UInt8) (qprefix : List UInt8) (r : (List UInt8)) : TV × Mem := (.v (.one (.d (.str r))), ⟨[], []⟩)

theorem strings_TrimPrefix_ok {qs : List UInt8} {qprefix : List UInt8} {r} (hF : strings_TrimPrefix qs qprefix = some r) : Holds prog 116 [.v (.one (.d (.str qs))), .v (.one (.d (.str qprefix)))] ⟨[], []⟩ (Is (strings_TrimPrefix_R qs qprefix r)) := by
  unfold strings_TrimPrefix at hF
  refine holds_of_awp hΓ (fn := f116) (c := cB f116) (A := 0) (nx := 0) (by kernel_rfl) (by kernel_rfl) (by kernel_rfl) (by kernel_rfl) (by kernel_rfl) (by kernel_rfl) (lowc_of (by kernel_rfl)) ?_
  show Awp prog 0 8 (cB f116) _ _
  refine awp_seq ?_
  refine awp_region ?_
  refine aR 1 ?_
  refine aE ?_
  refine awp_seq ?_
  refine bE hF fun vr1 h1 hF => ?_
  refine awp_region ?_
  refine aR 2 ?_
  refine aC (stringslite_TrimPrefix_ok h1) [] [] [] ?_
  refine aR 1 ?_
  refine aE ?_
  refine awp_ret ?_
  exact oF hF [] []

/-! ### internal/strconv.lower -/
def strconv_lower_R (qc : Int) (r : Unit) : TV × Mem := (.v (.one (.d (.int .u8 (ibits .or .u8 qc 32)))), ⟨[], []⟩)

theorem strconv_lower_ok {qc : Int} {r} (hF : strconv_lower qc = some r) : Holds prog 186 [.v (.one (.d (.int .u8 qc)))] ⟨[], []⟩ (Is (strconv_lower_R qc r)) := by
  unfold strconv_lower at hF
  refine holds_of_awp hΓ (fn := f186) (c := cB f186) (A := 0) (nx := 0) (by kernel_rfl) (by kernel_rfl) (by kernel_rfl) (by kernel_rfl) (by kernel_rfl) (by kernel_rfl) (lowc_of (by kernel_rfl)) ?_
  show Awp prog 0 5 (cB f186) _ _
  refine awp_seq ?_
  refine awp_region ?_
  refine aR 1 ?_
  refine aE ?_
  refine awp_seq ?_
  refine awp_region ?_
  refine aR 3 ?_
  refine aE ?_
  refine awp_ret ?_
  exact oF hF [] []

end Go.Eng
