/-
The code of the Go functions that the law VersionsRead reaches does what the plain functions say, part 1.
-/
import Derived.Test.YtemhheohphinpaaDoorGenF

import Derived.Test.YtemhheohphinpaaDoorEng0

import Derived.Test.YtemhheohphinpaaDoorGenS

import Derived.Test.YtemhheohphinpaaDoorProg

import Derived.KernelRfl

namespace Go.Eng

open Go Go.Proofs.Tryd

set_option linter.unusedVariables false

set_option maxRecDepth 20000

set_option maxHeartbeats 0

def ti2 : TI := ⟨1, 8, [.d (.int .i64 0)], false, .int .i64⟩

def ti3 : TI := ⟨1, 8, [.d (.int .i64 0)], false, .int .i64⟩

def ti5 : TI := ⟨1, 1, [.d (.int .u8 0)], false, .int .u8⟩

def ti9 : TI := ⟨1, 16, [.d (.str [])], false, .str⟩

def ti21 : TI := ⟨1, 4, [.d (.int .i32 0)], false, .int .i32⟩

def ti22 : TI := ⟨1, 24, [.nil], false, .slice 3⟩

def ti25 : TI := ⟨2, 32, [.nil, .d (.int .i64 0)], true, .struct [(0, 22), (1, 3)]⟩

def ti27 : TI := ⟨3, 24, [.d (.int .i64 0), .d (.int .i64 0), .d (.int .i64 0)], true, .struct [(0, 3), (1, 3), (2, 3)]⟩

def ti30 : TI := ⟨1, 24, [.nil], false, .slice 52⟩

def ti32 : TI := ⟨1, 8, [.d (.int .i64 0)], false, .int .i64⟩

def ti49 : TI := ⟨1, 24, [.nil], false, .slice 9⟩

def ti50 : TI := ⟨1, 24, [.nil], false, .slice 57⟩

def ti52 : TI := ⟨6, 80, [.d (.int .i64 0), .d (.int .i64 0), .d (.int .i64 0), .nil, .nil, .d (.int .i64 0)], true, .struct [(0, 27), (3, 49), (4, 50), (5, 3)]⟩

def ti54 : TI := ⟨1, 24, [.nil], false, .slice 49⟩

def ti57 : TI := ⟨6, 48, [.d (.int .i64 0), .d (.int .i64 0), .d (.int .i64 0), .d (.int .i64 0), .d (.int .i64 0), .d (.int .i64 0)], true, .struct [(0, 27), (3, 27)]⟩

def ti63 : TI := ⟨3, 24, [.d (.int .i64 0), .d (.int .i64 0), .d (.int .i64 0)], true, .array 3 3⟩

def ti74 : TI := ⟨1, 16, [.nili], false, .other⟩

def ti78 : TI := ⟨1, 24, [.nil], false, .slice 27⟩

def ti87 : TI := ⟨1, 8, [.d (.int .u64 0)], false, .int .u64⟩

def ti90 : TI := ⟨1, 24, [.nil], false, .slice 5⟩

def ti107 : TI := ⟨1, 8, [.d (.int .u64 0)], false, .int .u64⟩

def Γ : Types := [(2, ti2), (3, ti3), (5, ti5), (9, ti9), (21, ti21), (22, ti22), (25, ti25), (27, ti27), (30, ti30), (32, ti32), (49, ti49), (50, ti50), (52, ti52), (54, ti54), (57, ti57), (63, ti63), (74, ti74), (78, ti78), (87, ti87), (90, ti90), (107, ti107)]

theorem hΓ : TypesOk prog Γ := typesOk_of (by kernel_rfl)

instance : TOk prog Γ := ⟨hΓ⟩

theorem hm : prog.follows .mixedOrders = true := by kernel_rfl

instance : Mixed prog := ⟨hm⟩

/-! ### beaconfleet/fleetmake.Below -/
def fleetmake_Below_x1_k : Int → AEx
  | _ => .normal

def fleetmake_Below_x1_S (qx : Int) (qn : Int) : Int → St
  | vx => Mem.st ⟨[], []⟩ (tl [(0, .v (.one (.d (.int .i64 vx))))]) 0

def fleetmake_Below_x1_I (qx : Int) (qn : Int) : St := Mem.st ⟨[], []⟩ (tl [(0, .v (.one (.d (.int .i64 (qx.tmod qn))))), (1, .v (.one (.d (.int .i64 qn))))]) 0

theorem fleetmake_Below_x1_ok (qx : Int) (qn : Int) {r} (hF : fleetmake_Below_x1 qx qn = some r) : Awp prog 0 16 (cL (cR (cR (cR (cB f44))))) (Out 0 fleetmake_Below_x1_k (fleetmake_Below_x1_S qx qn) r) (fleetmake_Below_x1_I qx qn) := by
  unfold fleetmake_Below_x1 at hF
  refine awp_seq ?_
  refine awp_region ?_
  refine aR 2 ?_
  refine aE ?_
  refine cE hF (fun h3 hF => ?_) fun h3 hF => ?_
  · refine awp_true (by kernel_rfl) h3 ?_
    refine awp_region ?_
    refine aR 4 ?_
    refine aE ?_
    exact oO hF [] [] rfl
  · refine awp_false (by kernel_rfl) h3 ?_
    refine awp_skip ?_
    exact oO hF [] [] rfl

def fleetmake_Below_R (qx : Int) (qn : Int) (r : Int) : TV × Mem := (.v (.one (.d (.int .i64 r))), ⟨[], []⟩)

theorem fleetmake_Below_ok {qx : Int} {qn : Int} {r} (hF : fleetmake_Below qx qn = some r) : Holds prog 44 [.v (.one (.d (.int .i64 qx))), .v (.one (.d (.int .i64 qn)))] ⟨[], []⟩ (Is (fleetmake_Below_R qx qn r)) := by
  unfold fleetmake_Below at hF
  refine holds_of_awp hΓ (fn := f44) (c := cB f44) (A := 0) (nx := 0) (by kernel_rfl) (by kernel_rfl) (by kernel_rfl) (by kernel_rfl) (by kernel_rfl) (by kernel_rfl) (lowc_of (by kernel_rfl)) ?_
  show Awp prog 0 16 (cB f44) _ _
  refine awp_seq ?_
  refine awp_region ?_
  refine aR 1 ?_
  refine aE ?_
  refine awp_seq ?_
  refine awp_seq ?_
  refine awp_region ?_
  refine aR 2 ?_
  refine aE ?_
  refine cE hF (fun h1 hF => ?_) fun h1 hF => ?_
  · refine awp_true (by kernel_rfl) h1 ?_
    refine awp_seq ?_
    refine awp_region ?_
    refine aR 1 ?_
    refine aE ?_
    refine awp_ret ?_
    exact oF hF [] []
  · refine awp_false (by kernel_rfl) h1 ?_
    refine awp_skip ?_
    refine awp_seq ?_
    refine gE hF fun h2 hF => ?_
    refine awp_region ?_
    refine aR 2 ?_
    refine aX (x_rem h2) ?_
    refine aR 1 ?_
    refine aE ?_
    refine awp_seq ?_
    refine awp_to (st' := fleetmake_Below_x1_I qx qn) (oT [] []) ?_
    refine bE hF fun vx1 h4 hF => ?_
    refine awp_sub (fleetmake_Below_x1_ok qx qn h4) ?_
    refine awp_seq ?_
    refine awp_region ?_
    refine aR 2 ?_
    refine aE ?_
    refine awp_ret ?_
    exact oF hF [] []

/-! ### (*beaconfleet/fleetmake.Stream).Next -/
def fleetmake_Stream_Next_R (qs : fleetmake_Stream) (qn : Int) (r : Int) : TV × Mem := (.v (.one (.d (.int .i64 r))), ⟨[], [(0, [.d (.lst (List.map (encI .i64) qs.L)), .d (.int .i64 (IntKind.wrap .i64 (qs.at_ + 1)))])]⟩)

theorem fleetmake_Stream_Next_ok {qs : fleetmake_Stream} {qn : Int} {r} (hF : fleetmake_Stream_Next qs qn = some r) : Holds prog 24 [.v (.one (.box 0 0)), .v (.one (.d (.int .i64 qn)))] ⟨[], [(0, [.d (.lst (List.map (encI .i64) qs.L)), .d (.int .i64 qs.at_)])]⟩ (Is (fleetmake_Stream_Next_R qs qn r)) := by
  unfold fleetmake_Stream_Next at hF
  refine holds_of_awp hΓ (fn := f24) (c := cB f24) (A := 1) (nx := 1) (by kernel_rfl) (by kernel_rfl) (by kernel_rfl) (by kernel_rfl) (by kernel_rfl) (by kernel_rfl) (lowc_of (by kernel_rfl)) ?_
  show Awp prog 1 64 (cB f24) _ _
  refine awp_seq ?_
  refine awp_region ?_
  refine aR 1 ?_
  refine aE ?_
  refine awp_seq ?_
  refine awp_region ?_
  refine aR 8 ?_
  refine aE ?_
  refine awp_seq ?_
  refine awp_seq ?_
  refine awp_region ?_
  refine aR 4 ?_
  refine aL (encI .i64) qs.L ?_
  refine aR 1 ?_
  refine aE ?_
  refine cE hF (fun h1 hF => ?_) fun h1 hF => ?_
  · refine awp_true (by kernel_rfl) h1 ?_
    refine awp_seq ?_
    refine bE hF fun vr h2 hF => ?_
    refine awp_region ?_
    refine aR 6 ?_
    refine aC (fleetmake_Below_ok h2) [] [] [] ?_
    refine aR 1 ?_
    refine aE ?_
    refine awp_ret ?_
    exact oF hF [] []
  · refine awp_false (by kernel_rfl) h1 ?_
    refine awp_skip ?_
    refine awp_seq ?_
    refine gE hF fun h3 hF => ?_
    refine aD ?_
    refine dR 9 ?_
    refine dL (encI .i64) qs.L ?_
    refine dX (x_rem h3) ?_
    refine dR 1 ?_
    refine dE ?_
    refine awp_seq ?_
    refine aD ?_
    refine dR 9 ?_
    refine dL (encI .i64) qs.L ?_
    refine dX (x_quo h3) ?_
    refine dR 1 ?_
    refine dE ?_
    refine awp_seq ?_
    refine bE hF fun vy h4 hF => ?_
    refine bE hF fun vr1 h5 hF => ?_
    refine bE hF fun vr2 h6 hF => ?_
    refine awp_region ?_
    refine aR 5 ?_
    refine aX (x_idx (encI .i64) h4) ?_
    refine aR 1 ?_
    refine aC (fleetmake_Below_ok h5) [] [] [] ?_
    refine aR 6 ?_
    refine aC (fleetmake_Below_ok h6) [] [] [] ?_
    refine aR 1 ?_
    refine aE ?_
    refine awp_ret ?_
    exact oF hF [] []

/-! ### (*beaconfleet/fleetmake.Stream).Range -/
def fleetmake_Stream_Range_R (qs : fleetmake_Stream) (qlow : Int) (qhigh : Int) (r : fleetmake_Stream × Int) : TV × Mem := (.v (.one (.d (.int .i64 r.2))), ⟨[], [(0, [.d (.lst (List.map (encI .i64) r.1.L)), .d (.int .i64 r.1.at_)])]⟩)

theorem fleetmake_Stream_Range_ok {qs : fleetmake_Stream} {qlow : Int} {qhigh : Int} {r} (hF : fleetmake_Stream_Range qs qlow qhigh = some r) : Holds prog 42 [.v (.one (.box 0 0)), .v (.one (.d (.int .i64 qlow))), .v (.one (.d (.int .i64 qhigh)))] ⟨[], [(0, [.d (.lst (List.map (encI .i64) qs.L)), .d (.int .i64 qs.at_)])]⟩ (Is (fleetmake_Stream_Range_R qs qlow qhigh r)) := by
  unfold fleetmake_Stream_Range at hF
  refine holds_of_awp hΓ (fn := f42) (c := cB f42) (A := 1) (nx := 1) (by kernel_rfl) (by kernel_rfl) (by kernel_rfl) (by kernel_rfl) (by kernel_rfl) (by kernel_rfl) (lowc_of (by kernel_rfl)) ?_
  show Awp prog 1 19 (cB f42) _ _
  refine awp_seq ?_
  refine awp_region ?_
  refine aR 1 ?_
  refine aE ?_
  refine awp_seq ?_
  refine awp_seq ?_
  refine awp_region ?_
  refine aR 3 ?_
  refine aE ?_
  refine cE hF (fun h1 hF => ?_) fun h1 hF => ?_
  · refine awp_true (by kernel_rfl) h1 ?_
    refine awp_seq ?_
    refine awp_region ?_
    refine aR 2 ?_
    refine aE ?_
    refine awp_ret ?_
    exact oF hF [] []
  · refine awp_false (by kernel_rfl) h1 ?_
    refine awp_skip ?_
    refine awp_seq ?_
    refine bE hF fun vr3 h2 hF => ?_
    refine awp_region ?_
    refine aR 6 ?_
    refine aC (fleetmake_Stream_Next_ok h2) [] [] [] ?_
    refine aR 2 ?_
    refine aE ?_
    refine awp_ret ?_
    exact oF hF [] []

/-! ### (*beaconfleet/fleetmake.Stream).Pick -/
def fleetmake_Stream_Pick_o1_R (qs : fleetmake_Stream) (ql : List Int) (r : Int) : TV × Mem := (.v (.one (.d (.int .i64 r))), ⟨[], [(0, [.d (.lst (List.map (encI .i64) qs.L)), .d (.int .i64 (IntKind.wrap .i64 (qs.at_ + 1)))])]⟩)

theorem fleetmake_Stream_Pick_o1_ok {qs : fleetmake_Stream} {ql : List Int} {r} (hF : fleetmake_Stream_Pick_o1 qs ql = some r) : Holds prog 21 [.v (.one (.box 0 0)), .v (.one (.own 1 none))] ⟨[(1, ⟨3, 1, List.map (encI .i64) ql⟩)], [(0, [.d (.lst (List.map (encI .i64) qs.L)), .d (.int .i64 qs.at_)])]⟩ (Is (fleetmake_Stream_Pick_o1_R qs ql r)) := by
  unfold fleetmake_Stream_Pick_o1 at hF
  refine holds_of_awp hΓ (fn := f21) (c := cB f21) (A := 2) (nx := 2) (by kernel_rfl) (by kernel_rfl) (by kernel_rfl) (by kernel_rfl) (by kernel_rfl) (by kernel_rfl) (lowc_of (by kernel_rfl)) ?_
  show Awp prog 2 12 (cB f21) _ _
  refine awp_seq ?_
  refine awp_region ?_
  refine aR 1 ?_
  refine aE ?_
  refine awp_to (oT (m := ⟨[], [(0, [.d (.lst (List.map (encI .i64) qs.L)), .d (.int .i64 qs.at_)])]⟩) (ts := [(0, .v (.one (.box 0 0))), (1, .v (.one (.d (.lst (List.map (encI .i64) ql)))))]) (nx := 2) [] []) ?_
  refine awp_seq ?_
  refine bE hF fun vr3 h1 hF => ?_
  refine bE hF fun vy h2 hF => ?_
  refine awp_region ?_
  refine aR 3 ?_
  refine aL (encI .i64) ql ?_
  refine aC (fleetmake_Stream_Next_ok h1) [] [] [] ?_
  refine aX (x_idx (encI .i64) h2) ?_
  refine aR 2 ?_
  refine aE ?_
  refine awp_ret ?_
  exact oF hF [] []

/-! ### (*beaconfleet/fleetmake.Stream).RightVersion -/
def fleetmake_Stream_RightVersion_R (qs : fleetmake_Stream) (r : fleetmake_Stream × api_Version) : TV × Mem := (.v (.agg [.d (.int .i64 r.2.Major), .d (.int .i64 r.2.Minor), .d (.int .i64 r.2.Patch)]), ⟨[], [(0, [.d (.lst (List.map (encI .i64) r.1.L)), .d (.int .i64 r.1.at_)])]⟩)

theorem fleetmake_Stream_RightVersion_ok {qs : fleetmake_Stream} {r} (hF : fleetmake_Stream_RightVersion qs = some r) : Holds prog 17 [.v (.one (.box 0 0))] ⟨[], [(0, [.d (.lst (List.map (encI .i64) qs.L)), .d (.int .i64 qs.at_)])]⟩ (Is (fleetmake_Stream_RightVersion_R qs r)) := by
  unfold fleetmake_Stream_RightVersion at hF
  refine holds_of_awp hΓ (fn := f17) (c := cB f17) (A := 1) (nx := 1) (by kernel_rfl) (by kernel_rfl) (by kernel_rfl) (by kernel_rfl) (by kernel_rfl) (by kernel_rfl) (lowc_of (by kernel_rfl)) ?_
  show Awp prog 1 12 (cB f17) _ _
  refine awp_seq ?_
  refine awp_region ?_
  refine aR 1 ?_
  refine aE ?_
  refine awp_seq ?_
  refine bE hF fun x h1 hF => ?_
  obtain ⟨vs, vr⟩ := x
  refine bE hF fun vr1 h2 hF => ?_
  refine bE hF fun vr2 h3 hF => ?_
  refine awp_region ?_
  refine aR 1 ?_
  refine aC (fleetmake_Stream_Range_ok h1) [] [] [] ?_
  refine aR 2 ?_
  refine aC (fleetmake_Stream_Pick_o1_ok h2) [(1, 4001)] [] [] ?_
  refine aR 2 ?_
  refine aC (fleetmake_Stream_Pick_o1_ok h3) [(1, 7001)] [] [] ?_
  refine aR 2 ?_
  refine aE ?_
  refine awp_ret ?_
  exact oF hF [] []

/-! ### (*beaconfleet/fleetmake.Stream).Flip -/
def fleetmake_Stream_Flip_R (qs : fleetmake_Stream) (qn : Int) (r : Bool) : TV × Mem := (.v (.one (.d (.bool r))), ⟨[], [(0, [.d (.lst (List.map (encI .i64) qs.L)), .d (.int .i64 (IntKind.wrap .i64 (qs.at_ + 1)))])]⟩)

theorem fleetmake_Stream_Flip_ok {qs : fleetmake_Stream} {qn : Int} {r} (hF : fleetmake_Stream_Flip qs qn = some r) : Holds prog 18 [.v (.one (.box 0 0)), .v (.one (.d (.int .i64 qn)))] ⟨[], [(0, [.d (.lst (List.map (encI .i64) qs.L)), .d (.int .i64 qs.at_)])]⟩ (Is (fleetmake_Stream_Flip_R qs qn r)) := by
  unfold fleetmake_Stream_Flip at hF
  refine holds_of_awp hΓ (fn := f18) (c := cB f18) (A := 1) (nx := 1) (by kernel_rfl) (by kernel_rfl) (by kernel_rfl) (by kernel_rfl) (by kernel_rfl) (by kernel_rfl) (lowc_of (by kernel_rfl)) ?_
  show Awp prog 1 9 (cB f18) _ _
  refine awp_seq ?_
  refine awp_region ?_
  refine aR 1 ?_
  refine aE ?_
  refine awp_seq ?_
  refine bE hF fun vr3 h1 hF => ?_
  refine awp_region ?_
  refine aR 2 ?_
  refine aC (fleetmake_Stream_Next_ok h1) [] [] [] ?_
  refine aR 2 ?_
  refine aE ?_
  refine awp_ret ?_
  exact oF hF [] []

/-! ### (*beaconfleet/fleetmake.Stream).Odd -/
def fleetmake_Stream_Odd_R (qs : fleetmake_Stream) (qlow : Int) (qhigh : Int) (r : fleetmake_Stream × Int) : TV × Mem := (.v (.one (.d (.int .i64 r.2))), ⟨[], [(0, [.d (.lst (List.map (encI .i64) r.1.L)), .d (.int .i64 r.1.at_)])]⟩)

theorem fleetmake_Stream_Odd_ok {qs : fleetmake_Stream} {qlow : Int} {qhigh : Int} {r} (hF : fleetmake_Stream_Odd qs qlow qhigh = some r) : Holds prog 19 [.v (.one (.box 0 0)), .v (.one (.d (.int .i64 qlow))), .v (.one (.d (.int .i64 qhigh)))] ⟨[], [(0, [.d (.lst (List.map (encI .i64) qs.L)), .d (.int .i64 qs.at_)])]⟩ (Is (fleetmake_Stream_Odd_R qs qlow qhigh r)) := by
  unfold fleetmake_Stream_Odd at hF
  refine holds_of_awp hΓ (fn := f19) (c := cB f19) (A := 1) (nx := 1) (by kernel_rfl) (by kernel_rfl) (by kernel_rfl) (by kernel_rfl) (by kernel_rfl) (by kernel_rfl) (lowc_of (by kernel_rfl)) ?_
  show Awp prog 1 22 (cB f19) _ _
  refine awp_seq ?_
  refine awp_region ?_
  refine aR 1 ?_
  refine aE ?_
  refine awp_seq ?_
  refine awp_seq ?_
  refine bE hF fun vr h1 hF => ?_
  refine awp_region ?_
  refine aR 1 ?_
  refine aC (fleetmake_Stream_Flip_ok h1) [] [] [] ?_
  refine aE ?_
  refine cE hF (fun h2 hF => ?_) fun h2 hF => ?_
  · refine awp_true (by kernel_rfl) h2 ?_
    refine awp_seq ?_
    refine bE hF fun vr1 h3 hF => ?_
    refine awp_region ?_
    refine aR 8 ?_
    refine aC (fleetmake_Stream_Pick_o1_ok h3) [(1, 10001)] [] [] ?_
    refine aR 1 ?_
    refine aE ?_
    refine awp_ret ?_
    exact oF hF [] []
  · refine awp_false (by kernel_rfl) h2 ?_
    refine awp_skip ?_
    refine awp_seq ?_
    refine bE hF fun x h4 hF => ?_
    obtain ⟨vs, vr2⟩ := x
    refine awp_region ?_
    refine aR 3 ?_
    refine aC (fleetmake_Stream_Range_ok h4) [] [] [] ?_
    refine aR 1 ?_
    refine aE ?_
    refine awp_ret ?_
    exact oF hF [] []

/-! ### (*beaconfleet/fleetmake.Stream).Version -/
def fleetmake_Stream_Version_x1_k : (fleetmake_Stream × api_Version) → AEx
  | _ => .normal

def fleetmake_Stream_Version_x1_S (vs1 : fleetmake_Stream) (vr3 : api_Version) : (fleetmake_Stream × api_Version) → St
  | (vs, vv) => Mem.st ⟨[], [(0, [.d (.lst (List.map (encI .i64) vs.L)), .d (.int .i64 vs.at_)]), (1, [.d (.int .i64 0), .d (.int .i64 0), .d (.int .i64 0)]), (2, [.d (.int .i64 vv.Major), .d (.int .i64 vv.Minor), .d (.int .i64 vv.Patch)])]⟩ (tl [(2, .v (.one (.box 1 0))), (3, .v (.one (.box 2 0)))]) 3

def fleetmake_Stream_Version_x1_I (vs1 : fleetmake_Stream) (vr3 : api_Version) : St := Mem.st ⟨[], [(0, [.d (.lst (List.map (encI .i64) vs1.L)), .d (.int .i64 vs1.at_)]), (1, [.d (.int .i64 0), .d (.int .i64 0), .d (.int .i64 0)]), (2, [.d (.int .i64 vr3.Major), .d (.int .i64 vr3.Minor), .d (.int .i64 vr3.Patch)])]⟩ (tl [(0, .v (.one (.box 0 0))), (2, .v (.one (.box 1 0))), (3, .v (.one (.box 2 0)))]) 3

theorem fleetmake_Stream_Version_x1_ok (vs1 : fleetmake_Stream) (vr3 : api_Version) {r} (hF : fleetmake_Stream_Version_x1 vs1 vr3 = some r) : Awp prog 1 15 (cL (cR (cR (cB f4)))) (Out 1 fleetmake_Stream_Version_x1_k (fleetmake_Stream_Version_x1_S vs1 vr3) r) (fleetmake_Stream_Version_x1_I vs1 vr3) := by
  unfold fleetmake_Stream_Version_x1 at hF
  refine awp_seq ?_
  refine bE hF fun vr h2 hF => ?_
  refine awp_region ?_
  refine aR 1 ?_
  refine aC (fleetmake_Stream_Flip_ok h2) [] [] [] ?_
  refine aE ?_
  refine cE hF (fun h3 hF => ?_) fun h3 hF => ?_
  · refine awp_true (by kernel_rfl) h3 ?_
    refine awp_seq ?_
    refine bE hF fun x h4 hF => ?_
    obtain ⟨vs1_1, vr3_1⟩ := x
    refine awp_region ?_
    refine aR 1 ?_
    refine aC (fleetmake_Stream_Odd_ok h4) [] [] [] ?_
    refine aR 2 ?_
    refine aE ?_
    refine bE hF fun x h5 hF => ?_
    obtain ⟨vs1_2, vr3_2⟩ := x
    refine awp_region ?_
    refine aR 1 ?_
    refine aC (fleetmake_Stream_Odd_ok h5) [] [] [] ?_
    refine aR 2 ?_
    refine aE ?_
    exact oO hF [] [] rfl
  · refine awp_false (by kernel_rfl) h3 ?_
    refine awp_skip ?_
    exact oO hF [] [] rfl

def fleetmake_Stream_Version_R (qs : fleetmake_Stream) (r : fleetmake_Stream × api_Version) : TV × Mem := (.v (.agg [.d (.int .i64 r.2.Major), .d (.int .i64 r.2.Minor), .d (.int .i64 r.2.Patch)]), ⟨[], [(0, [.d (.lst (List.map (encI .i64) r.1.L)), .d (.int .i64 r.1.at_)])]⟩)

theorem fleetmake_Stream_Version_ok {qs : fleetmake_Stream} {r} (hF : fleetmake_Stream_Version qs = some r) : Holds prog 4 [.v (.one (.box 0 0))] ⟨[], [(0, [.d (.lst (List.map (encI .i64) qs.L)), .d (.int .i64 qs.at_)])]⟩ (Is (fleetmake_Stream_Version_R qs r)) := by
  unfold fleetmake_Stream_Version at hF
  refine holds_of_awp hΓ (fn := f4) (c := cB f4) (A := 1) (nx := 1) (by kernel_rfl) (by kernel_rfl) (by kernel_rfl) (by kernel_rfl) (by kernel_rfl) (by kernel_rfl) (lowc_of (by kernel_rfl)) ?_
  show Awp prog 1 15 (cB f4) _ _
  refine awp_seq ?_
  refine awp_region ?_
  refine aR 1 ?_
  refine aE ?_
  refine awp_seq ?_
  refine bE hF fun x h1 hF => ?_
  obtain ⟨vs1, vr3⟩ := x
  refine awp_region ?_
  refine aR 1 ?_
  refine aC (fleetmake_Stream_RightVersion_ok h1) [] [] [] ?_
  refine aR 2 ?_
  refine aE ?_
  refine awp_seq ?_
  refine awp_to (st' := fleetmake_Stream_Version_x1_I vs1 vr3) (oT [(2, 3001)] []) ?_
  refine bE hF fun x h6 hF => ?_
  obtain ⟨vs2, vv1⟩ := x
  refine awp_sub (fleetmake_Stream_Version_x1_ok vs1 vr3 h6) ?_
  refine awp_seq ?_
  refine awp_region ?_
  refine aR 2 ?_
  refine aE ?_
  refine awp_ret ?_
  exact oF hF [] []

/-! ### strconv.Itoa -/
def strconv_Itoa_R (qi : Int) (r : List UInt8) : TV × Mem := (.v (.one (.d (.str r))), ⟨[], []⟩)

theorem strconv_Itoa_ok {qi : Int} {r} (hF : strconv_Itoa qi = some r) : Holds prog 27 [.v (.one (.d (.int .i64 qi)))] ⟨[], []⟩ (Is (strconv_Itoa_R qi r)) := by
  unfold strconv_Itoa at hF
  refine gE hF fun h1 hF => ?_
  obtain rfl := Option.some.inj hF
  refine holds_lib (args := [.int .i64 qi]) (tv := .c (.d (.str (Lib.itoa qi)))) ⟨_, cB Go.Proofs.Tryd.f27, Go.Proofs.Tryd.func27, by kernel_rfl, by kernel_rfl⟩ rfl rfl fun w ht => ?_
  have h2 : (-9223372036854775808 ≤ qi) ∧ qi ≤ 9223372036854775807 := by simpa using h1
  refine (Go.Proofs.Tryd.strconv_Itoa qi h2.1 h2.2 w (tab_is (by kernel_rfl) (ht 0 _ rfl) (by kernel_rfl))).mono ?_
  rintro e w' ⟨rfl, k, os, rfl⟩
  exact ⟨rfl, Lib.below_grow _ _ (Nat.le_refl _) _ _⟩

/-! ### beaconfleet/fleetref2.VersionLine -/
def fleetref2_VersionLine_R (qv : api_Version) (r : (List UInt8)) : TV × Mem := (.v (.one (.d (.str r))), ⟨[], []⟩)

theorem fleetref2_VersionLine_ok {qv : api_Version} {r} (hF : fleetref2_VersionLine qv = some r) : Holds prog 9 [.v (.agg [.d (.int .i64 qv.Major), .d (.int .i64 qv.Minor), .d (.int .i64 qv.Patch)])] ⟨[], []⟩ (Is (fleetref2_VersionLine_R qv r)) := by
  unfold fleetref2_VersionLine at hF
  refine holds_of_awp hΓ (fn := f9) (c := cB f9) (A := 0) (nx := 0) (by kernel_rfl) (by kernel_rfl) (by kernel_rfl) (by kernel_rfl) (by kernel_rfl) (by kernel_rfl) (lowc_of (by kernel_rfl)) ?_
  show Awp prog 0 16 (cB f9) _ _
  refine awp_seq ?_
  refine awp_region ?_
  refine aR 2 ?_
  refine aE ?_
  refine awp_seq ?_
  refine bE hF fun vr h1 hF => ?_
  refine gE hF fun h2 hF => ?_
  refine bE hF fun vr1 h3 hF => ?_
  refine gE hF fun h4 hF => ?_
  refine gE hF fun h5 hF => ?_
  refine bE hF fun vr2 h6 hF => ?_
  refine gE hF fun h7 hF => ?_
  refine aD ?_
  refine dR 2 ?_
  refine dC (strconv_Itoa_ok h1) [] [] [] ?_
  refine dX (x_cat h2) ?_
  refine dR 2 ?_
  refine dC (strconv_Itoa_ok h3) [] [] [] ?_
  refine dX (x_cat h4) ?_
  refine dX (x_cat h5) ?_
  refine dR 2 ?_
  refine dC (strconv_Itoa_ok h6) [] [] [] ?_
  refine dX (x_cat h7) ?_
  refine dR 1 ?_
  refine dE ?_
  refine awp_ret ?_
  exact oF hF [] []

/-! ### (*beaconfleet/fleetmake.Stream).Some -/
def fleetmake_Stream_Some_o1_R (qs : fleetmake_Stream) (ql : List (List UInt8)) (r : (List UInt8)) : TV × Mem := (.v (.one (.d (.str r))), ⟨[], [(0, [.d (.lst (List.map (encI .i64) qs.L)), .d (.int .i64 (IntKind.wrap .i64 (qs.at_ + 1)))])]⟩)

theorem fleetmake_Stream_Some_o1_ok {qs : fleetmake_Stream} {ql : List (List UInt8)} {r} (hF : fleetmake_Stream_Some_o1 qs ql = some r) : Holds prog 20 [.v (.one (.box 0 0)), .v (.one (.own 1 none))] ⟨[(1, ⟨9, 1, List.map encS ql⟩)], [(0, [.d (.lst (List.map (encI .i64) qs.L)), .d (.int .i64 qs.at_)])]⟩ (Is (fleetmake_Stream_Some_o1_R qs ql r)) := by
  unfold fleetmake_Stream_Some_o1 at hF
  refine holds_of_awp hΓ (fn := f20) (c := cB f20) (A := 2) (nx := 2) (by kernel_rfl) (by kernel_rfl) (by kernel_rfl) (by kernel_rfl) (by kernel_rfl) (by kernel_rfl) (lowc_of (by kernel_rfl)) ?_
  show Awp prog 2 12 (cB f20) _ _
  refine awp_seq ?_
  refine awp_region ?_
  refine aR 1 ?_
  refine aE ?_
  refine awp_to (oT (m := ⟨[], [(0, [.d (.lst (List.map (encI .i64) qs.L)), .d (.int .i64 qs.at_)])]⟩) (ts := [(0, .v (.one (.box 0 0))), (1, .v (.one (.d (.lst (List.map encS ql)))))]) (nx := 2) [] []) ?_
  refine awp_seq ?_
  refine bE hF fun vr3 h1 hF => ?_
  refine bE hF fun vy h2 hF => ?_
  refine awp_region ?_
  refine aR 3 ?_
  refine aL encS ql ?_
  refine aC (fleetmake_Stream_Next_ok h1) [] [] [] ?_
  refine aX (x_idx encS h2) ?_
  refine aR 2 ?_
  refine aE ?_
  refine awp_ret ?_
  exact oF hF [] []

/-! ### (*beaconfleet/fleetmake.Stream).Changed -/
def fleetmake_Stream_Changed_x1_k : Bool → AEx
  | _ => .normal

def fleetmake_Stream_Changed_x1_S (qs : fleetmake_Stream) (qt : List UInt8) (qwith : List UInt8) : Bool → St
  | vx => Mem.st ⟨[], [(0, [.d (.lst (List.map (encI .i64) qs.L)), .d (.int .i64 qs.at_)])]⟩ (tl [(0, .v (.one (.box 0 0))), (1, .v (.one (.d (.str qt)))), (2, .v (.one (.d (.str qwith)))), (14, .v (.one (.d (.bool vx))))]) 1

def fleetmake_Stream_Changed_x1_I (qs : fleetmake_Stream) (qt : List UInt8) (qwith : List UInt8) : St := Mem.st ⟨[], [(0, [.d (.lst (List.map (encI .i64) qs.L)), .d (.int .i64 qs.at_)])]⟩ (tl [(0, .v (.one (.box 0 0))), (1, .v (.one (.d (.str qt)))), (2, .v (.one (.d (.str qwith))))]) 1

theorem fleetmake_Stream_Changed_x1_ok (qs : fleetmake_Stream) (qt : List UInt8) (qwith : List UInt8) {r} (hF : fleetmake_Stream_Changed_x1 qt qwith = some r) : Awp prog 1 63 (cL (cL (cR (cB f22)))) (Out 1 fleetmake_Stream_Changed_x1_k (fleetmake_Stream_Changed_x1_S qs qt qwith) r) (fleetmake_Stream_Changed_x1_I qs qt qwith) := by
  unfold fleetmake_Stream_Changed_x1 at hF
  refine cE hF (fun h1 hF => ?_) fun h1 hF => ?_
  · refine awp_region ?_
    refine aR 1 ?_
    refine aB h1 ?_
    refine aR 4 ?_
    refine aE ?_
    exact oO hF [] [] rfl
  · refine awp_region ?_
    refine aR 1 ?_
    refine aB h1 ?_
    refine aR 4 ?_
    refine aE ?_
    exact oO hF [] [] rfl

def fleetmake_Stream_Changed_R (qs : fleetmake_Stream) (qt : List UInt8) (qwith : List UInt8) (r : fleetmake_Stream × (List UInt8)) : TV × Mem := (.v (.one (.d (.str r.2))), ⟨[], [(0, [.d (.lst (List.map (encI .i64) r.1.L)), .d (.int .i64 r.1.at_)])]⟩)

theorem fleetmake_Stream_Changed_ok {qs : fleetmake_Stream} {qt : List UInt8} {qwith : List UInt8} {r} (hF : fleetmake_Stream_Changed qs qt qwith = some r) : Holds prog 22 [.v (.one (.box 0 0)), .v (.one (.d (.str qt))), .v (.one (.d (.str qwith)))] ⟨[], [(0, [.d (.lst (List.map (encI .i64) qs.L)), .d (.int .i64 qs.at_)])]⟩ (Is (fleetmake_Stream_Changed_R qs qt qwith r)) := by
  unfold fleetmake_Stream_Changed at hF
  refine holds_of_awp hΓ (fn := f22) (c := cB f22) (A := 1) (nx := 1) (by kernel_rfl) (by kernel_rfl) (by kernel_rfl) (by kernel_rfl) (by kernel_rfl) (by kernel_rfl) (lowc_of (by kernel_rfl)) ?_
  show Awp prog 1 63 (cB f22) _ _
  refine awp_seq ?_
  refine awp_region ?_
  refine aR 1 ?_
  refine aE ?_
  refine awp_seq ?_
  refine awp_seq ?_
  refine awp_to (st' := fleetmake_Stream_Changed_x1_I qs qt qwith) (oT [] []) ?_
  refine bE hF fun vx1 h2 hF => ?_
  refine awp_sub (fleetmake_Stream_Changed_x1_ok qs qt qwith h2) ?_
  refine cE hF (fun h3 hF => ?_) fun h3 hF => ?_
  · refine awp_true (by kernel_rfl) h3 ?_
    refine awp_seq ?_
    refine awp_region ?_
    refine aR 2 ?_
    refine aE ?_
    refine awp_ret ?_
    exact oF hF [] []
  · refine awp_false (by kernel_rfl) h3 ?_
    refine awp_skip ?_
    refine awp_seq ?_
    refine bE hF fun vr3 h4 hF => ?_
    refine awp_region ?_
    refine aR 3 ?_
    refine aC (fleetmake_Stream_Next_ok h4) [] [] [] ?_
    refine aR 1 ?_
    refine aE ?_
    refine awp_seq ?_
    refine bE hF fun vr3_1 h5 hF => ?_
    refine bE hF fun vc h6 hF => ?_
    refine awp_region ?_
    refine aR 4 ?_
    refine aC (fleetmake_Stream_Next_ok h5) [] [] [] ?_
    refine aX (x_idxS h6) ?_
    refine aR 1 ?_
    refine aE ?_
    refine awp_seq ?_
    refine awp_seq ?_
    refine bE hF fun vr3_2 h7 hF => ?_
    refine awp_region ?_
    refine aR 1 ?_
    refine aC (fleetmake_Stream_Next_ok h7) [] [] [] ?_
    refine aE ?_
    refine awp_block ?_
    refine awp_seq ?_
    refine awp_region ?_
    refine aR 2 ?_
    refine aE ?_
    refine cE hF (fun h8 hF => ?_) fun h8 hF => ?_
    · refine awp_true (by kernel_rfl) h8 ?_
      refine awp_seq ?_
      refine bE hF fun vs h9 hF => ?_
      refine gE hF fun h10 hF => ?_
      refine bE hF fun vs1 h11 hF => ?_
      refine gE hF fun h12 hF => ?_
      refine aD ?_
      refine dR 2 ?_
      refine dX (x_sliceS h9) ?_
      refine dR 3 ?_
      refine dX (x_cat h10) ?_
      refine dR 3 ?_
      refine dX (x_sliceS h11) ?_
      refine dX (x_cat h12) ?_
      refine dR 1 ?_
      refine dE ?_
      refine awp_ret ?_
      exact oF hF [] []
    · refine awp_false (by kernel_rfl) h8 ?_
      refine awp_seq ?_
      refine awp_region ?_
      refine aR 2 ?_
      refine aE ?_
      refine cE hF (fun h13 hF => ?_) fun h13 hF => ?_
      · refine awp_true (by kernel_rfl) h13 ?_
        refine awp_seq ?_
        refine bE hF fun vs2 h14 hF => ?_
        refine gE hF fun h15 hF => ?_
        refine bE hF fun vs3 h16 hF => ?_
        refine gE hF fun h17 hF => ?_
        refine aD ?_
        refine dR 2 ?_
        refine dX (x_sliceS h14) ?_
        refine dR 3 ?_
        refine dX (x_cat h15) ?_
        refine dR 2 ?_
        refine dX (x_sliceS h16) ?_
        refine dX (x_cat h17) ?_
        refine dR 1 ?_
        refine dE ?_
        refine awp_ret ?_
        exact oF hF [] []
      · refine awp_false (by kernel_rfl) h13 ?_
        refine awp_skip ?_
        refine awp_seq ?_
        refine bE hF fun vs4 h18 hF => ?_
        refine bE hF fun vs5 h19 hF => ?_
        refine gE hF fun h20 hF => ?_
        refine aD ?_
        refine dR 2 ?_
        refine dX (x_sliceS h18) ?_
        refine dR 3 ?_
        refine dX (x_sliceS h19) ?_
        refine dX (x_cat h20) ?_
        refine dR 1 ?_
        refine dE ?_
        refine awp_ret ?_
        exact oF hF [] []

/-! ### (*beaconfleet/fleetmake.Stream).VersionText -/
def fleetmake_Stream_VersionText_x1_k : (fleetmake_Stream × (List UInt8)) → AEx
  | _ => .normal

def fleetmake_Stream_VersionText_x1_S (vs1 : fleetmake_Stream) (vr3_1 : List UInt8) : (fleetmake_Stream × (List UInt8)) → St
  | (vs, vt) => Mem.st ⟨[], [(0, [.d (.lst (List.map (encI .i64) vs.L)), .d (.int .i64 vs.at_)])]⟩ (tl [(0, .v (.one (.box 0 0))), (3, .v (.one (.d (.str vt))))]) 1

def fleetmake_Stream_VersionText_x1_I (vs1 : fleetmake_Stream) (vr3_1 : List UInt8) : St := Mem.st ⟨[], [(0, [.d (.lst (List.map (encI .i64) vs1.L)), .d (.int .i64 vs1.at_)])]⟩ (tl [(0, .v (.one (.box 0 0))), (3, .v (.one (.d (.str vr3_1))))]) 1

theorem fleetmake_Stream_VersionText_x1_ok (vs1 : fleetmake_Stream) (vr3_1 : List UInt8) {r} (hF : fleetmake_Stream_VersionText_x1 vs1 vr3_1 = some r) : Awp prog 1 22 (cL (cR (cR (cB f5)))) (Out 1 fleetmake_Stream_VersionText_x1_k (fleetmake_Stream_VersionText_x1_S vs1 vr3_1) r) (fleetmake_Stream_VersionText_x1_I vs1 vr3_1) := by
  unfold fleetmake_Stream_VersionText_x1 at hF
  refine awp_seq ?_
  refine bE hF fun vr h3 hF => ?_
  refine awp_region ?_
  refine aR 1 ?_
  refine aC (fleetmake_Stream_Flip_ok h3) [] [] [] ?_
  refine aE ?_
  refine cE hF (fun h4 hF => ?_) fun h4 hF => ?_
  · refine awp_true (by kernel_rfl) h4 ?_
    refine bE hF fun vr1 h5 hF => ?_
    refine awp_region ?_
    refine aR 2 ?_
    refine aC (fleetmake_Stream_Some_o1_ok h5) [(1, 3001)] [] [] ?_
    refine aR 1 ?_
    refine aE ?_
    exact oO hF [] [] rfl
  · refine awp_false (by kernel_rfl) h4 ?_
    refine awp_skip ?_
    exact oO hF [] [] rfl

def fleetmake_Stream_VersionText_x2_k : (fleetmake_Stream × (List UInt8)) → AEx
  | _ => .exit 0

def fleetmake_Stream_VersionText_x2_S (vr2 : Int) : (fleetmake_Stream × (List UInt8)) → St
  | (vs4, vt3) => Mem.st ⟨[], [(0, [.d (.lst (List.map (encI .i64) vs4.L)), .d (.int .i64 vs4.at_)])]⟩ (tl [(3, .v (.one (.d (.str vt3))))]) 1

def fleetmake_Stream_VersionText_x2_H (vr2 : Int) : fleetmake_Stream × (List UInt8) × Int → St
  | (vs3, vt2, vx) => Mem.st ⟨[], [(0, [.d (.lst (List.map (encI .i64) vs3.L)), .d (.int .i64 vs3.at_)])]⟩ (tl [(0, .v (.one (.box 0 0))), (3, .v (.one (.d (.str vt2)))), (14, .v (.one (.d (.int .i64 vr2)))), (15, .v (.one (.d (.int .i64 vx))))]) 1

theorem fleetmake_Stream_VersionText_x2_ok (vr2 : Int) (s : fleetmake_Stream × (List UInt8) × Int) (r : (fleetmake_Stream × (List UInt8) × Int) ⊕ ((fleetmake_Stream × (List UInt8)))) (hF : fleetmake_Stream_VersionText_x2 vr2 s = some r) : Awp prog 1 22 (cL (cL (cR (cL (cR (cR (cR (cB f5)))))))) (Out 1 (kk fleetmake_Stream_VersionText_x2_k) (SS (fleetmake_Stream_VersionText_x2_H vr2) (fleetmake_Stream_VersionText_x2_S vr2)) r) (fleetmake_Stream_VersionText_x2_H vr2 s) := by
  obtain ⟨vs3, vt2, vx⟩ := s
  unfold fleetmake_Stream_VersionText_x2 at hF
  refine awp_seq ?_
  refine awp_region ?_
  refine aR 1 ?_
  refine aE ?_
  refine awp_seq ?_
  refine cE hF (fun h8 hF => ?_) fun h8 hF => ?_
  · refine awp_true (by kernel_rfl) h8 ?_
    refine awp_skip ?_
    refine awp_seq ?_
    refine awp_block ?_
    refine bE hF fun x h9 hF => ?_
    obtain ⟨vs6_1, vr5⟩ := x
    refine awp_region ?_
    refine aR 2 ?_
    refine aC (fleetmake_Stream_Changed_ok h9) [] [] [] ?_
    refine aR 1 ?_
    refine aE ?_
    refine awp_region ?_
    refine aR 2 ?_
    refine aE ?_
    exact oO hF [] [] rfl
  · refine awp_false (by kernel_rfl) h8 ?_
    refine awp_exit ?_
    exact oO hF [] [] rfl

def fleetmake_Stream_VersionText_R (qs : fleetmake_Stream) (r : fleetmake_Stream × (List UInt8)) : TV × Mem := (.v (.one (.d (.str r.2))), ⟨[], [(0, [.d (.lst (List.map (encI .i64) r.1.L)), .d (.int .i64 r.1.at_)])]⟩)

theorem fleetmake_Stream_VersionText_ok {qs : fleetmake_Stream} {r} (hF : fleetmake_Stream_VersionText qs = some r) : Holds prog 5 [.v (.one (.box 0 0))] ⟨[], [(0, [.d (.lst (List.map (encI .i64) qs.L)), .d (.int .i64 qs.at_)])]⟩ (Is (fleetmake_Stream_VersionText_R qs r)) := by
  unfold fleetmake_Stream_VersionText at hF
  refine holds_of_awp hΓ (fn := f5) (c := cB f5) (A := 1) (nx := 1) (by kernel_rfl) (by kernel_rfl) (by kernel_rfl) (by kernel_rfl) (by kernel_rfl) (by kernel_rfl) (lowc_of (by kernel_rfl)) ?_
  show Awp prog 1 22 (cB f5) _ _
  refine awp_seq ?_
  refine awp_region ?_
  refine aR 1 ?_
  refine aE ?_
  refine awp_seq ?_
  refine bE hF fun x h1 hF => ?_
  obtain ⟨vs1, vr3⟩ := x
  refine bE hF fun vr3_1 h2 hF => ?_
  refine awp_region ?_
  refine aR 1 ?_
  refine aC (fleetmake_Stream_RightVersion_ok h1) [] [] [] ?_
  refine aC (fleetref2_VersionLine_ok h2) [] [] [] ?_
  refine aR 1 ?_
  refine aE ?_
  refine awp_seq ?_
  refine awp_to (st' := fleetmake_Stream_VersionText_x1_I vs1 vr3_1) (oT [] []) ?_
  refine bE hF fun x h6 hF => ?_
  obtain ⟨vs2, vt1⟩ := x
  refine awp_sub (fleetmake_Stream_VersionText_x1_ok vs1 vr3_1 h6) ?_
  refine awp_seq ?_
  refine awp_seq ?_
  refine bE hF fun vr2 h7 hF => ?_
  refine awp_region ?_
  refine aR 2 ?_
  refine aC (fleetmake_Stream_Pick_o1_ok h7) [(1, 1001)] [] [] ?_
  refine aR 1 ?_
  refine aE ?_
  refine awp_block ?_
  refine awp_to (st' := fleetmake_Stream_VersionText_x2_H vr2 (fleetmake_Stream.mk vs2.L (IntKind.wrap .i64 (vs2.at_ + 1)), vt1, 0)) (oT [] []) ?_
  refine bE hF fun x h10 hF => ?_
  obtain ⟨vs4_1, vt3_1⟩ := x
  refine awp_sub (awp_loop' (fleetmake_Stream_VersionText_x2_H vr2) fleetmake_Stream_VersionText_x2_k (fleetmake_Stream_VersionText_x2_S vr2) (by intro x; exact fun h => nomatch h) h10 (fleetmake_Stream_VersionText_x2_ok vr2)) ?_
  refine awp_seq ?_
  refine awp_region ?_
  refine aR 2 ?_
  refine aE ?_
  refine awp_ret ?_
  exact oF hF [] []

/-! ### beaconfleet/fleetmake.whole -/
def fleetmake_whole_R (qn : Int) (r : Unit) : TV × Mem := (.v (.agg [.d (.int .i64 qn), .d (.int .i64 0), .d (.int .i64 0)]), ⟨[], []⟩)

theorem fleetmake_whole_ok {qn : Int} {r} (hF : fleetmake_whole qn = some r) : Holds prog 43 [.v (.one (.d (.int .i64 qn)))] ⟨[], []⟩ (Is (fleetmake_whole_R qn r)) := by
  unfold fleetmake_whole at hF
  refine holds_of_awp hΓ (fn := f43) (c := cB f43) (A := 0) (nx := 0) (by kernel_rfl) (by kernel_rfl) (by kernel_rfl) (by kernel_rfl) (by kernel_rfl) (by kernel_rfl) (lowc_of (by kernel_rfl)) ?_
  show Awp prog 0 5 (cB f43) _ _
  refine awp_seq ?_
  refine awp_region ?_
  refine aR 1 ?_
  refine aE ?_
  refine awp_seq ?_
  refine awp_region ?_
  refine aR 3 ?_
  refine aE ?_
  refine awp_ret ?_
  exact oF hF [] []

/-! ### cmp.isNaN[int] -/
def cmp_isNaN_int_R (qx : Int) (r : Unit) : TV × Mem := (.v (.one (.d (.bool (!decide (qx = qx))))), ⟨[], []⟩)

theorem cmp_isNaN_int_ok {qx : Int} {r} (hF : cmp_isNaN_int qx = some r) : Holds prog 51 [.v (.one (.d (.int .i64 qx)))] ⟨[], []⟩ (Is (cmp_isNaN_int_R qx r)) := by
  unfold cmp_isNaN_int at hF
  refine holds_of_awp hΓ (fn := f51) (c := cB f51) (A := 0) (nx := 0) (by kernel_rfl) (by kernel_rfl) (by kernel_rfl) (by kernel_rfl) (by kernel_rfl) (by kernel_rfl) (lowc_of (by kernel_rfl)) ?_
  show Awp prog 0 6 (cB f51) _ _
  refine awp_seq ?_
  refine awp_region ?_
  refine aR 1 ?_
  refine aE ?_
  refine awp_seq ?_
  refine awp_region ?_
  refine aR 4 ?_
  refine aE ?_
  refine awp_ret ?_
  exact oF hF [] []

/-! ### cmp.Compare[int] -/
def cmp_Compare_int_R (qx : Int) (qy : Int) (r : Int) : TV × Mem := (.v (.one (.d (.int .i64 r))), ⟨[], []⟩)

theorem cmp_Compare_int_ok {qx : Int} {qy : Int} {r} (hF : cmp_Compare_int qx qy = some r) : Holds prog 34 [.v (.one (.d (.int .i64 qx))), .v (.one (.d (.int .i64 qy)))] ⟨[], []⟩ (Is (cmp_Compare_int_R qx qy r)) := by
  unfold cmp_Compare_int at hF
  refine holds_of_awp hΓ (fn := f34) (c := cB f34) (A := 0) (nx := 0) (by kernel_rfl) (by kernel_rfl) (by kernel_rfl) (by kernel_rfl) (by kernel_rfl) (by kernel_rfl) (lowc_of (by kernel_rfl)) ?_
  show Awp prog 0 20 (cB f34) _ _
  refine awp_seq ?_
  refine awp_region ?_
  refine aR 1 ?_
  refine aE ?_
  refine awp_seq ?_
  refine bE hF fun _ h1 hF => ?_
  refine awp_region ?_
  refine aR 1 ?_
  refine aC (cmp_isNaN_int_ok h1) [] [] [] ?_
  refine aR 1 ?_
  refine aE ?_
  refine awp_seq ?_
  refine bE hF fun _ h2 hF => ?_
  refine awp_region ?_
  refine aR 1 ?_
  refine aC (cmp_isNaN_int_ok h2) [] [] [] ?_
  refine aR 1 ?_
  refine aE ?_
  refine awp_seq ?_
  refine awp_seq ?_
  refine awp_region ?_
  refine aR 1 ?_
  refine aE ?_
  refine cE hF (fun h3 hF => ?_) fun h3 hF => ?_
  · refine awp_true (by kernel_rfl) h3 ?_
    refine awp_seq ?_
    refine awp_seq ?_
    refine awp_region ?_
    refine aR 1 ?_
    refine aE ?_
    refine cE hF (fun h4 hF => ?_) fun h4 hF => ?_
    · refine awp_true (by kernel_rfl) h4 ?_
      refine awp_seq ?_
      refine awp_region ?_
      refine aR 1 ?_
      refine aE ?_
      refine awp_ret ?_
      exact oF hF [] []
    · refine awp_false (by kernel_rfl) h4 ?_
      refine awp_skip ?_
      refine awp_seq ?_
      refine awp_region ?_
      refine aR 1 ?_
      refine aE ?_
      refine awp_ret ?_
      exact oF hF [] []
  · refine awp_false (by kernel_rfl) h3 ?_
    refine awp_skip ?_
    refine awp_seq ?_
    refine awp_seq ?_
    refine awp_region ?_
    refine aR 1 ?_
    refine aE ?_
    refine cE hF (fun h5 hF => ?_) fun h5 hF => ?_
    · refine awp_true (by kernel_rfl) h5 ?_
      refine awp_seq ?_
      refine awp_region ?_
      refine aR 1 ?_
      refine aE ?_
      refine awp_ret ?_
      exact oF hF [] []
    · refine awp_false (by kernel_rfl) h5 ?_
      refine awp_skip ?_
      refine awp_seq ?_
      refine awp_seq ?_
      refine awp_region ?_
      refine aR 3 ?_
      refine aE ?_
      refine cE hF (fun h6 hF => ?_) fun h6 hF => ?_
      · refine awp_true (by kernel_rfl) h6 ?_
        refine awp_seq ?_
        refine awp_region ?_
        refine aR 1 ?_
        refine aE ?_
        refine awp_ret ?_
        exact oF hF [] []
      · refine awp_false (by kernel_rfl) h6 ?_
        refine awp_skip ?_
        refine awp_seq ?_
        refine awp_seq ?_
        refine awp_region ?_
        refine aR 3 ?_
        refine aE ?_
        refine cE hF (fun h7 hF => ?_) fun h7 hF => ?_
        · refine awp_true (by kernel_rfl) h7 ?_
          refine awp_seq ?_
          refine awp_region ?_
          refine aR 1 ?_
          refine aE ?_
          refine awp_ret ?_
          exact oF hF [] []
        · refine awp_false (by kernel_rfl) h7 ?_
          refine awp_skip ?_
          refine awp_seq ?_
          refine awp_region ?_
          refine aR 1 ?_
          refine aE ?_
          refine awp_ret ?_
          exact oF hF [] []

/-! ### slices.Compare[[]int,int] -/
def slices_Compare_int_int_x1_k : Unit ⊕ Int → AEx
  | .inl _ => .exit 0
  | .inr _ => .ret

def slices_Compare_int_int_x1_S (qs1 : List Int) (qs2 : List Int) : Unit ⊕ Int → St
  | .inl _ => Mem.st ⟨[], []⟩ (tl [(0, .v (.one (.d (.lst (List.map (encI .i64) qs1))))), (1, .v (.one (.d (.lst (List.map (encI .i64) qs2)))))]) 0
  | .inr vx1 => Mem.st ⟨[], []⟩ (tl [(4, .v (.one (.d (.int .i64 vx1))))]) 0

def slices_Compare_int_int_x1_H (qs1 : List Int) (qs2 : List Int) : Int → St
  | vx => Mem.st ⟨[], []⟩ (tl [(0, .v (.one (.d (.lst (List.map (encI .i64) qs1))))), (1, .v (.one (.d (.lst (List.map (encI .i64) qs2))))), (9, .v (.one (.d (.lst (List.map (encI .i64) qs1))))), (10, .v (.one (.d (.int .i64 (qs1.length : Int))))), (11, .v (.one (.d (.int .i64 vx))))]) 0

theorem slices_Compare_int_int_x1_ok (qs1 : List Int) (qs2 : List Int) (vx : Int) (r : (Int) ⊕ (Unit ⊕ Int)) (hF : slices_Compare_int_int_x1 qs1 qs2 vx = some r) : Awp prog 0 36 (cL (cL (cR (cL (cR (cB f35)))))) (Out 0 (kk slices_Compare_int_int_x1_k) (SS (slices_Compare_int_int_x1_H qs1 qs2) (slices_Compare_int_int_x1_S qs1 qs2)) r) (slices_Compare_int_int_x1_H qs1 qs2 vx) := by
  unfold slices_Compare_int_int_x1 at hF
  refine awp_seq ?_
  refine awp_region ?_
  refine aR 1 ?_
  refine aE ?_
  refine awp_seq ?_
  refine cE hF (fun h1 hF => ?_) fun h1 hF => ?_
  · refine awp_true (by kernel_rfl) h1 ?_
    refine awp_skip ?_
    refine awp_seq ?_
    refine awp_block ?_
    refine awp_seq ?_
    refine bE hF fun vy2 h2 hF => ?_
    refine awp_region ?_
    refine aR 1 ?_
    refine aX (x_idx (encI .i64) h2) ?_
    refine aR 3 ?_
    refine aE ?_
    refine awp_seq ?_
    refine awp_seq ?_
    refine awp_region ?_
    refine aR 2 ?_
    refine aL (encI .i64) qs2 ?_
    refine aR 1 ?_
    refine aE ?_
    refine cE hF (fun h3 hF => ?_) fun h3 hF => ?_
    · refine awp_true (by kernel_rfl) h3 ?_
      refine awp_seq ?_
      refine awp_region ?_
      refine aR 1 ?_
      refine aE ?_
      refine awp_ret ?_
      exact oO hF [] [] rfl
    · refine awp_false (by kernel_rfl) h3 ?_
      refine awp_skip ?_
      refine awp_seq ?_
      refine bE hF fun vy3 h4 hF => ?_
      refine awp_region ?_
      refine aR 2 ?_
      refine aX (x_idx (encI .i64) h4) ?_
      refine aR 2 ?_
      refine aE ?_
      refine awp_seq ?_
      refine bE hF fun vr1 h5 hF => ?_
      refine awp_region ?_
      refine aR 2 ?_
      refine aC (cmp_Compare_int_ok h5) [] [] [] ?_
      refine aR 1 ?_
      refine aE ?_
      refine awp_seq ?_
      refine awp_region ?_
      refine aR 2 ?_
      refine aE ?_
      refine cE hF (fun h6 hF => ?_) fun h6 hF => ?_
      · refine awp_true (by kernel_rfl) h6 ?_
        refine awp_seq ?_
        refine awp_region ?_
        refine aR 2 ?_
        refine aE ?_
        refine awp_ret ?_
        exact oO hF [] [] rfl
      · refine awp_false (by kernel_rfl) h6 ?_
        refine awp_skip ?_
        refine awp_region ?_
        refine aR 2 ?_
        refine aE ?_
        exact oO hF [] [] rfl
  · refine awp_false (by kernel_rfl) h1 ?_
    refine awp_exit ?_
    exact oO hF [] [] rfl

def slices_Compare_int_int_R (qs1 : List Int) (qs2 : List Int) (r : Int) : TV × Mem := (.v (.one (.d (.int .i64 r))), ⟨[], []⟩)

theorem slices_Compare_int_int_ok {qs1 : List Int} {qs2 : List Int} {r} (hF : slices_Compare_int_int qs1 qs2 = some r) : Holds prog 35 [.v (.one (.d (.lst (List.map (encI .i64) qs1)))), .v (.one (.d (.lst (List.map (encI .i64) qs2))))] ⟨[], []⟩ (Is (slices_Compare_int_int_R qs1 qs2 r)) := by
  unfold slices_Compare_int_int at hF
  refine holds_of_awp hΓ (fn := f35) (c := cB f35) (A := 0) (nx := 0) (by kernel_rfl) (by kernel_rfl) (by kernel_rfl) (by kernel_rfl) (by kernel_rfl) (by kernel_rfl) (lowc_of (by kernel_rfl)) ?_
  show Awp prog 0 36 (cB f35) _ _
  refine awp_seq ?_
  refine awp_region ?_
  refine aR 1 ?_
  refine aE ?_
  refine awp_seq ?_
  refine awp_seq ?_
  refine awp_region ?_
  refine aR 1 ?_
  refine aL (encI .i64) qs1 ?_
  refine aR 1 ?_
  refine aE ?_
  refine awp_block ?_
  refine awp_to (st' := slices_Compare_int_int_x1_H qs1 qs2 0) (oT [] []) ?_
  refine bE hF fun x h7 hF => ?_
  rcases x with _ | vx1_1
  · refine awp_sub (awp_loop' (slices_Compare_int_int_x1_H qs1 qs2) slices_Compare_int_int_x1_k (slices_Compare_int_int_x1_S qs1 qs2) (by intro x; rcases x with x | x <;> exact fun h => nomatch h) h7 (slices_Compare_int_int_x1_ok qs1 qs2)) ?_
    refine awp_seq ?_
    refine awp_seq ?_
    refine awp_region ?_
    refine aR 1 ?_
    refine aL (encI .i64) qs1 ?_
    refine aR 1 ?_
    refine aL (encI .i64) qs2 ?_
    refine aR 1 ?_
    refine aE ?_
    refine cE hF (fun h8 hF => ?_) fun h8 hF => ?_
    · refine awp_true (by kernel_rfl) h8 ?_
      refine awp_seq ?_
      refine awp_region ?_
      refine aR 1 ?_
      refine aE ?_
      refine awp_ret ?_
      exact oF hF [] []
    · refine awp_false (by kernel_rfl) h8 ?_
      refine awp_skip ?_
      refine awp_seq ?_
      refine awp_region ?_
      refine aR 1 ?_
      refine aE ?_
      refine awp_ret ?_
      exact oF hF [] []
  · refine awp_sub (awp_loop' (slices_Compare_int_int_x1_H qs1 qs2) slices_Compare_int_int_x1_k (slices_Compare_int_int_x1_S qs1 qs2) (by intro x; rcases x with x | x <;> exact fun h => nomatch h) h7 (slices_Compare_int_int_x1_ok qs1 qs2)) ?_
    exact oF hF [] []

/-! ### beaconfleet/fleetref2.VersionOrder -/
def fleetref2_VersionOrder_R (qa : api_Version) (qb : api_Version) (r : Int) : TV × Mem := (.v (.one (.d (.int .i64 r))), ⟨[], []⟩)

theorem fleetref2_VersionOrder_ok {qa : api_Version} {qb : api_Version} {r} (hF : fleetref2_VersionOrder qa qb = some r) : Holds prog 13 [.v (.agg [.d (.int .i64 qa.Major), .d (.int .i64 qa.Minor), .d (.int .i64 qa.Patch)]), .v (.agg [.d (.int .i64 qb.Major), .d (.int .i64 qb.Minor), .d (.int .i64 qb.Patch)])] ⟨[], []⟩ (Is (fleetref2_VersionOrder_R qa qb r)) := by
  unfold fleetref2_VersionOrder at hF
  refine holds_of_awp hΓ (fn := f13) (c := cB f13) (A := 0) (nx := 0) (by kernel_rfl) (by kernel_rfl) (by kernel_rfl) (by kernel_rfl) (by kernel_rfl) (by kernel_rfl) (lowc_of (by kernel_rfl)) ?_
  show Awp prog 0 20 (cB f13) _ _
  refine awp_seq ?_
  refine awp_region ?_
  refine aR 3 ?_
  refine aE ?_
  refine awp_seq ?_
  refine bE hF fun vr2 h1 hF => ?_
  refine awp_region ?_
  refine aR 14 ?_
  refine aC (slices_Compare_int_int_ok h1) [] [] [9000, 16000] ?_
  refine aR 1 ?_
  refine aE ?_
  refine awp_ret ?_
  exact oF hF [] []

/-! ### (*beaconfleet/fleetmake.Stream).RightImages -/
def fleetmake_Stream_RightImages_x5_k : Bool → AEx
  | _ => .normal

def fleetmake_Stream_RightImages_x5_S (vx1 : Int) (vx17 : List api_Image) (vx18 : Int) (vy9 : Int) (vy10 : List (List UInt8)) (vr20 : Int) (vs10 : fleetmake_Stream) (vr21 : Int) (vr22 : Int) : Bool → St
  | vx25 => Mem.st ⟨[(3, ⟨52, 6, List.map api_Image.enc vx17⟩)], [(0, [.d (.lst (List.map (encI .i64) vs10.L)), .d (.int .i64 (IntKind.wrap .i64 ((IntKind.wrap .i64 (vs10.at_ + 1)) + 1)))]), (1, [.d (.int .i64 vx1), .d (.int .i64 vy9), .d (.int .i64 0), .d (.lst (List.map encS vy10)), .nil, .d (.int .i64 vr20)]), (2, [.d (.int .i64 vr21), .d (.int .i64 0), .d (.int .i64 0), .d (.int .i64 (IntKind.wrap .i64 (vx1 - 1))), .d (.int .i64 vr22), .d (.int .i64 9999)])]⟩ (tl [(0, .v (.one (.box 0 0))), (3, .v (.one (.own 3 none))), (4, .v (.one (.d (.int .i64 vx1)))), (7, .v (.one (.box 1 0))), (8, .v (.one (.d (.int .i64 vr21)))), (9, .v (.one (.box 2 0))), (14, .v (.one (.d (.lst (List.map (encI .i64) ([0, 5] : List Int)))))), (15, .v (.one (.d (.int .i64 (([0, 5] : List Int).length : Int))))), (16, .v (.one (.d (.int .i64 vx18)))), (56, .v (.one (.d (.bool vx25))))]) 4

def fleetmake_Stream_RightImages_x5_I (vx1 : Int) (vx17 : List api_Image) (vx18 : Int) (vy9 : Int) (vy10 : List (List UInt8)) (vr20 : Int) (vs10 : fleetmake_Stream) (vr21 : Int) (vr22 : Int) : St := Mem.st ⟨[(3, ⟨52, 6, List.map api_Image.enc vx17⟩)], [(0, [.d (.lst (List.map (encI .i64) vs10.L)), .d (.int .i64 (IntKind.wrap .i64 (vs10.at_ + 1)))]), (1, [.d (.int .i64 vx1), .d (.int .i64 vy9), .d (.int .i64 0), .d (.lst (List.map encS vy10)), .nil, .d (.int .i64 vr20)]), (2, [.d (.int .i64 vr21), .d (.int .i64 0), .d (.int .i64 0), .d (.int .i64 (IntKind.wrap .i64 (vx1 - 1))), .d (.int .i64 vr22), .d (.int .i64 9999)])]⟩ (tl [(0, .v (.one (.box 0 0))), (3, .v (.one (.own 3 none))), (4, .v (.one (.d (.int .i64 vx1)))), (6, .v (.one (.d (.int .i64 vy9)))), (7, .v (.one (.box 1 0))), (8, .v (.one (.d (.int .i64 vr21)))), (9, .v (.one (.box 2 0))), (14, .v (.one (.d (.lst (List.map (encI .i64) ([0, 5] : List Int)))))), (15, .v (.one (.d (.int .i64 (([0, 5] : List Int).length : Int))))), (16, .v (.one (.d (.int .i64 vx18))))]) 4

theorem fleetmake_Stream_RightImages_x5_ok (vx1 : Int) (vx17 : List api_Image) (vx18 : Int) (vy9 : Int) (vy10 : List (List UInt8)) (vr20 : Int) (vs10 : fleetmake_Stream) (vr21 : Int) (vr22 : Int) {r} (hF : fleetmake_Stream_RightImages_x5 vy9 vs10 = some r) : Awp prog 1 99 (cL (cL (cR (cR (cR (cR (cR (cL (cL (cR (cR (cL (cL (cR (cL (cL (cR (cL (cL (cR (cL (cR (cR (cB f23)))))))))))))))))))))))) (Out 1 fleetmake_Stream_RightImages_x5_k (fleetmake_Stream_RightImages_x5_S vx1 vx17 vx18 vy9 vy10 vr20 vs10 vr21 vr22) r) (fleetmake_Stream_RightImages_x5_I vx1 vx17 vx18 vy9 vy10 vr20 vs10 vr21 vr22) := by
  unfold fleetmake_Stream_RightImages_x5 at hF
  refine bE hF fun vr23 h12 hF => ?_
  refine cE hF (fun h13 hF => ?_) fun h13 hF => ?_
  · refine awp_region ?_
    refine aR 1 ?_
    refine aCb (fleetmake_Stream_Flip_ok h12) [] [] [] h13 ?_
    refine aR 4 ?_
    refine aE ?_
    exact oO hF [] [] rfl
  · refine awp_region ?_
    refine aR 1 ?_
    refine aCb (fleetmake_Stream_Flip_ok h12) [] [] [] h13 ?_
    refine aR 4 ?_
    refine aE ?_
    exact oO hF [] [] rfl

def fleetmake_Stream_RightImages_x4_k : ((List api_Range) × api_Range) → AEx
  | _ => .normal

def fleetmake_Stream_RightImages_x4_S (vx1 : Int) (vx17 : List api_Image) (vx18 : Int) (vy9 : Int) (vy10 : List (List UInt8)) (vr20 : Int) (vs10 : fleetmake_Stream) (vr21 : Int) (vr22 : Int) : ((List api_Range) × api_Range) → St
  | (vx26, vx27) => Mem.st ⟨[(2, ⟨57, 6, List.map api_Range.enc vx26⟩), (4, ⟨52, 6, List.map api_Image.enc vx17⟩)], [(0, [.d (.lst (List.map (encI .i64) vs10.L)), .d (.int .i64 (IntKind.wrap .i64 ((IntKind.wrap .i64 (vs10.at_ + 1)) + 1)))]), (1, [.d (.int .i64 vx1), .d (.int .i64 vy9), .d (.int .i64 0), .d (.lst (List.map encS vy10)), .own 2 none, .d (.int .i64 vr20)]), (3, [.d (.int .i64 vx27.Low.Major), .d (.int .i64 vx27.Low.Minor), .d (.int .i64 vx27.Low.Patch), .d (.int .i64 vx27.High.Major), .d (.int .i64 vx27.High.Minor), .d (.int .i64 vx27.High.Patch)])]⟩ (tl [(0, .v (.one (.box 0 0))), (3, .v (.one (.own 4 none))), (4, .v (.one (.d (.int .i64 vx1)))), (7, .v (.one (.box 1 0))), (9, .v (.one (.box 3 0))), (14, .v (.one (.d (.lst (List.map (encI .i64) ([0, 5] : List Int)))))), (15, .v (.one (.d (.int .i64 (([0, 5] : List Int).length : Int))))), (16, .v (.one (.d (.int .i64 vx18))))]) 5

def fleetmake_Stream_RightImages_x4_I (vx1 : Int) (vx17 : List api_Image) (vx18 : Int) (vy9 : Int) (vy10 : List (List UInt8)) (vr20 : Int) (vs10 : fleetmake_Stream) (vr21 : Int) (vr22 : Int) : St := Mem.st ⟨[(3, ⟨52, 6, List.map api_Image.enc vx17⟩)], [(0, [.d (.lst (List.map (encI .i64) vs10.L)), .d (.int .i64 (IntKind.wrap .i64 (vs10.at_ + 1)))]), (1, [.d (.int .i64 vx1), .d (.int .i64 vy9), .d (.int .i64 0), .d (.lst (List.map encS vy10)), .nil, .d (.int .i64 vr20)]), (2, [.d (.int .i64 vr21), .d (.int .i64 0), .d (.int .i64 0), .d (.int .i64 (IntKind.wrap .i64 (vx1 - 1))), .d (.int .i64 vr22), .d (.int .i64 9999)])]⟩ (tl [(0, .v (.one (.box 0 0))), (3, .v (.one (.own 3 none))), (4, .v (.one (.d (.int .i64 vx1)))), (6, .v (.one (.d (.int .i64 vy9)))), (7, .v (.one (.box 1 0))), (8, .v (.one (.d (.int .i64 vr21)))), (9, .v (.one (.box 2 0))), (14, .v (.one (.d (.lst (List.map (encI .i64) ([0, 5] : List Int)))))), (15, .v (.one (.d (.int .i64 (([0, 5] : List Int).length : Int))))), (16, .v (.one (.d (.int .i64 vx18))))]) 4

theorem fleetmake_Stream_RightImages_x4_ok (vx1 : Int) (vx17 : List api_Image) (vx18 : Int) (vy9 : Int) (vy10 : List (List UInt8)) (vr20 : Int) (vs10 : fleetmake_Stream) (vr21 : Int) (vr22 : Int) {r} (hF : fleetmake_Stream_RightImages_x4 vx1 vy9 vs10 vr21 vr22 = some r) : Awp prog 1 99 (cL (cR (cR (cR (cR (cR (cL (cL (cR (cR (cL (cL (cR (cL (cL (cR (cL (cL (cR (cL (cR (cR (cB f23))))))))))))))))))))))) (Out 1 fleetmake_Stream_RightImages_x4_k (fleetmake_Stream_RightImages_x4_S vx1 vx17 vx18 vy9 vy10 vr20 vs10 vr21 vr22) r) (fleetmake_Stream_RightImages_x4_I vx1 vx17 vx18 vy9 vy10 vr20 vs10 vr21 vr22) := by
  unfold fleetmake_Stream_RightImages_x4 at hF
  refine awp_seq ?_
  refine awp_to (st' := fleetmake_Stream_RightImages_x5_I vx1 vx17 vx18 vy9 vy10 vr20 vs10 vr21 vr22) (oT [] []) ?_
  refine bE hF fun vx25_1 h14 hF => ?_
  refine awp_sub (fleetmake_Stream_RightImages_x5_ok vx1 vx17 vx18 vy9 vy10 vr20 vs10 vr21 vr22 h14) ?_
  refine cE hF (fun h15 hF => ?_) fun h15 hF => ?_
  · refine awp_true (by kernel_rfl) h15 ?_
    refine awp_seq ?_
    refine bE hF fun _ h16 hF => ?_
    refine aD ?_
    refine dR 3 ?_
    refine dC (fleetmake_whole_ok h16) [] [] [] ?_
    refine dR 1 ?_
    refine dC (fleetmake_whole_ok h16) [] [] [] ?_
    refine dR 2 ?_
    refine dX (x_appN api_Range.enc ([api_Range.mk (api_Version.mk vr21 0 0) (api_Version.mk vr21 0 0)] : List api_Range) (by kernel_rfl)) ?_
    refine dR 2 ?_
    refine dE ?_
    refine bE hF fun _ h17 hF => ?_
    refine awp_region ?_
    refine aR 1 ?_
    refine aC (fleetmake_whole_ok h17) [] [] [] ?_
    refine aR 4 ?_
    refine aE ?_
    exact oO hF [(2, 8004), (3, 2), (4, 3)] [] rfl
  · refine awp_false (by kernel_rfl) h15 ?_
    refine awp_skip ?_
    exact oO hF [(3, 2), (4, 3)] [2] rfl

def fleetmake_Stream_RightImages_x7_k : Bool → AEx
  | _ => .normal

def fleetmake_Stream_RightImages_x7_S (vx1 : Int) (vx17 : List api_Image) (vx18 : Int) (vy9 : Int) (vy10 : List (List UInt8)) (vr20 : Int) (vs10 : fleetmake_Stream) (vx26_1 : List api_Range) (vx27_1 : api_Range) : Bool → St
  | vx28 => Mem.st ⟨[(2, ⟨57, 6, List.map api_Range.enc vx26_1⟩), (4, ⟨52, 6, List.map api_Image.enc vx17⟩)], [(0, [.d (.lst (List.map (encI .i64) vs10.L)), .d (.int .i64 (IntKind.wrap .i64 ((IntKind.wrap .i64 (vs10.at_ + 1)) + 1)))]), (1, [.d (.int .i64 vx1), .d (.int .i64 vy9), .d (.int .i64 0), .d (.lst (List.map encS vy10)), .own 2 none, .d (.int .i64 vr20)]), (3, [.d (.int .i64 vx27_1.Low.Major), .d (.int .i64 vx27_1.Low.Minor), .d (.int .i64 vx27_1.Low.Patch), .d (.int .i64 vx27_1.High.Major), .d (.int .i64 vx27_1.High.Minor), .d (.int .i64 vx27_1.High.Patch)])]⟩ (tl [(0, .v (.one (.box 0 0))), (3, .v (.one (.own 4 none))), (4, .v (.one (.d (.int .i64 vx1)))), (7, .v (.one (.box 1 0))), (9, .v (.one (.box 3 0))), (14, .v (.one (.d (.lst (List.map (encI .i64) ([0, 5] : List Int)))))), (15, .v (.one (.d (.int .i64 (([0, 5] : List Int).length : Int))))), (16, .v (.one (.d (.int .i64 vx18)))), (86, .v (.one (.d (.bool vx28))))]) 5

def fleetmake_Stream_RightImages_x7_I (vx1 : Int) (vx17 : List api_Image) (vx18 : Int) (vy9 : Int) (vy10 : List (List UInt8)) (vr20 : Int) (vs10 : fleetmake_Stream) (vx26_1 : List api_Range) (vx27_1 : api_Range) : St := Mem.st ⟨[(2, ⟨57, 6, List.map api_Range.enc vx26_1⟩), (4, ⟨52, 6, List.map api_Image.enc vx17⟩)], [(0, [.d (.lst (List.map (encI .i64) vs10.L)), .d (.int .i64 (IntKind.wrap .i64 ((IntKind.wrap .i64 (vs10.at_ + 1)) + 1)))]), (1, [.d (.int .i64 vx1), .d (.int .i64 vy9), .d (.int .i64 0), .d (.lst (List.map encS vy10)), .own 2 none, .d (.int .i64 vr20)]), (3, [.d (.int .i64 vx27_1.Low.Major), .d (.int .i64 vx27_1.Low.Minor), .d (.int .i64 vx27_1.Low.Patch), .d (.int .i64 vx27_1.High.Major), .d (.int .i64 vx27_1.High.Minor), .d (.int .i64 vx27_1.High.Patch)])]⟩ (tl [(0, .v (.one (.box 0 0))), (3, .v (.one (.own 4 none))), (4, .v (.one (.d (.int .i64 vx1)))), (7, .v (.one (.box 1 0))), (9, .v (.one (.box 3 0))), (14, .v (.one (.d (.lst (List.map (encI .i64) ([0, 5] : List Int)))))), (15, .v (.one (.d (.int .i64 (([0, 5] : List Int).length : Int))))), (16, .v (.one (.d (.int .i64 vx18))))]) 5

theorem fleetmake_Stream_RightImages_x7_ok (vx1 : Int) (vx17 : List api_Image) (vx18 : Int) (vy9 : Int) (vy10 : List (List UInt8)) (vr20 : Int) (vs10 : fleetmake_Stream) (vx26_1 : List api_Range) (vx27_1 : api_Range) {r} (hF : fleetmake_Stream_RightImages_x7 vx26_1 vx27_1 = some r) : Awp prog 1 99 (cL (cL (cR (cR (cR (cR (cR (cR (cL (cL (cR (cR (cL (cL (cR (cL (cL (cR (cL (cL (cR (cL (cR (cR (cB f23))))))))))))))))))))))))) (Out 1 fleetmake_Stream_RightImages_x7_k (fleetmake_Stream_RightImages_x7_S vx1 vx17 vx18 vy9 vy10 vr20 vs10 vx26_1 vx27_1) r) (fleetmake_Stream_RightImages_x7_I vx1 vx17 vx18 vy9 vy10 vr20 vs10 vx26_1 vx27_1) := by
  unfold fleetmake_Stream_RightImages_x7 at hF
  refine cE hF (fun h19 hF => ?_) fun h19 hF => ?_
  · refine aD ?_
    refine dR 2 ?_
    refine dL api_Range.enc vx26_1 ?_
    refine dB h19 ?_
    refine dR 11 ?_
    refine dE ?_
    exact oO hF [] [] rfl
  · refine bE hF fun vy11 h20 hF => ?_
    refine bE hF fun vr24 h21 hF => ?_
    refine aD ?_
    refine dR 2 ?_
    refine dL api_Range.enc vx26_1 ?_
    refine dB h19 ?_
    refine dR 3 ?_
    refine dX (x_idxO api_Range.enc 2 h20) ?_
    refine dR 1 ?_
    refine dX (x_ldE api_Range.enc h20) ?_
    refine dR 2 ?_
    refine dC (fleetref2_VersionOrder_ok h21) [] [] [] ?_
    refine dR 2 ?_
    refine dE ?_
    exact oO hF [] [] rfl

def fleetmake_Stream_RightImages_x6_k : (List api_Range) → AEx
  | _ => .normal

def fleetmake_Stream_RightImages_x6_S (vx1 : Int) (vx17 : List api_Image) (vx18 : Int) (vy9 : Int) (vy10 : List (List UInt8)) (vr20 : Int) (vs10 : fleetmake_Stream) (vx26_1 : List api_Range) (vx27_1 : api_Range) : (List api_Range) → St
  | vx29 => Mem.st ⟨[(2, ⟨57, 6, List.map api_Range.enc vx29⟩), (3, ⟨52, 6, List.map api_Image.enc vx17⟩)], [(0, [.d (.lst (List.map (encI .i64) vs10.L)), .d (.int .i64 (IntKind.wrap .i64 ((IntKind.wrap .i64 (vs10.at_ + 1)) + 1)))]), (1, [.d (.int .i64 vx1), .d (.int .i64 vy9), .d (.int .i64 0), .d (.lst (List.map encS vy10)), .own 2 none, .d (.int .i64 vr20)])]⟩ (tl [(0, .v (.one (.box 0 0))), (3, .v (.one (.own 3 none))), (4, .v (.one (.d (.int .i64 vx1)))), (7, .v (.one (.box 1 0))), (14, .v (.one (.d (.lst (List.map (encI .i64) ([0, 5] : List Int)))))), (15, .v (.one (.d (.int .i64 (([0, 5] : List Int).length : Int))))), (16, .v (.one (.d (.int .i64 vx18))))]) 4

def fleetmake_Stream_RightImages_x6_I (vx1 : Int) (vx17 : List api_Image) (vx18 : Int) (vy9 : Int) (vy10 : List (List UInt8)) (vr20 : Int) (vs10 : fleetmake_Stream) (vx26_1 : List api_Range) (vx27_1 : api_Range) : St := Mem.st ⟨[(2, ⟨57, 6, List.map api_Range.enc vx26_1⟩), (4, ⟨52, 6, List.map api_Image.enc vx17⟩)], [(0, [.d (.lst (List.map (encI .i64) vs10.L)), .d (.int .i64 (IntKind.wrap .i64 ((IntKind.wrap .i64 (vs10.at_ + 1)) + 1)))]), (1, [.d (.int .i64 vx1), .d (.int .i64 vy9), .d (.int .i64 0), .d (.lst (List.map encS vy10)), .own 2 none, .d (.int .i64 vr20)]), (3, [.d (.int .i64 vx27_1.Low.Major), .d (.int .i64 vx27_1.Low.Minor), .d (.int .i64 vx27_1.Low.Patch), .d (.int .i64 vx27_1.High.Major), .d (.int .i64 vx27_1.High.Minor), .d (.int .i64 vx27_1.High.Patch)])]⟩ (tl [(0, .v (.one (.box 0 0))), (3, .v (.one (.own 4 none))), (4, .v (.one (.d (.int .i64 vx1)))), (7, .v (.one (.box 1 0))), (9, .v (.one (.box 3 0))), (14, .v (.one (.d (.lst (List.map (encI .i64) ([0, 5] : List Int)))))), (15, .v (.one (.d (.int .i64 (([0, 5] : List Int).length : Int))))), (16, .v (.one (.d (.int .i64 vx18))))]) 5

theorem fleetmake_Stream_RightImages_x6_ok (vx1 : Int) (vx17 : List api_Image) (vx18 : Int) (vy9 : Int) (vy10 : List (List UInt8)) (vr20 : Int) (vs10 : fleetmake_Stream) (vx26_1 : List api_Range) (vx27_1 : api_Range) {r} (hF : fleetmake_Stream_RightImages_x6 vx26_1 vx27_1 = some r) : Awp prog 1 99 (cL (cR (cR (cR (cR (cR (cR (cL (cL (cR (cR (cL (cL (cR (cL (cL (cR (cL (cL (cR (cL (cR (cR (cB f23)))))))))))))))))))))))) (Out 1 fleetmake_Stream_RightImages_x6_k (fleetmake_Stream_RightImages_x6_S vx1 vx17 vx18 vy9 vy10 vr20 vs10 vx26_1 vx27_1) r) (fleetmake_Stream_RightImages_x6_I vx1 vx17 vx18 vy9 vy10 vr20 vs10 vx26_1 vx27_1) := by
  unfold fleetmake_Stream_RightImages_x6 at hF
  refine awp_seq ?_
  refine awp_to (st' := fleetmake_Stream_RightImages_x7_I vx1 vx17 vx18 vy9 vy10 vr20 vs10 vx26_1 vx27_1) (oT [] []) ?_
  refine bE hF fun vx28_1 h22 hF => ?_
  refine awp_sub (fleetmake_Stream_RightImages_x7_ok vx1 vx17 vx18 vy9 vy10 vr20 vs10 vx26_1 vx27_1 h22) ?_
  refine cE hF (fun h23 hF => ?_) fun h23 hF => ?_
  · refine awp_true (by kernel_rfl) h23 ?_
    refine gE hF fun h24 hF => ?_
    refine awp_region ?_
    refine aR 4 ?_
    refine aX (x_app api_Range.enc 2 h24) ?_
    refine aR 2 ?_
    refine aE ?_
    exact oO hF [(2, 4005), (3, 4)] [] rfl
  · refine awp_false (by kernel_rfl) h23 ?_
    refine awp_skip ?_
    exact oO hF [(3, 4)] [] rfl

def fleetmake_Stream_RightImages_x3_k : (fleetmake_Stream × (List api_Image)) → AEx
  | _ => .normal

def fleetmake_Stream_RightImages_x3_S (vx1 : Int) (vs7 : fleetmake_Stream) (vx17 : List api_Image) (vx18 : Int) : (fleetmake_Stream × (List api_Image)) → St
  | (vs11, vx30) => Mem.st ⟨[(1, ⟨52, 6, List.map api_Image.enc vx30⟩)], [(0, [.d (.lst (List.map (encI .i64) vs11.L)), .d (.int .i64 vs11.at_)])]⟩ (tl [(0, .v (.one (.box 0 0))), (3, .v (.one (.own 1 none))), (4, .v (.one (.d (.int .i64 vx1)))), (14, .v (.one (.d (.lst (List.map (encI .i64) ([0, 5] : List Int)))))), (15, .v (.one (.d (.int .i64 (([0, 5] : List Int).length : Int))))), (16, .v (.one (.d (.int .i64 vx18))))]) 2

def fleetmake_Stream_RightImages_x3_I (vx1 : Int) (vs7 : fleetmake_Stream) (vx17 : List api_Image) (vx18 : Int) : St := Mem.st ⟨[(1, ⟨52, 6, List.map api_Image.enc vx17⟩)], [(0, [.d (.lst (List.map (encI .i64) vs7.L)), .d (.int .i64 vs7.at_)])]⟩ (tl [(0, .v (.one (.box 0 0))), (3, .v (.one (.own 1 none))), (4, .v (.one (.d (.int .i64 vx1)))), (14, .v (.one (.d (.lst (List.map (encI .i64) ([0, 5] : List Int)))))), (15, .v (.one (.d (.int .i64 (([0, 5] : List Int).length : Int))))), (16, .v (.one (.d (.int .i64 vx18))))]) 2

theorem fleetmake_Stream_RightImages_x3_ok (vx1 : Int) (vs7 : fleetmake_Stream) (vx17 : List api_Image) (vx18 : Int) {r} (hF : fleetmake_Stream_RightImages_x3 vx1 vs7 vx17 vx18 = some r) : Awp prog 1 99 (cL (cR (cR (cL (cL (cR (cL (cL (cR (cL (cL (cR (cL (cR (cR (cB f23)))))))))))))))) (Out 1 fleetmake_Stream_RightImages_x3_k (fleetmake_Stream_RightImages_x3_S vx1 vs7 vx17 vx18) r) (fleetmake_Stream_RightImages_x3_I vx1 vs7 vx17 vx18) := by
  unfold fleetmake_Stream_RightImages_x3 at hF
  refine awp_block ?_
  refine awp_seq ?_
  refine bE hF fun vy9 h3 hF => ?_
  refine awp_region ?_
  refine aX (x_idx (encI .i64) h3) ?_
  refine aR 2 ?_
  refine aE ?_
  refine awp_seq ?_
  refine awp_seq ?_
  refine bE hF fun vr19 h4 hF => ?_
  refine awp_region ?_
  refine aR 1 ?_
  refine aC (fleetmake_Stream_Flip_ok h4) [] [] [] ?_
  refine aE ?_
  refine cE hF (fun h5 hF => ?_) fun h5 hF => ?_
  · refine awp_true (by kernel_rfl) h5 ?_
    refine awp_exit ?_
    exact oO hF [] [] rfl
  · refine awp_false (by kernel_rfl) h5 ?_
    refine awp_skip ?_
    refine awp_seq ?_
    refine bE hF fun vr3_3 h6 hF => ?_
    refine bE hF fun vy10 h7 hF => ?_
    refine bE hF fun vr20 h8 hF => ?_
    refine aD ?_
    refine dR 3 ?_
    refine dS (U := []) (stable_bsD (xs := List.map encS ([([109] : List UInt8)] : List (List UInt8))) rfl (by kernel_rfl)) ?_
    refine dS (U := []) (stable_bsD (xs := List.map encS ([([109] : List UInt8)] : List (List UInt8))) rfl (by kernel_rfl)) ?_
    refine dS (U := []) (stable_bsD (xs := List.map encS ([([109] : List UInt8), ([110] : List UInt8)] : List (List UInt8))) rfl (by kernel_rfl)) ?_
    refine dS (U := []) (stable_bsD (xs := List.map encS ([([110] : List UInt8)] : List (List UInt8))) rfl (by kernel_rfl)) ?_
    refine dR 2 ?_
    refine dC (fleetmake_Stream_Next_ok h6) [] [] [] ?_
    refine dX (x_idxO (encL encS) 12002 h7) ?_
    refine dX (x_ldE (encL encS) h7) ?_
    refine dR 2 ?_
    refine dC (fleetmake_Stream_Pick_o1_ok h8) [(1, 18002)] [] [] ?_
    refine dR 3 ?_
    refine dE ?_
    refine awp_seq ?_
    refine bE hF fun x h9 hF => ?_
    obtain ⟨vs10, vr21⟩ := x
    refine awp_region ?_
    refine aR 3 ?_
    refine aC (fleetmake_Stream_Range_ok h9) [] [] [] ?_
    refine aR 1 ?_
    refine aE ?_
    refine awp_seq ?_
    refine bE hF fun _ h10 hF => ?_
    refine bE hF fun vr22 h11 hF => ?_
    refine awp_region ?_
    refine aR 1 ?_
    refine aC (fleetmake_whole_ok h10) [] [] [] ?_
    refine aR 4 ?_
    refine aC (fleetmake_Stream_Pick_o1_ok h11) [(1, 33002)] [] [] ?_
    refine aR 4 ?_
    refine aE ?_
    refine awp_seq ?_
    refine awp_to (st' := fleetmake_Stream_RightImages_x4_I vx1 vx17 vx18 vy9 vy10 vr20 vs10 vr21 vr22) (oT [(1, 21002), (2, 37002), (3, 1)] []) ?_
    refine bE hF fun x h18 hF => ?_
    obtain ⟨vx26_1, vx27_1⟩ := x
    refine awp_sub (fleetmake_Stream_RightImages_x4_ok vx1 vx17 vx18 vy9 vy10 vr20 vs10 vr21 vr22 h18) ?_
    refine awp_seq ?_
    refine awp_to (st' := fleetmake_Stream_RightImages_x6_I vx1 vx17 vx18 vy9 vy10 vr20 vs10 vx26_1 vx27_1) (oT [] []) ?_
    refine bE hF fun vx29_1 h25 hF => ?_
    refine awp_sub (fleetmake_Stream_RightImages_x6_ok vx1 vx17 vx18 vy9 vy10 vr20 vs10 vx26_1 vx27_1 h25) ?_
    refine gE hF fun h26 hF => ?_
    refine awp_region ?_
    refine aR 2 ?_
    refine aF ⟨[(3, ⟨52, 6, List.map api_Image.enc vx17⟩)], [(0, [.d (.lst (List.map (encI .i64) vs10.L)), .d (.int .i64 (IntKind.wrap .i64 ((IntKind.wrap .i64 (vs10.at_ + 1)) + 1)))]), (1, [.d (.int .i64 vx1), .d (.int .i64 vy9), .d (.int .i64 0), .d (.lst (List.map encS vy10)), .d (.lst (List.map api_Range.enc vx29_1)), .d (.int .i64 vr20)])]⟩ [(0, .v (.one (.box 0 0))), (4, .v (.one (.d (.int .i64 vx1)))), (14, .v (.one (.d (.lst (List.map (encI .i64) ([0, 5] : List Int)))))), (15, .v (.one (.d (.int .i64 (([0, 5] : List Int).length : Int))))), (16, .v (.one (.d (.int .i64 vx18)))), (93, .v (.one (.own 3 none))), (94, .v (.agg [.d (.int .i64 vx1), .d (.int .i64 vy9), .d (.int .i64 0), .d (.lst (List.map encS vy10)), .d (.lst (List.map api_Range.enc vx29_1)), .d (.int .i64 vr20)]))] ?_
    refine aR 1 ?_
    refine aX (x_app api_Image.enc 3 h26) ?_
    refine aR 1 ?_
    refine aE ?_
    exact oO hF [(1, 3004)] [] rfl

def fleetmake_Stream_RightImages_x2_k : (fleetmake_Stream × (List api_Image)) → AEx
  | _ => .exit 2

def fleetmake_Stream_RightImages_x2_S (vx1 : Int) : (fleetmake_Stream × (List api_Image)) → St
  | (vs12, vx31) => Mem.st ⟨[(1, ⟨52, 6, List.map api_Image.enc vx31⟩)], [(0, [.d (.lst (List.map (encI .i64) vs12.L)), .d (.int .i64 vs12.at_)])]⟩ (tl [(0, .v (.one (.box 0 0))), (3, .v (.one (.own 1 none))), (4, .v (.one (.d (.int .i64 vx1))))]) 2

def fleetmake_Stream_RightImages_x2_H (vx1 : Int) : fleetmake_Stream × (List api_Image) × Int → St
  | (vs7, vx17, vx18) => Mem.st ⟨[(1, ⟨52, 6, List.map api_Image.enc vx17⟩)], [(0, [.d (.lst (List.map (encI .i64) vs7.L)), .d (.int .i64 vs7.at_)])]⟩ (tl [(0, .v (.one (.box 0 0))), (3, .v (.one (.own 1 none))), (4, .v (.one (.d (.int .i64 vx1)))), (14, .v (.one (.d (.lst (List.map (encI .i64) ([0, 5] : List Int)))))), (15, .v (.one (.d (.int .i64 (([0, 5] : List Int).length : Int))))), (16, .v (.one (.d (.int .i64 vx18))))]) 2

theorem fleetmake_Stream_RightImages_x2_ok (vx1 : Int) (s : fleetmake_Stream × (List api_Image) × Int) (r : (fleetmake_Stream × (List api_Image) × Int) ⊕ ((fleetmake_Stream × (List api_Image)))) (hF : fleetmake_Stream_RightImages_x2 vx1 s = some r) : Awp prog 1 99 (cL (cL (cR (cL (cL (cR (cL (cL (cR (cL (cR (cR (cB f23))))))))))))) (Out 1 (kk fleetmake_Stream_RightImages_x2_k) (SS (fleetmake_Stream_RightImages_x2_H vx1) (fleetmake_Stream_RightImages_x2_S vx1)) r) (fleetmake_Stream_RightImages_x2_H vx1 s) := by
  obtain ⟨vs7, vx17, vx18⟩ := s
  unfold fleetmake_Stream_RightImages_x2 at hF
  refine awp_seq ?_
  refine awp_region ?_
  refine aR 1 ?_
  refine aE ?_
  refine awp_seq ?_
  refine cE hF (fun h2 hF => ?_) fun h2 hF => ?_
  · refine awp_true (by kernel_rfl) h2 ?_
    refine awp_skip ?_
    refine awp_seq ?_
    refine awp_to (st' := fleetmake_Stream_RightImages_x3_I vx1 vs7 vx17 vx18) (oT [] []) ?_
    refine bE hF fun x h27 hF => ?_
    obtain ⟨vs11_1, vx30_1⟩ := x
    refine awp_sub (fleetmake_Stream_RightImages_x3_ok vx1 vs7 vx17 vx18 h27) ?_
    refine awp_region ?_
    refine aR 2 ?_
    refine aE ?_
    exact oO hF [] [] rfl
  · refine awp_false (by kernel_rfl) h2 ?_
    refine awp_exit ?_
    exact oO hF [] [] rfl

def fleetmake_Stream_RightImages_x1_k : (fleetmake_Stream × (List api_Image)) → AEx
  | _ => .exit 0

def fleetmake_Stream_RightImages_x1_S : (fleetmake_Stream × (List api_Image)) → St
  | (vs13, vx32) => Mem.st ⟨[(1, ⟨52, 6, List.map api_Image.enc vx32⟩)], [(0, [.d (.lst (List.map (encI .i64) vs13.L)), .d (.int .i64 vs13.at_)])]⟩ (tl [(3, .v (.one (.own 1 none)))]) 2

def fleetmake_Stream_RightImages_x1_H : fleetmake_Stream × (List api_Image) × Int → St
  | (vs, vx, vx1) => Mem.st ⟨[(1, ⟨52, 6, List.map api_Image.enc vx⟩)], [(0, [.d (.lst (List.map (encI .i64) vs.L)), .d (.int .i64 vs.at_)])]⟩ (tl [(0, .v (.one (.box 0 0))), (3, .v (.one (.own 1 none))), (4, .v (.one (.d (.int .i64 vx1))))]) 2

theorem fleetmake_Stream_RightImages_x1_ok (s : fleetmake_Stream × (List api_Image) × Int) (r : (fleetmake_Stream × (List api_Image) × Int) ⊕ ((fleetmake_Stream × (List api_Image)))) (hF : fleetmake_Stream_RightImages_x1  s = some r) : Awp prog 1 99 (cL (cL (cR (cL (cR (cR (cB f23))))))) (Out 1 (kk fleetmake_Stream_RightImages_x1_k) (SS (fleetmake_Stream_RightImages_x1_H ) (fleetmake_Stream_RightImages_x1_S )) r) (fleetmake_Stream_RightImages_x1_H  s) := by
  obtain ⟨vs, vx, vx1⟩ := s
  unfold fleetmake_Stream_RightImages_x1 at hF
  refine awp_seq ?_
  refine awp_seq ?_
  refine awp_region ?_
  refine aR 2 ?_
  refine aE ?_
  refine cE hF (fun h1 hF => ?_) fun h1 hF => ?_
  · refine awp_true (by kernel_rfl) h1 ?_
    refine awp_skip ?_
    refine awp_seq ?_
    refine awp_block ?_
    refine awp_seq ?_
    refine awp_region ?_
    refine aR 1 ?_
    refine aL (encI .i64) ([0, 5] : List Int) ?_
    refine aR 1 ?_
    refine aE ?_
    refine awp_to (oT (m := ⟨[(1, ⟨52, 6, List.map api_Image.enc vx⟩)], [(0, [.d (.lst (List.map (encI .i64) vs.L)), .d (.int .i64 vs.at_)])]⟩) (ts := [(0, .v (.one (.box 0 0))), (3, .v (.one (.own 1 none))), (4, .v (.one (.d (.int .i64 vx1)))), (14, .v (.one (.d (.lst (List.map (encI .i64) ([0, 5] : List Int)))))), (15, .v (.one (.d (.int .i64 (([0, 5] : List Int).length : Int))))), (16, .v (.one (.d (.int .i64 0))))]) (nx := 2) [] []) ?_
    refine awp_block ?_
    refine awp_to (st' := fleetmake_Stream_RightImages_x2_H vx1 (vs, vx, 0)) (oT [] []) ?_
    refine bE hF fun x h28 hF => ?_
    obtain ⟨vs12_1, vx31_1⟩ := x
    refine awp_sub (awp_loop' (fleetmake_Stream_RightImages_x2_H vx1) fleetmake_Stream_RightImages_x2_k (fleetmake_Stream_RightImages_x2_S vx1) (by intro x; exact fun h => nomatch h) h28 (fleetmake_Stream_RightImages_x2_ok vx1)) ?_
    refine awp_region ?_
    refine aR 3 ?_
    refine aE ?_
    exact oO hF [] [] rfl
  · refine awp_false (by kernel_rfl) h1 ?_
    refine awp_exit ?_
    exact oO hF [] [] rfl

def fleetmake_Stream_RightImages_R (qx : fleetmake_Stream) (r : fleetmake_Stream × (List api_Image)) : TV × Mem := (.v (.one (.own 1 none)), ⟨[(1, ⟨52, 6, List.map api_Image.enc r.2⟩)], [(0, [.d (.lst (List.map (encI .i64) r.1.L)), .d (.int .i64 r.1.at_)])]⟩)

theorem fleetmake_Stream_RightImages_ok {qx : fleetmake_Stream} {r} (hF : fleetmake_Stream_RightImages qx = some r) : Holds prog 23 [.v (.one (.box 0 0))] ⟨[], [(0, [.d (.lst (List.map (encI .i64) qx.L)), .d (.int .i64 qx.at_)])]⟩ (Is (fleetmake_Stream_RightImages_R qx r)) := by
  unfold fleetmake_Stream_RightImages at hF
  refine holds_of_awp hΓ (fn := f23) (c := cB f23) (A := 1) (nx := 1) (by kernel_rfl) (by kernel_rfl) (by kernel_rfl) (by kernel_rfl) (by kernel_rfl) (by kernel_rfl) (lowc_of (by kernel_rfl)) ?_
  show Awp prog 1 99 (cB f23) _ _
  refine awp_seq ?_
  refine awp_region ?_
  refine aR 1 ?_
  refine aE ?_
  refine awp_seq ?_
  refine awp_region ?_
  refine aR 1 ?_
  refine aE ?_
  refine awp_seq ?_
  refine awp_seq ?_
  refine awp_region ?_
  refine aR 1 ?_
  refine aE ?_
  refine awp_block ?_
  refine awp_to (st' := fleetmake_Stream_RightImages_x1_H  (qx, [], 2)) (oT [] [1]) ?_
  refine bE hF fun x h29 hF => ?_
  obtain ⟨vs13_1, vx32_1⟩ := x
  refine awp_sub (awp_loop' (fleetmake_Stream_RightImages_x1_H ) fleetmake_Stream_RightImages_x1_k (fleetmake_Stream_RightImages_x1_S ) (by intro x; exact fun h => nomatch h) h29 (fleetmake_Stream_RightImages_x1_ok )) ?_
  refine awp_seq ?_
  refine awp_region ?_
  refine aR 2 ?_
  refine aE ?_
  refine awp_ret ?_
  exact oF hF [] []

/-! ### slices.Clone[[]beaconfleet/api.Range,beaconfleet/api.Range] -/
def slices_Clone_api_Range_api_Range_R (qs : List api_Range) (r : List api_Range) : TV × Mem := (.v (.one (.own 0 none)), ⟨[(0, ⟨57, 6, List.map api_Range.enc r⟩)], []⟩)

theorem slices_Clone_api_Range_api_Range_ok {qs : List api_Range} {r} (hF : slices_Clone_api_Range_api_Range qs = some r) : Holds prog 25 [.v (.one (.d (.lst (List.map api_Range.enc qs))))] ⟨[], []⟩ (Is (slices_Clone_api_Range_api_Range_R qs r)) := by
  unfold slices_Clone_api_Range_api_Range at hF
  refine gE hF fun h1 hF => ?_
  refine holds_of_awp hΓ (fn := f25) (c := cB f25) (A := 0) (nx := 0) (by kernel_rfl) (by kernel_rfl) (by kernel_rfl) (by kernel_rfl) (by kernel_rfl) (by kernel_rfl) (lowc_of (by kernel_rfl)) ?_
  show Awp prog 0 8 (cB f25) _ _
  refine awp_seq ?_
  refine awp_region ?_
  refine aR 1 ?_
  refine aE ?_
  refine awp_seq ?_
  refine awp_seq ?_
  refine awp_region ?_
  refine aR 1 ?_
  refine aN api_Range.enc qs (fun b hb => ?_) rfl
  refine aE ?_
  cases b with
  | true =>
    obtain rfl := hb rfl
    refine awp_true (by kernel_rfl) rfl ?_
    refine awp_seq ?_
    refine awp_region ?_
    refine aR 1 ?_
    refine aE ?_
    refine awp_ret ?_
    exact oF hF [] [0]
  | false =>
    refine awp_false (by kernel_rfl) rfl ?_
    refine awp_skip ?_
    refine awp_seq ?_
    refine awp_region ?_
    refine aR 2 ?_
    refine aX (x_app api_Range.enc 3000 h1) ?_
    refine aR 1 ?_
    refine aE ?_
    refine awp_ret ?_
    exact oF hF [(0, 5000)] []

/-! ### (*beaconfleet/fleetmake.Stream).Images -/
def fleetmake_Stream_Images_x2_k : (fleetmake_Stream × Bool) → AEx
  | _ => .normal

def fleetmake_Stream_Images_x2_S (vs14 : fleetmake_Stream) (vr25 : List api_Image) : (fleetmake_Stream × Bool) → St
  | (vs, vx) => Mem.st ⟨[(1, ⟨52, 6, List.map api_Image.enc vr25⟩)], [(0, [.d (.lst (List.map (encI .i64) vs.L)), .d (.int .i64 vs.at_)])]⟩ (tl [(0, .v (.one (.box 0 0))), (3, .v (.one (.own 1 none))), (13, .v (.one (.d (.bool vx))))]) 2

def fleetmake_Stream_Images_x2_I (vs14 : fleetmake_Stream) (vr25 : List api_Image) : St := Mem.st ⟨[(1, ⟨52, 6, List.map api_Image.enc vr25⟩)], [(0, [.d (.lst (List.map (encI .i64) vs14.L)), .d (.int .i64 vs14.at_)])]⟩ (tl [(0, .v (.one (.box 0 0))), (3, .v (.one (.own 1 none)))]) 2

theorem fleetmake_Stream_Images_x2_ok (vs14 : fleetmake_Stream) (vr25 : List api_Image) {r} (hF : fleetmake_Stream_Images_x2 vs14 vr25 = some r) : Awp prog 1 80 (cL (cL (cR (cR (cB f6))))) (Out 1 fleetmake_Stream_Images_x2_k (fleetmake_Stream_Images_x2_S vs14 vr25) r) (fleetmake_Stream_Images_x2_I vs14 vr25) := by
  unfold fleetmake_Stream_Images_x2 at hF
  refine cE hF (fun h2 hF => ?_) fun h2 hF => ?_
  · refine bE hF fun vr h3 hF => ?_
    refine awp_region ?_
    refine aR 1 ?_
    refine aL api_Image.enc vr25 ?_
    refine aB h2 ?_
    refine aR 2 ?_
    refine aC (fleetmake_Stream_Flip_ok h3) [] [] [] ?_
    refine aR 1 ?_
    refine aE ?_
    exact oO hF [] [] rfl
  · refine awp_region ?_
    refine aR 1 ?_
    refine aL api_Image.enc vr25 ?_
    refine aB h2 ?_
    refine aR 4 ?_
    refine aE ?_
    exact oO hF [] [] rfl

def fleetmake_Stream_Images_x1_k : (fleetmake_Stream × (List api_Image)) → AEx
  | _ => .normal

def fleetmake_Stream_Images_x1_S (vs14 : fleetmake_Stream) (vr25 : List api_Image) : (fleetmake_Stream × (List api_Image)) → St
  | (vs2, vx2) => Mem.st ⟨[(1, ⟨52, 6, List.map api_Image.enc vx2⟩)], [(0, [.d (.lst (List.map (encI .i64) vs2.L)), .d (.int .i64 vs2.at_)])]⟩ (tl [(3, .v (.one (.own 1 none)))]) 2

def fleetmake_Stream_Images_x1_I (vs14 : fleetmake_Stream) (vr25 : List api_Image) : St := Mem.st ⟨[(1, ⟨52, 6, List.map api_Image.enc vr25⟩)], [(0, [.d (.lst (List.map (encI .i64) vs14.L)), .d (.int .i64 vs14.at_)])]⟩ (tl [(0, .v (.one (.box 0 0))), (3, .v (.one (.own 1 none)))]) 2

theorem fleetmake_Stream_Images_x1_ok (vs14 : fleetmake_Stream) (vr25 : List api_Image) {r} (hF : fleetmake_Stream_Images_x1 vs14 vr25 = some r) : Awp prog 1 80 (cL (cR (cR (cB f6)))) (Out 1 fleetmake_Stream_Images_x1_k (fleetmake_Stream_Images_x1_S vs14 vr25) r) (fleetmake_Stream_Images_x1_I vs14 vr25) := by
  unfold fleetmake_Stream_Images_x1 at hF
  refine awp_seq ?_
  refine awp_to (st' := fleetmake_Stream_Images_x2_I vs14 vr25) (oT [] []) ?_
  refine bE hF fun x h4 hF => ?_
  obtain ⟨vs1, vx1⟩ := x
  refine awp_sub (fleetmake_Stream_Images_x2_ok vs14 vr25 h4) ?_
  refine cE hF (fun h5 hF => ?_) fun h5 hF => ?_
  · refine awp_true (by kernel_rfl) h5 ?_
    refine awp_seq ?_
    refine bE hF fun vr3 h6 hF => ?_
    refine bE hF fun vy h7 hF => ?_
    refine awp_region ?_
    refine aR 3 ?_
    refine aL api_Image.enc vr25 ?_
    refine aC (fleetmake_Stream_Next_ok h6) [] [] [] ?_
    refine aX (x_idxO api_Image.enc 1 h7) ?_
    refine aR 1 ?_
    refine aE ?_
    refine awp_seq ?_
    refine bE hF fun vr3_1 h8 hF => ?_
    refine awp_region ?_
    refine aR 1 ?_
    refine aC (fleetmake_Stream_Next_ok h8) [] [] [] ?_
    refine aE ?_
    refine awp_block ?_
    refine awp_seq ?_
    refine awp_region ?_
    refine aR 2 ?_
    refine aE ?_
    refine cE hF (fun h9 hF => ?_) fun h9 hF => ?_
    · refine awp_true (by kernel_rfl) h9 ?_
      refine bE hF fun x h10 hF => ?_
      obtain ⟨vs3, vr1⟩ := x
      refine awp_region ?_
      refine aR 2 ?_
      refine aC (fleetmake_Stream_Version_ok h10) [] [] [] ?_
      refine aR 2 ?_
      refine aX (x_stE api_Image.enc (api_Image.mk vr1 vy.Models vy.From vy.Size) h7) ?_
      refine aE ?_
      exact oO hF [] [] rfl
    · refine awp_false (by kernel_rfl) h9 ?_
      refine awp_seq ?_
      refine awp_region ?_
      refine aR 2 ?_
      refine aE ?_
      refine cE hF (fun h11 hF => ?_) fun h11 hF => ?_
      · refine awp_true (by kernel_rfl) h11 ?_
        refine bE hF fun vr3_2 h12 hF => ?_
        refine bE hF fun vy1 h13 hF => ?_
        refine awp_region ?_
        refine aR 4 ?_
        refine aF ⟨[(1, ⟨52, 6, List.map api_Image.enc vr25⟩)], [(0, [.d (.lst (List.map (encI .i64) vs1.L)), .d (.int .i64 (IntKind.wrap .i64 ((IntKind.wrap .i64 (vs1.at_ + 1)) + 1)))])]⟩ [(0, .v (.one (.box 0 0))), (3, .v (.one (.own 1 none))), (36, .v (.one (.ep 1 vr3.toNat 0))), (37, .v (.one (.d (.lst (List.map encS ([([110] : List UInt8), ([109] : List UInt8)] : List (List UInt8))))))), (38, .v (.one (.d (.lst (List.map encS ([([] : List UInt8)] : List (List UInt8))))))), (39, .v (.one (.d (.lst (List.map encS ([([109] : List UInt8), ([109] : List UInt8)] : List (List UInt8)))))))] ?_
        refine aR 2 ?_
        refine aC (fleetmake_Stream_Next_ok h12) [] [] [] ?_
        refine aX (x_idxO (encL encS) 17002 h13) ?_
        refine aX (x_ldE (encL encS) h13) ?_
        refine aR 2 ?_
        refine aX (x_stE api_Image.enc (api_Image.mk (api_Version.mk vy.Version.Major vy.Version.Minor vy.Version.Patch) vy1 vy.From vy.Size) h7) ?_
        refine aE ?_
        exact oO hF [] [] rfl
      · refine awp_false (by kernel_rfl) h11 ?_
        refine awp_seq ?_
        refine awp_region ?_
        refine aR 2 ?_
        refine aE ?_
        refine cE hF (fun h14 hF => ?_) fun h14 hF => ?_
        · refine awp_true (by kernel_rfl) h14 ?_
          refine bE hF fun vr2 h15 hF => ?_
          refine bE hF fun x h16 hF => ?_
          obtain ⟨vs3_1, vr1_1⟩ := x
          refine bE hF fun x h17 hF => ?_
          obtain ⟨vs3_2, vr1_2⟩ := x
          refine gE hF fun h18 hF => ?_
          refine awp_region ?_
          refine aR 4 ?_
          refine aX (x_ldE api_Image.enc h7) ?_
          refine aC (slices_Clone_api_Range_api_Range_ok h15) [] [] [] ?_
          refine aR 1 ?_
          refine aC (fleetmake_Stream_Version_ok h16) [] [] [] ?_
          refine aR 1 ?_
          refine aC (fleetmake_Stream_Version_ok h17) [] [] [] ?_
          refine aR 2 ?_
          refine aX (x_app api_Range.enc 20002 h18) ?_
          refine aR 2 ?_
          refine aF ⟨[(1, ⟨52, 6, List.map api_Image.enc vr25⟩), (26002, ⟨57, 6, List.map api_Range.enc ([api_Range.mk vr1_1 vr1_2] : List api_Range)⟩)], [(0, [.d (.lst (List.map (encI .i64) vs3_2.L)), .d (.int .i64 vs3_2.at_)])]⟩ [(3, .v (.one (.own 1 none))), (61, .v (.one (.d (.lst (List.map api_Range.enc (vr2 ++ ([api_Range.mk vr1_1 vr1_2] : List api_Range))))))), (63, .v (.one (.ep 1 vr3.toNat 4)))] ?_
          refine aX (x_stE api_Image.enc (api_Image.mk (api_Version.mk vy.Version.Major vy.Version.Minor vy.Version.Patch) vy.Models (vr2 ++ ([api_Range.mk vr1_1 vr1_2] : List api_Range)) vy.Size) h7) ?_
          refine aE ?_
          exact oO hF [] [] rfl
        · refine awp_false (by kernel_rfl) h14 ?_
          refine awp_seq ?_
          refine awp_region ?_
          refine aR 2 ?_
          refine aE ?_
          refine cE hF (fun h19 hF => ?_) fun h19 hF => ?_
          · refine awp_true (by kernel_rfl) h19 ?_
            refine aDw [1] ?_
            refine dR 4 ?_
            refine dX (x_ldE api_Image.enc h7) ?_
            refine dR 3 ?_
            refine dX (x_ldE api_Image.enc h7) ?_
            refine dR 1 ?_
            refine dS (U := []) (stable_bsD (xs := List.map api_Range.enc ([api_Range.mk (api_Version.mk vy.Version.Major vy.Version.Minor vy.Version.Patch) (api_Version.mk vy.Version.Major vy.Version.Minor vy.Version.Patch)] : List api_Range)) rfl (by kernel_rfl)) ?_
            refine dR 2 ?_
            refine dW api_Image.enc (api_Image.mk (api_Version.mk vy.Version.Major vy.Version.Minor vy.Version.Patch) vy.Models ([api_Range.mk (api_Version.mk vy.Version.Major vy.Version.Minor vy.Version.Patch) (api_Version.mk vy.Version.Major vy.Version.Minor vy.Version.Patch)] : List api_Range) vy.Size) h7 rfl ?_
            refine dE ?_
            exact oO hF [] [] rfl
          · refine awp_false (by kernel_rfl) h19 ?_
            refine bE hF fun x h20 hF => ?_
            obtain ⟨vs1_1, vr3_3⟩ := x
            refine awp_region ?_
            refine aR 2 ?_
            refine aC (fleetmake_Stream_Odd_ok h20) [] [] [] ?_
            refine aR 2 ?_
            refine aX (x_stE api_Image.enc (api_Image.mk (api_Version.mk vy.Version.Major vy.Version.Minor vy.Version.Patch) vy.Models vy.From vr3_3) h7) ?_
            refine aE ?_
            exact oO hF [] [] rfl
  · refine awp_false (by kernel_rfl) h5 ?_
    refine awp_skip ?_
    exact oO hF [] [] rfl

def fleetmake_Stream_Images_R (qx : fleetmake_Stream) (r : fleetmake_Stream × (List api_Image)) : TV × Mem := (.v (.one (.own 1 none)), ⟨[(1, ⟨52, 6, List.map api_Image.enc r.2⟩)], [(0, [.d (.lst (List.map (encI .i64) r.1.L)), .d (.int .i64 r.1.at_)])]⟩)

theorem fleetmake_Stream_Images_ok {qx : fleetmake_Stream} {r} (hF : fleetmake_Stream_Images qx = some r) : Holds prog 6 [.v (.one (.box 0 0))] ⟨[], [(0, [.d (.lst (List.map (encI .i64) qx.L)), .d (.int .i64 qx.at_)])]⟩ (Is (fleetmake_Stream_Images_R qx r)) := by
  unfold fleetmake_Stream_Images at hF
  refine holds_of_awp hΓ (fn := f6) (c := cB f6) (A := 1) (nx := 1) (by kernel_rfl) (by kernel_rfl) (by kernel_rfl) (by kernel_rfl) (by kernel_rfl) (by kernel_rfl) (lowc_of (by kernel_rfl)) ?_
  show Awp prog 1 80 (cB f6) _ _
  refine awp_seq ?_
  refine awp_region ?_
  refine aR 1 ?_
  refine aE ?_
  refine awp_seq ?_
  refine bE hF fun x h1 hF => ?_
  obtain ⟨vs14, vr25⟩ := x
  refine awp_region ?_
  refine aR 1 ?_
  refine aC (fleetmake_Stream_RightImages_ok h1) [] [] [] ?_
  refine aR 1 ?_
  refine aE ?_
  refine awp_seq ?_
  refine awp_to (st' := fleetmake_Stream_Images_x1_I vs14 vr25) (oT [(1, 2002)] []) ?_
  refine bE hF fun x h21 hF => ?_
  obtain ⟨vs2_1, vx2_1⟩ := x
  refine awp_sub (fleetmake_Stream_Images_x1_ok vs14 vr25 h21) ?_
  refine awp_seq ?_
  refine awp_region ?_
  refine aR 2 ?_
  refine aE ?_
  refine awp_ret ?_
  exact oF hF [] []

/-! ### beaconfleet/base.Out -/
def base_Out_x1_k : Bool → AEx
  | _ => .normal

def base_Out_x1_S (qn : Int) (qlow : Int) (qhigh : Int) : Bool → St
  | vx => Mem.st ⟨[], []⟩ (tl [(6, .v (.one (.d (.bool vx))))]) 0

def base_Out_x1_I (qn : Int) (qlow : Int) (qhigh : Int) : St := Mem.st ⟨[], []⟩ (tl [(0, .v (.one (.d (.int .i64 qn)))), (1, .v (.one (.d (.int .i64 qlow)))), (2, .v (.one (.d (.int .i64 qhigh))))]) 0

theorem base_Out_x1_ok (qn : Int) (qlow : Int) (qhigh : Int) {r} (hF : base_Out_x1 qn qlow qhigh = some r) : Awp prog 0 15 (cL (cR (cB f38))) (Out 0 base_Out_x1_k (base_Out_x1_S qn qlow qhigh) r) (base_Out_x1_I qn qlow qhigh) := by
  unfold base_Out_x1 at hF
  refine cE hF (fun h1 hF => ?_) fun h1 hF => ?_
  · refine awp_region ?_
    refine aR 2 ?_
    refine aB h1 ?_
    refine aR 6 ?_
    refine aE ?_
    exact oO hF [] [] rfl
  · refine awp_region ?_
    refine aR 2 ?_
    refine aB h1 ?_
    refine aR 6 ?_
    refine aE ?_
    exact oO hF [] [] rfl

def base_Out_R (qn : Int) (qlow : Int) (qhigh : Int) (r : Bool) : TV × Mem := (.v (.one (.d (.bool r))), ⟨[], []⟩)

theorem base_Out_ok {qn : Int} {qlow : Int} {qhigh : Int} {r} (hF : base_Out qn qlow qhigh = some r) : Holds prog 38 [.v (.one (.d (.int .i64 qn))), .v (.one (.d (.int .i64 qlow))), .v (.one (.d (.int .i64 qhigh)))] ⟨[], []⟩ (Is (base_Out_R qn qlow qhigh r)) := by
  unfold base_Out at hF
  refine holds_of_awp hΓ (fn := f38) (c := cB f38) (A := 0) (nx := 0) (by kernel_rfl) (by kernel_rfl) (by kernel_rfl) (by kernel_rfl) (by kernel_rfl) (by kernel_rfl) (lowc_of (by kernel_rfl)) ?_
  show Awp prog 0 15 (cB f38) _ _
  refine awp_seq ?_
  refine awp_region ?_
  refine aR 1 ?_
  refine aE ?_
  refine awp_seq ?_
  refine awp_to (st' := base_Out_x1_I qn qlow qhigh) (oT [] []) ?_
  refine bE hF fun vx1 h2 hF => ?_
  refine awp_sub (base_Out_x1_ok qn qlow qhigh h2) ?_
  refine awp_ret ?_
  exact oF hF [] []

/-! ### beaconfleet/base.Version -/
def base_Version_x1_k : Bool → AEx
  | _ => .normal

def base_Version_x1_S (qv : api_Version) : Bool → St
  | vx => Mem.st ⟨[], []⟩ (tl [(2, .v (.one (.d (.bool vx))))]) 0

def base_Version_x1_I (qv : api_Version) : St := Mem.st ⟨[], [(0, [.d (.int .i64 qv.Major), .d (.int .i64 qv.Minor), .d (.int .i64 qv.Patch)])]⟩ (tl [(1, .v (.one (.box 0 0)))]) 1

theorem base_Version_x1_ok (qv : api_Version) {r} (hF : base_Version_x1 qv = some r) : Awp prog 0 19 (cL (cR (cB f31))) (Out 0 base_Version_x1_k (base_Version_x1_S qv) r) (base_Version_x1_I qv) := by
  unfold base_Version_x1 at hF
  refine bE hF fun vr h1 hF => ?_
  refine cE hF (fun h2 hF => ?_) fun h2 hF => ?_
  · refine bE hF fun vr1 h3 hF => ?_
    refine cE hF (fun h4 hF => ?_) fun h4 hF => ?_
    · refine bE hF fun vr2 h5 hF => ?_
      refine awp_region ?_
      refine aR 2 ?_
      refine aC (base_Out_ok h1) [] [] [] ?_
      refine aB h2 ?_
      refine aR 3 ?_
      refine aC (base_Out_ok h3) [] [] [] ?_
      refine aB h4 ?_
      refine aR 4 ?_
      refine aC (base_Out_ok h5) [] [] [] ?_
      refine aR 3 ?_
      refine aE ?_
      exact oO hF [] [] rfl
    · refine awp_region ?_
      refine aR 2 ?_
      refine aC (base_Out_ok h1) [] [] [] ?_
      refine aB h2 ?_
      refine aR 3 ?_
      refine aC (base_Out_ok h3) [] [] [] ?_
      refine aB h4 ?_
      refine aR 8 ?_
      refine aE ?_
      exact oO hF [] [] rfl
  · refine awp_region ?_
    refine aR 2 ?_
    refine aC (base_Out_ok h1) [] [] [] ?_
    refine aB h2 ?_
    refine aR 13 ?_
    refine aE ?_
    exact oO hF [] [] rfl

def base_Version_R (qv : api_Version) (r : Bool) : TV × Mem := (.v (.one (.d (.bool r))), ⟨[], []⟩)

theorem base_Version_ok {qv : api_Version} {r} (hF : base_Version qv = some r) : Holds prog 31 [.v (.agg [.d (.int .i64 qv.Major), .d (.int .i64 qv.Minor), .d (.int .i64 qv.Patch)])] ⟨[], []⟩ (Is (base_Version_R qv r)) := by
  unfold base_Version at hF
  refine holds_of_awp hΓ (fn := f31) (c := cB f31) (A := 0) (nx := 0) (by kernel_rfl) (by kernel_rfl) (by kernel_rfl) (by kernel_rfl) (by kernel_rfl) (by kernel_rfl) (lowc_of (by kernel_rfl)) ?_
  show Awp prog 0 19 (cB f31) _ _
  refine awp_seq ?_
  refine awp_region ?_
  refine aR 2 ?_
  refine aE ?_
  refine awp_seq ?_
  refine awp_to (st' := base_Version_x1_I qv) (oT [] []) ?_
  refine bE hF fun vx1 h6 hF => ?_
  refine awp_sub (base_Version_x1_ok qv h6) ?_
  refine awp_ret ?_
  exact oF hF [] []

/-! ### beaconfleet/campaign.versionFault -/
def campaign_versionFault_R (qv : api_Version) (r : Int) : TV × Mem := (.v (.one (.d (.int .i64 r))), ⟨[], []⟩)

theorem campaign_versionFault_ok {qv : api_Version} {r} (hF : campaign_versionFault qv = some r) : Holds prog 26 [.v (.agg [.d (.int .i64 qv.Major), .d (.int .i64 qv.Minor), .d (.int .i64 qv.Patch)])] ⟨[], []⟩ (Is (campaign_versionFault_R qv r)) := by
  unfold campaign_versionFault at hF
  refine holds_of_awp hΓ (fn := f26) (c := cB f26) (A := 0) (nx := 0) (by kernel_rfl) (by kernel_rfl) (by kernel_rfl) (by kernel_rfl) (by kernel_rfl) (by kernel_rfl) (lowc_of (by kernel_rfl)) ?_
  show Awp prog 0 6 (cB f26) _ _
  refine awp_seq ?_
  refine awp_region ?_
  refine aR 2 ?_
  refine aE ?_
  refine awp_seq ?_
  refine awp_seq ?_
  refine bE hF fun vr3 h1 hF => ?_
  refine awp_region ?_
  refine aR 1 ?_
  refine aC (base_Version_ok h1) [] [] [] ?_
  refine aR 1 ?_
  refine aE ?_
  refine cE hF (fun h2 hF => ?_) fun h2 hF => ?_
  · refine awp_true (by kernel_rfl) h2 ?_
    refine awp_seq ?_
    refine awp_region ?_
    refine aR 1 ?_
    refine aE ?_
    refine awp_ret ?_
    exact oF hF [] []
  · refine awp_false (by kernel_rfl) h2 ?_
    refine awp_skip ?_
    refine awp_seq ?_
    refine awp_region ?_
    refine aR 1 ?_
    refine aE ?_
    refine awp_ret ?_
    exact oF hF [] []

/-! ### beaconfleet/campaign.VersionText -/
def campaign_VersionText_R (qv : api_Version) (r : (List UInt8) × Int) : TV × Mem := (.tup [.one (.d (.str r.1)), .one (.d (.int .i64 r.2))], ⟨[], []⟩)

theorem campaign_VersionText_ok {qv : api_Version} {r} (hF : campaign_VersionText qv = some r) : Holds prog 7 [.v (.agg [.d (.int .i64 qv.Major), .d (.int .i64 qv.Minor), .d (.int .i64 qv.Patch)])] ⟨[], []⟩ (Is (campaign_VersionText_R qv r)) := by
  unfold campaign_VersionText at hF
  refine holds_of_awp hΓ (fn := f7) (c := cB f7) (A := 0) (nx := 0) (by kernel_rfl) (by kernel_rfl) (by kernel_rfl) (by kernel_rfl) (by kernel_rfl) (by kernel_rfl) (lowc_of (by kernel_rfl)) ?_
  show Awp prog 0 23 (cB f7) _ _
  refine awp_seq ?_
  refine awp_region ?_
  refine aR 3 ?_
  refine aE ?_
  refine awp_seq ?_
  refine awp_seq ?_
  refine bE hF fun vr h1 hF => ?_
  refine awp_region ?_
  refine aR 1 ?_
  refine aC (campaign_versionFault_ok h1) [] [] [] ?_
  refine aR 1 ?_
  refine aE ?_
  refine awp_seq ?_
  refine awp_region ?_
  refine aR 2 ?_
  refine aE ?_
  refine cE hF (fun h2 hF => ?_) fun h2 hF => ?_
  · refine awp_true (by kernel_rfl) h2 ?_
    refine awp_seq ?_
    refine awp_region ?_
    refine aR 3 ?_
    refine aE ?_
    refine awp_ret ?_
    exact oF hF [] []
  · refine awp_false (by kernel_rfl) h2 ?_
    refine awp_skip ?_
    refine awp_seq ?_
    refine bE hF fun vr1 h3 hF => ?_
    refine gE hF fun h4 hF => ?_
    refine bE hF fun vr2 h5 hF => ?_
    refine gE hF fun h6 hF => ?_
    refine gE hF fun h7 hF => ?_
    refine bE hF fun vr3 h8 hF => ?_
    refine gE hF fun h9 hF => ?_
    refine aD ?_
    refine dR 2 ?_
    refine dC (strconv_Itoa_ok h3) [] [] [] ?_
    refine dX (x_cat h4) ?_
    refine dR 2 ?_
    refine dC (strconv_Itoa_ok h5) [] [] [] ?_
    refine dX (x_cat h6) ?_
    refine dX (x_cat h7) ?_
    refine dR 2 ?_
    refine dC (strconv_Itoa_ok h8) [] [] [] ?_
    refine dX (x_cat h9) ?_
    refine dR 2 ?_
    refine dE ?_
    refine awp_ret ?_
    exact oF hF [] []

/-! ### beaconfleet/fleetref2.in -/
def fleetref2_in_x1_k : Bool → AEx
  | _ => .normal

def fleetref2_in_x1_S (qn : Int) (qlow : Int) (qhigh : Int) : Bool → St
  | vx => Mem.st ⟨[], []⟩ (tl [(6, .v (.one (.d (.bool vx))))]) 0

def fleetref2_in_x1_I (qn : Int) (qlow : Int) (qhigh : Int) : St := Mem.st ⟨[], []⟩ (tl [(0, .v (.one (.d (.int .i64 qn)))), (1, .v (.one (.d (.int .i64 qlow)))), (2, .v (.one (.d (.int .i64 qhigh))))]) 0

theorem fleetref2_in_x1_ok (qn : Int) (qlow : Int) (qhigh : Int) {r} (hF : fleetref2_in_x1 qn qlow qhigh = some r) : Awp prog 0 15 (cL (cR (cB f41))) (Out 0 fleetref2_in_x1_k (fleetref2_in_x1_S qn qlow qhigh) r) (fleetref2_in_x1_I qn qlow qhigh) := by
  unfold fleetref2_in_x1 at hF
  refine cE hF (fun h1 hF => ?_) fun h1 hF => ?_
  · refine awp_region ?_
    refine aR 2 ?_
    refine aB h1 ?_
    refine aR 6 ?_
    refine aE ?_
    exact oO hF [] [] rfl
  · refine awp_region ?_
    refine aR 2 ?_
    refine aB h1 ?_
    refine aR 6 ?_
    refine aE ?_
    exact oO hF [] [] rfl

def fleetref2_in_R (qn : Int) (qlow : Int) (qhigh : Int) (r : Bool) : TV × Mem := (.v (.one (.d (.bool r))), ⟨[], []⟩)

theorem fleetref2_in_ok {qn : Int} {qlow : Int} {qhigh : Int} {r} (hF : fleetref2_in qn qlow qhigh = some r) : Holds prog 41 [.v (.one (.d (.int .i64 qn))), .v (.one (.d (.int .i64 qlow))), .v (.one (.d (.int .i64 qhigh)))] ⟨[], []⟩ (Is (fleetref2_in_R qn qlow qhigh r)) := by
  unfold fleetref2_in at hF
  refine holds_of_awp hΓ (fn := f41) (c := cB f41) (A := 0) (nx := 0) (by kernel_rfl) (by kernel_rfl) (by kernel_rfl) (by kernel_rfl) (by kernel_rfl) (by kernel_rfl) (lowc_of (by kernel_rfl)) ?_
  show Awp prog 0 15 (cB f41) _ _
  refine awp_seq ?_
  refine awp_region ?_
  refine aR 1 ?_
  refine aE ?_
  refine awp_seq ?_
  refine awp_to (st' := fleetref2_in_x1_I qn qlow qhigh) (oT [] []) ?_
  refine bE hF fun vx1 h2 hF => ?_
  refine awp_sub (fleetref2_in_x1_ok qn qlow qhigh h2) ?_
  refine awp_ret ?_
  exact oF hF [] []

/-! ### beaconfleet/fleetref2.versionFault -/
def fleetref2_versionFault_x1_k : Bool → AEx
  | _ => .normal

def fleetref2_versionFault_x1_S (qv : api_Version) : Bool → St
  | vx => Mem.st ⟨[], []⟩ (tl [(18, .v (.one (.d (.bool vx))))]) 0

def fleetref2_versionFault_x1_I (qv : api_Version) : St := Mem.st ⟨[], [(0, [.d (.int .i64 qv.Major), .d (.int .i64 qv.Minor), .d (.int .i64 qv.Patch)])]⟩ (tl [(1, .v (.one (.box 0 0)))]) 1

theorem fleetref2_versionFault_x1_ok (qv : api_Version) {r} (hF : fleetref2_versionFault_x1 qv = some r) : Awp prog 0 19 (cL (cL (cR (cB f28)))) (Out 0 fleetref2_versionFault_x1_k (fleetref2_versionFault_x1_S qv) r) (fleetref2_versionFault_x1_I qv) := by
  unfold fleetref2_versionFault_x1 at hF
  refine bE hF fun vr h1 hF => ?_
  refine cE hF (fun h2 hF => ?_) fun h2 hF => ?_
  · refine awp_region ?_
    refine aR 2 ?_
    refine aC (fleetref2_in_ok h1) [] [] [] ?_
    refine aB h2 ?_
    refine aR 12 ?_
    refine aE ?_
    exact oO hF [] [] rfl
  · refine bE hF fun vr1 h3 hF => ?_
    refine cE hF (fun h4 hF => ?_) fun h4 hF => ?_
    · refine awp_region ?_
      refine aR 2 ?_
      refine aC (fleetref2_in_ok h1) [] [] [] ?_
      refine aB h2 ?_
      refine aR 3 ?_
      refine aC (fleetref2_in_ok h3) [] [] [] ?_
      refine aB h4 ?_
      refine aR 7 ?_
      refine aE ?_
      exact oO hF [] [] rfl
    · refine bE hF fun vr2 h5 hF => ?_
      refine awp_region ?_
      refine aR 2 ?_
      refine aC (fleetref2_in_ok h1) [] [] [] ?_
      refine aB h2 ?_
      refine aR 3 ?_
      refine aC (fleetref2_in_ok h3) [] [] [] ?_
      refine aB h4 ?_
      refine aR 4 ?_
      refine aC (fleetref2_in_ok h5) [] [] [] ?_
      refine aR 2 ?_
      refine aE ?_
      exact oO hF [] [] rfl

def fleetref2_versionFault_R (qv : api_Version) (r : Int) : TV × Mem := (.v (.one (.d (.int .i64 r))), ⟨[], []⟩)

theorem fleetref2_versionFault_ok {qv : api_Version} {r} (hF : fleetref2_versionFault qv = some r) : Holds prog 28 [.v (.agg [.d (.int .i64 qv.Major), .d (.int .i64 qv.Minor), .d (.int .i64 qv.Patch)])] ⟨[], []⟩ (Is (fleetref2_versionFault_R qv r)) := by
  unfold fleetref2_versionFault at hF
  refine holds_of_awp hΓ (fn := f28) (c := cB f28) (A := 0) (nx := 0) (by kernel_rfl) (by kernel_rfl) (by kernel_rfl) (by kernel_rfl) (by kernel_rfl) (by kernel_rfl) (lowc_of (by kernel_rfl)) ?_
  show Awp prog 0 19 (cB f28) _ _
  refine awp_seq ?_
  refine awp_region ?_
  refine aR 2 ?_
  refine aE ?_
  refine awp_seq ?_
  refine awp_seq ?_
  refine awp_to (st' := fleetref2_versionFault_x1_I qv) (oT [] []) ?_
  refine bE hF fun vx1 h6 hF => ?_
  refine awp_sub (fleetref2_versionFault_x1_ok qv h6) ?_
  refine cE hF (fun h7 hF => ?_) fun h7 hF => ?_
  · refine awp_true (by kernel_rfl) h7 ?_
    refine awp_seq ?_
    refine awp_region ?_
    refine aR 1 ?_
    refine aE ?_
    refine awp_ret ?_
    exact oF hF [] []
  · refine awp_false (by kernel_rfl) h7 ?_
    refine awp_skip ?_
    refine awp_seq ?_
    refine awp_region ?_
    refine aR 1 ?_
    refine aE ?_
    refine awp_ret ?_
    exact oF hF [] []

/-! ### beaconfleet/fleetref2.VersionFault -/
def fleetref2_VersionFault_R (qv : api_Version) (r : Int) : TV × Mem := (.v (.one (.d (.int .i64 r))), ⟨[], []⟩)

theorem fleetref2_VersionFault_ok {qv : api_Version} {r} (hF : fleetref2_VersionFault qv = some r) : Holds prog 8 [.v (.agg [.d (.int .i64 qv.Major), .d (.int .i64 qv.Minor), .d (.int .i64 qv.Patch)])] ⟨[], []⟩ (Is (fleetref2_VersionFault_R qv r)) := by
  unfold fleetref2_VersionFault at hF
  refine holds_of_awp hΓ (fn := f8) (c := cB f8) (A := 0) (nx := 0) (by kernel_rfl) (by kernel_rfl) (by kernel_rfl) (by kernel_rfl) (by kernel_rfl) (by kernel_rfl) (lowc_of (by kernel_rfl)) ?_
  show Awp prog 0 5 (cB f8) _ _
  refine awp_seq ?_
  refine awp_region ?_
  refine aR 2 ?_
  refine aE ?_
  refine awp_seq ?_
  refine bE hF fun vr3 h1 hF => ?_
  refine awp_region ?_
  refine aR 1 ?_
  refine aC (fleetref2_versionFault_ok h1) [] [] [] ?_
  refine aR 1 ?_
  refine aE ?_
  refine awp_ret ?_
  exact oF hF [] []

/-! ### unicode/utf8.RuneCountInString -/
def utf8_RuneCountInString_x1_k : Int → AEx
  | _ => .exit 0

def utf8_RuneCountInString_x1_S (qs : List UInt8) : Int → St
  | vn1 => Mem.st ⟨[], []⟩ (tl [(2, .v (.one (.d (.int .i64 vn1))))]) 0

def utf8_RuneCountInString_x1_H (qs : List UInt8) : Nat × Int → St
  | (vpos, vn) => Mem.st ⟨[], [(0, [.iters qs vpos])]⟩ (tl [(2, .v (.one (.d (.int .i64 vn)))), (4, .v (.one (.box 0 0)))]) 1

theorem utf8_RuneCountInString_x1_ok (qs : List UInt8) (s : Nat × Int) (r : (Nat × Int) ⊕ (Int)) (hF : utf8_RuneCountInString_x1 qs s = some r) : Awp prog 0 10 (cL (cL (cR (cL (cR (cB f69)))))) (Out 0 (kk utf8_RuneCountInString_x1_k) (SS (utf8_RuneCountInString_x1_H qs) (utf8_RuneCountInString_x1_S qs)) r) (utf8_RuneCountInString_x1_H qs s) := by
  obtain ⟨vpos, vn⟩ := s
  unfold utf8_RuneCountInString_x1 at hF
  refine awp_seq ?_
  refine cE hF (fun h1 hF => ?_) fun h1 hF => ?_
  · refine bE hF fun vd1 h2 hF => ?_
    refine awp_region ?_
    refine aX (x_next 0 qs vpos h1 h2) ?_
    refine aR 1 ?_
    refine aE ?_
    refine awp_seq ?_
    refine awp_true (by kernel_rfl) rfl ?_
    refine awp_skip ?_
    refine awp_block ?_
    refine awp_region ?_
    refine aR 3 ?_
    refine aE ?_
    exact oO hF [] [] rfl
  · refine awp_region ?_
    refine aX (x_nextE 0 qs vpos h1) ?_
    refine aR 1 ?_
    refine aE ?_
    refine awp_seq ?_
    refine awp_false (by kernel_rfl) rfl ?_
    refine awp_exit ?_
    exact oO hF [] [] rfl

def utf8_RuneCountInString_R (qs : List UInt8) (r : Int) : TV × Mem := (.v (.one (.d (.int .i64 r))), ⟨[], []⟩)

theorem utf8_RuneCountInString_ok {qs : List UInt8} {r} (hF : utf8_RuneCountInString qs = some r) : Holds prog 69 [.v (.one (.d (.str qs)))] ⟨[], []⟩ (Is (utf8_RuneCountInString_R qs r)) := by
  unfold utf8_RuneCountInString at hF
  refine holds_of_awp hΓ (fn := f69) (c := cB f69) (A := 0) (nx := 0) (by kernel_rfl) (by kernel_rfl) (by kernel_rfl) (by kernel_rfl) (by kernel_rfl) (by kernel_rfl) (lowc_of (by kernel_rfl)) ?_
  show Awp prog 0 10 (cB f69) _ _
  refine awp_seq ?_
  refine awp_region ?_
  refine aR 1 ?_
  refine aE ?_
  refine awp_seq ?_
  refine awp_seq ?_
  refine awp_region ?_
  refine aR 2 ?_
  refine aE ?_
  refine awp_block ?_
  refine awp_to (st' := utf8_RuneCountInString_x1_H qs ((0 : Nat), 0)) (oT [(0, 2000)] []) ?_
  refine bE hF fun vn1_1 h3 hF => ?_
  refine awp_sub (awp_loop' (utf8_RuneCountInString_x1_H qs) utf8_RuneCountInString_x1_k (utf8_RuneCountInString_x1_S qs) (by intro x; exact fun h => nomatch h) h3 (utf8_RuneCountInString_x1_ok qs)) ?_
  refine awp_seq ?_
  refine awp_region ?_
  refine aR 2 ?_
  refine aE ?_
  refine awp_ret ?_
  exact oF hF [] []

/-! ### unicode/utf8.decodeRuneInStringSlow -/
def utf8_decodeRuneInStringSlow_R (qx : List UInt8) (r : Unit) : TV × Mem := (.tup [.one (.d (.int .i32 65533)), .one (.d (.int .i64 0))], ⟨[], []⟩)

theorem utf8_decodeRuneInStringSlow_ok {qx : List UInt8} {r} (hF : utf8_decodeRuneInStringSlow qx = some r) : Holds prog 86 [.v (.one (.d (.str qx)))] ⟨[], []⟩ (Is (utf8_decodeRuneInStringSlow_R qx r)) := by
  unfold utf8_decodeRuneInStringSlow at hF
  refine holds_of_awp hΓ (fn := f86) (c := cB f86) (A := 0) (nx := 0) (by kernel_rfl) (by kernel_rfl) (by kernel_rfl) (by kernel_rfl) (by kernel_rfl) (by kernel_rfl) (lowc_of (by kernel_rfl)) ?_
  show Awp prog 0 117 (cB f86) _ _
  refine awp_seq ?_
  refine awp_region ?_
  refine aR 2 ?_
  refine aE ?_
  refine awp_seq ?_
  refine awp_region ?_
  refine aR 3 ?_
  refine aE ?_
  refine awp_seq ?_
  refine awp_seq ?_
  refine awp_region ?_
  refine aR 2 ?_
  refine aE ?_
  refine cE hF (fun h1 hF => ?_) fun h1 hF => ?_
  · refine awp_true (by kernel_rfl) h1 ?_
    refine awp_seq ?_
    refine awp_region ?_
    refine aR 2 ?_
    refine aE ?_
    refine awp_ret ?_
    exact oF hF [] []
  · refine awp_false (by kernel_rfl) h1 ?_
    refine awp_skip ?_
    refine awp_seq ?_
    refine bE hF fun vc h2 hF => ?_
    refine awp_region ?_
    refine aR 1 ?_
    refine aX (x_idxS h2) ?_
    refine aR 1 ?_
    refine aE ?_
    refine awp_seq ?_
    exact nE hF

/-! ### unicode/utf8.DecodeRuneInString -/
def utf8_DecodeRuneInString_x1_k : Bool → AEx
  | _ => .normal

def utf8_DecodeRuneInString_x1_S (qs : List UInt8) : Bool → St
  | vx => Mem.st ⟨[], []⟩ (tl [(0, .v (.one (.d (.str qs)))), (10, .v (.one (.d (.bool vx))))]) 0

def utf8_DecodeRuneInString_x1_I (qs : List UInt8) : St := Mem.st ⟨[], []⟩ (tl [(0, .v (.one (.d (.str qs))))]) 0

theorem utf8_DecodeRuneInString_x1_ok (qs : List UInt8) {r} (hF : utf8_DecodeRuneInString_x1 qs = some r) : Awp prog 0 19 (cL (cL (cR (cB f70)))) (Out 0 utf8_DecodeRuneInString_x1_k (utf8_DecodeRuneInString_x1_S qs) r) (utf8_DecodeRuneInString_x1_I qs) := by
  unfold utf8_DecodeRuneInString_x1 at hF
  refine cE hF (fun h1 hF => ?_) fun h1 hF => ?_
  · refine bE hF fun vc h2 hF => ?_
    refine awp_region ?_
    refine aR 1 ?_
    refine aB h1 ?_
    refine aR 2 ?_
    refine aX (x_idxS h2) ?_
    refine aR 2 ?_
    refine aE ?_
    exact oO hF [] [] rfl
  · refine awp_region ?_
    refine aR 1 ?_
    refine aB h1 ?_
    refine aR 5 ?_
    refine aE ?_
    exact oO hF [] [] rfl

def utf8_DecodeRuneInString_R (qs : List UInt8) (r : Int × Int) : TV × Mem := (.tup [.one (.d (.int .i32 r.1)), .one (.d (.int .i64 r.2))], ⟨[], []⟩)

theorem utf8_DecodeRuneInString_ok {qs : List UInt8} {r} (hF : utf8_DecodeRuneInString qs = some r) : Holds prog 70 [.v (.one (.d (.str qs)))] ⟨[], []⟩ (Is (utf8_DecodeRuneInString_R qs r)) := by
  unfold utf8_DecodeRuneInString at hF
  refine holds_of_awp hΓ (fn := f70) (c := cB f70) (A := 0) (nx := 0) (by kernel_rfl) (by kernel_rfl) (by kernel_rfl) (by kernel_rfl) (by kernel_rfl) (by kernel_rfl) (lowc_of (by kernel_rfl)) ?_
  show Awp prog 0 19 (cB f70) _ _
  refine awp_seq ?_
  refine awp_region ?_
  refine aR 2 ?_
  refine aE ?_
  refine awp_seq ?_
  refine awp_seq ?_
  refine awp_to (st' := utf8_DecodeRuneInString_x1_I qs) (oT [] []) ?_
  refine bE hF fun vx1 h3 hF => ?_
  refine awp_sub (utf8_DecodeRuneInString_x1_ok qs h3) ?_
  refine cE hF (fun h4 hF => ?_) fun h4 hF => ?_
  · refine awp_true (by kernel_rfl) h4 ?_
    refine awp_seq ?_
    refine bE hF fun vc1 h5 hF => ?_
    refine awp_region ?_
    refine aR 1 ?_
    refine aX (x_idxS h5) ?_
    refine aR 3 ?_
    refine aE ?_
    refine awp_ret ?_
    exact oF hF [] []
  · refine awp_false (by kernel_rfl) h4 ?_
    refine bE hF fun _ h6 hF => ?_
    refine awp_region ?_
    refine aR 1 ?_
    refine aC (utf8_decodeRuneInStringSlow_ok h6) [] [] [] ?_
    refine aR 5 ?_
    refine aE ?_
    refine awp_ret ?_
    exact oF hF [] []

/-! ### strings.explode -/
def strings_explode_x2_k : Bool → AEx
  | _ => .normal

def strings_explode_x2_S (qs : List UInt8) (qn : Int) (vr : Int) : Bool → St
  | vx => Mem.st ⟨[], []⟩ (tl [(0, .v (.one (.d (.str qs)))), (1, .v (.one (.d (.int .i64 qn)))), (5, .v (.one (.d (.int .i64 vr)))), (18, .v (.one (.d (.bool vx))))]) 0

def strings_explode_x2_I (qs : List UInt8) (qn : Int) (vr : Int) : St := Mem.st ⟨[], []⟩ (tl [(0, .v (.one (.d (.str qs)))), (1, .v (.one (.d (.int .i64 qn)))), (5, .v (.one (.d (.int .i64 vr))))]) 0

theorem strings_explode_x2_ok (qs : List UInt8) (qn : Int) (vr : Int) {r} (hF : strings_explode_x2 qn vr = some r) : Awp prog 0 50 (cL (cL (cR (cR (cB f55))))) (Out 0 strings_explode_x2_k (strings_explode_x2_S qs qn vr) r) (strings_explode_x2_I qs qn vr) := by
  unfold strings_explode_x2 at hF
  refine cE hF (fun h2 hF => ?_) fun h2 hF => ?_
  · refine awp_region ?_
    refine aR 1 ?_
    refine aB h2 ?_
    refine aR 5 ?_
    refine aE ?_
    exact oO hF [] [] rfl
  · refine awp_region ?_
    refine aR 1 ?_
    refine aB h2 ?_
    refine aR 5 ?_
    refine aE ?_
    exact oO hF [] [] rfl

def strings_explode_x1_k : Int → AEx
  | _ => .normal

def strings_explode_x1_S (qs : List UInt8) (qn : Int) (vr : Int) : Int → St
  | vn => Mem.st ⟨[], []⟩ (tl [(0, .v (.one (.d (.str qs)))), (1, .v (.one (.d (.int .i64 vn))))]) 0

def strings_explode_x1_I (qs : List UInt8) (qn : Int) (vr : Int) : St := Mem.st ⟨[], []⟩ (tl [(0, .v (.one (.d (.str qs)))), (1, .v (.one (.d (.int .i64 qn)))), (5, .v (.one (.d (.int .i64 vr))))]) 0

theorem strings_explode_x1_ok (qs : List UInt8) (qn : Int) (vr : Int) {r} (hF : strings_explode_x1 qn vr = some r) : Awp prog 0 50 (cL (cR (cR (cB f55)))) (Out 0 strings_explode_x1_k (strings_explode_x1_S qs qn vr) r) (strings_explode_x1_I qs qn vr) := by
  unfold strings_explode_x1 at hF
  refine awp_seq ?_
  refine awp_to (st' := strings_explode_x2_I qs qn vr) (oT [] []) ?_
  refine bE hF fun vx1 h3 hF => ?_
  refine awp_sub (strings_explode_x2_ok qs qn vr h3) ?_
  refine cE hF (fun h4 hF => ?_) fun h4 hF => ?_
  · refine awp_true (by kernel_rfl) h4 ?_
    refine awp_region ?_
    refine aR 2 ?_
    refine aE ?_
    exact oO hF [] [] rfl
  · refine awp_false (by kernel_rfl) h4 ?_
    refine awp_skip ?_
    exact oO hF [] [] rfl

def strings_explode_x3_k : ((List UInt8) × (List (List UInt8))) → AEx
  | _ => .exit 0

def strings_explode_x3_S (vn1 : Int) : ((List UInt8) × (List (List UInt8))) → St
  | (vs5, va1) => Mem.st ⟨[(0, ⟨9, 1, List.map encS va1⟩)], []⟩ (tl [(0, .v (.one (.d (.str vs5)))), (1, .v (.one (.d (.int .i64 vn1)))), (6, .v (.one (.own 0 none)))]) 1

def strings_explode_x3_H (vn1 : Int) : (List UInt8) × (List (List UInt8)) × Int → St
  | (vs, va, vi) => Mem.st ⟨[(0, ⟨9, 1, List.map encS va⟩)], []⟩ (tl [(0, .v (.one (.d (.str vs)))), (1, .v (.one (.d (.int .i64 vn1)))), (6, .v (.one (.own 0 none))), (7, .v (.one (.d (.int .i64 vi))))]) 1

theorem strings_explode_x3_ok (vn1 : Int) (s : (List UInt8) × (List (List UInt8)) × Int) (r : ((List UInt8) × (List (List UInt8)) × Int) ⊕ (((List UInt8) × (List (List UInt8))))) (hF : strings_explode_x3 vn1 s = some r) : Awp prog 0 50 (cL (cL (cR (cL (cR (cR (cR (cR (cB f55))))))))) (Out 0 (kk strings_explode_x3_k) (SS (strings_explode_x3_H vn1) (strings_explode_x3_S vn1)) r) (strings_explode_x3_H vn1 s) := by
  obtain ⟨vs, va, vi⟩ := s
  unfold strings_explode_x3 at hF
  refine awp_seq ?_
  refine awp_seq ?_
  refine awp_region ?_
  refine aR 4 ?_
  refine aE ?_
  refine cE hF (fun h7 hF => ?_) fun h7 hF => ?_
  · refine awp_true (by kernel_rfl) h7 ?_
    refine awp_skip ?_
    refine awp_seq ?_
    refine awp_block ?_
    refine awp_seq ?_
    refine bE hF fun x h8 hF => ?_
    obtain ⟨vr2, vr1_2⟩ := x
    refine awp_region ?_
    refine aR 1 ?_
    refine aC (utf8_DecodeRuneInString_ok h8) [] [] [] ?_
    refine aR 5 ?_
    refine aE ?_
    refine awp_seq ?_
    refine bE hF fun vs3 h9 hF => ?_
    refine bE hF fun vy1 h10 hF => ?_
    refine awp_region ?_
    refine aR 4 ?_
    refine aX (x_sliceS h9) ?_
    refine aX (x_idxO encS 0 h10) ?_
    refine aX (x_stE encS vs3 h10) ?_
    refine aE ?_
    refine bE hF fun vs4 h11 hF => ?_
    refine awp_region ?_
    refine aR 2 ?_
    refine aX (x_sliceS h11) ?_
    refine aR 1 ?_
    refine aE ?_
    refine awp_region ?_
    refine aR 3 ?_
    refine aE ?_
    exact oO hF [] [] rfl
  · refine awp_false (by kernel_rfl) h7 ?_
    refine awp_exit ?_
    exact oO hF [] [] rfl

def strings_explode_x4_k : (List (List UInt8)) → AEx
  | _ => .normal

def strings_explode_x4_S (vn1 : Int) (vs5_1 : List UInt8) (va1_1 : List (List UInt8)) : (List (List UInt8)) → St
  | va2 => Mem.st ⟨[(0, ⟨9, 1, List.map encS va2⟩)], []⟩ (tl [(6, .v (.one (.own 0 none)))]) 1

def strings_explode_x4_I (vn1 : Int) (vs5_1 : List UInt8) (va1_1 : List (List UInt8)) : St := Mem.st ⟨[(0, ⟨9, 1, List.map encS va1_1⟩)], []⟩ (tl [(0, .v (.one (.d (.str vs5_1)))), (1, .v (.one (.d (.int .i64 vn1)))), (6, .v (.one (.own 0 none)))]) 1

theorem strings_explode_x4_ok (vn1 : Int) (vs5_1 : List UInt8) (va1_1 : List (List UInt8)) {r} (hF : strings_explode_x4 vn1 vs5_1 va1_1 = some r) : Awp prog 0 50 (cL (cR (cR (cR (cR (cR (cB f55))))))) (Out 0 strings_explode_x4_k (strings_explode_x4_S vn1 vs5_1 va1_1) r) (strings_explode_x4_I vn1 vs5_1 va1_1) := by
  unfold strings_explode_x4 at hF
  refine awp_seq ?_
  refine awp_region ?_
  refine aR 2 ?_
  refine aE ?_
  refine cE hF (fun h13 hF => ?_) fun h13 hF => ?_
  · refine awp_true (by kernel_rfl) h13 ?_
    refine bE hF fun vy2 h14 hF => ?_
    refine awp_region ?_
    refine aR 4 ?_
    refine aX (x_idxO encS 0 h14) ?_
    refine aX (x_stE encS vs5_1 h14) ?_
    refine aE ?_
    exact oO hF [] [] rfl
  · refine awp_false (by kernel_rfl) h13 ?_
    refine awp_skip ?_
    exact oO hF [] [] rfl

def strings_explode_R (qs : List UInt8) (qn : Int) (r : (List (List UInt8))) : TV × Mem := (.v (.one (.own 0 none)), ⟨[(0, ⟨9, 1, List.map encS r⟩)], []⟩)

theorem strings_explode_ok {qs : List UInt8} {qn : Int} {r} (hF : strings_explode qs qn = some r) : Holds prog 55 [.v (.one (.d (.str qs))), .v (.one (.d (.int .i64 qn)))] ⟨[], []⟩ (Is (strings_explode_R qs qn r)) := by
  unfold strings_explode at hF
  refine holds_of_awp hΓ (fn := f55) (c := cB f55) (A := 0) (nx := 0) (by kernel_rfl) (by kernel_rfl) (by kernel_rfl) (by kernel_rfl) (by kernel_rfl) (by kernel_rfl) (lowc_of (by kernel_rfl)) ?_
  show Awp prog 0 50 (cB f55) _ _
  refine awp_seq ?_
  refine awp_region ?_
  refine aR 1 ?_
  refine aE ?_
  refine awp_seq ?_
  refine bE hF fun vr h1 hF => ?_
  refine awp_region ?_
  refine aR 1 ?_
  refine aC (utf8_RuneCountInString_ok h1) [] [] [] ?_
  refine aR 1 ?_
  refine aE ?_
  refine awp_seq ?_
  refine awp_to (st' := strings_explode_x1_I qs qn vr) (oT [] []) ?_
  refine bE hF fun vn1 h5 hF => ?_
  refine awp_sub (strings_explode_x1_ok qs qn vr h5) ?_
  refine awp_seq ?_
  refine gE hF fun h6 hF => ?_
  refine awp_region ?_
  refine aR 1 ?_
  refine aX (x_mk encS ([] : List UInt8) h6) ?_
  refine aR 1 ?_
  refine aE ?_
  refine awp_seq ?_
  refine awp_seq ?_
  refine awp_region ?_
  refine aR 1 ?_
  refine aE ?_
  refine awp_block ?_
  refine awp_to (st' := strings_explode_x3_H vn1 (qs, List.replicate vn1.toNat ([] : List UInt8), 0)) (oT [(0, 1000)] []) ?_
  refine bE hF fun x h12 hF => ?_
  obtain ⟨vs5_1, va1_1⟩ := x
  refine awp_sub (awp_loop' (strings_explode_x3_H vn1) strings_explode_x3_k (strings_explode_x3_S vn1) (by intro x; exact fun h => nomatch h) h12 (strings_explode_x3_ok vn1)) ?_
  refine awp_seq ?_
  refine awp_to (st' := strings_explode_x4_I vn1 vs5_1 va1_1) (oT [] []) ?_
  refine bE hF fun va2_1 h15 hF => ?_
  refine awp_sub (strings_explode_x4_ok vn1 vs5_1 va1_1 h15) ?_
  refine awp_seq ?_
  refine awp_region ?_
  refine aR 2 ?_
  refine aE ?_
  refine awp_ret ?_
  exact oF hF [] []

/-! ### internal/stringslite.IndexByte -/
def stringslite_IndexByte_R (qs : List UInt8) (qc : Int) (r : Unit) : TV × Mem := (.v (.one (.d (.int .i64 (Lib.indexByte qs qc.toNat.toUInt8)))), ⟨[], []⟩)

theorem stringslite_IndexByte_ok {qs : List UInt8} {qc : Int} {r} (hF : stringslite_IndexByte qs qc = some r) : Holds prog 74 [.v (.one (.d (.str qs))), .v (.one (.d (.int .u8 qc)))] ⟨[], []⟩ (Is (stringslite_IndexByte_R qs qc r)) := by
  unfold stringslite_IndexByte at hF
  refine holds_of_awp hΓ (fn := f74) (c := cB f74) (A := 0) (nx := 0) (by kernel_rfl) (by kernel_rfl) (by kernel_rfl) (by kernel_rfl) (by kernel_rfl) (by kernel_rfl) (lowc_of (by kernel_rfl)) ?_
  show Awp prog 0 8 (cB f74) _ _
  refine awp_seq ?_
  refine awp_region ?_
  refine aR 1 ?_
  refine aE ?_
  refine awp_seq ?_
  refine awp_region ?_
  refine aR 2 ?_
  refine aS (does_indexByte (g := 90) (fn := f90) (a := qs) (c := qc) rfl (by kernel_rfl) (by kernel_rfl) (by kernel_rfl) (by kernel_rfl) (by kernel_rfl) (by kernel_rfl)) ?_
  refine aR 1 ?_
  refine aE ?_
  refine awp_ret ?_
  exact oF hF [] []

/-! ### internal/stringslite.Index -/
def stringslite_Index_x1_k : Bool → AEx
  | _ => .normal

def stringslite_Index_x1_S (qx : List UInt8) (qx1 : List UInt8) : Bool → St
  | vx => Mem.st ⟨[], []⟩ (tl [(0, .v (.one (.d (.str qx)))), (1, .v (.one (.d (.str qx1)))), (5, .v (.one (.d (.int .i64 (qx1.length : Int))))), (16, .v (.one (.d (.bool vx))))]) 0

def stringslite_Index_x1_I (qx : List UInt8) (qx1 : List UInt8) : St := Mem.st ⟨[], []⟩ (tl [(0, .v (.one (.d (.str qx)))), (1, .v (.one (.d (.str qx1)))), (5, .v (.one (.d (.int .i64 (qx1.length : Int)))))]) 0

theorem stringslite_Index_x1_ok (qx : List UInt8) (qx1 : List UInt8) {r} (hF : stringslite_Index_x1 qx qx1 = some r) : Awp prog 0 143 (cL (cL (cL (cR (cR (cB f72)))))) (Out 0 stringslite_Index_x1_k (stringslite_Index_x1_S qx qx1) r) (stringslite_Index_x1_I qx qx1) := by
  unfold stringslite_Index_x1 at hF
  refine cE hF (fun h1 hF => ?_) fun h1 hF => ?_
  · refine awp_region ?_
    refine aR 1 ?_
    refine aB h1 ?_
    refine aR 6 ?_
    refine aE ?_
    exact oO hF [] [] rfl
  · refine awp_region ?_
    refine aR 1 ?_
    refine aB h1 ?_
    refine aR 6 ?_
    refine aE ?_
    exact oO hF [] [] rfl

def stringslite_Index_R (qx : List UInt8) (qx1 : List UInt8) (r : Int) : TV × Mem := (.v (.one (.d (.int .i64 r))), ⟨[], []⟩)

theorem stringslite_Index_ok {qx : List UInt8} {qx1 : List UInt8} {r} (hF : stringslite_Index qx qx1 = some r) : Holds prog 72 [.v (.one (.d (.str qx))), .v (.one (.d (.str qx1)))] ⟨[], []⟩ (Is (stringslite_Index_R qx qx1 r)) := by
  unfold stringslite_Index at hF
  refine holds_of_awp hΓ (fn := f72) (c := cB f72) (A := 0) (nx := 0) (by kernel_rfl) (by kernel_rfl) (by kernel_rfl) (by kernel_rfl) (by kernel_rfl) (by kernel_rfl) (lowc_of (by kernel_rfl)) ?_
  show Awp prog 0 143 (cB f72) _ _
  refine awp_seq ?_
  refine awp_region ?_
  refine aR 1 ?_
  refine aE ?_
  refine awp_seq ?_
  refine awp_region ?_
  refine aR 3 ?_
  refine aE ?_
  refine awp_seq ?_
  refine awp_block ?_
  refine awp_seq ?_
  refine awp_to (st' := stringslite_Index_x1_I qx qx1) (oT [] []) ?_
  refine bE hF fun vx1 h2 hF => ?_
  refine awp_sub (stringslite_Index_x1_ok qx qx1 h2) ?_
  refine cE hF (fun h3 hF => ?_) fun h3 hF => ?_
  · refine awp_true (by kernel_rfl) h3 ?_
    refine awp_seq ?_
    refine awp_region ?_
    refine aR 1 ?_
    refine aE ?_
    refine awp_ret ?_
    exact oF hF [] []
  · refine awp_false (by kernel_rfl) h3 ?_
    refine awp_seq ?_
    refine awp_region ?_
    refine aR 3 ?_
    refine aE ?_
    refine cE hF (fun h4 hF => ?_) fun h4 hF => ?_
    · refine awp_true (by kernel_rfl) h4 ?_
      refine awp_seq ?_
      refine bE hF fun vc h5 hF => ?_
      refine bE hF fun _ h6 hF => ?_
      refine awp_region ?_
      refine aR 2 ?_
      refine aX (x_idxS h5) ?_
      refine aC (stringslite_IndexByte_ok h6) [] [] [] ?_
      refine aR 1 ?_
      refine aE ?_
      refine awp_ret ?_
      exact oF hF [] []
    · refine awp_false (by kernel_rfl) h4 ?_
      refine awp_seq ?_
      refine awp_region ?_
      refine aR 5 ?_
      refine aE ?_
      refine cE hF (fun h7 hF => ?_) fun h7 hF => ?_
      · refine awp_true (by kernel_rfl) h7 ?_
        refine awp_seq ?_
        refine awp_region ?_
        refine aR 1 ?_
        refine aE ?_
        refine awp_ret ?_
        exact oF hF [] []
      · refine awp_false (by kernel_rfl) h7 ?_
        refine awp_seq ?_
        exact nE hF

/-! ### strings.Index -/
def strings_Index_R (qs : List UInt8) (qsubstr : List UInt8) (r : Int) : TV × Mem := (.v (.one (.d (.int .i64 r))), ⟨[], []⟩)

theorem strings_Index_ok {qs : List UInt8} {qsubstr : List UInt8} {r} (hF : strings_Index qs qsubstr = some r) : Holds prog 57 [.v (.one (.d (.str qs))), .v (.one (.d (.str qsubstr)))] ⟨[], []⟩ (Is (strings_Index_R qs qsubstr r)) := by
  unfold strings_Index at hF
  refine holds_of_awp hΓ (fn := f57) (c := cB f57) (A := 0) (nx := 0) (by kernel_rfl) (by kernel_rfl) (by kernel_rfl) (by kernel_rfl) (by kernel_rfl) (by kernel_rfl) (lowc_of (by kernel_rfl)) ?_
  show Awp prog 0 8 (cB f57) _ _
  refine awp_seq ?_
  refine awp_region ?_
  refine aR 1 ?_
  refine aE ?_
  refine awp_seq ?_
  refine bE hF fun vr h1 hF => ?_
  refine awp_region ?_
  refine aR 2 ?_
  refine aC (stringslite_Index_ok h1) [] [] [] ?_
  refine aR 1 ?_
  refine aE ?_
  refine awp_ret ?_
  exact oF hF [] []

/-! ### strings.Count -/
def strings_Count_x1_k : Int → AEx
  | _ => .ret

def strings_Count_x1_S (qsubstr : List UInt8) : Int → St
  | vx => Mem.st ⟨[], []⟩ (tl [(4, .v (.one (.d (.int .i64 vx))))]) 0

def strings_Count_x1_H (qsubstr : List UInt8) : (List UInt8) × Int → St
  | (vs, vn) => Mem.st ⟨[], []⟩ (tl [(0, .v (.one (.d (.str vs)))), (1, .v (.one (.d (.str qsubstr)))), (5, .v (.one (.d (.int .i64 vn))))]) 0

theorem strings_Count_x1_ok (qsubstr : List UInt8) (s : (List UInt8) × Int) (r : ((List UInt8) × Int) ⊕ (Int)) (hF : strings_Count_x1 qsubstr s = some r) : Awp prog 0 34 (cL (cL (cR (cR (cR (cR (cB f56))))))) (Out 0 (kk strings_Count_x1_k) (SS (strings_Count_x1_H qsubstr) (strings_Count_x1_S qsubstr)) r) (strings_Count_x1_H qsubstr s) := by
  obtain ⟨vs, vn⟩ := s
  unfold strings_Count_x1 at hF
  refine awp_block ?_
  refine awp_seq ?_
  refine bE hF fun vr1_1 h5 hF => ?_
  refine awp_region ?_
  refine aR 2 ?_
  refine aC (strings_Index_ok h5) [] [] [] ?_
  refine aR 1 ?_
  refine aE ?_
  refine awp_seq ?_
  refine awp_seq ?_
  refine awp_region ?_
  refine aR 2 ?_
  refine aE ?_
  refine cE hF (fun h6 hF => ?_) fun h6 hF => ?_
  · refine awp_true (by kernel_rfl) h6 ?_
    refine awp_seq ?_
    refine awp_region ?_
    refine aR 2 ?_
    refine aE ?_
    refine awp_ret ?_
    exact oO hF [] [] rfl
  · refine awp_false (by kernel_rfl) h6 ?_
    refine awp_skip ?_
    refine awp_seq ?_
    refine awp_region ?_
    refine aR 3 ?_
    refine aE ?_
    refine bE hF fun vs2 h7 hF => ?_
    refine awp_region ?_
    refine aR 5 ?_
    refine aX (x_sliceS h7) ?_
    refine aR 1 ?_
    refine aE ?_
    exact oO hF [] [] rfl

def strings_Count_R (qs : List UInt8) (qsubstr : List UInt8) (r : Int) : TV × Mem := (.v (.one (.d (.int .i64 r))), ⟨[], []⟩)

theorem strings_Count_ok {qs : List UInt8} {qsubstr : List UInt8} {r} (hF : strings_Count qs qsubstr = some r) : Holds prog 56 [.v (.one (.d (.str qs))), .v (.one (.d (.str qsubstr)))] ⟨[], []⟩ (Is (strings_Count_R qs qsubstr r)) := by
  unfold strings_Count at hF
  refine holds_of_awp hΓ (fn := f56) (c := cB f56) (A := 0) (nx := 0) (by kernel_rfl) (by kernel_rfl) (by kernel_rfl) (by kernel_rfl) (by kernel_rfl) (by kernel_rfl) (lowc_of (by kernel_rfl)) ?_
  show Awp prog 0 34 (cB f56) _ _
  refine awp_seq ?_
  refine awp_region ?_
  refine aR 1 ?_
  refine aE ?_
  refine awp_seq ?_
  refine awp_seq ?_
  refine awp_region ?_
  refine aR 3 ?_
  refine aE ?_
  refine cE hF (fun h1 hF => ?_) fun h1 hF => ?_
  · refine awp_true (by kernel_rfl) h1 ?_
    refine awp_seq ?_
    refine bE hF fun vr h2 hF => ?_
    refine awp_region ?_
    refine aR 1 ?_
    refine aC (utf8_RuneCountInString_ok h2) [] [] [] ?_
    refine aR 2 ?_
    refine aE ?_
    refine awp_ret ?_
    exact oF hF [] []
  · refine awp_false (by kernel_rfl) h1 ?_
    refine awp_skip ?_
    refine awp_seq ?_
    refine awp_seq ?_
    refine awp_region ?_
    refine aR 3 ?_
    refine aE ?_
    refine cE hF (fun h3 hF => ?_) fun h3 hF => ?_
    · refine awp_true (by kernel_rfl) h3 ?_
      refine awp_seq ?_
      refine bE hF fun vc h4 hF => ?_
      refine awp_region ?_
      refine aR 2 ?_
      refine aX (x_idxS h4) ?_
      refine aS (does_count (g := 71) (fn := f71) (a := qs) (c := (vc.toNat : Int)) rfl (by kernel_rfl) (by kernel_rfl) (by kernel_rfl) (by kernel_rfl) (by kernel_rfl) (by kernel_rfl)) ?_
      refine aR 1 ?_
      refine aE ?_
      refine awp_ret ?_
      exact oF hF [] []
    · refine awp_false (by kernel_rfl) h3 ?_
      refine awp_skip ?_
      refine awp_seq ?_
      refine awp_region ?_
      refine aR 1 ?_
      refine aE ?_
      refine awp_block ?_
      refine awp_to (st' := strings_Count_x1_H qsubstr (qs, 0)) (oT [] []) ?_
      refine bE hF fun vx1 h8 hF => ?_
      refine awp_sub (awp_loop' (strings_Count_x1_H qsubstr) strings_Count_x1_k (strings_Count_x1_S qsubstr) (by intro x; exact fun h => nomatch h) h8 (strings_Count_x1_ok qsubstr)) ?_
      exact oF hF [] []

/-! ### strings.genSplit -/
def strings_genSplit_x1_k : Int → AEx
  | _ => .normal

def strings_genSplit_x1_S (qx : List UInt8) (qx1 : List UInt8) (qx2 : Int) (qx3 : Int) : Int → St
  | vx => Mem.st ⟨[], []⟩ (tl [(0, .v (.one (.d (.str qx)))), (1, .v (.one (.d (.str qx1)))), (2, .v (.one (.d (.int .i64 qx2)))), (3, .v (.one (.d (.int .i64 vx))))]) 0

def strings_genSplit_x1_I (qx : List UInt8) (qx1 : List UInt8) (qx2 : Int) (qx3 : Int) : St := Mem.st ⟨[], []⟩ (tl [(0, .v (.one (.d (.str qx)))), (1, .v (.one (.d (.str qx1)))), (2, .v (.one (.d (.int .i64 qx2)))), (3, .v (.one (.d (.int .i64 qx3))))]) 0

theorem strings_genSplit_x1_ok (qx : List UInt8) (qx1 : List UInt8) (qx2 : Int) (qx3 : Int) {r} (hF : strings_genSplit_x1 qx qx1 qx3 = some r) : Awp prog 0 66 (cL (cR (cR (cR (cB f47))))) (Out 0 strings_genSplit_x1_k (strings_genSplit_x1_S qx qx1 qx2 qx3) r) (strings_genSplit_x1_I qx qx1 qx2 qx3) := by
  unfold strings_genSplit_x1 at hF
  refine awp_seq ?_
  refine awp_region ?_
  refine aR 2 ?_
  refine aE ?_
  refine cE hF (fun h4 hF => ?_) fun h4 hF => ?_
  · refine awp_true (by kernel_rfl) h4 ?_
    refine bE hF fun vr2 h5 hF => ?_
    refine awp_region ?_
    refine aR 2 ?_
    refine aC (strings_Count_ok h5) [] [] [] ?_
    refine aR 2 ?_
    refine aE ?_
    exact oO hF [] [] rfl
  · refine awp_false (by kernel_rfl) h4 ?_
    refine awp_skip ?_
    exact oO hF [] [] rfl

def strings_genSplit_x2_k : ((List UInt8) × (List (List UInt8)) × Int) → AEx
  | _ => .exit 0

def strings_genSplit_x2_S (qx : List UInt8) (qx1 : List UInt8) (qx2 : Int) (vx1 : Int) : ((List UInt8) × (List (List UInt8)) × Int) → St
  | (vx5, vx6, vx7) => Mem.st ⟨[(0, ⟨9, 1, List.map encS vx6⟩)], []⟩ (tl [(0, .v (.one (.d (.str vx5)))), (9, .v (.one (.own 0 none))), (10, .v (.one (.d (.int .i64 vx7))))]) 1

def strings_genSplit_x2_H (qx : List UInt8) (qx1 : List UInt8) (qx2 : Int) (vx1 : Int) : (List UInt8) × (List (List UInt8)) × Int → St
  | (vx2, vx3, vx4) => Mem.st ⟨[(0, ⟨9, 1, List.map encS vx3⟩)], []⟩ (tl [(0, .v (.one (.d (.str vx2)))), (1, .v (.one (.d (.str qx1)))), (2, .v (.one (.d (.int .i64 qx2)))), (3, .v (.one (.d (.int .i64 (IntKind.wrap .i64 ((imin vx1 (IntKind.wrap .i64 ((qx.length : Int) + 1))) - 1)))))), (9, .v (.one (.own 0 none))), (10, .v (.one (.d (.int .i64 vx4))))]) 1

theorem strings_genSplit_x2_ok (qx : List UInt8) (qx1 : List UInt8) (qx2 : Int) (vx1 : Int) (s : (List UInt8) × (List (List UInt8)) × Int) (r : ((List UInt8) × (List (List UInt8)) × Int) ⊕ (((List UInt8) × (List (List UInt8)) × Int))) (hF : strings_genSplit_x2 qx qx1 qx2 vx1 s = some r) : Awp prog 0 66 (cL (cL (cL (cR (cR (cR (cR (cR (cR (cR (cR (cB f47)))))))))))) (Out 0 (kk strings_genSplit_x2_k) (SS (strings_genSplit_x2_H qx qx1 qx2 vx1) (strings_genSplit_x2_S qx qx1 qx2 vx1)) r) (strings_genSplit_x2_H qx qx1 qx2 vx1 s) := by
  obtain ⟨vx2, vx3, vx4⟩ := s
  unfold strings_genSplit_x2 at hF
  refine awp_seq ?_
  refine awp_seq ?_
  refine awp_region ?_
  refine aR 3 ?_
  refine aE ?_
  refine cE hF (fun h8 hF => ?_) fun h8 hF => ?_
  · refine awp_true (by kernel_rfl) h8 ?_
    refine awp_skip ?_
    refine awp_block ?_
    refine awp_seq ?_
    refine bE hF fun vr1_1 h9 hF => ?_
    refine awp_region ?_
    refine aR 2 ?_
    refine aC (strings_Index_ok h9) [] [] [] ?_
    refine aR 1 ?_
    refine aE ?_
    refine awp_seq ?_
    refine awp_seq ?_
    refine awp_region ?_
    refine aR 2 ?_
    refine aE ?_
    refine cE hF (fun h10 hF => ?_) fun h10 hF => ?_
    · refine awp_true (by kernel_rfl) h10 ?_
      refine awp_exit ?_
      exact oO hF [] [] rfl
    · refine awp_false (by kernel_rfl) h10 ?_
      refine awp_skip ?_
      refine awp_seq ?_
      refine bE hF fun vs2 h11 hF => ?_
      refine bE hF fun vy1 h12 hF => ?_
      refine awp_region ?_
      refine aR 6 ?_
      refine aX (x_sliceS h11) ?_
      refine aX (x_idxO encS 0 h12) ?_
      refine aX (x_stE encS vs2 h12) ?_
      refine aE ?_
      refine awp_seq ?_
      refine bE hF fun vs3 h13 hF => ?_
      refine awp_region ?_
      refine aR 5 ?_
      refine aX (x_sliceS h13) ?_
      refine aR 1 ?_
      refine aE ?_
      refine awp_region ?_
      refine aR 3 ?_
      refine aE ?_
      exact oO hF [] [] rfl
  · refine awp_false (by kernel_rfl) h8 ?_
    refine awp_exit ?_
    exact oO hF [] [] rfl

def strings_genSplit_R (qx : List UInt8) (qx1 : List UInt8) (qx2 : Int) (qx3 : Int) (r : (List (List UInt8))) : TV × Mem := (.v (.one (.own 0 none)), ⟨[(0, ⟨9, 1, List.map encS r⟩)], []⟩)

theorem strings_genSplit_ok {qx : List UInt8} {qx1 : List UInt8} {qx2 : Int} {qx3 : Int} {r} (hF : strings_genSplit qx qx1 qx2 qx3 = some r) : Holds prog 47 [.v (.one (.d (.str qx))), .v (.one (.d (.str qx1))), .v (.one (.d (.int .i64 qx2))), .v (.one (.d (.int .i64 qx3)))] ⟨[], []⟩ (Is (strings_genSplit_R qx qx1 qx2 qx3 r)) := by
  unfold strings_genSplit at hF
  refine holds_of_awp hΓ (fn := f47) (c := cB f47) (A := 0) (nx := 0) (by kernel_rfl) (by kernel_rfl) (by kernel_rfl) (by kernel_rfl) (by kernel_rfl) (by kernel_rfl) (lowc_of (by kernel_rfl)) ?_
  show Awp prog 0 66 (cB f47) _ _
  refine awp_seq ?_
  refine awp_region ?_
  refine aR 1 ?_
  refine aE ?_
  refine awp_seq ?_
  refine awp_seq ?_
  refine awp_region ?_
  refine aR 2 ?_
  refine aE ?_
  refine cE hF (fun h1 hF => ?_) fun h1 hF => ?_
  · refine awp_true (by kernel_rfl) h1 ?_
    refine awp_seq ?_
    refine awp_region ?_
    refine aR 1 ?_
    refine aE ?_
    refine awp_ret ?_
    exact oF hF [] [0]
  · refine awp_false (by kernel_rfl) h1 ?_
    refine awp_skip ?_
    refine awp_seq ?_
    refine awp_seq ?_
    refine awp_region ?_
    refine aR 2 ?_
    refine aE ?_
    refine cE hF (fun h2 hF => ?_) fun h2 hF => ?_
    · refine awp_true (by kernel_rfl) h2 ?_
      refine awp_seq ?_
      refine bE hF fun vr3 h3 hF => ?_
      refine awp_region ?_
      refine aR 2 ?_
      refine aC (strings_explode_ok h3) [] [] [] ?_
      refine aR 1 ?_
      refine aE ?_
      refine awp_ret ?_
      exact oF hF [(0, 7000)] []
    · refine awp_false (by kernel_rfl) h2 ?_
      refine awp_skip ?_
      refine awp_seq ?_
      refine awp_to (st' := strings_genSplit_x1_I qx qx1 qx2 qx3) (oT [] []) ?_
      refine bE hF fun vx1 h6 hF => ?_
      refine awp_sub (strings_genSplit_x1_ok qx qx1 qx2 qx3 h6) ?_
      refine awp_seq ?_
      refine awp_region ?_
      refine aR 6 ?_
      refine aE ?_
      refine awp_seq ?_
      refine gE hF fun h7 hF => ?_
      refine awp_region ?_
      refine aR 1 ?_
      refine aX (x_mk encS ([] : List UInt8) h7) ?_
      refine aR 1 ?_
      refine aE ?_
      refine awp_seq ?_
      refine awp_region ?_
      refine aR 3 ?_
      refine aE ?_
      refine awp_seq ?_
      refine awp_region ?_
      refine aR 1 ?_
      refine aE ?_
      refine awp_seq ?_
      refine awp_block ?_
      refine awp_to (st' := strings_genSplit_x2_H qx qx1 qx2 vx1 (qx, List.replicate (imin vx1 (IntKind.wrap .i64 ((qx.length : Int) + 1))).toNat ([] : List UInt8), 0)) (oT [(0, 7000)] []) ?_
      refine bE hF fun x h14 hF => ?_
      obtain ⟨vx5_1, vx6_1, vx7_1⟩ := x
      refine awp_sub (awp_loop' (strings_genSplit_x2_H qx qx1 qx2 vx1) strings_genSplit_x2_k (strings_genSplit_x2_S qx qx1 qx2 vx1) (by intro x; exact fun h => nomatch h) h14 (strings_genSplit_x2_ok qx qx1 qx2 vx1)) ?_
      refine awp_seq ?_
      refine bE hF fun vy2 h15 hF => ?_
      refine awp_region ?_
      refine aR 3 ?_
      refine aX (x_idxO encS 0 h15) ?_
      refine aX (x_stE encS vx5_1 h15) ?_
      refine aE ?_
      refine awp_seq ?_
      refine gE hF fun h16 hF => ?_
      refine awp_region ?_
      refine aR 3 ?_
      refine aT encS 0 h16 rfl ?_
      refine aR 1 ?_
      refine aE ?_
      refine awp_ret ?_
      exact oF hF [(0, 8001)] []

/-! ### strings.Split -/
def strings_Split_R (qs : List UInt8) (qsep : List UInt8) (r : (List (List UInt8))) : TV × Mem := (.v (.one (.own 0 none)), ⟨[(0, ⟨9, 1, List.map encS r⟩)], []⟩)

theorem strings_Split_ok {qs : List UInt8} {qsep : List UInt8} {r} (hF : strings_Split qs qsep = some r) : Holds prog 30 [.v (.one (.d (.str qs))), .v (.one (.d (.str qsep)))] ⟨[], []⟩ (Is (strings_Split_R qs qsep r)) := by
  unfold strings_Split at hF
  refine holds_of_awp hΓ (fn := f30) (c := cB f30) (A := 0) (nx := 0) (by kernel_rfl) (by kernel_rfl) (by kernel_rfl) (by kernel_rfl) (by kernel_rfl) (by kernel_rfl) (lowc_of (by kernel_rfl)) ?_
  show Awp prog 0 8 (cB f30) _ _
  refine awp_seq ?_
  refine awp_region ?_
  refine aR 1 ?_
  refine aE ?_
  refine awp_seq ?_
  refine bE hF fun vr h1 hF => ?_
  refine awp_region ?_
  refine aR 2 ?_
  refine aC (strings_genSplit_ok h1) [] [] [] ?_
  refine aR 1 ?_
  refine aE ?_
  refine awp_ret ?_
  exact oF hF [(0, 3000)] []

/-! ### internal/stringslite.HasPrefix -/
def stringslite_HasPrefix_x1_k : Bool → AEx
  | _ => .normal

def stringslite_HasPrefix_x1_S (qs : List UInt8) (qprefix : List UInt8) : Bool → St
  | vx => Mem.st ⟨[], []⟩ (tl [(4, .v (.one (.d (.bool vx))))]) 0

def stringslite_HasPrefix_x1_I (qs : List UInt8) (qprefix : List UInt8) : St := Mem.st ⟨[], []⟩ (tl [(0, .v (.one (.d (.str qs)))), (1, .v (.one (.d (.str qprefix))))]) 0

theorem stringslite_HasPrefix_x1_ok (qs : List UInt8) (qprefix : List UInt8) {r} (hF : stringslite_HasPrefix_x1 qs qprefix = some r) : Awp prog 0 18 (cL (cR (cB f73))) (Out 0 stringslite_HasPrefix_x1_k (stringslite_HasPrefix_x1_S qs qprefix) r) (stringslite_HasPrefix_x1_I qs qprefix) := by
  unfold stringslite_HasPrefix_x1 at hF
  refine cE hF (fun h1 hF => ?_) fun h1 hF => ?_
  · refine bE hF fun vs h2 hF => ?_
    refine awp_region ?_
    refine aR 4 ?_
    refine aB h1 ?_
    refine aR 4 ?_
    refine aX (x_sliceS h2) ?_
    refine aR 4 ?_
    refine aE ?_
    exact oO hF [] [] rfl
  · refine awp_region ?_
    refine aR 4 ?_
    refine aB h1 ?_
    refine aR 9 ?_
    refine aE ?_
    exact oO hF [] [] rfl

def stringslite_HasPrefix_R (qs : List UInt8) (qprefix : List UInt8) (r : Bool) : TV × Mem := (.v (.one (.d (.bool r))), ⟨[], []⟩)

theorem stringslite_HasPrefix_ok {qs : List UInt8} {qprefix : List UInt8} {r} (hF : stringslite_HasPrefix qs qprefix = some r) : Holds prog 73 [.v (.one (.d (.str qs))), .v (.one (.d (.str qprefix)))] ⟨[], []⟩ (Is (stringslite_HasPrefix_R qs qprefix r)) := by
  unfold stringslite_HasPrefix at hF
  refine holds_of_awp hΓ (fn := f73) (c := cB f73) (A := 0) (nx := 0) (by kernel_rfl) (by kernel_rfl) (by kernel_rfl) (by kernel_rfl) (by kernel_rfl) (by kernel_rfl) (lowc_of (by kernel_rfl)) ?_
  show Awp prog 0 18 (cB f73) _ _
  refine awp_seq ?_
  refine awp_region ?_
  refine aR 1 ?_
  refine aE ?_
  refine awp_seq ?_
  refine awp_to (st' := stringslite_HasPrefix_x1_I qs qprefix) (oT [] []) ?_
  refine bE hF fun vx1 h3 hF => ?_
  refine awp_sub (stringslite_HasPrefix_x1_ok qs qprefix h3) ?_
  refine awp_ret ?_
  exact oF hF [] []

/-! ### internal/stringslite.TrimPrefix -/
def stringslite_TrimPrefix_R (qs : List UInt8) (qprefix : List UInt8) (r : (List UInt8)) : TV × Mem := (.v (.one (.d (.str r))), ⟨[], []⟩)

theorem stringslite_TrimPrefix_ok {qs : List UInt8} {qprefix : List UInt8} {r} (hF : stringslite_TrimPrefix qs qprefix = some r) : Holds prog 58 [.v (.one (.d (.str qs))), .v (.one (.d (.str qprefix)))] ⟨[], []⟩ (Is (stringslite_TrimPrefix_R qs qprefix r)) := by
  unfold stringslite_TrimPrefix at hF
  refine holds_of_awp hΓ (fn := f58) (c := cB f58) (A := 0) (nx := 0) (by kernel_rfl) (by kernel_rfl) (by kernel_rfl) (by kernel_rfl) (by kernel_rfl) (by kernel_rfl) (lowc_of (by kernel_rfl)) ?_
  show Awp prog 0 13 (cB f58) _ _
  refine awp_seq ?_
  refine awp_region ?_
  refine aR 1 ?_
  refine aE ?_
  refine awp_seq ?_
  refine awp_seq ?_
  refine bE hF fun vr h1 hF => ?_
  refine awp_region ?_
  refine aR 2 ?_
  refine aC (stringslite_HasPrefix_ok h1) [] [] [] ?_
  refine aE ?_
  refine cE hF (fun h2 hF => ?_) fun h2 hF => ?_
  · refine awp_true (by kernel_rfl) h2 ?_
    refine awp_seq ?_
    refine bE hF fun vs h3 hF => ?_
    refine awp_region ?_
    refine aR 3 ?_
    refine aX (x_sliceS h3) ?_
    refine aR 1 ?_
    refine aE ?_
    refine awp_ret ?_
    exact oF hF [] []
  · refine awp_false (by kernel_rfl) h2 ?_
    refine awp_skip ?_
    refine awp_seq ?_
    refine awp_region ?_
    refine aR 2 ?_
    refine aE ?_
    refine awp_ret ?_
    exact oF hF [] []

/-! ### strings.TrimPrefix -/
def strings_TrimPrefix_R (qs : List UInt8) (qprefix : List UInt8) (r : (List UInt8)) : TV × Mem := (.v (.one (.d (.str r))), ⟨[], []⟩)

theorem strings_TrimPrefix_ok {qs : List UInt8} {qprefix : List UInt8} {r} (hF : strings_TrimPrefix qs qprefix = some r) : Holds prog 48 [.v (.one (.d (.str qs))), .v (.one (.d (.str qprefix)))] ⟨[], []⟩ (Is (strings_TrimPrefix_R qs qprefix r)) := by
  unfold strings_TrimPrefix at hF
  refine holds_of_awp hΓ (fn := f48) (c := cB f48) (A := 0) (nx := 0) (by kernel_rfl) (by kernel_rfl) (by kernel_rfl) (by kernel_rfl) (by kernel_rfl) (by kernel_rfl) (lowc_of (by kernel_rfl)) ?_
  show Awp prog 0 8 (cB f48) _ _
  refine awp_seq ?_
  refine awp_region ?_
  refine aR 1 ?_
  refine aE ?_
  refine awp_seq ?_
  refine bE hF fun vr1 h1 hF => ?_
  refine awp_region ?_
  refine aR 2 ?_
  refine aC (stringslite_TrimPrefix_ok h1) [] [] [] ?_
  refine aR 1 ?_
  refine aE ?_
  refine awp_ret ?_
  exact oF hF [] []

/-! ### internal/strconv.lower -/
def strconv_lower_R (qc : Int) (r : Unit) : TV × Mem := (.v (.one (.d (.int .u8 (ibits .or .u8 qc 32)))), ⟨[], []⟩)

theorem strconv_lower_ok {qc : Int} {r} (hF : strconv_lower qc = some r) : Holds prog 97 [.v (.one (.d (.int .u8 qc)))] ⟨[], []⟩ (Is (strconv_lower_R qc r)) := by
  unfold strconv_lower at hF
  refine holds_of_awp hΓ (fn := f97) (c := cB f97) (A := 0) (nx := 0) (by kernel_rfl) (by kernel_rfl) (by kernel_rfl) (by kernel_rfl) (by kernel_rfl) (by kernel_rfl) (lowc_of (by kernel_rfl)) ?_
  show Awp prog 0 5 (cB f97) _ _
  refine awp_seq ?_
  refine awp_region ?_
  refine aR 1 ?_
  refine aE ?_
  refine awp_seq ?_
  refine awp_region ?_
  refine aR 3 ?_
  refine aE ?_
  refine awp_ret ?_
  exact oF hF [] []

/-! ### internal/strconv.underscoreOK -/
def strconv_underscoreOK_x2_k : Bool → AEx
  | _ => .normal

def strconv_underscoreOK_x2_S (qx : List UInt8) : Bool → St
  | vx => Mem.st ⟨[], []⟩ (tl [(0, .v (.one (.d (.str qx)))), (3, .v (.one (.d (.int .i32 94)))), (4, .v (.one (.d (.int .i64 0)))), (18, .v (.one (.d (.bool vx))))]) 0

def strconv_underscoreOK_x2_I (qx : List UInt8) : St := Mem.st ⟨[], []⟩ (tl [(0, .v (.one (.d (.str qx)))), (3, .v (.one (.d (.int .i32 94)))), (4, .v (.one (.d (.int .i64 0))))]) 0

theorem strconv_underscoreOK_x2_ok (qx : List UInt8) {r} (hF : strconv_underscoreOK_x2 qx = some r) : Awp prog 0 94 (cL (cL (cR (cR (cR (cB f98)))))) (Out 0 strconv_underscoreOK_x2_k (strconv_underscoreOK_x2_S qx) r) (strconv_underscoreOK_x2_I qx) := by
  unfold strconv_underscoreOK_x2 at hF
  refine cE hF (fun h1 hF => ?_) fun h1 hF => ?_
  · refine bE hF fun vc h2 hF => ?_
    refine cE hF (fun h3 hF => ?_) fun h3 hF => ?_
    · refine awp_region ?_
      refine aR 2 ?_
      refine aB h1 ?_
      refine aR 2 ?_
      refine aX (x_idxS h2) ?_
      refine aB h3 ?_
      refine aR 6 ?_
      refine aE ?_
      exact oO hF [] [] rfl
    · refine awp_region ?_
      refine aR 2 ?_
      refine aB h1 ?_
      refine aR 2 ?_
      refine aX (x_idxS h2) ?_
      refine aB h3 ?_
      refine aR 2 ?_
      refine aX (x_idxS h2) ?_
      refine aR 3 ?_
      refine aE ?_
      exact oO hF [] [] rfl
  · refine awp_region ?_
    refine aR 2 ?_
    refine aB h1 ?_
    refine aR 10 ?_
    refine aE ?_
    exact oO hF [] [] rfl

def strconv_underscoreOK_x1_k : (List UInt8) → AEx
  | _ => .normal

def strconv_underscoreOK_x1_S (qx : List UInt8) : (List UInt8) → St
  | vx2 => Mem.st ⟨[], []⟩ (tl [(0, .v (.one (.d (.str vx2)))), (3, .v (.one (.d (.int .i32 94)))), (4, .v (.one (.d (.int .i64 0))))]) 0

def strconv_underscoreOK_x1_I (qx : List UInt8) : St := Mem.st ⟨[], []⟩ (tl [(0, .v (.one (.d (.str qx)))), (3, .v (.one (.d (.int .i32 94)))), (4, .v (.one (.d (.int .i64 0))))]) 0

theorem strconv_underscoreOK_x1_ok (qx : List UInt8) {r} (hF : strconv_underscoreOK_x1 qx = some r) : Awp prog 0 94 (cL (cR (cR (cR (cB f98))))) (Out 0 strconv_underscoreOK_x1_k (strconv_underscoreOK_x1_S qx) r) (strconv_underscoreOK_x1_I qx) := by
  unfold strconv_underscoreOK_x1 at hF
  refine awp_seq ?_
  refine awp_to (st' := strconv_underscoreOK_x2_I qx) (oT [] []) ?_
  refine bE hF fun vx1 h4 hF => ?_
  refine awp_sub (strconv_underscoreOK_x2_ok qx h4) ?_
  refine cE hF (fun h5 hF => ?_) fun h5 hF => ?_
  · refine awp_true (by kernel_rfl) h5 ?_
    refine bE hF fun vs h6 hF => ?_
    refine awp_region ?_
    refine aR 1 ?_
    refine aX (x_sliceS h6) ?_
    refine aR 1 ?_
    refine aE ?_
    exact oO hF [] [] rfl
  · refine awp_false (by kernel_rfl) h5 ?_
    refine awp_skip ?_
    exact oO hF [] [] rfl

def strconv_underscoreOK_x4_k : Bool → AEx
  | _ => .normal

def strconv_underscoreOK_x4_S (vx2_1 : List UInt8) : Bool → St
  | vx3 => Mem.st ⟨[], []⟩ (tl [(0, .v (.one (.d (.str vx2_1)))), (3, .v (.one (.d (.int .i32 94)))), (4, .v (.one (.d (.int .i64 0)))), (5, .v (.one (.d (.bool false)))), (46, .v (.one (.d (.bool vx3))))]) 0

def strconv_underscoreOK_x4_I (vx2_1 : List UInt8) : St := Mem.st ⟨[], []⟩ (tl [(0, .v (.one (.d (.str vx2_1)))), (3, .v (.one (.d (.int .i32 94)))), (4, .v (.one (.d (.int .i64 0)))), (5, .v (.one (.d (.bool false))))]) 0

theorem strconv_underscoreOK_x4_ok (vx2_1 : List UInt8) {r} (hF : strconv_underscoreOK_x4 vx2_1 = some r) : Awp prog 0 94 (cL (cL (cR (cR (cR (cR (cR (cB f98)))))))) (Out 0 strconv_underscoreOK_x4_k (strconv_underscoreOK_x4_S vx2_1) r) (strconv_underscoreOK_x4_I vx2_1) := by
  unfold strconv_underscoreOK_x4 at hF
  refine cE hF (fun h8 hF => ?_) fun h8 hF => ?_
  · refine bE hF fun vc1 h9 hF => ?_
    refine cE hF (fun h10 hF => ?_) fun h10 hF => ?_
    · refine bE hF fun vc2 h11 hF => ?_
      refine bE hF fun _ h12 hF => ?_
      refine cE hF (fun h13 hF => ?_) fun h13 hF => ?_
      · refine awp_region ?_
        refine aR 2 ?_
        refine aB h8 ?_
        refine aR 2 ?_
        refine aX (x_idxS h9) ?_
        refine aB h10 ?_
        refine aR 3 ?_
        refine aX (x_idxS h11) ?_
        refine aC (strconv_lower_ok h12) [] [] [] ?_
        refine aB h13 ?_
        refine aR 13 ?_
        refine aE ?_
        exact oO hF [] [] rfl
      · refine cE hF (fun h14 hF => ?_) fun h14 hF => ?_
        · refine awp_region ?_
          refine aR 2 ?_
          refine aB h8 ?_
          refine aR 2 ?_
          refine aX (x_idxS h9) ?_
          refine aB h10 ?_
          refine aR 3 ?_
          refine aX (x_idxS h11) ?_
          refine aC (strconv_lower_ok h12) [] [] [] ?_
          refine aB h13 ?_
          refine aR 2 ?_
          refine aX (x_idxS h11) ?_
          refine aC (strconv_lower_ok h12) [] [] [] ?_
          refine aB h14 ?_
          refine aR 8 ?_
          refine aE ?_
          exact oO hF [] [] rfl
        · refine awp_region ?_
          refine aR 2 ?_
          refine aB h8 ?_
          refine aR 2 ?_
          refine aX (x_idxS h9) ?_
          refine aB h10 ?_
          refine aR 3 ?_
          refine aX (x_idxS h11) ?_
          refine aC (strconv_lower_ok h12) [] [] [] ?_
          refine aB h13 ?_
          refine aR 2 ?_
          refine aX (x_idxS h11) ?_
          refine aC (strconv_lower_ok h12) [] [] [] ?_
          refine aB h14 ?_
          refine aR 3 ?_
          refine aX (x_idxS h11) ?_
          refine aC (strconv_lower_ok h12) [] [] [] ?_
          refine aR 3 ?_
          refine aE ?_
          exact oO hF [] [] rfl
    · refine awp_region ?_
      refine aR 2 ?_
      refine aB h8 ?_
      refine aR 2 ?_
      refine aX (x_idxS h9) ?_
      refine aB h10 ?_
      refine aR 19 ?_
      refine aE ?_
      exact oO hF [] [] rfl
  · refine awp_region ?_
    refine aR 2 ?_
    refine aB h8 ?_
    refine aR 23 ?_
    refine aE ?_
    exact oO hF [] [] rfl

def strconv_underscoreOK_x3_k : (Int × Int × Bool) → AEx
  | _ => .normal

def strconv_underscoreOK_x3_S (vx2_1 : List UInt8) : (Int × Int × Bool) → St
  | (vx4, vx5, vx6) => Mem.st ⟨[], []⟩ (tl [(0, .v (.one (.d (.str vx2_1)))), (3, .v (.one (.d (.int .i32 vx4)))), (4, .v (.one (.d (.int .i64 vx5)))), (5, .v (.one (.d (.bool vx6))))]) 0

def strconv_underscoreOK_x3_I (vx2_1 : List UInt8) : St := Mem.st ⟨[], []⟩ (tl [(0, .v (.one (.d (.str vx2_1)))), (3, .v (.one (.d (.int .i32 94)))), (4, .v (.one (.d (.int .i64 0)))), (5, .v (.one (.d (.bool false))))]) 0

theorem strconv_underscoreOK_x3_ok (vx2_1 : List UInt8) {r} (hF : strconv_underscoreOK_x3 vx2_1 = some r) : Awp prog 0 94 (cL (cR (cR (cR (cR (cR (cB f98))))))) (Out 0 strconv_underscoreOK_x3_k (strconv_underscoreOK_x3_S vx2_1) r) (strconv_underscoreOK_x3_I vx2_1) := by
  unfold strconv_underscoreOK_x3 at hF
  refine awp_seq ?_
  refine awp_to (st' := strconv_underscoreOK_x4_I vx2_1) (oT [] []) ?_
  refine bE hF fun vx3_1 h15 hF => ?_
  refine awp_sub (strconv_underscoreOK_x4_ok vx2_1 h15) ?_
  refine cE hF (fun h16 hF => ?_) fun h16 hF => ?_
  · refine awp_true (by kernel_rfl) h16 ?_
    refine awp_seq ?_
    refine awp_region ?_
    refine aR 1 ?_
    refine aE ?_
    refine awp_seq ?_
    refine awp_region ?_
    refine aR 1 ?_
    refine aE ?_
    refine bE hF fun vc3 h17 hF => ?_
    refine bE hF fun _ h18 hF => ?_
    refine awp_region ?_
    refine aR 1 ?_
    refine aX (x_idxS h17) ?_
    refine aC (strconv_lower_ok h18) [] [] [] ?_
    refine aR 2 ?_
    refine aE ?_
    exact oO hF [] [] rfl
  · refine awp_false (by kernel_rfl) h16 ?_
    refine awp_skip ?_
    exact oO hF [] [] rfl

def strconv_underscoreOK_x7_k : Bool → AEx
  | _ => .normal

def strconv_underscoreOK_x7_S (vx2_1 : List UInt8) (vx6_1 : Bool) (vx7 : Int) (vx8 : Int) : Bool → St
  | vx11 => Mem.st ⟨[], []⟩ (tl [(0, .v (.one (.d (.str vx2_1)))), (3, .v (.one (.d (.int .i32 vx7)))), (4, .v (.one (.d (.int .i64 vx8)))), (5, .v (.one (.d (.bool vx6_1)))), (83, .v (.one (.d (.bool vx11))))]) 0

def strconv_underscoreOK_x7_I (vx2_1 : List UInt8) (vx6_1 : Bool) (vx7 : Int) (vx8 : Int) : St := Mem.st ⟨[], []⟩ (tl [(0, .v (.one (.d (.str vx2_1)))), (3, .v (.one (.d (.int .i32 vx7)))), (4, .v (.one (.d (.int .i64 vx8)))), (5, .v (.one (.d (.bool vx6_1))))]) 0

theorem strconv_underscoreOK_x7_ok (vx2_1 : List UInt8) (vx6_1 : Bool) (vx7 : Int) (vx8 : Int) {r} (hF : strconv_underscoreOK_x7 vx2_1 vx6_1 vx8 = some r) : Awp prog 0 94 (cL (cL (cL (cL (cR (cL (cL (cL (cR (cR (cR (cR (cR (cR (cB f98))))))))))))))) (Out 0 strconv_underscoreOK_x7_k (strconv_underscoreOK_x7_S vx2_1 vx6_1 vx7 vx8) r) (strconv_underscoreOK_x7_I vx2_1 vx6_1 vx7 vx8) := by
  unfold strconv_underscoreOK_x7 at hF
  refine bE hF fun vc6 h21 hF => ?_
  refine cE hF (fun h22 hF => ?_) fun h22 hF => ?_
  · refine cE hF (fun h23 hF => ?_) fun h23 hF => ?_
    · refine awp_region ?_
      refine aR 2 ?_
      refine aX (x_idxS h21) ?_
      refine aB h22 ?_
      refine aR 3 ?_
      refine aX (x_idxS h21) ?_
      refine aB h23 ?_
      refine aR 18 ?_
      refine aE ?_
      exact oO hF [] [] rfl
    · refine cE hF (fun h24 hF => ?_) fun h24 hF => ?_
      · refine bE hF fun _ h25 hF => ?_
        refine cE hF (fun h26 hF => ?_) fun h26 hF => ?_
        · refine awp_region ?_
          refine aR 2 ?_
          refine aX (x_idxS h21) ?_
          refine aB h22 ?_
          refine aR 3 ?_
          refine aX (x_idxS h21) ?_
          refine aB h23 ?_
          refine aR 2 ?_
          refine aB h24 ?_
          refine aR 3 ?_
          refine aX (x_idxS h21) ?_
          refine aC (strconv_lower_ok h25) [] [] [] ?_
          refine aB h26 ?_
          refine aR 4 ?_
          refine aX (x_idxS h21) ?_
          refine aC (strconv_lower_ok h25) [] [] [] ?_
          refine aR 3 ?_
          refine aE ?_
          exact oO hF [] [] rfl
        · refine awp_region ?_
          refine aR 2 ?_
          refine aX (x_idxS h21) ?_
          refine aB h22 ?_
          refine aR 3 ?_
          refine aX (x_idxS h21) ?_
          refine aB h23 ?_
          refine aR 2 ?_
          refine aB h24 ?_
          refine aR 3 ?_
          refine aX (x_idxS h21) ?_
          refine aC (strconv_lower_ok h25) [] [] [] ?_
          refine aB h26 ?_
          refine aR 9 ?_
          refine aE ?_
          exact oO hF [] [] rfl
      · refine awp_region ?_
        refine aR 2 ?_
        refine aX (x_idxS h21) ?_
        refine aB h22 ?_
        refine aR 3 ?_
        refine aX (x_idxS h21) ?_
        refine aB h23 ?_
        refine aR 2 ?_
        refine aB h24 ?_
        refine aR 15 ?_
        refine aE ?_
        exact oO hF [] [] rfl
  · refine cE hF (fun h27 hF => ?_) fun h27 hF => ?_
    · refine bE hF fun _ h28 hF => ?_
      refine cE hF (fun h29 hF => ?_) fun h29 hF => ?_
      · refine awp_region ?_
        refine aR 2 ?_
        refine aX (x_idxS h21) ?_
        refine aB h22 ?_
        refine aR 7 ?_
        refine aB h27 ?_
        refine aR 3 ?_
        refine aX (x_idxS h21) ?_
        refine aC (strconv_lower_ok h28) [] [] [] ?_
        refine aB h29 ?_
        refine aR 4 ?_
        refine aX (x_idxS h21) ?_
        refine aC (strconv_lower_ok h28) [] [] [] ?_
        refine aR 3 ?_
        refine aE ?_
        exact oO hF [] [] rfl
      · refine awp_region ?_
        refine aR 2 ?_
        refine aX (x_idxS h21) ?_
        refine aB h22 ?_
        refine aR 7 ?_
        refine aB h27 ?_
        refine aR 3 ?_
        refine aX (x_idxS h21) ?_
        refine aC (strconv_lower_ok h28) [] [] [] ?_
        refine aB h29 ?_
        refine aR 9 ?_
        refine aE ?_
        exact oO hF [] [] rfl
    · refine awp_region ?_
      refine aR 2 ?_
      refine aX (x_idxS h21) ?_
      refine aB h22 ?_
      refine aR 7 ?_
      refine aB h27 ?_
      refine aR 15 ?_
      refine aE ?_
      exact oO hF [] [] rfl

def strconv_underscoreOK_x6_k : Int ⊕ Unit → AEx
  | .inl _ => .normal
  | .inr _ => .ret

def strconv_underscoreOK_x6_S (vx2_1 : List UInt8) (vx6_1 : Bool) (vx7 : Int) (vx8 : Int) : Int ⊕ Unit → St
  | .inl vx12 => Mem.st ⟨[], []⟩ (tl [(0, .v (.one (.d (.str vx2_1)))), (3, .v (.one (.d (.int .i32 vx12)))), (4, .v (.one (.d (.int .i64 vx8)))), (5, .v (.one (.d (.bool vx6_1))))]) 0
  | .inr _ => Mem.st ⟨[], []⟩ (tl [(2, .v (.one (.d (.bool false))))]) 0

def strconv_underscoreOK_x6_I (vx2_1 : List UInt8) (vx6_1 : Bool) (vx7 : Int) (vx8 : Int) : St := Mem.st ⟨[], []⟩ (tl [(0, .v (.one (.d (.str vx2_1)))), (3, .v (.one (.d (.int .i32 vx7)))), (4, .v (.one (.d (.int .i64 vx8)))), (5, .v (.one (.d (.bool vx6_1))))]) 0

theorem strconv_underscoreOK_x6_ok (vx2_1 : List UInt8) (vx6_1 : Bool) (vx7 : Int) (vx8 : Int) {r} (hF : strconv_underscoreOK_x6 vx2_1 vx6_1 vx7 vx8 = some r) : Awp prog 0 94 (cL (cR (cL (cL (cL (cR (cR (cR (cR (cR (cR (cB f98)))))))))))) (Out 0 strconv_underscoreOK_x6_k (strconv_underscoreOK_x6_S vx2_1 vx6_1 vx7 vx8) r) (strconv_underscoreOK_x6_I vx2_1 vx6_1 vx7 vx8) := by
  unfold strconv_underscoreOK_x6 at hF
  refine awp_block ?_
  refine awp_seq ?_
  refine awp_seq ?_
  refine awp_to (st' := strconv_underscoreOK_x7_I vx2_1 vx6_1 vx7 vx8) (oT [] []) ?_
  refine bE hF fun vx11_1 h30 hF => ?_
  refine awp_sub (strconv_underscoreOK_x7_ok vx2_1 vx6_1 vx7 vx8 h30) ?_
  refine cE hF (fun h31 hF => ?_) fun h31 hF => ?_
  · refine awp_true (by kernel_rfl) h31 ?_
    refine awp_seq ?_
    refine awp_region ?_
    refine aR 1 ?_
    refine aE ?_
    refine awp_exit ?_
    exact oO hF [] [] rfl
  · refine awp_false (by kernel_rfl) h31 ?_
    refine awp_skip ?_
    refine awp_seq ?_
    refine awp_seq ?_
    refine bE hF fun vc7 h32 hF => ?_
    refine awp_region ?_
    refine aR 2 ?_
    refine aX (x_idxS h32) ?_
    refine aR 1 ?_
    refine aE ?_
    refine cE hF (fun h33 hF => ?_) fun h33 hF => ?_
    · refine awp_true (by kernel_rfl) h33 ?_
      refine awp_seq ?_
      refine awp_seq ?_
      refine awp_region ?_
      refine aR 2 ?_
      refine aE ?_
      refine cE hF (fun h34 hF => ?_) fun h34 hF => ?_
      · refine awp_true (by kernel_rfl) h34 ?_
        refine awp_seq ?_
        refine awp_region ?_
        refine aR 1 ?_
        refine aE ?_
        refine awp_ret ?_
        exact oO hF [] [] rfl
      · refine awp_false (by kernel_rfl) h34 ?_
        refine awp_skip ?_
        refine awp_seq ?_
        refine awp_region ?_
        refine aR 1 ?_
        refine aE ?_
        refine awp_exit ?_
        exact oO hF [] [] rfl
    · refine awp_false (by kernel_rfl) h33 ?_
      refine awp_skip ?_
      refine awp_seq ?_
      refine awp_seq ?_
      refine awp_region ?_
      refine aR 2 ?_
      refine aE ?_
      refine cE hF (fun h35 hF => ?_) fun h35 hF => ?_
      · refine awp_true (by kernel_rfl) h35 ?_
        refine awp_seq ?_
        refine awp_region ?_
        refine aR 1 ?_
        refine aE ?_
        refine awp_ret ?_
        exact oO hF [] [] rfl
      · refine awp_false (by kernel_rfl) h35 ?_
        refine awp_skip ?_
        refine awp_region ?_
        refine aR 1 ?_
        refine aE ?_
        exact oO hF [] [] rfl

def strconv_underscoreOK_x5_k : Int ⊕ Unit → AEx
  | .inl _ => .exit 0
  | .inr _ => .ret

def strconv_underscoreOK_x5_S (vx2_1 : List UInt8) (vx6_1 : Bool) : Int ⊕ Unit → St
  | .inl vx13 => Mem.st ⟨[], []⟩ (tl [(3, .v (.one (.d (.int .i32 vx13))))]) 0
  | .inr _ => Mem.st ⟨[], []⟩ (tl [(2, .v (.one (.d (.bool false))))]) 0

def strconv_underscoreOK_x5_H (vx2_1 : List UInt8) (vx6_1 : Bool) : Int × Int → St
  | (vx7, vx8) => Mem.st ⟨[], []⟩ (tl [(0, .v (.one (.d (.str vx2_1)))), (3, .v (.one (.d (.int .i32 vx7)))), (4, .v (.one (.d (.int .i64 vx8)))), (5, .v (.one (.d (.bool vx6_1))))]) 0

theorem strconv_underscoreOK_x5_ok (vx2_1 : List UInt8) (vx6_1 : Bool) (s : Int × Int) (r : (Int × Int) ⊕ (Int ⊕ Unit)) (hF : strconv_underscoreOK_x5 vx2_1 vx6_1 s = some r) : Awp prog 0 94 (cL (cL (cL (cR (cR (cR (cR (cR (cR (cB f98)))))))))) (Out 0 (kk strconv_underscoreOK_x5_k) (SS (strconv_underscoreOK_x5_H vx2_1 vx6_1) (strconv_underscoreOK_x5_S vx2_1 vx6_1)) r) (strconv_underscoreOK_x5_H vx2_1 vx6_1 s) := by
  obtain ⟨vx7, vx8⟩ := s
  unfold strconv_underscoreOK_x5 at hF
  refine awp_seq ?_
  refine awp_seq ?_
  refine awp_region ?_
  refine aR 4 ?_
  refine aE ?_
  refine cE hF (fun h20 hF => ?_) fun h20 hF => ?_
  · refine awp_true (by kernel_rfl) h20 ?_
    refine awp_skip ?_
    refine awp_seq ?_
    refine awp_to (st' := strconv_underscoreOK_x6_I vx2_1 vx6_1 vx7 vx8) (oT [] []) ?_
    refine bE hF fun x h36 hF => ?_
    rcases x with vx12_1 | _
    · refine awp_sub (strconv_underscoreOK_x6_ok vx2_1 vx6_1 vx7 vx8 h36) ?_
      refine awp_region ?_
      refine aR 3 ?_
      refine aE ?_
      exact oO hF [] [] rfl
    · refine awp_sub (strconv_underscoreOK_x6_ok vx2_1 vx6_1 vx7 vx8 h36) ?_
      exact oO hF [] [] rfl
  · refine awp_false (by kernel_rfl) h20 ?_
    refine awp_exit ?_
    exact oO hF [] [] rfl

def strconv_underscoreOK_R (qx : List UInt8) (r : Bool) : TV × Mem := (.v (.one (.d (.bool r))), ⟨[], []⟩)

theorem strconv_underscoreOK_ok {qx : List UInt8} {r} (hF : strconv_underscoreOK qx = some r) : Holds prog 98 [.v (.one (.d (.str qx)))] ⟨[], []⟩ (Is (strconv_underscoreOK_R qx r)) := by
  unfold strconv_underscoreOK at hF
  refine holds_of_awp hΓ (fn := f98) (c := cB f98) (A := 0) (nx := 0) (by kernel_rfl) (by kernel_rfl) (by kernel_rfl) (by kernel_rfl) (by kernel_rfl) (by kernel_rfl) (lowc_of (by kernel_rfl)) ?_
  show Awp prog 0 94 (cB f98) _ _
  refine awp_seq ?_
  refine awp_region ?_
  refine aR 1 ?_
  refine aE ?_
  refine awp_seq ?_
  refine awp_region ?_
  refine aR 1 ?_
  refine aE ?_
  refine awp_seq ?_
  refine awp_region ?_
  refine aR 1 ?_
  refine aE ?_
  refine awp_seq ?_
  refine awp_to (st' := strconv_underscoreOK_x1_I qx) (oT [] []) ?_
  refine bE hF fun vx2_1 h7 hF => ?_
  refine awp_sub (strconv_underscoreOK_x1_ok qx h7) ?_
  refine awp_seq ?_
  refine awp_region ?_
  refine aR 1 ?_
  refine aE ?_
  refine awp_seq ?_
  refine awp_to (st' := strconv_underscoreOK_x3_I vx2_1) (oT [] []) ?_
  refine bE hF fun x h19 hF => ?_
  obtain ⟨vx4_1, vx5_1, vx6_1⟩ := x
  refine awp_sub (strconv_underscoreOK_x3_ok vx2_1 h19) ?_
  refine awp_seq ?_
  refine awp_block ?_
  refine awp_to (st' := strconv_underscoreOK_x5_H vx2_1 vx6_1 (vx4_1, vx5_1)) (oT [] []) ?_
  refine bE hF fun x h37 hF => ?_
  rcases x with vx13_1 | _
  · refine awp_sub (awp_loop' (strconv_underscoreOK_x5_H vx2_1 vx6_1) strconv_underscoreOK_x5_k (strconv_underscoreOK_x5_S vx2_1 vx6_1) (by intro x; rcases x with x | x <;> exact fun h => nomatch h) h37 (strconv_underscoreOK_x5_ok vx2_1 vx6_1)) ?_
    refine awp_seq ?_
    refine awp_region ?_
    refine aR 3 ?_
    refine aE ?_
    refine awp_ret ?_
    exact oF hF [] []
  · refine awp_sub (awp_loop' (strconv_underscoreOK_x5_H vx2_1 vx6_1) strconv_underscoreOK_x5_k (strconv_underscoreOK_x5_S vx2_1 vx6_1) (by intro x; rcases x with x | x <;> exact fun h => nomatch h) h37 (strconv_underscoreOK_x5_ok vx2_1 vx6_1)) ?_
    exact oF hF [] []

/-! ### internal/strconv.ParseUint -/
def strconv_ParseUint_x2_k : Bool → AEx
  | _ => .normal

def strconv_ParseUint_x2_S (qx : List UInt8) (qx1 : Int) (qx2 : Int) : Bool → St
  | vx => Mem.st ⟨[], []⟩ (tl [(0, .v (.one (.d (.str qx)))), (1, .v (.one (.d (.int .i64 qx1)))), (2, .v (.one (.d (.int .i64 qx2)))), (8, .v (.one (.d (.bool (decide (qx1 = 0)))))), (9, .v (.one (.d (.str qx)))), (25, .v (.one (.d (.bool vx))))]) 0

def strconv_ParseUint_x2_I (qx : List UInt8) (qx1 : Int) (qx2 : Int) : St := Mem.st ⟨[], []⟩ (tl [(0, .v (.one (.d (.str qx)))), (1, .v (.one (.d (.int .i64 qx1)))), (2, .v (.one (.d (.int .i64 qx2)))), (8, .v (.one (.d (.bool (decide (qx1 = 0)))))), (9, .v (.one (.d (.str qx))))]) 0

theorem strconv_ParseUint_x2_ok (qx : List UInt8) (qx1 : Int) (qx2 : Int) {r} (hF : strconv_ParseUint_x2 qx1 = some r) : Awp prog 0 172 (cL (cL (cL (cR (cR (cR (cR (cB f91)))))))) (Out 0 strconv_ParseUint_x2_k (strconv_ParseUint_x2_S qx qx1 qx2) r) (strconv_ParseUint_x2_I qx qx1 qx2) := by
  unfold strconv_ParseUint_x2 at hF
  refine cE hF (fun h3 hF => ?_) fun h3 hF => ?_
  · refine awp_region ?_
    refine aR 1 ?_
    refine aB h3 ?_
    refine aR 5 ?_
    refine aE ?_
    exact oO hF [] [] rfl
  · refine awp_region ?_
    refine aR 1 ?_
    refine aB h3 ?_
    refine aR 5 ?_
    refine aE ?_
    exact oO hF [] [] rfl

def strconv_ParseUint_x3_k : Bool → AEx
  | _ => .normal

def strconv_ParseUint_x3_S (qx : List UInt8) (qx1 : Int) (qx2 : Int) : Bool → St
  | vx2 => Mem.st ⟨[], []⟩ (tl [(0, .v (.one (.d (.str qx)))), (2, .v (.one (.d (.int .i64 qx2)))), (8, .v (.one (.d (.bool (decide (qx1 = 0)))))), (9, .v (.one (.d (.str qx)))), (40, .v (.one (.d (.bool vx2))))]) 0

def strconv_ParseUint_x3_I (qx : List UInt8) (qx1 : Int) (qx2 : Int) : St := Mem.st ⟨[], []⟩ (tl [(0, .v (.one (.d (.str qx)))), (2, .v (.one (.d (.int .i64 qx2)))), (8, .v (.one (.d (.bool (decide (qx1 = 0)))))), (9, .v (.one (.d (.str qx))))]) 0

theorem strconv_ParseUint_x3_ok (qx : List UInt8) (qx1 : Int) (qx2 : Int) {r} (hF : strconv_ParseUint_x3 qx = some r) : Awp prog 0 172 (cL (cL (cL (cR (cR (cL (cR (cR (cR (cL (cL (cR (cR (cR (cR (cB f91)))))))))))))))) (Out 0 strconv_ParseUint_x3_k (strconv_ParseUint_x3_S qx qx1 qx2) r) (strconv_ParseUint_x3_I qx qx1 qx2) := by
  unfold strconv_ParseUint_x3 at hF
  refine cE hF (fun h9 hF => ?_) fun h9 hF => ?_
  · refine bE hF fun vc1 h10 hF => ?_
    refine bE hF fun _ h11 hF => ?_
    refine awp_region ?_
    refine aR 2 ?_
    refine aB h9 ?_
    refine aR 2 ?_
    refine aX (x_idxS h10) ?_
    refine aC (strconv_lower_ok h11) [] [] [] ?_
    refine aR 3 ?_
    refine aE ?_
    exact oO hF [] [] rfl
  · refine awp_region ?_
    refine aR 2 ?_
    refine aB h9 ?_
    refine aR 7 ?_
    refine aE ?_
    exact oO hF [] [] rfl

def strconv_ParseUint_x4_k : Bool → AEx
  | _ => .normal

def strconv_ParseUint_x4_S (qx : List UInt8) (qx1 : Int) (qx2 : Int) : Bool → St
  | vx3 => Mem.st ⟨[], []⟩ (tl [(0, .v (.one (.d (.str qx)))), (2, .v (.one (.d (.int .i64 qx2)))), (8, .v (.one (.d (.bool (decide (qx1 = 0)))))), (9, .v (.one (.d (.str qx)))), (52, .v (.one (.d (.bool vx3))))]) 0

def strconv_ParseUint_x4_I (qx : List UInt8) (qx1 : Int) (qx2 : Int) : St := Mem.st ⟨[], []⟩ (tl [(0, .v (.one (.d (.str qx)))), (2, .v (.one (.d (.int .i64 qx2)))), (8, .v (.one (.d (.bool (decide (qx1 = 0)))))), (9, .v (.one (.d (.str qx))))]) 0

theorem strconv_ParseUint_x4_ok (qx : List UInt8) (qx1 : Int) (qx2 : Int) {r} (hF : strconv_ParseUint_x4 qx = some r) : Awp prog 0 172 (cL (cR (cR (cL (cL (cR (cR (cL (cR (cR (cR (cL (cL (cR (cR (cR (cR (cB f91)))))))))))))))))) (Out 0 strconv_ParseUint_x4_k (strconv_ParseUint_x4_S qx qx1 qx2) r) (strconv_ParseUint_x4_I qx qx1 qx2) := by
  unfold strconv_ParseUint_x4 at hF
  refine cE hF (fun h15 hF => ?_) fun h15 hF => ?_
  · refine bE hF fun vc2 h16 hF => ?_
    refine bE hF fun _ h17 hF => ?_
    refine awp_region ?_
    refine aR 2 ?_
    refine aB h15 ?_
    refine aR 2 ?_
    refine aX (x_idxS h16) ?_
    refine aC (strconv_lower_ok h17) [] [] [] ?_
    refine aR 3 ?_
    refine aE ?_
    exact oO hF [] [] rfl
  · refine awp_region ?_
    refine aR 2 ?_
    refine aB h15 ?_
    refine aR 7 ?_
    refine aE ?_
    exact oO hF [] [] rfl

def strconv_ParseUint_x5_k : Bool → AEx
  | _ => .normal

def strconv_ParseUint_x5_S (qx : List UInt8) (qx1 : Int) (qx2 : Int) : Bool → St
  | vx4 => Mem.st ⟨[], []⟩ (tl [(0, .v (.one (.d (.str qx)))), (2, .v (.one (.d (.int .i64 qx2)))), (8, .v (.one (.d (.bool (decide (qx1 = 0)))))), (9, .v (.one (.d (.str qx)))), (64, .v (.one (.d (.bool vx4))))]) 0

def strconv_ParseUint_x5_I (qx : List UInt8) (qx1 : Int) (qx2 : Int) : St := Mem.st ⟨[], []⟩ (tl [(0, .v (.one (.d (.str qx)))), (2, .v (.one (.d (.int .i64 qx2)))), (8, .v (.one (.d (.bool (decide (qx1 = 0)))))), (9, .v (.one (.d (.str qx))))]) 0

theorem strconv_ParseUint_x5_ok (qx : List UInt8) (qx1 : Int) (qx2 : Int) {r} (hF : strconv_ParseUint_x5 qx = some r) : Awp prog 0 172 (cL (cR (cR (cR (cR (cL (cL (cR (cR (cL (cR (cR (cR (cL (cL (cR (cR (cR (cR (cB f91)))))))))))))))))))) (Out 0 strconv_ParseUint_x5_k (strconv_ParseUint_x5_S qx qx1 qx2) r) (strconv_ParseUint_x5_I qx qx1 qx2) := by
  unfold strconv_ParseUint_x5 at hF
  refine cE hF (fun h21 hF => ?_) fun h21 hF => ?_
  · refine bE hF fun vc3 h22 hF => ?_
    refine bE hF fun _ h23 hF => ?_
    refine awp_region ?_
    refine aR 2 ?_
    refine aB h21 ?_
    refine aR 2 ?_
    refine aX (x_idxS h22) ?_
    refine aC (strconv_lower_ok h23) [] [] [] ?_
    refine aR 3 ?_
    refine aE ?_
    exact oO hF [] [] rfl
  · refine awp_region ?_
    refine aR 2 ?_
    refine aB h21 ?_
    refine aR 7 ?_
    refine aE ?_
    exact oO hF [] [] rfl

def strconv_ParseUint_x1_k : ((List UInt8) × Int) → AEx
  | _ => .normal

def strconv_ParseUint_x1_S (qx : List UInt8) (qx1 : Int) (qx2 : Int) : ((List UInt8) × Int) → St
  | (vx5, vx6) => Mem.st ⟨[], []⟩ (tl [(0, .v (.one (.d (.str vx5)))), (1, .v (.one (.d (.int .i64 vx6)))), (2, .v (.one (.d (.int .i64 qx2)))), (8, .v (.one (.d (.bool (decide (qx1 = 0)))))), (9, .v (.one (.d (.str qx))))]) 0

def strconv_ParseUint_x1_I (qx : List UInt8) (qx1 : Int) (qx2 : Int) : St := Mem.st ⟨[], []⟩ (tl [(0, .v (.one (.d (.str qx)))), (1, .v (.one (.d (.int .i64 qx1)))), (2, .v (.one (.d (.int .i64 qx2)))), (8, .v (.one (.d (.bool (decide (qx1 = 0)))))), (9, .v (.one (.d (.str qx))))]) 0

theorem strconv_ParseUint_x1_ok (qx : List UInt8) (qx1 : Int) (qx2 : Int) {r} (hF : strconv_ParseUint_x1 qx qx1 = some r) : Awp prog 0 172 (cL (cR (cR (cR (cR (cB f91)))))) (Out 0 strconv_ParseUint_x1_k (strconv_ParseUint_x1_S qx qx1 qx2) r) (strconv_ParseUint_x1_I qx qx1 qx2) := by
  unfold strconv_ParseUint_x1 at hF
  refine awp_block ?_
  refine awp_seq ?_
  refine awp_to (st' := strconv_ParseUint_x2_I qx qx1 qx2) (oT [] []) ?_
  refine bE hF fun vx1 h4 hF => ?_
  refine awp_sub (strconv_ParseUint_x2_ok qx qx1 qx2 h4) ?_
  refine cE hF (fun h5 hF => ?_) fun h5 hF => ?_
  · refine awp_true (by kernel_rfl) h5 ?_
    refine awp_skip ?_
    exact oO hF [] [] rfl
  · refine awp_false (by kernel_rfl) h5 ?_
    refine awp_seq ?_
    refine awp_region ?_
    refine aR 3 ?_
    refine aE ?_
    refine cE hF (fun h6 hF => ?_) fun h6 hF => ?_
    · refine awp_true (by kernel_rfl) h6 ?_
      refine awp_seq ?_
      refine awp_region ?_
      refine aR 1 ?_
      refine aE ?_
      refine awp_seq ?_
      refine bE hF fun vc h7 hF => ?_
      refine awp_region ?_
      refine aR 1 ?_
      refine aX (x_idxS h7) ?_
      refine aR 1 ?_
      refine aE ?_
      refine cE hF (fun h8 hF => ?_) fun h8 hF => ?_
      · refine awp_true (by kernel_rfl) h8 ?_
        refine awp_block ?_
        refine awp_seq ?_
        refine awp_to (st' := strconv_ParseUint_x3_I qx qx1 qx2) (oT [] []) ?_
        refine bE hF fun vx2_1 h12 hF => ?_
        refine awp_sub (strconv_ParseUint_x3_ok qx qx1 qx2 h12) ?_
        refine cE hF (fun h13 hF => ?_) fun h13 hF => ?_
        · refine awp_true (by kernel_rfl) h13 ?_
          refine awp_seq ?_
          refine awp_region ?_
          refine aR 1 ?_
          refine aE ?_
          refine bE hF fun vs h14 hF => ?_
          refine awp_region ?_
          refine aR 1 ?_
          refine aX (x_sliceS h14) ?_
          refine aR 1 ?_
          refine aE ?_
          exact oO hF [] [] rfl
        · refine awp_false (by kernel_rfl) h13 ?_
          refine awp_seq ?_
          refine awp_to (st' := strconv_ParseUint_x4_I qx qx1 qx2) (oT [] []) ?_
          refine bE hF fun vx3_1 h18 hF => ?_
          refine awp_sub (strconv_ParseUint_x4_ok qx qx1 qx2 h18) ?_
          refine cE hF (fun h19 hF => ?_) fun h19 hF => ?_
          · refine awp_true (by kernel_rfl) h19 ?_
            refine awp_seq ?_
            refine awp_region ?_
            refine aR 1 ?_
            refine aE ?_
            refine bE hF fun vs1 h20 hF => ?_
            refine awp_region ?_
            refine aR 1 ?_
            refine aX (x_sliceS h20) ?_
            refine aR 1 ?_
            refine aE ?_
            exact oO hF [] [] rfl
          · refine awp_false (by kernel_rfl) h19 ?_
            refine awp_seq ?_
            refine awp_to (st' := strconv_ParseUint_x5_I qx qx1 qx2) (oT [] []) ?_
            refine bE hF fun vx4_1 h24 hF => ?_
            refine awp_sub (strconv_ParseUint_x5_ok qx qx1 qx2 h24) ?_
            refine cE hF (fun h25 hF => ?_) fun h25 hF => ?_
            · refine awp_true (by kernel_rfl) h25 ?_
              refine awp_seq ?_
              refine awp_region ?_
              refine aR 1 ?_
              refine aE ?_
              refine bE hF fun vs2 h26 hF => ?_
              refine awp_region ?_
              refine aR 1 ?_
              refine aX (x_sliceS h26) ?_
              refine aR 1 ?_
              refine aE ?_
              exact oO hF [] [] rfl
            · refine awp_false (by kernel_rfl) h25 ?_
              refine awp_seq ?_
              refine awp_region ?_
              refine aR 1 ?_
              refine aE ?_
              refine bE hF fun vs3 h27 hF => ?_
              refine awp_region ?_
              refine aR 1 ?_
              refine aX (x_sliceS h27) ?_
              refine aR 1 ?_
              refine aE ?_
              exact oO hF [] [] rfl
      · refine awp_false (by kernel_rfl) h8 ?_
        refine awp_skip ?_
        exact oO hF [] [] rfl
    · refine awp_false (by kernel_rfl) h6 ?_
      refine awp_seq ?_
      exact nE hF

def strconv_ParseUint_x7_k : Bool → AEx
  | _ => .normal

def strconv_ParseUint_x7_S (qx : List UInt8) (qx1 : Int) (qx2 : Int) (vx5_1 : List UInt8) (vx6_1 : Int) : Bool → St
  | vx7 => Mem.st ⟨[], []⟩ (tl [(0, .v (.one (.d (.str vx5_1)))), (1, .v (.one (.d (.int .i64 vx6_1)))), (2, .v (.one (.d (.int .i64 qx2)))), (8, .v (.one (.d (.bool (decide (qx1 = 0)))))), (9, .v (.one (.d (.str qx)))), (83, .v (.one (.d (.bool vx7))))]) 0

def strconv_ParseUint_x7_I (qx : List UInt8) (qx1 : Int) (qx2 : Int) (vx5_1 : List UInt8) (vx6_1 : Int) : St := Mem.st ⟨[], []⟩ (tl [(0, .v (.one (.d (.str vx5_1)))), (1, .v (.one (.d (.int .i64 vx6_1)))), (2, .v (.one (.d (.int .i64 qx2)))), (8, .v (.one (.d (.bool (decide (qx1 = 0)))))), (9, .v (.one (.d (.str qx))))]) 0

theorem strconv_ParseUint_x7_ok (qx : List UInt8) (qx1 : Int) (qx2 : Int) (vx5_1 : List UInt8) (vx6_1 : Int) {r} (hF : strconv_ParseUint_x7 qx2 = some r) : Awp prog 0 172 (cL (cR (cR (cL (cR (cR (cR (cR (cR (cB f91)))))))))) (Out 0 strconv_ParseUint_x7_k (strconv_ParseUint_x7_S qx qx1 qx2 vx5_1 vx6_1) r) (strconv_ParseUint_x7_I qx qx1 qx2 vx5_1 vx6_1) := by
  unfold strconv_ParseUint_x7 at hF
  refine cE hF (fun h31 hF => ?_) fun h31 hF => ?_
  · refine awp_region ?_
    refine aR 1 ?_
    refine aB h31 ?_
    refine aR 4 ?_
    refine aE ?_
    exact oO hF [] [] rfl
  · refine awp_region ?_
    refine aR 1 ?_
    refine aB h31 ?_
    refine aR 4 ?_
    refine aE ?_
    exact oO hF [] [] rfl

def strconv_ParseUint_x6_k : Int → AEx
  | _ => .normal

def strconv_ParseUint_x6_S (qx : List UInt8) (qx1 : Int) (qx2 : Int) (vx5_1 : List UInt8) (vx6_1 : Int) : Int → St
  | vx8 => Mem.st ⟨[], []⟩ (tl [(0, .v (.one (.d (.str vx5_1)))), (1, .v (.one (.d (.int .i64 vx6_1)))), (2, .v (.one (.d (.int .i64 vx8)))), (8, .v (.one (.d (.bool (decide (qx1 = 0)))))), (9, .v (.one (.d (.str qx))))]) 0

def strconv_ParseUint_x6_I (qx : List UInt8) (qx1 : Int) (qx2 : Int) (vx5_1 : List UInt8) (vx6_1 : Int) : St := Mem.st ⟨[], []⟩ (tl [(0, .v (.one (.d (.str vx5_1)))), (1, .v (.one (.d (.int .i64 vx6_1)))), (2, .v (.one (.d (.int .i64 qx2)))), (8, .v (.one (.d (.bool (decide (qx1 = 0)))))), (9, .v (.one (.d (.str qx))))]) 0

theorem strconv_ParseUint_x6_ok (qx : List UInt8) (qx1 : Int) (qx2 : Int) (vx5_1 : List UInt8) (vx6_1 : Int) {r} (hF : strconv_ParseUint_x6 qx2 = some r) : Awp prog 0 172 (cL (cR (cR (cR (cR (cR (cB f91))))))) (Out 0 strconv_ParseUint_x6_k (strconv_ParseUint_x6_S qx qx1 qx2 vx5_1 vx6_1) r) (strconv_ParseUint_x6_I qx qx1 qx2 vx5_1 vx6_1) := by
  unfold strconv_ParseUint_x6 at hF
  refine awp_seq ?_
  refine awp_region ?_
  refine aR 2 ?_
  refine aE ?_
  refine cE hF (fun h30 hF => ?_) fun h30 hF => ?_
  · refine awp_true (by kernel_rfl) h30 ?_
    refine awp_region ?_
    refine aR 1 ?_
    refine aE ?_
    exact oO hF [] [] rfl
  · refine awp_false (by kernel_rfl) h30 ?_
    refine awp_seq ?_
    refine awp_to (st' := strconv_ParseUint_x7_I qx qx1 qx2 vx5_1 vx6_1) (oT [] []) ?_
    refine bE hF fun vx7_1 h32 hF => ?_
    refine awp_sub (strconv_ParseUint_x7_ok qx qx1 qx2 vx5_1 vx6_1 h32) ?_
    refine cE hF (fun h33 hF => ?_) fun h33 hF => ?_
    · refine awp_true (by kernel_rfl) h33 ?_
      refine awp_seq ?_
      exact nE hF
    · refine awp_false (by kernel_rfl) h33 ?_
      refine awp_skip ?_
      exact oO hF [] [] rfl

def strconv_ParseUint_x8_k : Int → AEx
  | _ => .normal

def strconv_ParseUint_x8_S (qx : List UInt8) (qx1 : Int) (vx5_1 : List UInt8) (vx6_1 : Int) (vx8_1 : Int) : Int → St
  | vx9 => Mem.st ⟨[], []⟩ (tl [(0, .v (.one (.d (.str vx5_1)))), (1, .v (.one (.d (.int .i64 vx6_1)))), (2, .v (.one (.d (.int .i64 vx8_1)))), (8, .v (.one (.d (.bool (decide (qx1 = 0)))))), (9, .v (.one (.d (.str qx)))), (10, .v (.one (.d (.int .u64 vx9))))]) 0

def strconv_ParseUint_x8_I (qx : List UInt8) (qx1 : Int) (vx5_1 : List UInt8) (vx6_1 : Int) (vx8_1 : Int) : St := Mem.st ⟨[], []⟩ (tl [(0, .v (.one (.d (.str vx5_1)))), (1, .v (.one (.d (.int .i64 vx6_1)))), (2, .v (.one (.d (.int .i64 vx8_1)))), (8, .v (.one (.d (.bool (decide (qx1 = 0)))))), (9, .v (.one (.d (.str qx))))]) 0

theorem strconv_ParseUint_x8_ok (qx : List UInt8) (qx1 : Int) (vx5_1 : List UInt8) (vx6_1 : Int) (vx8_1 : Int) {r} (hF : strconv_ParseUint_x8 vx6_1 = some r) : Awp prog 0 172 (cL (cR (cR (cR (cR (cR (cR (cR (cB f91))))))))) (Out 0 strconv_ParseUint_x8_k (strconv_ParseUint_x8_S qx qx1 vx5_1 vx6_1 vx8_1) r) (strconv_ParseUint_x8_I qx qx1 vx5_1 vx6_1 vx8_1) := by
  unfold strconv_ParseUint_x8 at hF
  refine awp_seq ?_
  refine awp_region ?_
  refine aR 1 ?_
  refine aE ?_
  refine awp_block ?_
  refine awp_seq ?_
  refine awp_region ?_
  refine aR 2 ?_
  refine aE ?_
  refine cE hF (fun h36 hF => ?_) fun h36 hF => ?_
  · refine awp_true (by kernel_rfl) h36 ?_
    refine awp_region ?_
    refine aR 1 ?_
    refine aE ?_
    exact oO hF [] [] rfl
  · refine awp_false (by kernel_rfl) h36 ?_
    refine awp_seq ?_
    refine awp_region ?_
    refine aR 2 ?_
    refine aE ?_
    refine cE hF (fun h37 hF => ?_) fun h37 hF => ?_
    · refine awp_true (by kernel_rfl) h37 ?_
      refine awp_region ?_
      refine aR 1 ?_
      refine aE ?_
      exact oO hF [] [] rfl
    · refine awp_false (by kernel_rfl) h37 ?_
      refine gE hF fun h38 hF => ?_
      refine awp_region ?_
      refine aR 2 ?_
      refine aX (x_quo h38) ?_
      refine aR 2 ?_
      refine aE ?_
      exact oO hF [] [] rfl

def strconv_ParseUint_x12_k : Bool → AEx
  | _ => .normal

def strconv_ParseUint_x12_S (qx : List UInt8) (qx1 : Int) (vx5_1 : List UInt8) (vx6_1 : Int) (vx8_1 : Int) (vx9_1 : Int) (vx10 : Bool) (vx11 : Int) (vx12 : Int) (vy1 : Int) : Bool → St
  | vx20 => Mem.st ⟨[], []⟩ (tl [(1, .v (.one (.d (.int .i64 vx6_1)))), (8, .v (.one (.d (.bool (decide (qx1 = 0)))))), (9, .v (.one (.d (.str qx)))), (10, .v (.one (.d (.int .u64 vx9_1)))), (11, .v (.one (.d (.int .u64 (IntKind.wrap .u64 ((ishl .u64 1 (IntKind.wrap .u64 (vx8_1))) - 1)))))), (12, .v (.one (.d (.bool vx10)))), (13, .v (.one (.d (.int .u64 vx11)))), (15, .v (.one (.d (.int .u8 vy1)))), (99, .v (.one (.d (.lst (List.map (encI .u8) (bytesD vx5_1)))))), (100, .v (.one (.d (.int .i64 ((bytesD vx5_1).length : Int))))), (101, .v (.one (.d (.int .i64 vx12)))), (106, .v (.one (.d (.bool vx20))))]) 0

def strconv_ParseUint_x12_I (qx : List UInt8) (qx1 : Int) (vx5_1 : List UInt8) (vx6_1 : Int) (vx8_1 : Int) (vx9_1 : Int) (vx10 : Bool) (vx11 : Int) (vx12 : Int) (vy1 : Int) : St := Mem.st ⟨[], []⟩ (tl [(1, .v (.one (.d (.int .i64 vx6_1)))), (8, .v (.one (.d (.bool (decide (qx1 = 0)))))), (9, .v (.one (.d (.str qx)))), (10, .v (.one (.d (.int .u64 vx9_1)))), (11, .v (.one (.d (.int .u64 (IntKind.wrap .u64 ((ishl .u64 1 (IntKind.wrap .u64 (vx8_1))) - 1)))))), (12, .v (.one (.d (.bool vx10)))), (13, .v (.one (.d (.int .u64 vx11)))), (15, .v (.one (.d (.int .u8 vy1)))), (99, .v (.one (.d (.lst (List.map (encI .u8) (bytesD vx5_1)))))), (100, .v (.one (.d (.int .i64 ((bytesD vx5_1).length : Int))))), (101, .v (.one (.d (.int .i64 vx12))))]) 0

theorem strconv_ParseUint_x12_ok (qx : List UInt8) (qx1 : Int) (vx5_1 : List UInt8) (vx6_1 : Int) (vx8_1 : Int) (vx9_1 : Int) (vx10 : Bool) (vx11 : Int) (vx12 : Int) (vy1 : Int) {r} (hF : strconv_ParseUint_x12 qx1 vy1 = some r) : Awp prog 0 172 (cL (cL (cL (cR (cR (cL (cL (cR (cR (cL (cL (cR (cL (cR (cR (cR (cR (cR (cR (cR (cR (cR (cR (cR (cB f91))))))))))))))))))))))))) (Out 0 strconv_ParseUint_x12_k (strconv_ParseUint_x12_S qx qx1 vx5_1 vx6_1 vx8_1 vx9_1 vx10 vx11 vx12 vy1) r) (strconv_ParseUint_x12_I qx qx1 vx5_1 vx6_1 vx8_1 vx9_1 vx10 vx11 vx12 vy1) := by
  unfold strconv_ParseUint_x12 at hF
  refine cE hF (fun h43 hF => ?_) fun h43 hF => ?_
  · refine awp_region ?_
    refine aR 1 ?_
    refine aB h43 ?_
    refine aR 4 ?_
    refine aE ?_
    exact oO hF [] [] rfl
  · refine awp_region ?_
    refine aR 1 ?_
    refine aB h43 ?_
    refine aR 4 ?_
    refine aE ?_
    exact oO hF [] [] rfl

def strconv_ParseUint_x13_k : Bool → AEx
  | _ => .normal

def strconv_ParseUint_x13_S (qx : List UInt8) (qx1 : Int) (vx5_1 : List UInt8) (vx6_1 : Int) (vx8_1 : Int) (vx9_1 : Int) (vx10 : Bool) (vx11 : Int) (vx12 : Int) (vy1 : Int) : Bool → St
  | vx21 => Mem.st ⟨[], []⟩ (tl [(1, .v (.one (.d (.int .i64 vx6_1)))), (8, .v (.one (.d (.bool (decide (qx1 = 0)))))), (9, .v (.one (.d (.str qx)))), (10, .v (.one (.d (.int .u64 vx9_1)))), (11, .v (.one (.d (.int .u64 (IntKind.wrap .u64 ((ishl .u64 1 (IntKind.wrap .u64 (vx8_1))) - 1)))))), (12, .v (.one (.d (.bool vx10)))), (13, .v (.one (.d (.int .u64 vx11)))), (15, .v (.one (.d (.int .u8 vy1)))), (99, .v (.one (.d (.lst (List.map (encI .u8) (bytesD vx5_1)))))), (100, .v (.one (.d (.int .i64 ((bytesD vx5_1).length : Int))))), (101, .v (.one (.d (.int .i64 vx12)))), (112, .v (.one (.d (.bool vx21))))]) 0

def strconv_ParseUint_x13_I (qx : List UInt8) (qx1 : Int) (vx5_1 : List UInt8) (vx6_1 : Int) (vx8_1 : Int) (vx9_1 : Int) (vx10 : Bool) (vx11 : Int) (vx12 : Int) (vy1 : Int) : St := Mem.st ⟨[], []⟩ (tl [(1, .v (.one (.d (.int .i64 vx6_1)))), (8, .v (.one (.d (.bool (decide (qx1 = 0)))))), (9, .v (.one (.d (.str qx)))), (10, .v (.one (.d (.int .u64 vx9_1)))), (11, .v (.one (.d (.int .u64 (IntKind.wrap .u64 ((ishl .u64 1 (IntKind.wrap .u64 (vx8_1))) - 1)))))), (12, .v (.one (.d (.bool vx10)))), (13, .v (.one (.d (.int .u64 vx11)))), (15, .v (.one (.d (.int .u8 vy1)))), (99, .v (.one (.d (.lst (List.map (encI .u8) (bytesD vx5_1)))))), (100, .v (.one (.d (.int .i64 ((bytesD vx5_1).length : Int))))), (101, .v (.one (.d (.int .i64 vx12))))]) 0

theorem strconv_ParseUint_x13_ok (qx : List UInt8) (qx1 : Int) (vx5_1 : List UInt8) (vx6_1 : Int) (vx8_1 : Int) (vx9_1 : Int) (vx10 : Bool) (vx11 : Int) (vx12 : Int) (vy1 : Int) {r} (hF : strconv_ParseUint_x13 vy1 = some r) : Awp prog 0 172 (cL (cR (cR (cL (cL (cR (cR (cL (cL (cR (cR (cL (cL (cR (cL (cR (cR (cR (cR (cR (cR (cR (cR (cR (cR (cR (cB f91))))))))))))))))))))))))))) (Out 0 strconv_ParseUint_x13_k (strconv_ParseUint_x13_S qx qx1 vx5_1 vx6_1 vx8_1 vx9_1 vx10 vx11 vx12 vy1) r) (strconv_ParseUint_x13_I qx qx1 vx5_1 vx6_1 vx8_1 vx9_1 vx10 vx11 vx12 vy1) := by
  unfold strconv_ParseUint_x13 at hF
  refine cE hF (fun h46 hF => ?_) fun h46 hF => ?_
  · refine awp_region ?_
    refine aR 1 ?_
    refine aB h46 ?_
    refine aR 5 ?_
    refine aE ?_
    exact oO hF [] [] rfl
  · refine awp_region ?_
    refine aR 1 ?_
    refine aB h46 ?_
    refine aR 5 ?_
    refine aE ?_
    exact oO hF [] [] rfl

def strconv_ParseUint_x14_k : Bool → AEx
  | _ => .normal

def strconv_ParseUint_x14_S (qx : List UInt8) (qx1 : Int) (vx5_1 : List UInt8) (vx6_1 : Int) (vx8_1 : Int) (vx9_1 : Int) (vx10 : Bool) (vx11 : Int) (vx12 : Int) (vy1 : Int) : Bool → St
  | vx22 => Mem.st ⟨[], []⟩ (tl [(1, .v (.one (.d (.int .i64 vx6_1)))), (8, .v (.one (.d (.bool (decide (qx1 = 0)))))), (9, .v (.one (.d (.str qx)))), (10, .v (.one (.d (.int .u64 vx9_1)))), (11, .v (.one (.d (.int .u64 (IntKind.wrap .u64 ((ishl .u64 1 (IntKind.wrap .u64 (vx8_1))) - 1)))))), (12, .v (.one (.d (.bool vx10)))), (13, .v (.one (.d (.int .u64 vx11)))), (15, .v (.one (.d (.int .u8 vy1)))), (99, .v (.one (.d (.lst (List.map (encI .u8) (bytesD vx5_1)))))), (100, .v (.one (.d (.int .i64 ((bytesD vx5_1).length : Int))))), (101, .v (.one (.d (.int .i64 vx12)))), (121, .v (.one (.d (.bool vx22))))]) 0

def strconv_ParseUint_x14_I (qx : List UInt8) (qx1 : Int) (vx5_1 : List UInt8) (vx6_1 : Int) (vx8_1 : Int) (vx9_1 : Int) (vx10 : Bool) (vx11 : Int) (vx12 : Int) (vy1 : Int) : St := Mem.st ⟨[], []⟩ (tl [(1, .v (.one (.d (.int .i64 vx6_1)))), (8, .v (.one (.d (.bool (decide (qx1 = 0)))))), (9, .v (.one (.d (.str qx)))), (10, .v (.one (.d (.int .u64 vx9_1)))), (11, .v (.one (.d (.int .u64 (IntKind.wrap .u64 ((ishl .u64 1 (IntKind.wrap .u64 (vx8_1))) - 1)))))), (12, .v (.one (.d (.bool vx10)))), (13, .v (.one (.d (.int .u64 vx11)))), (15, .v (.one (.d (.int .u8 vy1)))), (99, .v (.one (.d (.lst (List.map (encI .u8) (bytesD vx5_1)))))), (100, .v (.one (.d (.int .i64 ((bytesD vx5_1).length : Int))))), (101, .v (.one (.d (.int .i64 vx12))))]) 0

theorem strconv_ParseUint_x14_ok (qx : List UInt8) (qx1 : Int) (vx5_1 : List UInt8) (vx6_1 : Int) (vx8_1 : Int) (vx9_1 : Int) (vx10 : Bool) (vx11 : Int) (vx12 : Int) (vy1 : Int) {r} (hF : strconv_ParseUint_x14 vy1 = some r) : Awp prog 0 172 (cL (cR (cR (cR (cR (cL (cL (cR (cR (cL (cL (cR (cR (cL (cL (cR (cL (cR (cR (cR (cR (cR (cR (cR (cR (cR (cR (cR (cB f91))))))))))))))))))))))))))))) (Out 0 strconv_ParseUint_x14_k (strconv_ParseUint_x14_S qx qx1 vx5_1 vx6_1 vx8_1 vx9_1 vx10 vx11 vx12 vy1) r) (strconv_ParseUint_x14_I qx qx1 vx5_1 vx6_1 vx8_1 vx9_1 vx10 vx11 vx12 vy1) := by
  unfold strconv_ParseUint_x14 at hF
  refine bE hF fun _ h49 hF => ?_
  refine cE hF (fun h50 hF => ?_) fun h50 hF => ?_
  · refine awp_region ?_
    refine aR 1 ?_
    refine aC (strconv_lower_ok h49) [] [] [] ?_
    refine aB h50 ?_
    refine aR 2 ?_
    refine aC (strconv_lower_ok h49) [] [] [] ?_
    refine aR 3 ?_
    refine aE ?_
    exact oO hF [] [] rfl
  · refine awp_region ?_
    refine aR 1 ?_
    refine aC (strconv_lower_ok h49) [] [] [] ?_
    refine aB h50 ?_
    refine aR 6 ?_
    refine aE ?_
    exact oO hF [] [] rfl

def strconv_ParseUint_x11_k : Int ⊕ Unit → AEx
  | .inl _ => .normal
  | .inr _ => .exit 4

def strconv_ParseUint_x11_S (qx : List UInt8) (qx1 : Int) (vx5_1 : List UInt8) (vx6_1 : Int) (vx8_1 : Int) (vx9_1 : Int) (vx10 : Bool) (vx11 : Int) (vx12 : Int) (vy1 : Int) : Int ⊕ Unit → St
  | .inl vx23 => Mem.st ⟨[], []⟩ (tl [(1, .v (.one (.d (.int .i64 vx6_1)))), (8, .v (.one (.d (.bool (decide (qx1 = 0)))))), (9, .v (.one (.d (.str qx)))), (10, .v (.one (.d (.int .u64 vx9_1)))), (11, .v (.one (.d (.int .u64 (IntKind.wrap .u64 ((ishl .u64 1 (IntKind.wrap .u64 (vx8_1))) - 1)))))), (12, .v (.one (.d (.bool vx10)))), (13, .v (.one (.d (.int .u64 vx11)))), (16, .v (.one (.d (.int .u8 vx23)))), (99, .v (.one (.d (.lst (List.map (encI .u8) (bytesD vx5_1)))))), (100, .v (.one (.d (.int .i64 ((bytesD vx5_1).length : Int))))), (101, .v (.one (.d (.int .i64 vx12))))]) 0
  | .inr _ => Mem.st ⟨[], []⟩ (tl [(1, .v (.one (.d (.int .i64 vx6_1)))), (8, .v (.one (.d (.bool (decide (qx1 = 0)))))), (9, .v (.one (.d (.str qx)))), (10, .v (.one (.d (.int .u64 vx9_1)))), (11, .v (.one (.d (.int .u64 (IntKind.wrap .u64 ((ishl .u64 1 (IntKind.wrap .u64 (vx8_1))) - 1)))))), (12, .v (.one (.d (.bool true)))), (13, .v (.one (.d (.int .u64 vx11)))), (99, .v (.one (.d (.lst (List.map (encI .u8) (bytesD vx5_1)))))), (100, .v (.one (.d (.int .i64 ((bytesD vx5_1).length : Int))))), (101, .v (.one (.d (.int .i64 vx12))))]) 0

def strconv_ParseUint_x11_I (qx : List UInt8) (qx1 : Int) (vx5_1 : List UInt8) (vx6_1 : Int) (vx8_1 : Int) (vx9_1 : Int) (vx10 : Bool) (vx11 : Int) (vx12 : Int) (vy1 : Int) : St := Mem.st ⟨[], []⟩ (tl [(1, .v (.one (.d (.int .i64 vx6_1)))), (8, .v (.one (.d (.bool (decide (qx1 = 0)))))), (9, .v (.one (.d (.str qx)))), (10, .v (.one (.d (.int .u64 vx9_1)))), (11, .v (.one (.d (.int .u64 (IntKind.wrap .u64 ((ishl .u64 1 (IntKind.wrap .u64 (vx8_1))) - 1)))))), (12, .v (.one (.d (.bool vx10)))), (13, .v (.one (.d (.int .u64 vx11)))), (15, .v (.one (.d (.int .u8 vy1)))), (99, .v (.one (.d (.lst (List.map (encI .u8) (bytesD vx5_1)))))), (100, .v (.one (.d (.int .i64 ((bytesD vx5_1).length : Int))))), (101, .v (.one (.d (.int .i64 vx12))))]) 0

theorem strconv_ParseUint_x11_ok (qx : List UInt8) (qx1 : Int) (vx5_1 : List UInt8) (vx6_1 : Int) (vx8_1 : Int) (vx9_1 : Int) (vx10 : Bool) (vx11 : Int) (vx12 : Int) (vy1 : Int) {r} (hF : strconv_ParseUint_x11 qx1 vy1 = some r) : Awp prog 0 172 (cL (cR (cR (cL (cL (cR (cR (cL (cL (cR (cL (cR (cR (cR (cR (cR (cR (cR (cR (cR (cR (cR (cB f91))))))))))))))))))))))) (Out 0 strconv_ParseUint_x11_k (strconv_ParseUint_x11_S qx qx1 vx5_1 vx6_1 vx8_1 vx9_1 vx10 vx11 vx12 vy1) r) (strconv_ParseUint_x11_I qx qx1 vx5_1 vx6_1 vx8_1 vx9_1 vx10 vx11 vx12 vy1) := by
  unfold strconv_ParseUint_x11 at hF
  refine awp_block ?_
  refine awp_seq ?_
  refine awp_to (st' := strconv_ParseUint_x12_I qx qx1 vx5_1 vx6_1 vx8_1 vx9_1 vx10 vx11 vx12 vy1) (oT [] []) ?_
  refine bE hF fun vx20_1 h44 hF => ?_
  refine awp_sub (strconv_ParseUint_x12_ok qx qx1 vx5_1 vx6_1 vx8_1 vx9_1 vx10 vx11 vx12 vy1 h44) ?_
  refine cE hF (fun h45 hF => ?_) fun h45 hF => ?_
  · refine awp_true (by kernel_rfl) h45 ?_
    refine awp_seq ?_
    refine awp_region ?_
    refine aR 1 ?_
    refine aE ?_
    refine awp_exit ?_
    exact oO hF [] [] rfl
  · refine awp_false (by kernel_rfl) h45 ?_
    refine awp_seq ?_
    refine awp_to (st' := strconv_ParseUint_x13_I qx qx1 vx5_1 vx6_1 vx8_1 vx9_1 vx10 vx11 vx12 vy1) (oT [] []) ?_
    refine bE hF fun vx21_1 h47 hF => ?_
    refine awp_sub (strconv_ParseUint_x13_ok qx qx1 vx5_1 vx6_1 vx8_1 vx9_1 vx10 vx11 vx12 vy1 h47) ?_
    refine cE hF (fun h48 hF => ?_) fun h48 hF => ?_
    · refine awp_true (by kernel_rfl) h48 ?_
      refine awp_region ?_
      refine aR 3 ?_
      refine aE ?_
      exact oO hF [] [] rfl
    · refine awp_false (by kernel_rfl) h48 ?_
      refine awp_seq ?_
      refine awp_to (st' := strconv_ParseUint_x14_I qx qx1 vx5_1 vx6_1 vx8_1 vx9_1 vx10 vx11 vx12 vy1) (oT [] []) ?_
      refine bE hF fun vx22_1 h51 hF => ?_
      refine awp_sub (strconv_ParseUint_x14_ok qx qx1 vx5_1 vx6_1 vx8_1 vx9_1 vx10 vx11 vx12 vy1 h51) ?_
      refine cE hF (fun h52 hF => ?_) fun h52 hF => ?_
      · refine awp_true (by kernel_rfl) h52 ?_
        refine bE hF fun _ h53 hF => ?_
        refine awp_region ?_
        refine aR 1 ?_
        refine aC (strconv_lower_ok h53) [] [] [] ?_
        refine aR 3 ?_
        refine aE ?_
        exact oO hF [] [] rfl
      · refine awp_false (by kernel_rfl) h52 ?_
        refine awp_seq ?_
        exact nE hF

def strconv_ParseUint_x15_k : Bool → AEx
  | _ => .normal

def strconv_ParseUint_x15_S (qx : List UInt8) (qx1 : Int) (vx5_1 : List UInt8) (vx6_1 : Int) (vx8_1 : Int) (vx9_1 : Int) (vx10 : Bool) (vx11 : Int) (vx12 : Int) (vx23_1 : Int) : Bool → St
  | vx24 => Mem.st ⟨[], []⟩ (tl [(1, .v (.one (.d (.int .i64 vx6_1)))), (8, .v (.one (.d (.bool (decide (qx1 = 0)))))), (9, .v (.one (.d (.str qx)))), (10, .v (.one (.d (.int .u64 vx9_1)))), (11, .v (.one (.d (.int .u64 (IntKind.wrap .u64 ((ishl .u64 1 (IntKind.wrap .u64 (vx8_1))) - 1)))))), (12, .v (.one (.d (.bool vx10)))), (17, .v (.one (.d (.int .u64 (IntKind.wrap .u64 ((IntKind.wrap .u64 (vx11 * (IntKind.wrap .u64 (vx6_1)))) + (IntKind.wrap .u64 (vx23_1)))))))), (99, .v (.one (.d (.lst (List.map (encI .u8) (bytesD vx5_1)))))), (100, .v (.one (.d (.int .i64 ((bytesD vx5_1).length : Int))))), (101, .v (.one (.d (.int .i64 vx12)))), (159, .v (.one (.d (.bool vx24))))]) 0

def strconv_ParseUint_x15_I (qx : List UInt8) (qx1 : Int) (vx5_1 : List UInt8) (vx6_1 : Int) (vx8_1 : Int) (vx9_1 : Int) (vx10 : Bool) (vx11 : Int) (vx12 : Int) (vx23_1 : Int) : St := Mem.st ⟨[], []⟩ (tl [(1, .v (.one (.d (.int .i64 vx6_1)))), (8, .v (.one (.d (.bool (decide (qx1 = 0)))))), (9, .v (.one (.d (.str qx)))), (10, .v (.one (.d (.int .u64 vx9_1)))), (11, .v (.one (.d (.int .u64 (IntKind.wrap .u64 ((ishl .u64 1 (IntKind.wrap .u64 (vx8_1))) - 1)))))), (12, .v (.one (.d (.bool vx10)))), (13, .v (.one (.d (.int .u64 (IntKind.wrap .u64 (vx11 * (IntKind.wrap .u64 (vx6_1)))))))), (17, .v (.one (.d (.int .u64 (IntKind.wrap .u64 ((IntKind.wrap .u64 (vx11 * (IntKind.wrap .u64 (vx6_1)))) + (IntKind.wrap .u64 (vx23_1)))))))), (99, .v (.one (.d (.lst (List.map (encI .u8) (bytesD vx5_1)))))), (100, .v (.one (.d (.int .i64 ((bytesD vx5_1).length : Int))))), (101, .v (.one (.d (.int .i64 vx12))))]) 0

theorem strconv_ParseUint_x15_ok (qx : List UInt8) (qx1 : Int) (vx5_1 : List UInt8) (vx6_1 : Int) (vx8_1 : Int) (vx9_1 : Int) (vx10 : Bool) (vx11 : Int) (vx12 : Int) (vx23_1 : Int) {r} (hF : strconv_ParseUint_x15 vx6_1 vx8_1 vx11 vx23_1 = some r) : Awp prog 0 172 (cL (cL (cR (cR (cR (cR (cR (cR (cR (cL (cL (cR (cR (cL (cL (cR (cL (cR (cR (cR (cR (cR (cR (cR (cR (cR (cR (cR (cB f91))))))))))))))))))))))))))))) (Out 0 strconv_ParseUint_x15_k (strconv_ParseUint_x15_S qx qx1 vx5_1 vx6_1 vx8_1 vx9_1 vx10 vx11 vx12 vx23_1) r) (strconv_ParseUint_x15_I qx qx1 vx5_1 vx6_1 vx8_1 vx9_1 vx10 vx11 vx12 vx23_1) := by
  unfold strconv_ParseUint_x15 at hF
  refine cE hF (fun h60 hF => ?_) fun h60 hF => ?_
  · refine awp_region ?_
    refine aR 2 ?_
    refine aB h60 ?_
    refine aR 5 ?_
    refine aE ?_
    exact oO hF [] [] rfl
  · refine awp_region ?_
    refine aR 2 ?_
    refine aB h60 ?_
    refine aR 5 ?_
    refine aE ?_
    exact oO hF [] [] rfl

def strconv_ParseUint_x10_k : (Bool × Int) → AEx
  | _ => .normal

def strconv_ParseUint_x10_S (qx : List UInt8) (qx1 : Int) (vx5_1 : List UInt8) (vx6_1 : Int) (vx8_1 : Int) (vx9_1 : Int) (vx10 : Bool) (vx11 : Int) (vx12 : Int) : (Bool × Int) → St
  | (vx25, vx26) => Mem.st ⟨[], []⟩ (tl [(1, .v (.one (.d (.int .i64 vx6_1)))), (8, .v (.one (.d (.bool (decide (qx1 = 0)))))), (9, .v (.one (.d (.str qx)))), (10, .v (.one (.d (.int .u64 vx9_1)))), (11, .v (.one (.d (.int .u64 (IntKind.wrap .u64 ((ishl .u64 1 (IntKind.wrap .u64 (vx8_1))) - 1)))))), (12, .v (.one (.d (.bool vx25)))), (13, .v (.one (.d (.int .u64 vx26)))), (99, .v (.one (.d (.lst (List.map (encI .u8) (bytesD vx5_1)))))), (100, .v (.one (.d (.int .i64 ((bytesD vx5_1).length : Int))))), (101, .v (.one (.d (.int .i64 vx12))))]) 0

def strconv_ParseUint_x10_I (qx : List UInt8) (qx1 : Int) (vx5_1 : List UInt8) (vx6_1 : Int) (vx8_1 : Int) (vx9_1 : Int) (vx10 : Bool) (vx11 : Int) (vx12 : Int) : St := Mem.st ⟨[], []⟩ (tl [(1, .v (.one (.d (.int .i64 vx6_1)))), (8, .v (.one (.d (.bool (decide (qx1 = 0)))))), (9, .v (.one (.d (.str qx)))), (10, .v (.one (.d (.int .u64 vx9_1)))), (11, .v (.one (.d (.int .u64 (IntKind.wrap .u64 ((ishl .u64 1 (IntKind.wrap .u64 (vx8_1))) - 1)))))), (12, .v (.one (.d (.bool vx10)))), (13, .v (.one (.d (.int .u64 vx11)))), (99, .v (.one (.d (.lst (List.map (encI .u8) (bytesD vx5_1)))))), (100, .v (.one (.d (.int .i64 ((bytesD vx5_1).length : Int))))), (101, .v (.one (.d (.int .i64 vx12))))]) 0

theorem strconv_ParseUint_x10_ok (qx : List UInt8) (qx1 : Int) (vx5_1 : List UInt8) (vx6_1 : Int) (vx8_1 : Int) (vx9_1 : Int) (vx10 : Bool) (vx11 : Int) (vx12 : Int) {r} (hF : strconv_ParseUint_x10 qx1 vx5_1 vx6_1 vx8_1 vx9_1 vx10 vx11 vx12 = some r) : Awp prog 0 172 (cL (cR (cR (cL (cL (cR (cL (cR (cR (cR (cR (cR (cR (cR (cR (cR (cR (cR (cB f91))))))))))))))))))) (Out 0 strconv_ParseUint_x10_k (strconv_ParseUint_x10_S qx qx1 vx5_1 vx6_1 vx8_1 vx9_1 vx10 vx11 vx12) r) (strconv_ParseUint_x10_I qx qx1 vx5_1 vx6_1 vx8_1 vx9_1 vx10 vx11 vx12) := by
  unfold strconv_ParseUint_x10 at hF
  refine awp_block ?_
  refine awp_seq ?_
  refine bE hF fun vy1 h42 hF => ?_
  refine awp_region ?_
  refine aX (x_idx (encI .u8) h42) ?_
  refine aR 2 ?_
  refine aE ?_
  refine awp_seq ?_
  refine awp_region ?_
  refine aR 1 ?_
  refine aE ?_
  refine awp_seq ?_
  refine awp_to (st' := strconv_ParseUint_x11_I qx qx1 vx5_1 vx6_1 vx8_1 vx9_1 vx10 vx11 vx12 vy1) (oT [] []) ?_
  refine bE hF fun x h55 hF => ?_
  rcases x with vx23_1 | _
  · refine awp_sub (strconv_ParseUint_x11_ok qx qx1 vx5_1 vx6_1 vx8_1 vx9_1 vx10 vx11 vx12 vy1 h55) ?_
    refine awp_seq ?_
    refine awp_seq ?_
    refine awp_region ?_
    refine aR 4 ?_
    refine aE ?_
    refine cE hF (fun h56 hF => ?_) fun h56 hF => ?_
    · refine awp_true (by kernel_rfl) h56 ?_
      refine awp_seq ?_
      exact nE hF
    · refine awp_false (by kernel_rfl) h56 ?_
      refine awp_skip ?_
      refine awp_seq ?_
      refine awp_seq ?_
      refine awp_region ?_
      refine aR 3 ?_
      refine aE ?_
      refine cE hF (fun h58 hF => ?_) fun h58 hF => ?_
      · refine awp_true (by kernel_rfl) h58 ?_
        refine awp_seq ?_
        exact nE hF
      · refine awp_false (by kernel_rfl) h58 ?_
        refine awp_skip ?_
        refine awp_seq ?_
        refine awp_region ?_
        refine aR 5 ?_
        refine aE ?_
        refine awp_seq ?_
        refine awp_region ?_
        refine aR 5 ?_
        refine aE ?_
        refine awp_seq ?_
        refine awp_seq ?_
        refine awp_to (st' := strconv_ParseUint_x15_I qx qx1 vx5_1 vx6_1 vx8_1 vx9_1 vx10 vx11 vx12 vx23_1) (oT [] []) ?_
        refine bE hF fun vx24_1 h61 hF => ?_
        refine awp_sub (strconv_ParseUint_x15_ok qx qx1 vx5_1 vx6_1 vx8_1 vx9_1 vx10 vx11 vx12 vx23_1 h61) ?_
        refine cE hF (fun h62 hF => ?_) fun h62 hF => ?_
        · refine awp_true (by kernel_rfl) h62 ?_
          refine awp_seq ?_
          exact nE hF
        · refine awp_false (by kernel_rfl) h62 ?_
          refine awp_skip ?_
          refine awp_region ?_
          refine aR 2 ?_
          refine aE ?_
          exact oO hF [] [] rfl
  · refine awp_sub (strconv_ParseUint_x11_ok qx qx1 vx5_1 vx6_1 vx8_1 vx9_1 vx10 vx11 vx12 vy1 h55) ?_
    exact oO hF [] [] rfl

def strconv_ParseUint_x9_k : (Bool × Int) → AEx
  | _ => .exit 3

def strconv_ParseUint_x9_S (qx : List UInt8) (qx1 : Int) (vx5_1 : List UInt8) (vx6_1 : Int) (vx8_1 : Int) (vx9_1 : Int) : (Bool × Int) → St
  | (vx27, vx28) => Mem.st ⟨[], []⟩ (tl [(9, .v (.one (.d (.str qx)))), (12, .v (.one (.d (.bool vx27)))), (13, .v (.one (.d (.int .u64 vx28))))]) 0

def strconv_ParseUint_x9_H (qx : List UInt8) (qx1 : Int) (vx5_1 : List UInt8) (vx6_1 : Int) (vx8_1 : Int) (vx9_1 : Int) : Bool × Int × Int → St
  | (vx10, vx11, vx12) => Mem.st ⟨[], []⟩ (tl [(1, .v (.one (.d (.int .i64 vx6_1)))), (8, .v (.one (.d (.bool (decide (qx1 = 0)))))), (9, .v (.one (.d (.str qx)))), (10, .v (.one (.d (.int .u64 vx9_1)))), (11, .v (.one (.d (.int .u64 (IntKind.wrap .u64 ((ishl .u64 1 (IntKind.wrap .u64 (vx8_1))) - 1)))))), (12, .v (.one (.d (.bool vx10)))), (13, .v (.one (.d (.int .u64 vx11)))), (99, .v (.one (.d (.lst (List.map (encI .u8) (bytesD vx5_1)))))), (100, .v (.one (.d (.int .i64 ((bytesD vx5_1).length : Int))))), (101, .v (.one (.d (.int .i64 vx12))))]) 0

theorem strconv_ParseUint_x9_ok (qx : List UInt8) (qx1 : Int) (vx5_1 : List UInt8) (vx6_1 : Int) (vx8_1 : Int) (vx9_1 : Int) (s : Bool × Int × Int) (r : (Bool × Int × Int) ⊕ ((Bool × Int))) (hF : strconv_ParseUint_x9 qx1 vx5_1 vx6_1 vx8_1 vx9_1 s = some r) : Awp prog 0 172 (cL (cL (cR (cL (cR (cR (cR (cR (cR (cR (cR (cR (cR (cR (cR (cB f91)))))))))))))))) (Out 0 (kk strconv_ParseUint_x9_k) (SS (strconv_ParseUint_x9_H qx qx1 vx5_1 vx6_1 vx8_1 vx9_1) (strconv_ParseUint_x9_S qx qx1 vx5_1 vx6_1 vx8_1 vx9_1)) r) (strconv_ParseUint_x9_H qx qx1 vx5_1 vx6_1 vx8_1 vx9_1 s) := by
  obtain ⟨vx10, vx11, vx12⟩ := s
  unfold strconv_ParseUint_x9 at hF
  refine awp_seq ?_
  refine awp_region ?_
  refine aR 1 ?_
  refine aE ?_
  refine awp_seq ?_
  refine cE hF (fun h41 hF => ?_) fun h41 hF => ?_
  · refine awp_true (by kernel_rfl) h41 ?_
    refine awp_skip ?_
    refine awp_seq ?_
    refine awp_to (st' := strconv_ParseUint_x10_I qx qx1 vx5_1 vx6_1 vx8_1 vx9_1 vx10 vx11 vx12) (oT [] []) ?_
    refine bE hF fun x h64 hF => ?_
    obtain ⟨vx25_1, vx26_1⟩ := x
    refine awp_sub (strconv_ParseUint_x10_ok qx qx1 vx5_1 vx6_1 vx8_1 vx9_1 vx10 vx11 vx12 h64) ?_
    refine awp_region ?_
    refine aR 2 ?_
    refine aE ?_
    exact oO hF [] [] rfl
  · refine awp_false (by kernel_rfl) h41 ?_
    refine awp_exit ?_
    exact oO hF [] [] rfl

def strconv_ParseUint_x16_k : Bool → AEx
  | _ => .normal

def strconv_ParseUint_x16_S (qx : List UInt8) (vx27_1 : Bool) (vx28_1 : Int) : Bool → St
  | vx29 => Mem.st ⟨[], []⟩ (tl [(13, .v (.one (.d (.int .u64 vx28_1)))), (169, .v (.one (.d (.bool vx29))))]) 0

def strconv_ParseUint_x16_I (qx : List UInt8) (vx27_1 : Bool) (vx28_1 : Int) : St := Mem.st ⟨[], []⟩ (tl [(9, .v (.one (.d (.str qx)))), (12, .v (.one (.d (.bool vx27_1)))), (13, .v (.one (.d (.int .u64 vx28_1))))]) 0

theorem strconv_ParseUint_x16_ok (qx : List UInt8) (vx27_1 : Bool) (vx28_1 : Int) {r} (hF : strconv_ParseUint_x16 qx vx27_1 = some r) : Awp prog 0 172 (cL (cL (cR (cR (cR (cR (cR (cR (cR (cR (cR (cR (cR (cR (cB f91))))))))))))))) (Out 0 strconv_ParseUint_x16_k (strconv_ParseUint_x16_S qx vx27_1 vx28_1) r) (strconv_ParseUint_x16_I qx vx27_1 vx28_1) := by
  unfold strconv_ParseUint_x16 at hF
  refine cE hF (fun h66 hF => ?_) fun h66 hF => ?_
  · refine bE hF fun vr h67 hF => ?_
    refine awp_region ?_
    refine aB h66 ?_
    refine aR 2 ?_
    refine aC (strconv_underscoreOK_ok h67) [] [] [] ?_
    refine aR 2 ?_
    refine aE ?_
    exact oO hF [] [] rfl
  · refine awp_region ?_
    refine aB h66 ?_
    refine aR 5 ?_
    refine aE ?_
    exact oO hF [] [] rfl

def strconv_ParseUint_R (qx : List UInt8) (qx1 : Int) (qx2 : Int) (r : Int) : TV × Mem := (.tup [.one (.d (.int .u64 r)), .one (.nili)], ⟨[], []⟩)

theorem strconv_ParseUint_ok {qx : List UInt8} {qx1 : Int} {qx2 : Int} {r} (hF : strconv_ParseUint qx qx1 qx2 = some r) : Holds prog 91 [.v (.one (.d (.str qx))), .v (.one (.d (.int .i64 qx1))), .v (.one (.d (.int .i64 qx2)))] ⟨[], []⟩ (Is (strconv_ParseUint_R qx qx1 qx2 r)) := by
  unfold strconv_ParseUint at hF
  refine holds_of_awp hΓ (fn := f91) (c := cB f91) (A := 0) (nx := 0) (by kernel_rfl) (by kernel_rfl) (by kernel_rfl) (by kernel_rfl) (by kernel_rfl) (by kernel_rfl) (lowc_of (by kernel_rfl)) ?_
  show Awp prog 0 172 (cB f91) _ _
  refine awp_seq ?_
  refine awp_region ?_
  refine aR 2 ?_
  refine aE ?_
  refine awp_seq ?_
  refine awp_seq ?_
  refine awp_region ?_
  refine aR 2 ?_
  refine aE ?_
  refine cE hF (fun h1 hF => ?_) fun h1 hF => ?_
  · refine awp_true (by kernel_rfl) h1 ?_
    refine awp_seq ?_
    exact nE hF
  · refine awp_false (by kernel_rfl) h1 ?_
    refine awp_skip ?_
    refine awp_seq ?_
    refine awp_region ?_
    refine aR 3 ?_
    refine aE ?_
    refine awp_seq ?_
    refine awp_region ?_
    refine aR 2 ?_
    refine aE ?_
    refine awp_seq ?_
    refine awp_to (st' := strconv_ParseUint_x1_I qx qx1 qx2) (oT [] []) ?_
    refine bE hF fun x h29 hF => ?_
    obtain ⟨vx5_1, vx6_1⟩ := x
    refine awp_sub (strconv_ParseUint_x1_ok qx qx1 qx2 h29) ?_
    refine awp_seq ?_
    refine awp_to (st' := strconv_ParseUint_x6_I qx qx1 qx2 vx5_1 vx6_1) (oT [] []) ?_
    refine bE hF fun vx8_1 h35 hF => ?_
    refine awp_sub (strconv_ParseUint_x6_ok qx qx1 qx2 vx5_1 vx6_1 h35) ?_
    refine awp_seq ?_
    refine awp_region ?_
    refine aR 1 ?_
    refine aE ?_
    refine awp_seq ?_
    refine awp_to (st' := strconv_ParseUint_x8_I qx qx1 vx5_1 vx6_1 vx8_1) (oT [] []) ?_
    refine bE hF fun vx9_1 h39 hF => ?_
    refine awp_sub (strconv_ParseUint_x8_ok qx qx1 vx5_1 vx6_1 vx8_1 h39) ?_
    refine awp_seq ?_
    refine gE hF fun h40 hF => ?_
    refine awp_region ?_
    refine aR 2 ?_
    refine aX (x_shl h40) ?_
    refine aR 2 ?_
    refine aE ?_
    refine awp_seq ?_
    refine awp_region ?_
    refine aR 1 ?_
    refine aE ?_
    refine awp_seq ?_
    refine awp_region ?_
    refine aR 1 ?_
    refine aE ?_
    refine awp_seq ?_
    refine awp_seq ?_
    refine awp_region ?_
    refine aR 1 ?_
    refine aBs (s := vx5_1) rfl ?_
    refine aL (encI .u8) (bytesD vx5_1) ?_
    refine aR 1 ?_
    refine aE ?_
    refine awp_block ?_
    refine awp_to (st' := strconv_ParseUint_x9_H qx qx1 vx5_1 vx6_1 vx8_1 vx9_1 (false, 0, 0)) (oT [] []) ?_
    refine bE hF fun x h65 hF => ?_
    obtain ⟨vx27_1, vx28_1⟩ := x
    refine awp_sub (awp_loop' (strconv_ParseUint_x9_H qx qx1 vx5_1 vx6_1 vx8_1 vx9_1) strconv_ParseUint_x9_k (strconv_ParseUint_x9_S qx qx1 vx5_1 vx6_1 vx8_1 vx9_1) (by intro x; exact fun h => nomatch h) h65 (strconv_ParseUint_x9_ok qx qx1 vx5_1 vx6_1 vx8_1 vx9_1)) ?_
    refine awp_seq ?_
    refine awp_seq ?_
    refine awp_to (st' := strconv_ParseUint_x16_I qx vx27_1 vx28_1) (oT [] []) ?_
    refine bE hF fun vx29_1 h68 hF => ?_
    refine awp_sub (strconv_ParseUint_x16_ok qx vx27_1 vx28_1 h68) ?_
    refine cE hF (fun h69 hF => ?_) fun h69 hF => ?_
    · refine awp_true (by kernel_rfl) h69 ?_
      refine awp_seq ?_
      exact nE hF
    · refine awp_false (by kernel_rfl) h69 ?_
      refine awp_skip ?_
      refine awp_seq ?_
      refine awp_region ?_
      refine aR 3 ?_
      refine aE ?_
      refine awp_ret ?_
      exact oF hF [] []

/-! ### internal/strconv.ParseInt -/
def strconv_ParseInt_x1_k : ((List UInt8) × Bool) → AEx
  | _ => .normal

def strconv_ParseInt_x1_S (qx : List UInt8) (qx1 : Int) (qx2 : Int) : ((List UInt8) × Bool) → St
  | (vx, vx1) => Mem.st ⟨[], []⟩ (tl [(0, .v (.one (.d (.str vx)))), (1, .v (.one (.d (.int .i64 qx1)))), (2, .v (.one (.d (.int .i64 qx2)))), (8, .v (.one (.d (.bool vx1))))]) 0

def strconv_ParseInt_x1_I (qx : List UInt8) (qx1 : Int) (qx2 : Int) : St := Mem.st ⟨[], []⟩ (tl [(0, .v (.one (.d (.str qx)))), (1, .v (.one (.d (.int .i64 qx1)))), (2, .v (.one (.d (.int .i64 qx2)))), (8, .v (.one (.d (.bool false))))]) 0

theorem strconv_ParseInt_x1_ok (qx : List UInt8) (qx1 : Int) (qx2 : Int) {r} (hF : strconv_ParseInt_x1 qx = some r) : Awp prog 0 73 (cL (cR (cR (cR (cB f75))))) (Out 0 strconv_ParseInt_x1_k (strconv_ParseInt_x1_S qx qx1 qx2) r) (strconv_ParseInt_x1_I qx qx1 qx2) := by
  unfold strconv_ParseInt_x1 at hF
  refine awp_seq ?_
  refine bE hF fun vc h3 hF => ?_
  refine awp_region ?_
  refine aR 1 ?_
  refine aX (x_idxS h3) ?_
  refine aE ?_
  refine awp_block ?_
  refine awp_seq ?_
  refine awp_region ?_
  refine aR 2 ?_
  refine aE ?_
  refine cE hF (fun h4 hF => ?_) fun h4 hF => ?_
  · refine awp_true (by kernel_rfl) h4 ?_
    refine bE hF fun vs h5 hF => ?_
    refine awp_region ?_
    refine aR 1 ?_
    refine aX (x_sliceS h5) ?_
    refine aR 1 ?_
    refine aE ?_
    exact oO hF [] [] rfl
  · refine awp_false (by kernel_rfl) h4 ?_
    refine awp_seq ?_
    refine awp_region ?_
    refine aR 2 ?_
    refine aE ?_
    refine cE hF (fun h6 hF => ?_) fun h6 hF => ?_
    · refine awp_true (by kernel_rfl) h6 ?_
      refine awp_seq ?_
      refine bE hF fun vs1 h7 hF => ?_
      refine awp_region ?_
      refine aR 1 ?_
      refine aX (x_sliceS h7) ?_
      refine aR 1 ?_
      refine aE ?_
      refine awp_region ?_
      refine aR 1 ?_
      refine aE ?_
      exact oO hF [] [] rfl
    · refine awp_false (by kernel_rfl) h6 ?_
      refine awp_skip ?_
      exact oO hF [] [] rfl

def strconv_ParseInt_x2_k : Int → AEx
  | _ => .normal

def strconv_ParseInt_x2_S (qx2 : Int) (vx1_1 : Bool) (vr1 : Int) : Int → St
  | vx3 => Mem.st ⟨[], []⟩ (tl [(2, .v (.one (.d (.int .i64 vx3)))), (8, .v (.one (.d (.bool vx1_1)))), (9, .v (.one (.d (.int .u64 vr1))))]) 0

def strconv_ParseInt_x2_I (qx2 : Int) (vx1_1 : Bool) (vr1 : Int) : St := Mem.st ⟨[], []⟩ (tl [(2, .v (.one (.d (.int .i64 qx2)))), (8, .v (.one (.d (.bool vx1_1)))), (9, .v (.one (.d (.int .u64 vr1))))]) 0

theorem strconv_ParseInt_x2_ok (qx2 : Int) (vx1_1 : Bool) (vr1 : Int) {r} (hF : strconv_ParseInt_x2 qx2 = some r) : Awp prog 0 73 (cL (cR (cR (cR (cR (cR (cR (cR (cB f75))))))))) (Out 0 strconv_ParseInt_x2_k (strconv_ParseInt_x2_S qx2 vx1_1 vr1) r) (strconv_ParseInt_x2_I qx2 vx1_1 vr1) := by
  unfold strconv_ParseInt_x2 at hF
  refine awp_seq ?_
  refine awp_region ?_
  refine aR 2 ?_
  refine aE ?_
  refine cE hF (fun h10 hF => ?_) fun h10 hF => ?_
  · refine awp_true (by kernel_rfl) h10 ?_
    refine awp_region ?_
    refine aR 1 ?_
    refine aE ?_
    exact oO hF [] [] rfl
  · refine awp_false (by kernel_rfl) h10 ?_
    refine awp_skip ?_
    exact oO hF [] [] rfl

def strconv_ParseInt_x3_k : Bool → AEx
  | _ => .normal

def strconv_ParseInt_x3_S (vx1_1 : Bool) (vr1 : Int) (vx3_1 : Int) : Bool → St
  | vx4 => Mem.st ⟨[], []⟩ (tl [(8, .v (.one (.d (.bool vx1_1)))), (9, .v (.one (.d (.int .u64 vr1)))), (10, .v (.one (.d (.int .u64 (ishl .u64 1 (IntKind.wrap .u64 (IntKind.wrap .i64 (vx3_1 - 1)))))))), (52, .v (.one (.d (.bool vx4))))]) 0

def strconv_ParseInt_x3_I (vx1_1 : Bool) (vr1 : Int) (vx3_1 : Int) : St := Mem.st ⟨[], []⟩ (tl [(8, .v (.one (.d (.bool vx1_1)))), (9, .v (.one (.d (.int .u64 vr1)))), (10, .v (.one (.d (.int .u64 (ishl .u64 1 (IntKind.wrap .u64 (IntKind.wrap .i64 (vx3_1 - 1))))))))]) 0

theorem strconv_ParseInt_x3_ok (vx1_1 : Bool) (vr1 : Int) (vx3_1 : Int) {r} (hF : strconv_ParseInt_x3 vx1_1 vr1 vx3_1 = some r) : Awp prog 0 73 (cL (cL (cR (cR (cR (cR (cR (cR (cR (cR (cR (cB f75)))))))))))) (Out 0 strconv_ParseInt_x3_k (strconv_ParseInt_x3_S vx1_1 vr1 vx3_1) r) (strconv_ParseInt_x3_I vx1_1 vr1 vx3_1) := by
  unfold strconv_ParseInt_x3 at hF
  refine cE hF (fun h13 hF => ?_) fun h13 hF => ?_
  · refine awp_region ?_
    refine aR 1 ?_
    refine aB h13 ?_
    refine aR 5 ?_
    refine aE ?_
    exact oO hF [] [] rfl
  · refine awp_region ?_
    refine aR 1 ?_
    refine aB h13 ?_
    refine aR 5 ?_
    refine aE ?_
    exact oO hF [] [] rfl

def strconv_ParseInt_x4_k : Bool → AEx
  | _ => .normal

def strconv_ParseInt_x4_S (vx1_1 : Bool) (vr1 : Int) (vx3_1 : Int) : Bool → St
  | vx5 => Mem.st ⟨[], []⟩ (tl [(8, .v (.one (.d (.bool vx1_1)))), (9, .v (.one (.d (.int .u64 vr1)))), (10, .v (.one (.d (.int .u64 (ishl .u64 1 (IntKind.wrap .u64 (IntKind.wrap .i64 (vx3_1 - 1)))))))), (62, .v (.one (.d (.bool vx5))))]) 0

def strconv_ParseInt_x4_I (vx1_1 : Bool) (vr1 : Int) (vx3_1 : Int) : St := Mem.st ⟨[], []⟩ (tl [(8, .v (.one (.d (.bool vx1_1)))), (9, .v (.one (.d (.int .u64 vr1)))), (10, .v (.one (.d (.int .u64 (ishl .u64 1 (IntKind.wrap .u64 (IntKind.wrap .i64 (vx3_1 - 1))))))))]) 0

theorem strconv_ParseInt_x4_ok (vx1_1 : Bool) (vr1 : Int) (vx3_1 : Int) {r} (hF : strconv_ParseInt_x4 vx1_1 vr1 vx3_1 = some r) : Awp prog 0 73 (cL (cL (cR (cR (cR (cR (cR (cR (cR (cR (cR (cR (cB f75))))))))))))) (Out 0 strconv_ParseInt_x4_k (strconv_ParseInt_x4_S vx1_1 vr1 vx3_1) r) (strconv_ParseInt_x4_I vx1_1 vr1 vx3_1) := by
  unfold strconv_ParseInt_x4 at hF
  refine cE hF (fun h17 hF => ?_) fun h17 hF => ?_
  · refine awp_region ?_
    refine aB h17 ?_
    refine aR 5 ?_
    refine aE ?_
    exact oO hF [] [] rfl
  · refine awp_region ?_
    refine aB h17 ?_
    refine aR 5 ?_
    refine aE ?_
    exact oO hF [] [] rfl

def strconv_ParseInt_x5_k : Int → AEx
  | _ => .normal

def strconv_ParseInt_x5_S (vx1_1 : Bool) (vr1 : Int) : Int → St
  | vx6 => Mem.st ⟨[], []⟩ (tl [(11, .v (.one (.d (.int .i64 vx6))))]) 0

def strconv_ParseInt_x5_I (vx1_1 : Bool) (vr1 : Int) : St := Mem.st ⟨[], []⟩ (tl [(8, .v (.one (.d (.bool vx1_1)))), (11, .v (.one (.d (.int .i64 (IntKind.wrap .i64 (vr1))))))]) 0

theorem strconv_ParseInt_x5_ok (vx1_1 : Bool) (vr1 : Int) {r} (hF : strconv_ParseInt_x5 vx1_1 vr1 = some r) : Awp prog 0 73 (cL (cR (cR (cR (cR (cR (cR (cR (cR (cR (cR (cR (cR (cB f75)))))))))))))) (Out 0 strconv_ParseInt_x5_k (strconv_ParseInt_x5_S vx1_1 vr1) r) (strconv_ParseInt_x5_I vx1_1 vr1) := by
  unfold strconv_ParseInt_x5 at hF
  refine awp_seq ?_
  refine awp_region ?_
  refine aR 1 ?_
  refine aE ?_
  refine cE hF (fun h21 hF => ?_) fun h21 hF => ?_
  · refine awp_true (by kernel_rfl) h21 ?_
    refine awp_region ?_
    refine aR 3 ?_
    refine aE ?_
    exact oO hF [] [] rfl
  · refine awp_false (by kernel_rfl) h21 ?_
    refine awp_skip ?_
    exact oO hF [] [] rfl

def strconv_ParseInt_R (qx : List UInt8) (qx1 : Int) (qx2 : Int) (r : Int) : TV × Mem := (.tup [.one (.d (.int .i64 r)), .one (.nili)], ⟨[], []⟩)

theorem strconv_ParseInt_ok {qx : List UInt8} {qx1 : Int} {qx2 : Int} {r} (hF : strconv_ParseInt qx qx1 qx2 = some r) : Holds prog 75 [.v (.one (.d (.str qx))), .v (.one (.d (.int .i64 qx1))), .v (.one (.d (.int .i64 qx2)))] ⟨[], []⟩ (Is (strconv_ParseInt_R qx qx1 qx2 r)) := by
  unfold strconv_ParseInt at hF
  refine holds_of_awp hΓ (fn := f75) (c := cB f75) (A := 0) (nx := 0) (by kernel_rfl) (by kernel_rfl) (by kernel_rfl) (by kernel_rfl) (by kernel_rfl) (by kernel_rfl) (lowc_of (by kernel_rfl)) ?_
  show Awp prog 0 73 (cB f75) _ _
  refine awp_seq ?_
  refine awp_region ?_
  refine aR 2 ?_
  refine aE ?_
  refine awp_seq ?_
  refine awp_seq ?_
  refine awp_region ?_
  refine aR 2 ?_
  refine aE ?_
  refine cE hF (fun h1 hF => ?_) fun h1 hF => ?_
  · refine awp_true (by kernel_rfl) h1 ?_
    refine awp_seq ?_
    exact nE hF
  · refine awp_false (by kernel_rfl) h1 ?_
    refine awp_skip ?_
    refine awp_seq ?_
    refine awp_region ?_
    refine aR 1 ?_
    refine aE ?_
    refine awp_seq ?_
    refine awp_to (st' := strconv_ParseInt_x1_I qx qx1 qx2) (oT [] []) ?_
    refine bE hF fun x h8 hF => ?_
    obtain ⟨vx2, vx1_1⟩ := x
    refine awp_sub (strconv_ParseInt_x1_ok qx qx1 qx2 h8) ?_
    refine awp_seq ?_
    refine awp_region ?_
    refine aR 1 ?_
    refine aE ?_
    refine awp_seq ?_
    refine bE hF fun vr1 h9 hF => ?_
    refine awp_region ?_
    refine aR 3 ?_
    refine aC (strconv_ParseUint_ok h9) [] [] [] ?_
    refine aR 5 ?_
    refine aE ?_
    refine awp_seq ?_
    refine awp_seq ?_
    refine awp_region ?_
    refine aR 1 ?_
    refine aS (does_nilI (op := .neq) (c := false) rfl (.inr ⟨rfl, rfl⟩) (by kernel_rfl) (by kernel_rfl)) ?_
    refine aR 5 ?_
    refine aE ?_
    refine awp_false (by kernel_rfl) rfl ?_
    refine awp_skip ?_
    refine awp_seq ?_
    refine awp_to (st' := strconv_ParseInt_x2_I qx2 vx1_1 vr1) (oT [] []) ?_
    refine bE hF fun vx3_1 h11 hF => ?_
    refine awp_sub (strconv_ParseInt_x2_ok qx2 vx1_1 vr1 h11) ?_
    refine awp_seq ?_
    refine gE hF fun h12 hF => ?_
    refine awp_region ?_
    refine aR 3 ?_
    refine aX (x_shl h12) ?_
    refine aR 1 ?_
    refine aE ?_
    refine awp_seq ?_
    refine awp_seq ?_
    refine awp_to (st' := strconv_ParseInt_x3_I vx1_1 vr1 vx3_1) (oT [] []) ?_
    refine bE hF fun vx4_1 h14 hF => ?_
    refine awp_sub (strconv_ParseInt_x3_ok vx1_1 vr1 vx3_1 h14) ?_
    refine cE hF (fun h15 hF => ?_) fun h15 hF => ?_
    · refine awp_true (by kernel_rfl) h15 ?_
      refine awp_seq ?_
      exact nE hF
    · refine awp_false (by kernel_rfl) h15 ?_
      refine awp_skip ?_
      refine awp_seq ?_
      refine awp_seq ?_
      refine awp_to (st' := strconv_ParseInt_x4_I vx1_1 vr1 vx3_1) (oT [] []) ?_
      refine bE hF fun vx5_1 h18 hF => ?_
      refine awp_sub (strconv_ParseInt_x4_ok vx1_1 vr1 vx3_1 h18) ?_
      refine cE hF (fun h19 hF => ?_) fun h19 hF => ?_
      · refine awp_true (by kernel_rfl) h19 ?_
        refine awp_seq ?_
        exact nE hF
      · refine awp_false (by kernel_rfl) h19 ?_
        refine awp_skip ?_
        refine awp_seq ?_
        refine awp_region ?_
        refine aR 3 ?_
        refine aE ?_
        refine awp_seq ?_
        refine awp_to (st' := strconv_ParseInt_x5_I vx1_1 vr1) (oT [] []) ?_
        refine bE hF fun vx6_1 h22 hF => ?_
        refine awp_sub (strconv_ParseInt_x5_ok vx1_1 vr1 h22) ?_
        refine awp_seq ?_
        refine awp_region ?_
        refine aR 3 ?_
        refine aE ?_
        refine awp_ret ?_
        exact oF hF [] []

/-! ### internal/strconv.Atoi -/
def strconv_Atoi_2_x1_k : Bool → AEx
  | _ => .normal

def strconv_Atoi_2_x1_S (qx : List UInt8) : Bool → St
  | vx => Mem.st ⟨[], []⟩ (tl [(0, .v (.one (.d (.str qx)))), (30, .v (.one (.d (.bool vx))))]) 0

def strconv_Atoi_2_x1_I (qx : List UInt8) : St := Mem.st ⟨[], []⟩ (tl [(0, .v (.one (.d (.str qx)))), (4, .v (.one (.d (.int .i64 (qx.length : Int)))))]) 0

theorem strconv_Atoi_2_x1_ok (qx : List UInt8) {r} (hF : strconv_Atoi_2_x1 qx = some r) : Awp prog 0 77 (cL (cL (cR (cR (cB f60))))) (Out 0 strconv_Atoi_2_x1_k (strconv_Atoi_2_x1_S qx) r) (strconv_Atoi_2_x1_I qx) := by
  unfold strconv_Atoi_2_x1 at hF
  refine cE hF (fun h1 hF => ?_) fun h1 hF => ?_
  · refine awp_region ?_
    refine aR 11 ?_
    refine aB h1 ?_
    refine aR 6 ?_
    refine aE ?_
    exact oO hF [] [] rfl
  · refine awp_region ?_
    refine aR 11 ?_
    refine aB h1 ?_
    refine aR 6 ?_
    refine aE ?_
    exact oO hF [] [] rfl

def strconv_Atoi_2_x3_k : Bool → AEx
  | _ => .normal

def strconv_Atoi_2_x3_S (qx : List UInt8) : Bool → St
  | vx2 => Mem.st ⟨[], []⟩ (tl [(0, .v (.one (.d (.str qx)))), (5, .v (.one (.d (.str qx)))), (39, .v (.one (.d (.bool vx2))))]) 0

def strconv_Atoi_2_x3_I (qx : List UInt8) : St := Mem.st ⟨[], []⟩ (tl [(0, .v (.one (.d (.str qx)))), (5, .v (.one (.d (.str qx))))]) 0

theorem strconv_Atoi_2_x3_ok (qx : List UInt8) {r} (hF : strconv_Atoi_2_x3 qx = some r) : Awp prog 0 77 (cL (cL (cR (cL (cR (cL (cR (cR (cB f60))))))))) (Out 0 strconv_Atoi_2_x3_k (strconv_Atoi_2_x3_S qx) r) (strconv_Atoi_2_x3_I qx) := by
  unfold strconv_Atoi_2_x3 at hF
  refine bE hF fun vc h4 hF => ?_
  refine cE hF (fun h5 hF => ?_) fun h5 hF => ?_
  · refine awp_region ?_
    refine aR 1 ?_
    refine aX (x_idxS h4) ?_
    refine aB h5 ?_
    refine aR 5 ?_
    refine aE ?_
    exact oO hF [] [] rfl
  · refine awp_region ?_
    refine aR 1 ?_
    refine aX (x_idxS h4) ?_
    refine aB h5 ?_
    refine aR 2 ?_
    refine aX (x_idxS h4) ?_
    refine aR 2 ?_
    refine aE ?_
    exact oO hF [] [] rfl

def strconv_Atoi_2_x2_k : (List UInt8) → AEx
  | _ => .normal

def strconv_Atoi_2_x2_S (qx : List UInt8) : (List UInt8) → St
  | vx3 => Mem.st ⟨[], []⟩ (tl [(0, .v (.one (.d (.str vx3)))), (5, .v (.one (.d (.str qx))))]) 0

def strconv_Atoi_2_x2_I (qx : List UInt8) : St := Mem.st ⟨[], []⟩ (tl [(0, .v (.one (.d (.str qx)))), (5, .v (.one (.d (.str qx))))]) 0

theorem strconv_Atoi_2_x2_ok (qx : List UInt8) {r} (hF : strconv_Atoi_2_x2 qx = some r) : Awp prog 0 77 (cL (cR (cL (cR (cL (cR (cR (cB f60)))))))) (Out 0 strconv_Atoi_2_x2_k (strconv_Atoi_2_x2_S qx) r) (strconv_Atoi_2_x2_I qx) := by
  unfold strconv_Atoi_2_x2 at hF
  refine awp_seq ?_
  refine awp_to (st' := strconv_Atoi_2_x3_I qx) (oT [] []) ?_
  refine bE hF fun vx2_1 h6 hF => ?_
  refine awp_sub (strconv_Atoi_2_x3_ok qx h6) ?_
  refine cE hF (fun h7 hF => ?_) fun h7 hF => ?_
  · refine awp_true (by kernel_rfl) h7 ?_
    refine awp_seq ?_
    refine bE hF fun vs h8 hF => ?_
    refine awp_region ?_
    refine aR 1 ?_
    refine aX (x_sliceS h8) ?_
    refine aR 1 ?_
    refine aE ?_
    refine awp_seq ?_
    refine awp_region ?_
    refine aR 3 ?_
    refine aE ?_
    refine cE hF (fun h9 hF => ?_) fun h9 hF => ?_
    · refine awp_true (by kernel_rfl) h9 ?_
      refine awp_seq ?_
      exact nE hF
    · refine awp_false (by kernel_rfl) h9 ?_
      refine awp_skip ?_
      exact oO hF [] [] rfl
  · refine awp_false (by kernel_rfl) h7 ?_
    refine awp_skip ?_
    exact oO hF [] [] rfl

def strconv_Atoi_2_x4_k : Int → AEx
  | _ => .exit 0

def strconv_Atoi_2_x4_S (qx : List UInt8) (vx3_1 : List UInt8) : Int → St
  | vx6 => Mem.st ⟨[], []⟩ (tl [(5, .v (.one (.d (.str qx)))), (6, .v (.one (.d (.int .i64 vx6))))]) 0

def strconv_Atoi_2_x4_H (qx : List UInt8) (vx3_1 : List UInt8) : Int × Int → St
  | (vx4, vx5) => Mem.st ⟨[], []⟩ (tl [(5, .v (.one (.d (.str qx)))), (6, .v (.one (.d (.int .i64 vx4)))), (47, .v (.one (.d (.lst (List.map (encI .u8) (bytesD vx3_1)))))), (48, .v (.one (.d (.int .i64 ((bytesD vx3_1).length : Int))))), (49, .v (.one (.d (.int .i64 vx5))))]) 0

theorem strconv_Atoi_2_x4_ok (qx : List UInt8) (vx3_1 : List UInt8) (s : Int × Int) (r : (Int × Int) ⊕ (Int)) (hF : strconv_Atoi_2_x4 vx3_1 s = some r) : Awp prog 0 77 (cL (cL (cR (cL (cR (cR (cR (cL (cR (cL (cR (cR (cB f60))))))))))))) (Out 0 (kk strconv_Atoi_2_x4_k) (SS (strconv_Atoi_2_x4_H qx vx3_1) (strconv_Atoi_2_x4_S qx vx3_1)) r) (strconv_Atoi_2_x4_H qx vx3_1 s) := by
  obtain ⟨vx4, vx5⟩ := s
  unfold strconv_Atoi_2_x4 at hF
  refine awp_seq ?_
  refine awp_region ?_
  refine aR 1 ?_
  refine aE ?_
  refine awp_seq ?_
  refine cE hF (fun h12 hF => ?_) fun h12 hF => ?_
  · refine awp_true (by kernel_rfl) h12 ?_
    refine awp_skip ?_
    refine awp_seq ?_
    refine awp_block ?_
    refine awp_seq ?_
    refine bE hF fun vy1 h13 hF => ?_
    refine awp_region ?_
    refine aX (x_idx (encI .u8) h13) ?_
    refine aR 2 ?_
    refine aE ?_
    refine awp_seq ?_
    refine awp_region ?_
    refine aR 3 ?_
    refine aE ?_
    refine awp_seq ?_
    refine awp_seq ?_
    refine awp_region ?_
    refine aR 2 ?_
    refine aE ?_
    refine cE hF (fun h14 hF => ?_) fun h14 hF => ?_
    · refine awp_true (by kernel_rfl) h14 ?_
      refine awp_seq ?_
      exact nE hF
    · refine awp_false (by kernel_rfl) h14 ?_
      refine awp_skip ?_
      refine awp_region ?_
      refine aR 6 ?_
      refine aE ?_
      refine awp_region ?_
      refine aR 2 ?_
      refine aE ?_
      exact oO hF [] [] rfl
  · refine awp_false (by kernel_rfl) h12 ?_
    refine awp_exit ?_
    exact oO hF [] [] rfl

def strconv_Atoi_2_x5_k : Int → AEx
  | _ => .normal

def strconv_Atoi_2_x5_S (qx : List UInt8) (vx6_1 : Int) : Int → St
  | vx7 => Mem.st ⟨[], []⟩ (tl [(6, .v (.one (.d (.int .i64 vx7))))]) 0

def strconv_Atoi_2_x5_I (qx : List UInt8) (vx6_1 : Int) : St := Mem.st ⟨[], []⟩ (tl [(5, .v (.one (.d (.str qx)))), (6, .v (.one (.d (.int .i64 vx6_1))))]) 0

theorem strconv_Atoi_2_x5_ok (qx : List UInt8) (vx6_1 : Int) {r} (hF : strconv_Atoi_2_x5 qx vx6_1 = some r) : Awp prog 0 77 (cL (cR (cR (cR (cR (cL (cR (cL (cR (cR (cB f60))))))))))) (Out 0 strconv_Atoi_2_x5_k (strconv_Atoi_2_x5_S qx vx6_1) r) (strconv_Atoi_2_x5_I qx vx6_1) := by
  unfold strconv_Atoi_2_x5 at hF
  refine awp_seq ?_
  refine bE hF fun vc1 h17 hF => ?_
  refine awp_region ?_
  refine aR 1 ?_
  refine aX (x_idxS h17) ?_
  refine aR 1 ?_
  refine aE ?_
  refine cE hF (fun h18 hF => ?_) fun h18 hF => ?_
  · refine awp_true (by kernel_rfl) h18 ?_
    refine awp_region ?_
    refine aR 3 ?_
    refine aE ?_
    exact oO hF [] [] rfl
  · refine awp_false (by kernel_rfl) h18 ?_
    refine awp_skip ?_
    exact oO hF [] [] rfl

def strconv_Atoi_2_R (qx : List UInt8) (r : Int) : TV × Mem := (.tup [.one (.d (.int .i64 r)), .one (.nili)], ⟨[], []⟩)

theorem strconv_Atoi_2_ok {qx : List UInt8} {r} (hF : strconv_Atoi_2 qx = some r) : Holds prog 60 [.v (.one (.d (.str qx)))] ⟨[], []⟩ (Is (strconv_Atoi_2_R qx r)) := by
  unfold strconv_Atoi_2 at hF
  refine holds_of_awp hΓ (fn := f60) (c := cB f60) (A := 0) (nx := 0) (by kernel_rfl) (by kernel_rfl) (by kernel_rfl) (by kernel_rfl) (by kernel_rfl) (by kernel_rfl) (lowc_of (by kernel_rfl)) ?_
  show Awp prog 0 77 (cB f60) _ _
  refine awp_seq ?_
  refine awp_region ?_
  refine aR 2 ?_
  refine aE ?_
  refine awp_seq ?_
  refine awp_region ?_
  refine aR 3 ?_
  refine aE ?_
  refine awp_seq ?_
  refine awp_seq ?_
  refine awp_to (st' := strconv_Atoi_2_x1_I qx) (oT [] []) ?_
  refine bE hF fun vx1 h2 hF => ?_
  refine awp_sub (strconv_Atoi_2_x1_ok qx h2) ?_
  refine cE hF (fun h3 hF => ?_) fun h3 hF => ?_
  · refine awp_true (by kernel_rfl) h3 ?_
    refine awp_seq ?_
    refine awp_region ?_
    refine aR 2 ?_
    refine aE ?_
    refine awp_seq ?_
    refine awp_to (st' := strconv_Atoi_2_x2_I qx) (oT [] []) ?_
    refine bE hF fun vx3_1 h11 hF => ?_
    refine awp_sub (strconv_Atoi_2_x2_ok qx h11) ?_
    refine awp_seq ?_
    refine awp_region ?_
    refine aR 1 ?_
    refine aE ?_
    refine awp_seq ?_
    refine awp_seq ?_
    refine awp_region ?_
    refine aR 1 ?_
    refine aBs (s := vx3_1) rfl ?_
    refine aL (encI .u8) (bytesD vx3_1) ?_
    refine aR 1 ?_
    refine aE ?_
    refine awp_block ?_
    refine awp_to (st' := strconv_Atoi_2_x4_H qx vx3_1 (0, 0)) (oT [] []) ?_
    refine bE hF fun vx6_1 h16 hF => ?_
    refine awp_sub (awp_loop' (strconv_Atoi_2_x4_H qx vx3_1) strconv_Atoi_2_x4_k (strconv_Atoi_2_x4_S qx vx3_1) (by intro x; exact fun h => nomatch h) h16 (strconv_Atoi_2_x4_ok qx vx3_1)) ?_
    refine awp_seq ?_
    refine awp_to (st' := strconv_Atoi_2_x5_I qx vx6_1) (oT [] []) ?_
    refine bE hF fun vx7_1 h19 hF => ?_
    refine awp_sub (strconv_Atoi_2_x5_ok qx vx6_1 h19) ?_
    refine awp_seq ?_
    refine awp_region ?_
    refine aR 3 ?_
    refine aE ?_
    refine awp_ret ?_
    exact oF hF [] []
  · refine awp_false (by kernel_rfl) h3 ?_
    refine awp_skip ?_
    refine awp_seq ?_
    refine bE hF fun vr h20 hF => ?_
    refine awp_region ?_
    refine aR 1 ?_
    refine aC (strconv_ParseInt_ok h20) [] [] [] ?_
    refine aR 5 ?_
    refine aE ?_
    refine awp_seq ?_
    refine awp_region ?_
    refine aR 4 ?_
    refine aE ?_
    refine awp_ret ?_
    exact oF hF [] []

/-! ### strconv.Atoi -/
def strconv_Atoi_R (qs : List UInt8) (r : Int) : TV × Mem := (.tup [.one (.d (.int .i64 r)), .one (.nili)], ⟨[], []⟩)

theorem strconv_Atoi_ok {qs : List UInt8} {r} (hF : strconv_Atoi qs = some r) : Holds prog 50 [.v (.one (.d (.str qs)))] ⟨[], []⟩ (Is (strconv_Atoi_R qs r)) := by
  unfold strconv_Atoi at hF
  refine holds_of_awp hΓ (fn := f50) (c := cB f50) (A := 0) (nx := 0) (by kernel_rfl) (by kernel_rfl) (by kernel_rfl) (by kernel_rfl) (by kernel_rfl) (by kernel_rfl) (lowc_of (by kernel_rfl)) ?_
  show Awp prog 0 18 (cB f50) _ _
  refine awp_seq ?_
  refine awp_region ?_
  refine aR 2 ?_
  refine aE ?_
  refine awp_seq ?_
  refine bE hF fun vr1 h1 hF => ?_
  refine awp_region ?_
  refine aR 1 ?_
  refine aC (strconv_Atoi_2_ok h1) [] [] [] ?_
  refine aR 5 ?_
  refine aE ?_
  refine awp_seq ?_
  refine awp_seq ?_
  refine awp_region ?_
  refine aR 1 ?_
  refine aS (does_nilI (op := .neq) (c := false) rfl (.inr ⟨rfl, rfl⟩) (by kernel_rfl) (by kernel_rfl)) ?_
  refine aE ?_
  refine awp_false (by kernel_rfl) rfl ?_
  refine awp_skip ?_
  refine awp_seq ?_
  refine awp_region ?_
  refine aR 3 ?_
  refine aE ?_
  refine awp_ret ?_
  exact oF hF [] []

/-! ### beaconfleet/base.Number -/
def base_Number_x1_k : Bool → AEx
  | _ => .normal

def base_Number_x1_S (qs : List UInt8) (qdigits : Int) (vr : List UInt8) : Bool → St
  | vx => Mem.st ⟨[], []⟩ (tl [(0, .v (.one (.d (.str qs)))), (6, .v (.one (.d (.str vr)))), (36, .v (.one (.d (.bool vx))))]) 0

def base_Number_x1_I (qs : List UInt8) (qdigits : Int) (vr : List UInt8) : St := Mem.st ⟨[], []⟩ (tl [(0, .v (.one (.d (.str qs)))), (1, .v (.one (.d (.int .i64 qdigits)))), (6, .v (.one (.d (.str vr))))]) 0

theorem base_Number_x1_ok (qs : List UInt8) (qdigits : Int) (vr : List UInt8) {r} (hF : base_Number_x1 qs qdigits vr = some r) : Awp prog 0 61 (cL (cL (cR (cR (cB f46))))) (Out 0 base_Number_x1_k (base_Number_x1_S qs qdigits vr) r) (base_Number_x1_I qs qdigits vr) := by
  unfold base_Number_x1 at hF
  refine cE hF (fun h2 hF => ?_) fun h2 hF => ?_
  · refine awp_region ?_
    refine aR 1 ?_
    refine aB h2 ?_
    refine aR 23 ?_
    refine aE ?_
    exact oO hF [] [] rfl
  · refine cE hF (fun h3 hF => ?_) fun h3 hF => ?_
    · refine awp_region ?_
      refine aR 1 ?_
      refine aB h2 ?_
      refine aR 4 ?_
      refine aB h3 ?_
      refine aR 18 ?_
      refine aE ?_
      exact oO hF [] [] rfl
    · refine bE hF fun vc h4 hF => ?_
      refine cE hF (fun h5 hF => ?_) fun h5 hF => ?_
      · refine cE hF (fun h6 hF => ?_) fun h6 hF => ?_
        · refine awp_region ?_
          refine aR 1 ?_
          refine aB h2 ?_
          refine aR 4 ?_
          refine aB h3 ?_
          refine aR 3 ?_
          refine aX (x_idxS h4) ?_
          refine aB h5 ?_
          refine aR 3 ?_
          refine aB h6 ?_
          refine aR 9 ?_
          refine aE ?_
          exact oO hF [] [] rfl
        · refine awp_region ?_
          refine aR 1 ?_
          refine aB h2 ?_
          refine aR 4 ?_
          refine aB h3 ?_
          refine aR 3 ?_
          refine aX (x_idxS h4) ?_
          refine aB h5 ?_
          refine aR 3 ?_
          refine aB h6 ?_
          refine aR 9 ?_
          refine aE ?_
          exact oO hF [] [] rfl
      · refine awp_region ?_
        refine aR 1 ?_
        refine aB h2 ?_
        refine aR 4 ?_
        refine aB h3 ?_
        refine aR 3 ?_
        refine aX (x_idxS h4) ?_
        refine aB h5 ?_
        refine aR 13 ?_
        refine aE ?_
        exact oO hF [] [] rfl

def base_Number_x3_k : Bool → AEx
  | _ => .normal

def base_Number_x3_S (qs : List UInt8) (vr : List UInt8) (vx2 : Int) : Bool → St
  | vx4 => Mem.st ⟨[], []⟩ (tl [(0, .v (.one (.d (.str qs)))), (6, .v (.one (.d (.str vr)))), (38, .v (.one (.d (.int .i64 (vr.length : Int))))), (39, .v (.one (.d (.int .i64 vx2)))), (51, .v (.one (.d (.bool vx4))))]) 0

def base_Number_x3_I (qs : List UInt8) (vr : List UInt8) (vx2 : Int) : St := Mem.st ⟨[], []⟩ (tl [(0, .v (.one (.d (.str qs)))), (6, .v (.one (.d (.str vr)))), (7, .v (.one (.d (.int .i64 vx2)))), (38, .v (.one (.d (.int .i64 (vr.length : Int))))), (39, .v (.one (.d (.int .i64 vx2))))]) 0

theorem base_Number_x3_ok (qs : List UInt8) (vr : List UInt8) (vx2 : Int) {r} (hF : base_Number_x3 vr vx2 = some r) : Awp prog 0 61 (cL (cR (cL (cL (cR (cR (cL (cL (cR (cL (cR (cR (cR (cB f46)))))))))))))) (Out 0 base_Number_x3_k (base_Number_x3_S qs vr vx2) r) (base_Number_x3_I qs vr vx2) := by
  unfold base_Number_x3 at hF
  refine bE hF fun vc2 h10 hF => ?_
  refine cE hF (fun h11 hF => ?_) fun h11 hF => ?_
  · refine awp_region ?_
    refine aR 2 ?_
    refine aX (x_idxS h10) ?_
    refine aB h11 ?_
    refine aR 6 ?_
    refine aE ?_
    exact oO hF [] [] rfl
  · refine awp_region ?_
    refine aR 2 ?_
    refine aX (x_idxS h10) ?_
    refine aB h11 ?_
    refine aR 3 ?_
    refine aX (x_idxS h10) ?_
    refine aR 2 ?_
    refine aE ?_
    exact oO hF [] [] rfl

def base_Number_x2_k : Unit ⊕ Unit → AEx
  | .inl _ => .exit 0
  | .inr _ => .ret

def base_Number_x2_S (qs : List UInt8) (vr : List UInt8) : Unit ⊕ Unit → St
  | .inl _ => Mem.st ⟨[], []⟩ (tl [(0, .v (.one (.d (.str qs))))]) 0
  | .inr _ => Mem.st ⟨[], []⟩ (tl [(4, .v (.one (.d (.int .i64 0)))), (5, .v (.one (.d (.bool false))))]) 0

def base_Number_x2_H (qs : List UInt8) (vr : List UInt8) : Int → St
  | vx2 => Mem.st ⟨[], []⟩ (tl [(0, .v (.one (.d (.str qs)))), (6, .v (.one (.d (.str vr)))), (38, .v (.one (.d (.int .i64 (vr.length : Int))))), (39, .v (.one (.d (.int .i64 vx2))))]) 0

theorem base_Number_x2_ok (qs : List UInt8) (vr : List UInt8) (vx2 : Int) (r : (Int) ⊕ (Unit ⊕ Unit)) (hF : base_Number_x2 vr vx2 = some r) : Awp prog 0 61 (cL (cL (cR (cL (cR (cR (cR (cB f46)))))))) (Out 0 (kk base_Number_x2_k) (SS (base_Number_x2_H qs vr) (base_Number_x2_S qs vr)) r) (base_Number_x2_H qs vr vx2) := by
  unfold base_Number_x2 at hF
  refine awp_seq ?_
  refine awp_region ?_
  refine aR 1 ?_
  refine aE ?_
  refine awp_seq ?_
  refine cE hF (fun h9 hF => ?_) fun h9 hF => ?_
  · refine awp_true (by kernel_rfl) h9 ?_
    refine awp_skip ?_
    refine awp_seq ?_
    refine awp_block ?_
    refine awp_seq ?_
    refine awp_region ?_
    refine aR 2 ?_
    refine aE ?_
    refine awp_seq ?_
    refine awp_to (st' := base_Number_x3_I qs vr vx2) (oT [] []) ?_
    refine bE hF fun vx4_1 h12 hF => ?_
    refine awp_sub (base_Number_x3_ok qs vr vx2 h12) ?_
    refine cE hF (fun h13 hF => ?_) fun h13 hF => ?_
    · refine awp_true (by kernel_rfl) h13 ?_
      refine awp_seq ?_
      refine awp_region ?_
      refine aR 2 ?_
      refine aE ?_
      refine awp_ret ?_
      exact oO hF [] [] rfl
    · refine awp_false (by kernel_rfl) h13 ?_
      refine awp_skip ?_
      refine awp_region ?_
      refine aR 2 ?_
      refine aE ?_
      exact oO hF [] [] rfl
  · refine awp_false (by kernel_rfl) h9 ?_
    refine awp_exit ?_
    exact oO hF [] [] rfl

def base_Number_R (qs : List UInt8) (qdigits : Int) (r : Int × Bool) : TV × Mem := (.tup [.one (.d (.int .i64 r.1)), .one (.d (.bool r.2))], ⟨[], []⟩)

theorem base_Number_ok {qs : List UInt8} {qdigits : Int} {r} (hF : base_Number qs qdigits = some r) : Holds prog 46 [.v (.one (.d (.str qs))), .v (.one (.d (.int .i64 qdigits)))] ⟨[], []⟩ (Is (base_Number_R qs qdigits r)) := by
  unfold base_Number at hF
  refine holds_of_awp hΓ (fn := f46) (c := cB f46) (A := 0) (nx := 0) (by kernel_rfl) (by kernel_rfl) (by kernel_rfl) (by kernel_rfl) (by kernel_rfl) (by kernel_rfl) (lowc_of (by kernel_rfl)) ?_
  show Awp prog 0 61 (cB f46) _ _
  refine awp_seq ?_
  refine awp_region ?_
  refine aR 2 ?_
  refine aE ?_
  refine awp_seq ?_
  refine bE hF fun vr h1 hF => ?_
  refine awp_region ?_
  refine aR 1 ?_
  refine aC (strings_TrimPrefix_ok h1) [] [] [] ?_
  refine aR 1 ?_
  refine aE ?_
  refine awp_seq ?_
  refine awp_seq ?_
  refine awp_to (st' := base_Number_x1_I qs qdigits vr) (oT [] []) ?_
  refine bE hF fun vx1 h7 hF => ?_
  refine awp_sub (base_Number_x1_ok qs qdigits vr h7) ?_
  refine cE hF (fun h8 hF => ?_) fun h8 hF => ?_
  · refine awp_true (by kernel_rfl) h8 ?_
    refine awp_seq ?_
    refine awp_region ?_
    refine aR 2 ?_
    refine aE ?_
    refine awp_ret ?_
    exact oF hF [] []
  · refine awp_false (by kernel_rfl) h8 ?_
    refine awp_skip ?_
    refine awp_seq ?_
    refine awp_seq ?_
    refine awp_region ?_
    refine aR 3 ?_
    refine aE ?_
    refine awp_block ?_
    refine awp_to (st' := base_Number_x2_H qs vr 0) (oT [] []) ?_
    refine bE hF fun x h14 hF => ?_
    rcases x with _ | _
    · refine awp_sub (awp_loop' (base_Number_x2_H qs vr) base_Number_x2_k (base_Number_x2_S qs vr) (by intro x; rcases x with x | x <;> exact fun h => nomatch h) h14 (base_Number_x2_ok qs vr)) ?_
      refine awp_seq ?_
      refine bE hF fun vr1 h15 hF => ?_
      refine awp_region ?_
      refine aR 1 ?_
      refine aC (strconv_Atoi_ok h15) [] [] [] ?_
      refine aR 5 ?_
      refine aE ?_
      refine awp_seq ?_
      refine aD ?_
      refine dR 2 ?_
      refine dS (U := []) (stable_nilI (op := .eql) (c := true) rfl (.inl ⟨rfl, rfl⟩) (by kernel_rfl) (by kernel_rfl)) ?_
      refine dR 2 ?_
      refine dE ?_
      refine awp_ret ?_
      exact oF hF [] []
    · refine awp_sub (awp_loop' (base_Number_x2_H qs vr) base_Number_x2_k (base_Number_x2_S qs vr) (by intro x; rcases x with x | x <;> exact fun h => nomatch h) h14 (base_Number_x2_ok qs vr)) ?_
      exact oF hF [] []

/-! ### beaconfleet/base.Numbers -/
def base_Numbers_o0_x1_k : (List Int) ⊕ Unit → AEx
  | .inl _ => .exit 0
  | .inr _ => .ret

def base_Numbers_o0_x1_S (qwords : List (List UInt8)) (qdigits : Int) : (List Int) ⊕ Unit → St
  | .inl vout1 => Mem.st ⟨[(1, ⟨3, 1, List.map (encI .i64) vout1⟩)], []⟩ (tl [(6, .v (.one (.own 1 none)))]) 2
  | .inr _ => Mem.st ⟨[], []⟩ (tl [(4, .v (.one (.nil))), (5, .v (.one (.d (.bool false))))]) 1

def base_Numbers_o0_x1_H (qwords : List (List UInt8)) (qdigits : Int) : (List Int) × Int → St
  | (vout, vx) => Mem.st ⟨[(1, ⟨3, 1, List.map (encI .i64) vout⟩)], []⟩ (tl [(1, .v (.one (.d (.int .i64 qdigits)))), (6, .v (.one (.own 1 none))), (11, .v (.one (.d (.lst (List.map encS qwords))))), (12, .v (.one (.d (.int .i64 (qwords.length : Int))))), (13, .v (.one (.d (.int .i64 vx))))]) 2

theorem base_Numbers_o0_x1_ok (qwords : List (List UInt8)) (qdigits : Int) (s : (List Int) × Int) (r : ((List Int) × Int) ⊕ ((List Int) ⊕ Unit)) (hF : base_Numbers_o0_x1 qwords qdigits s = some r) : Awp prog 1 31 (cL (cL (cR (cL (cR (cR (cB f29))))))) (Out 1 (kk base_Numbers_o0_x1_k) (SS (base_Numbers_o0_x1_H qwords qdigits) (base_Numbers_o0_x1_S qwords qdigits)) r) (base_Numbers_o0_x1_H qwords qdigits s) := by
  obtain ⟨vout, vx⟩ := s
  unfold base_Numbers_o0_x1 at hF
  refine awp_seq ?_
  refine awp_region ?_
  refine aR 1 ?_
  refine aE ?_
  refine awp_seq ?_
  refine cE hF (fun h1 hF => ?_) fun h1 hF => ?_
  · refine awp_true (by kernel_rfl) h1 ?_
    refine awp_skip ?_
    refine awp_seq ?_
    refine awp_block ?_
    refine awp_seq ?_
    refine bE hF fun vy1 h2 hF => ?_
    refine awp_region ?_
    refine aX (x_idx encS h2) ?_
    refine aR 2 ?_
    refine aE ?_
    refine awp_seq ?_
    refine bE hF fun x h3 hF => ?_
    obtain ⟨vr2_1, vr3_1⟩ := x
    refine awp_region ?_
    refine aR 2 ?_
    refine aC (base_Number_ok h3) [] [] [] ?_
    refine aR 5 ?_
    refine aE ?_
    refine awp_seq ?_
    refine awp_seq ?_
    refine awp_region ?_
    refine aR 2 ?_
    refine aE ?_
    refine cE hF (fun h4 hF => ?_) fun h4 hF => ?_
    · refine awp_true (by kernel_rfl) h4 ?_
      refine awp_seq ?_
      refine awp_region ?_
      refine aR 2 ?_
      refine aE ?_
      refine awp_ret ?_
      exact oO hF [] [] rfl
    · refine awp_false (by kernel_rfl) h4 ?_
      refine awp_skip ?_
      refine gE hF fun h5 hF => ?_
      refine awp_region ?_
      refine aR 3 ?_
      refine aX (x_app (encI .i64) 1 h5) ?_
      refine aR 1 ?_
      refine aE ?_
      refine awp_region ?_
      refine aR 2 ?_
      refine aE ?_
      exact oO hF [(1, 17002)] [] rfl
  · refine awp_false (by kernel_rfl) h1 ?_
    refine awp_exit ?_
    exact oO hF [] [] rfl

def base_Numbers_o0_R (qwords : List (List UInt8)) (qdigits : Int) (r : (List Int) × Bool) : TV × Mem := (.tup [.one (.own 1 none), .one (.d (.bool r.2))], ⟨[(1, ⟨3, 1, List.map (encI .i64) r.1⟩)], []⟩)

theorem base_Numbers_o0_ok {qwords : List (List UInt8)} {qdigits : Int} {r} (hF : base_Numbers_o0 qwords qdigits = some r) : Holds prog 29 [.v (.one (.own 0 none)), .v (.one (.d (.int .i64 qdigits)))] ⟨[(0, ⟨9, 1, List.map encS qwords⟩)], []⟩ (Is (base_Numbers_o0_R qwords qdigits r)) := by
  unfold base_Numbers_o0 at hF
  refine holds_of_awp hΓ (fn := f29) (c := cB f29) (A := 1) (nx := 1) (by kernel_rfl) (by kernel_rfl) (by kernel_rfl) (by kernel_rfl) (by kernel_rfl) (by kernel_rfl) (lowc_of (by kernel_rfl)) ?_
  show Awp prog 1 31 (cB f29) _ _
  refine awp_seq ?_
  refine awp_region ?_
  refine aR 2 ?_
  refine aE ?_
  refine awp_to (oT (m := ⟨[], []⟩) (ts := [(0, .v (.one (.d (.lst (List.map encS qwords))))), (1, .v (.one (.d (.int .i64 qdigits))))]) (nx := 1) [] []) ?_
  refine awp_seq ?_
  refine awp_region ?_
  refine aR 1 ?_
  refine aE ?_
  refine awp_seq ?_
  refine awp_seq ?_
  refine awp_region ?_
  refine aR 1 ?_
  refine aL encS qwords ?_
  refine aR 1 ?_
  refine aE ?_
  refine awp_block ?_
  refine awp_to (st' := base_Numbers_o0_x1_H qwords qdigits ([], 0)) (oT [] [1]) ?_
  refine bE hF fun x h6 hF => ?_
  rcases x with vout1_1 | _
  · refine awp_sub (awp_loop' (base_Numbers_o0_x1_H qwords qdigits) base_Numbers_o0_x1_k (base_Numbers_o0_x1_S qwords qdigits) (by intro x; rcases x with x | x <;> exact fun h => nomatch h) h6 (base_Numbers_o0_x1_ok qwords qdigits)) ?_
    refine awp_seq ?_
    refine awp_region ?_
    refine aR 3 ?_
    refine aE ?_
    refine awp_ret ?_
    exact oF hF [] []
  · refine awp_sub (awp_loop' (base_Numbers_o0_x1_H qwords qdigits) base_Numbers_o0_x1_k (base_Numbers_o0_x1_S qwords qdigits) (by intro x; rcases x with x | x <;> exact fun h => nomatch h) h6 (base_Numbers_o0_x1_ok qwords qdigits)) ?_
    exact oF hF [] [1]

/-! ### beaconfleet/campaign.ParseVersion -/
def campaign_ParseVersion_x1_k : Bool → AEx
  | _ => .normal

def campaign_ParseVersion_x1_S (vr : List Int) (vr1_1 : Bool) : Bool → St
  | vx => Mem.st ⟨[], [(0, [.d (.int .i64 0), .d (.int .i64 0), .d (.int .i64 0)])]⟩ (tl [(2, .v (.one (.box 0 0))), (4, .v (.one (.d (.lst (List.map (encI .i64) vr))))), (19, .v (.one (.d (.bool vx))))]) 1

def campaign_ParseVersion_x1_I (vr : List Int) (vr1_1 : Bool) : St := Mem.st ⟨[], [(0, [.d (.int .i64 0), .d (.int .i64 0), .d (.int .i64 0)])]⟩ (tl [(2, .v (.one (.box 0 0))), (4, .v (.one (.d (.lst (List.map (encI .i64) vr))))), (5, .v (.one (.d (.bool vr1_1))))]) 1

theorem campaign_ParseVersion_x1_ok (vr : List Int) (vr1_1 : Bool) {r} (hF : campaign_ParseVersion_x1 vr vr1_1 = some r) : Awp prog 0 36 (cL (cL (cR (cR (cB f10))))) (Out 0 campaign_ParseVersion_x1_k (campaign_ParseVersion_x1_S vr vr1_1) r) (campaign_ParseVersion_x1_I vr vr1_1) := by
  unfold campaign_ParseVersion_x1 at hF
  refine cE hF (fun h3 hF => ?_) fun h3 hF => ?_
  · refine awp_region ?_
    refine aR 1 ?_
    refine aB h3 ?_
    refine aR 5 ?_
    refine aE ?_
    exact oO hF [] [] rfl
  · refine awp_region ?_
    refine aR 1 ?_
    refine aB h3 ?_
    refine aR 2 ?_
    refine aL (encI .i64) vr ?_
    refine aR 2 ?_
    refine aE ?_
    exact oO hF [] [] rfl

def campaign_ParseVersion_R (qs : List UInt8) (r : api_Version × Int) : TV × Mem := (.tup [.agg [.d (.int .i64 r.1.Major), .d (.int .i64 r.1.Minor), .d (.int .i64 r.1.Patch)], .one (.d (.int .i64 r.2))], ⟨[], []⟩)

theorem campaign_ParseVersion_ok {qs : List UInt8} {r} (hF : campaign_ParseVersion qs = some r) : Holds prog 10 [.v (.one (.d (.str qs)))] ⟨[], []⟩ (Is (campaign_ParseVersion_R qs r)) := by
  unfold campaign_ParseVersion at hF
  refine holds_of_awp hΓ (fn := f10) (c := cB f10) (A := 0) (nx := 0) (by kernel_rfl) (by kernel_rfl) (by kernel_rfl) (by kernel_rfl) (by kernel_rfl) (by kernel_rfl) (lowc_of (by kernel_rfl)) ?_
  show Awp prog 0 36 (cB f10) _ _
  refine awp_seq ?_
  refine awp_region ?_
  refine aR 2 ?_
  refine aE ?_
  refine awp_seq ?_
  refine bE hF fun vr1 h1 hF => ?_
  refine bE hF fun x h2 hF => ?_
  obtain ⟨vr, vr1_1⟩ := x
  refine awp_region ?_
  refine aR 1 ?_
  refine aC (strings_Split_ok h1) [] [] [] ?_
  refine aC (base_Numbers_o0_ok h2) [(0, 3000)] [] [] ?_
  refine aR 5 ?_
  refine aE ?_
  refine awp_to (oT (m := ⟨[], [(0, [.d (.int .i64 0), .d (.int .i64 0), .d (.int .i64 0)])]⟩) (ts := [(2, .v (.one (.box 0 0))), (4, .v (.one (.d (.lst (List.map (encI .i64) vr))))), (5, .v (.one (.d (.bool vr1_1))))]) (nx := 1) [] []) ?_
  refine awp_seq ?_
  refine awp_seq ?_
  refine awp_to (st' := campaign_ParseVersion_x1_I vr vr1_1) (oT [] []) ?_
  refine bE hF fun vx1 h4 hF => ?_
  refine awp_sub (campaign_ParseVersion_x1_ok vr vr1_1 h4) ?_
  refine cE hF (fun h5 hF => ?_) fun h5 hF => ?_
  · refine awp_true (by kernel_rfl) h5 ?_
    refine awp_seq ?_
    refine awp_region ?_
    refine aR 3 ?_
    refine aE ?_
    refine awp_ret ?_
    exact oF hF [] []
  · refine awp_false (by kernel_rfl) h5 ?_
    refine awp_skip ?_
    refine awp_seq ?_
    refine bE hF fun vy h6 hF => ?_
    refine bE hF fun vy1 h7 hF => ?_
    refine bE hF fun vy2 h8 hF => ?_
    refine aD ?_
    refine dR 1 ?_
    refine dX (x_idx (encI .i64) h6) ?_
    refine dR 2 ?_
    refine dX (x_idx (encI .i64) h7) ?_
    refine dR 2 ?_
    refine dX (x_idx (encI .i64) h8) ?_
    refine dR 4 ?_
    refine dE ?_
    refine awp_seq ?_
    refine awp_seq ?_
    refine bE hF fun vr3 h9 hF => ?_
    refine awp_region ?_
    refine aR 1 ?_
    refine aC (base_Version_ok h9) [] [] [] ?_
    refine aR 1 ?_
    refine aE ?_
    refine cE hF (fun h10 hF => ?_) fun h10 hF => ?_
    · refine awp_true (by kernel_rfl) h10 ?_
      refine awp_seq ?_
      refine awp_region ?_
      refine aR 3 ?_
      refine aE ?_
      refine awp_ret ?_
      exact oF hF [] []
    · refine awp_false (by kernel_rfl) h10 ?_
      refine awp_skip ?_
      refine awp_seq ?_
      refine awp_region ?_
      refine aR 3 ?_
      refine aE ?_
      refine awp_ret ?_
      exact oF hF [] []

/-! ### strings.IndexByte -/
def strings_IndexByte_R (qs : List UInt8) (qc : Int) (r : Unit) : TV × Mem := (.v (.one (.d (.int .i64 (Lib.indexByte qs qc.toNat.toUInt8)))), ⟨[], []⟩)

theorem strings_IndexByte_ok {qs : List UInt8} {qc : Int} {r} (hF : strings_IndexByte qs qc = some r) : Holds prog 59 [.v (.one (.d (.str qs))), .v (.one (.d (.int .u8 qc)))] ⟨[], []⟩ (Is (strings_IndexByte_R qs qc r)) := by
  unfold strings_IndexByte at hF
  refine holds_of_awp hΓ (fn := f59) (c := cB f59) (A := 0) (nx := 0) (by kernel_rfl) (by kernel_rfl) (by kernel_rfl) (by kernel_rfl) (by kernel_rfl) (by kernel_rfl) (lowc_of (by kernel_rfl)) ?_
  show Awp prog 0 8 (cB f59) _ _
  refine awp_seq ?_
  refine awp_region ?_
  refine aR 1 ?_
  refine aE ?_
  refine awp_seq ?_
  refine bE hF fun _ h1 hF => ?_
  refine awp_region ?_
  refine aR 2 ?_
  refine aC (stringslite_IndexByte_ok h1) [] [] [] ?_
  refine aR 1 ?_
  refine aE ?_
  refine awp_ret ?_
  exact oF hF [] []

/-! ### beaconfleet/fleetref2.only -/
def fleetref2_only_x1_k : Unit ⊕ Unit → AEx
  | .inl _ => .exit 0
  | .inr _ => .ret

def fleetref2_only_x1_S (qs : List UInt8) (qsome : List UInt8) : Unit ⊕ Unit → St
  | .inl _ => Mem.st ⟨[], []⟩ (tl []) 0
  | .inr _ => Mem.st ⟨[], []⟩ (tl [(4, .v (.one (.d (.bool false))))]) 0

def fleetref2_only_x1_H (qs : List UInt8) (qsome : List UInt8) : Int → St
  | vx => Mem.st ⟨[], []⟩ (tl [(0, .v (.one (.d (.str qs)))), (1, .v (.one (.d (.str qsome)))), (7, .v (.one (.d (.int .i64 (qs.length : Int))))), (8, .v (.one (.d (.int .i64 vx))))]) 0

theorem fleetref2_only_x1_ok (qs : List UInt8) (qsome : List UInt8) (vx : Int) (r : (Int) ⊕ (Unit ⊕ Unit)) (hF : fleetref2_only_x1 qs qsome vx = some r) : Awp prog 0 18 (cL (cL (cR (cL (cR (cB f49)))))) (Out 0 (kk fleetref2_only_x1_k) (SS (fleetref2_only_x1_H qs qsome) (fleetref2_only_x1_S qs qsome)) r) (fleetref2_only_x1_H qs qsome vx) := by
  unfold fleetref2_only_x1 at hF
  refine awp_seq ?_
  refine awp_region ?_
  refine aR 1 ?_
  refine aE ?_
  refine awp_seq ?_
  refine cE hF (fun h1 hF => ?_) fun h1 hF => ?_
  · refine awp_true (by kernel_rfl) h1 ?_
    refine awp_skip ?_
    refine awp_seq ?_
    refine awp_block ?_
    refine awp_seq ?_
    refine awp_region ?_
    refine aR 2 ?_
    refine aE ?_
    refine awp_seq ?_
    refine bE hF fun vc1 h2 hF => ?_
    refine bE hF fun _ h3 hF => ?_
    refine awp_region ?_
    refine aR 3 ?_
    refine aX (x_idxS h2) ?_
    refine aC (strings_IndexByte_ok h3) [] [] [] ?_
    refine aR 1 ?_
    refine aE ?_
    refine cE hF (fun h4 hF => ?_) fun h4 hF => ?_
    · refine awp_true (by kernel_rfl) h4 ?_
      refine awp_seq ?_
      refine awp_region ?_
      refine aR 1 ?_
      refine aE ?_
      refine awp_ret ?_
      exact oO hF [] [] rfl
    · refine awp_false (by kernel_rfl) h4 ?_
      refine awp_skip ?_
      refine awp_region ?_
      refine aR 2 ?_
      refine aE ?_
      exact oO hF [] [] rfl
  · refine awp_false (by kernel_rfl) h1 ?_
    refine awp_exit ?_
    exact oO hF [] [] rfl

def fleetref2_only_R (qs : List UInt8) (qsome : List UInt8) (r : Bool) : TV × Mem := (.v (.one (.d (.bool r))), ⟨[], []⟩)

theorem fleetref2_only_ok {qs : List UInt8} {qsome : List UInt8} {r} (hF : fleetref2_only qs qsome = some r) : Holds prog 49 [.v (.one (.d (.str qs))), .v (.one (.d (.str qsome)))] ⟨[], []⟩ (Is (fleetref2_only_R qs qsome r)) := by
  unfold fleetref2_only at hF
  refine holds_of_awp hΓ (fn := f49) (c := cB f49) (A := 0) (nx := 0) (by kernel_rfl) (by kernel_rfl) (by kernel_rfl) (by kernel_rfl) (by kernel_rfl) (by kernel_rfl) (lowc_of (by kernel_rfl)) ?_
  show Awp prog 0 18 (cB f49) _ _
  refine awp_seq ?_
  refine awp_region ?_
  refine aR 1 ?_
  refine aE ?_
  refine awp_seq ?_
  refine awp_seq ?_
  refine awp_region ?_
  refine aR 3 ?_
  refine aE ?_
  refine awp_block ?_
  refine awp_to (st' := fleetref2_only_x1_H qs qsome 0) (oT [] []) ?_
  refine bE hF fun x h5 hF => ?_
  rcases x with _ | _
  · refine awp_sub (awp_loop' (fleetref2_only_x1_H qs qsome) fleetref2_only_x1_k (fleetref2_only_x1_S qs qsome) (by intro x; rcases x with x | x <;> exact fun h => nomatch h) h5 (fleetref2_only_x1_ok qs qsome)) ?_
    refine awp_seq ?_
    refine awp_region ?_
    refine aR 1 ?_
    refine aE ?_
    refine awp_ret ?_
    exact oF hF [] []
  · refine awp_sub (awp_loop' (fleetref2_only_x1_H qs qsome) fleetref2_only_x1_k (fleetref2_only_x1_S qs qsome) (by intro x; rcases x with x | x <;> exact fun h => nomatch h) h5 (fleetref2_only_x1_ok qs qsome)) ?_
    exact oF hF [] []

/-! ### beaconfleet/fleetref2.Number -/
def fleetref2_Number_x1_k : Bool → AEx
  | _ => .normal

def fleetref2_Number_x1_S (qs : List UInt8) (qmost : Int) (vr : List UInt8) : Bool → St
  | vx => Mem.st ⟨[], []⟩ (tl [(0, .v (.one (.d (.str qs)))), (23, .v (.one (.d (.bool vx))))]) 0

def fleetref2_Number_x1_I (qs : List UInt8) (qmost : Int) (vr : List UInt8) : St := Mem.st ⟨[], []⟩ (tl [(0, .v (.one (.d (.str qs)))), (1, .v (.one (.d (.int .i64 qmost)))), (6, .v (.one (.d (.str vr))))]) 0

theorem fleetref2_Number_x1_ok (qs : List UInt8) (qmost : Int) (vr : List UInt8) {r} (hF : fleetref2_Number_x1 qmost vr = some r) : Awp prog 0 38 (cL (cL (cR (cR (cB f32))))) (Out 0 fleetref2_Number_x1_k (fleetref2_Number_x1_S qs qmost vr) r) (fleetref2_Number_x1_I qs qmost vr) := by
  unfold fleetref2_Number_x1 at hF
  refine cE hF (fun h2 hF => ?_) fun h2 hF => ?_
  · refine awp_region ?_
    refine aR 1 ?_
    refine aB h2 ?_
    refine aR 11 ?_
    refine aE ?_
    exact oO hF [] [] rfl
  · refine cE hF (fun h3 hF => ?_) fun h3 hF => ?_
    · refine awp_region ?_
      refine aR 1 ?_
      refine aB h2 ?_
      refine aR 4 ?_
      refine aB h3 ?_
      refine aR 6 ?_
      refine aE ?_
      exact oO hF [] [] rfl
    · refine bE hF fun vr1 h4 hF => ?_
      refine awp_region ?_
      refine aR 1 ?_
      refine aB h2 ?_
      refine aR 4 ?_
      refine aB h3 ?_
      refine aR 3 ?_
      refine aC (fleetref2_only_ok h4) [] [] [] ?_
      refine aR 2 ?_
      refine aE ?_
      exact oO hF [] [] rfl

def fleetref2_Number_R (qs : List UInt8) (qmost : Int) (r : Int × Bool) : TV × Mem := (.tup [.one (.d (.int .i64 r.1)), .one (.d (.bool r.2))], ⟨[], []⟩)

theorem fleetref2_Number_ok {qs : List UInt8} {qmost : Int} {r} (hF : fleetref2_Number qs qmost = some r) : Holds prog 32 [.v (.one (.d (.str qs))), .v (.one (.d (.int .i64 qmost)))] ⟨[], []⟩ (Is (fleetref2_Number_R qs qmost r)) := by
  unfold fleetref2_Number at hF
  refine holds_of_awp hΓ (fn := f32) (c := cB f32) (A := 0) (nx := 0) (by kernel_rfl) (by kernel_rfl) (by kernel_rfl) (by kernel_rfl) (by kernel_rfl) (by kernel_rfl) (lowc_of (by kernel_rfl)) ?_
  show Awp prog 0 38 (cB f32) _ _
  refine awp_seq ?_
  refine awp_region ?_
  refine aR 2 ?_
  refine aE ?_
  refine awp_seq ?_
  refine bE hF fun vr h1 hF => ?_
  refine awp_region ?_
  refine aR 1 ?_
  refine aC (strings_TrimPrefix_ok h1) [] [] [] ?_
  refine aR 1 ?_
  refine aE ?_
  refine awp_seq ?_
  refine awp_seq ?_
  refine awp_to (st' := fleetref2_Number_x1_I qs qmost vr) (oT [] []) ?_
  refine bE hF fun vx1 h5 hF => ?_
  refine awp_sub (fleetref2_Number_x1_ok qs qmost vr h5) ?_
  refine cE hF (fun h6 hF => ?_) fun h6 hF => ?_
  · refine awp_true (by kernel_rfl) h6 ?_
    refine awp_seq ?_
    refine awp_region ?_
    refine aR 2 ?_
    refine aE ?_
    refine awp_ret ?_
    exact oF hF [] []
  · refine awp_false (by kernel_rfl) h6 ?_
    refine awp_skip ?_
    refine awp_seq ?_
    refine bE hF fun vr2 h7 hF => ?_
    refine awp_region ?_
    refine aR 1 ?_
    refine aC (strconv_Atoi_ok h7) [] [] [] ?_
    refine aR 5 ?_
    refine aE ?_
    refine awp_seq ?_
    refine bE hF fun vr3 h8 hF => ?_
    refine awp_region ?_
    refine aR 2 ?_
    refine aS (does_nilI (op := .eql) (c := true) rfl (.inl ⟨rfl, rfl⟩) (by kernel_rfl) (by kernel_rfl)) ?_
    refine aR 2 ?_
    refine aC (strconv_Itoa_ok h8) [] [] [] ?_
    refine aR 5 ?_
    refine aE ?_
    refine awp_ret ?_
    exact oF hF [] []

/-! ### beaconfleet/fleetref2.VersionOf -/
def fleetref2_VersionOf_x2_k : Bool → AEx
  | _ => .normal

def fleetref2_VersionOf_x2_S (vr1 : List (List UInt8)) (vn : List Int) (vx : Int) (vr4_1 : Int) (vr5_1 : Bool) : Bool → St
  | vx2 => Mem.st ⟨[(1, ⟨63, 1, List.map (encI .i64) (vn.set vx.toNat vr4_1)⟩)], [(0, [.d (.int .i64 0), .d (.int .i64 0), .d (.int .i64 0)])]⟩ (tl [(2, .v (.one (.box 0 0))), (5, .v (.one (.ep 1 (0 : Int).toNat 0))), (15, .v (.one (.d (.lst (List.map encS vr1))))), (16, .v (.one (.d (.int .i64 (vr1.length : Int))))), (17, .v (.one (.d (.int .i64 vx)))), (36, .v (.one (.d (.bool vx2))))]) 2

def fleetref2_VersionOf_x2_I (vr1 : List (List UInt8)) (vn : List Int) (vx : Int) (vr4_1 : Int) (vr5_1 : Bool) : St := Mem.st ⟨[(1, ⟨63, 1, List.map (encI .i64) (vn.set vx.toNat vr4_1)⟩)], [(0, [.d (.int .i64 0), .d (.int .i64 0), .d (.int .i64 0)])]⟩ (tl [(2, .v (.one (.box 0 0))), (5, .v (.one (.ep 1 (0 : Int).toNat 0))), (6, .v (.one (.d (.int .i64 vx)))), (8, .v (.one (.d (.bool vr5_1)))), (15, .v (.one (.d (.lst (List.map encS vr1))))), (16, .v (.one (.d (.int .i64 (vr1.length : Int))))), (17, .v (.one (.d (.int .i64 vx))))]) 2

theorem fleetref2_VersionOf_x2_ok (vr1 : List (List UInt8)) (vn : List Int) (vx : Int) (vr4_1 : Int) (vr5_1 : Bool) {r} (hF : fleetref2_VersionOf_x2 vn vx vr4_1 vr5_1 = some r) : Awp prog 0 46 (cL (cR (cR (cR (cL (cL (cR (cR (cL (cL (cR (cL (cR (cR (cR (cR (cB f11))))))))))))))))) (Out 0 fleetref2_VersionOf_x2_k (fleetref2_VersionOf_x2_S vr1 vn vx vr4_1 vr5_1) r) (fleetref2_VersionOf_x2_I vr1 vn vx vr4_1 vr5_1) := by
  unfold fleetref2_VersionOf_x2 at hF
  refine cE hF (fun h8 hF => ?_) fun h8 hF => ?_
  · refine awp_region ?_
    refine aR 1 ?_
    refine aB h8 ?_
    refine aR 6 ?_
    refine aE ?_
    exact oO hF [] [] rfl
  · refine gE hF fun h9 hF => ?_
    refine bE hF fun vy5 h10 hF => ?_
    refine awp_region ?_
    refine aR 1 ?_
    refine aB h8 ?_
    refine aR 2 ?_
    refine aX (x_ixA 1 3 h9) ?_
    refine aX (x_ldE (encI .i64) h10) ?_
    refine aR 2 ?_
    refine aE ?_
    exact oO hF [] [] rfl

def fleetref2_VersionOf_x1_k : (List Int) ⊕ Unit → AEx
  | .inl _ => .exit 0
  | .inr _ => .ret

def fleetref2_VersionOf_x1_S (vr1 : List (List UInt8)) : (List Int) ⊕ Unit → St
  | .inl vn1 => Mem.st ⟨[(1, ⟨63, 1, List.map (encI .i64) vn1⟩)], [(0, [.d (.int .i64 0), .d (.int .i64 0), .d (.int .i64 0)])]⟩ (tl [(2, .v (.one (.box 0 0))), (5, .v (.one (.ep 1 (0 : Int).toNat 0)))]) 2
  | .inr _ => Mem.st ⟨[], [(0, [.d (.int .i64 0), .d (.int .i64 0), .d (.int .i64 0)])]⟩ (tl [(2, .v (.one (.box 0 0))), (3, .v (.one (.d (.int .i64 9))))]) 1

def fleetref2_VersionOf_x1_H (vr1 : List (List UInt8)) : (List Int) × Int → St
  | (vn, vx) => Mem.st ⟨[(1, ⟨63, 1, List.map (encI .i64) vn⟩)], [(0, [.d (.int .i64 0), .d (.int .i64 0), .d (.int .i64 0)])]⟩ (tl [(2, .v (.one (.box 0 0))), (5, .v (.one (.ep 1 (0 : Int).toNat 0))), (15, .v (.one (.d (.lst (List.map encS vr1))))), (16, .v (.one (.d (.int .i64 (vr1.length : Int))))), (17, .v (.one (.d (.int .i64 vx))))]) 2

theorem fleetref2_VersionOf_x1_ok (vr1 : List (List UInt8)) (s : (List Int) × Int) (r : ((List Int) × Int) ⊕ ((List Int) ⊕ Unit)) (hF : fleetref2_VersionOf_x1 vr1 s = some r) : Awp prog 0 46 (cL (cL (cR (cL (cR (cR (cR (cR (cB f11))))))))) (Out 0 (kk fleetref2_VersionOf_x1_k) (SS (fleetref2_VersionOf_x1_H vr1) (fleetref2_VersionOf_x1_S vr1)) r) (fleetref2_VersionOf_x1_H vr1 s) := by
  obtain ⟨vn, vx⟩ := s
  unfold fleetref2_VersionOf_x1 at hF
  refine awp_seq ?_
  refine awp_region ?_
  refine aR 1 ?_
  refine aE ?_
  refine awp_seq ?_
  refine cE hF (fun h3 hF => ?_) fun h3 hF => ?_
  · refine awp_true (by kernel_rfl) h3 ?_
    refine awp_skip ?_
    refine awp_seq ?_
    refine awp_block ?_
    refine awp_seq ?_
    refine bE hF fun vy3 h4 hF => ?_
    refine awp_region ?_
    refine aR 1 ?_
    refine aX (x_idx encS h4) ?_
    refine aR 3 ?_
    refine aE ?_
    refine awp_seq ?_
    refine awp_region ?_
    refine aR 1 ?_
    refine aE ?_
    refine awp_seq ?_
    refine bE hF fun x h5 hF => ?_
    obtain ⟨vr4_1, vr5_1⟩ := x
    refine gE hF fun h6 hF => ?_
    refine bE hF fun vy4 h7 hF => ?_
    refine awp_region ?_
    refine aR 2 ?_
    refine aC (fleetref2_Number_ok h5) [] [] [] ?_
    refine aR 3 ?_
    refine aX (x_ixA 1 3 h6) ?_
    refine aX (x_stE (encI .i64) vr4_1 h7) ?_
    refine aR 1 ?_
    refine aE ?_
    refine awp_seq ?_
    refine awp_to (st' := fleetref2_VersionOf_x2_I vr1 vn vx vr4_1 vr5_1) (oT [] []) ?_
    refine bE hF fun vx2_1 h11 hF => ?_
    refine awp_sub (fleetref2_VersionOf_x2_ok vr1 vn vx vr4_1 vr5_1 h11) ?_
    refine cE hF (fun h12 hF => ?_) fun h12 hF => ?_
    · refine awp_true (by kernel_rfl) h12 ?_
      refine awp_seq ?_
      refine awp_region ?_
      refine aR 3 ?_
      refine aE ?_
      refine awp_ret ?_
      exact oO hF [] [] rfl
    · refine awp_false (by kernel_rfl) h12 ?_
      refine awp_skip ?_
      refine awp_region ?_
      refine aR 2 ?_
      refine aE ?_
      exact oO hF [] [] rfl
  · refine awp_false (by kernel_rfl) h3 ?_
    refine awp_exit ?_
    exact oO hF [] [] rfl

def fleetref2_VersionOf_R (qs : List UInt8) (r : api_Version × Int) : TV × Mem := (.tup [.agg [.d (.int .i64 r.1.Major), .d (.int .i64 r.1.Minor), .d (.int .i64 r.1.Patch)], .one (.d (.int .i64 r.2))], ⟨[], []⟩)

theorem fleetref2_VersionOf_ok {qs : List UInt8} {r} (hF : fleetref2_VersionOf qs = some r) : Holds prog 11 [.v (.one (.d (.str qs)))] ⟨[], []⟩ (Is (fleetref2_VersionOf_R qs r)) := by
  unfold fleetref2_VersionOf at hF
  refine holds_of_awp hΓ (fn := f11) (c := cB f11) (A := 0) (nx := 0) (by kernel_rfl) (by kernel_rfl) (by kernel_rfl) (by kernel_rfl) (by kernel_rfl) (by kernel_rfl) (lowc_of (by kernel_rfl)) ?_
  show Awp prog 0 46 (cB f11) _ _
  refine awp_seq ?_
  refine awp_region ?_
  refine aR 2 ?_
  refine aE ?_
  refine awp_seq ?_
  refine bE hF fun vr1 h1 hF => ?_
  refine awp_region ?_
  refine aR 1 ?_
  refine aC (strings_Split_ok h1) [] [] [] ?_
  refine aR 1 ?_
  refine aE ?_
  refine awp_to (oT (m := ⟨[], [(0, [.d (.int .i64 0), .d (.int .i64 0), .d (.int .i64 0)])]⟩) (ts := [(2, .v (.one (.box 0 0))), (4, .v (.one (.d (.lst (List.map encS vr1)))))]) (nx := 1) [] []) ?_
  refine awp_seq ?_
  refine awp_seq ?_
  refine awp_region ?_
  refine aR 1 ?_
  refine aL encS vr1 ?_
  refine aR 1 ?_
  refine aE ?_
  refine cE hF (fun h2 hF => ?_) fun h2 hF => ?_
  · refine awp_true (by kernel_rfl) h2 ?_
    refine awp_seq ?_
    refine awp_region ?_
    refine aR 3 ?_
    refine aE ?_
    refine awp_ret ?_
    exact oF hF [] []
  · refine awp_false (by kernel_rfl) h2 ?_
    refine awp_skip ?_
    refine awp_seq ?_
    refine awp_region ?_
    refine aAr (encI .i64) ([0, 0, 0] : List Int) rfl ?_
    refine aE ?_
    refine awp_seq ?_
    refine awp_seq ?_
    refine awp_region ?_
    refine aR 1 ?_
    refine aL encS vr1 ?_
    refine aR 1 ?_
    refine aE ?_
    refine awp_block ?_
    refine awp_to (st' := fleetref2_VersionOf_x1_H vr1 (([0, 0, 0] : List Int), 0)) (oT [(1, 3001)] []) ?_
    refine bE hF fun x h13 hF => ?_
    rcases x with vn1_1 | _
    · refine awp_sub (awp_loop' (fleetref2_VersionOf_x1_H vr1) fleetref2_VersionOf_x1_k (fleetref2_VersionOf_x1_S vr1) (by intro x; rcases x with x | x <;> exact fun h => nomatch h) h13 (fleetref2_VersionOf_x1_ok vr1)) ?_
      refine awp_seq ?_
      refine bE hF fun vy6 h14 hF => ?_
      refine bE hF fun vy7 h15 hF => ?_
      refine bE hF fun vy8 h16 hF => ?_
      refine awp_region ?_
      refine aR 1 ?_
      refine aX (x_ldE (encI .i64) h14) ?_
      refine aR 1 ?_
      refine aX (x_ldE (encI .i64) h15) ?_
      refine aR 1 ?_
      refine aX (x_ldE (encI .i64) h16) ?_
      refine aR 3 ?_
      refine aE ?_
      refine awp_ret ?_
      exact oF hF [] []
    · refine awp_sub (awp_loop' (fleetref2_VersionOf_x1_H vr1) fleetref2_VersionOf_x1_k (fleetref2_VersionOf_x1_S vr1) (by intro x; rcases x with x | x <;> exact fun h => nomatch h) h13 (fleetref2_VersionOf_x1_ok vr1)) ?_
      exact oF hF [] []

/-! ### cmp.Or[int] -/
def cmp_Or_int_x1_k : Unit ⊕ Int → AEx
  | .inl _ => .exit 0
  | .inr _ => .ret

def cmp_Or_int_x1_S (qvals : List Int) : Unit ⊕ Int → St
  | .inl _ => Mem.st ⟨[], []⟩ (tl [(3, .v (.one (.d (.int .i64 0))))]) 0
  | .inr vx1 => Mem.st ⟨[], []⟩ (tl [(2, .v (.one (.d (.int .i64 vx1))))]) 0

def cmp_Or_int_x1_H (qvals : List Int) : Int → St
  | vx => Mem.st ⟨[], []⟩ (tl [(3, .v (.one (.d (.int .i64 0)))), (6, .v (.one (.d (.lst (List.map (encI .i64) qvals))))), (7, .v (.one (.d (.int .i64 (qvals.length : Int))))), (8, .v (.one (.d (.int .i64 vx))))]) 0

theorem cmp_Or_int_x1_ok (qvals : List Int) (vx : Int) (r : (Int) ⊕ (Unit ⊕ Int)) (hF : cmp_Or_int_x1 qvals vx = some r) : Awp prog 0 18 (cL (cL (cR (cL (cR (cR (cB f33))))))) (Out 0 (kk cmp_Or_int_x1_k) (SS (cmp_Or_int_x1_H qvals) (cmp_Or_int_x1_S qvals)) r) (cmp_Or_int_x1_H qvals vx) := by
  unfold cmp_Or_int_x1 at hF
  refine awp_seq ?_
  refine awp_region ?_
  refine aR 1 ?_
  refine aE ?_
  refine awp_seq ?_
  refine cE hF (fun h1 hF => ?_) fun h1 hF => ?_
  · refine awp_true (by kernel_rfl) h1 ?_
    refine awp_skip ?_
    refine awp_seq ?_
    refine awp_block ?_
    refine awp_seq ?_
    refine bE hF fun vy1 h2 hF => ?_
    refine awp_region ?_
    refine aX (x_idx (encI .i64) h2) ?_
    refine aR 2 ?_
    refine aE ?_
    refine awp_seq ?_
    refine awp_region ?_
    refine aR 3 ?_
    refine aE ?_
    refine cE hF (fun h3 hF => ?_) fun h3 hF => ?_
    · refine awp_true (by kernel_rfl) h3 ?_
      refine awp_seq ?_
      refine awp_region ?_
      refine aR 2 ?_
      refine aE ?_
      refine awp_ret ?_
      exact oO hF [] [] rfl
    · refine awp_false (by kernel_rfl) h3 ?_
      refine awp_skip ?_
      refine awp_region ?_
      refine aR 2 ?_
      refine aE ?_
      exact oO hF [] [] rfl
  · refine awp_false (by kernel_rfl) h1 ?_
    refine awp_exit ?_
    exact oO hF [] [] rfl

def cmp_Or_int_R (qvals : List Int) (r : Int) : TV × Mem := (.v (.one (.d (.int .i64 r))), ⟨[], []⟩)

theorem cmp_Or_int_ok {qvals : List Int} {r} (hF : cmp_Or_int qvals = some r) : Holds prog 33 [.v (.one (.d (.lst (List.map (encI .i64) qvals))))] ⟨[], []⟩ (Is (cmp_Or_int_R qvals r)) := by
  unfold cmp_Or_int at hF
  refine holds_of_awp hΓ (fn := f33) (c := cB f33) (A := 0) (nx := 0) (by kernel_rfl) (by kernel_rfl) (by kernel_rfl) (by kernel_rfl) (by kernel_rfl) (by kernel_rfl) (lowc_of (by kernel_rfl)) ?_
  show Awp prog 0 18 (cB f33) _ _
  refine awp_seq ?_
  refine awp_region ?_
  refine aR 1 ?_
  refine aE ?_
  refine awp_seq ?_
  refine awp_region ?_
  refine aR 1 ?_
  refine aE ?_
  refine awp_seq ?_
  refine awp_seq ?_
  refine awp_region ?_
  refine aR 1 ?_
  refine aL (encI .i64) qvals ?_
  refine aR 1 ?_
  refine aE ?_
  refine awp_block ?_
  refine awp_to (st' := cmp_Or_int_x1_H qvals 0) (oT [] []) ?_
  refine bE hF fun x h4 hF => ?_
  rcases x with _ | vx1_1
  · refine awp_sub (awp_loop' (cmp_Or_int_x1_H qvals) cmp_Or_int_x1_k (cmp_Or_int_x1_S qvals) (by intro x; rcases x with x | x <;> exact fun h => nomatch h) h4 (cmp_Or_int_x1_ok qvals)) ?_
    refine awp_seq ?_
    refine awp_region ?_
    refine aR 2 ?_
    refine aE ?_
    refine awp_ret ?_
    exact oF hF [] []
  · refine awp_sub (awp_loop' (cmp_Or_int_x1_H qvals) cmp_Or_int_x1_k (cmp_Or_int_x1_S qvals) (by intro x; rcases x with x | x <;> exact fun h => nomatch h) h4 (cmp_Or_int_x1_ok qvals)) ?_
    exact oF hF [] []

/-! ### beaconfleet/campaign.Compare -/
def campaign_Compare_R (qa : api_Version) (qb : api_Version) (r : Int) : TV × Mem := (.v (.one (.d (.int .i64 r))), ⟨[], []⟩)

theorem campaign_Compare_ok {qa : api_Version} {qb : api_Version} {r} (hF : campaign_Compare qa qb = some r) : Holds prog 12 [.v (.agg [.d (.int .i64 qa.Major), .d (.int .i64 qa.Minor), .d (.int .i64 qa.Patch)]), .v (.agg [.d (.int .i64 qb.Major), .d (.int .i64 qb.Minor), .d (.int .i64 qb.Patch)])] ⟨[], []⟩ (Is (campaign_Compare_R qa qb r)) := by
  unfold campaign_Compare at hF
  refine holds_of_awp hΓ (fn := f12) (c := cB f12) (A := 0) (nx := 0) (by kernel_rfl) (by kernel_rfl) (by kernel_rfl) (by kernel_rfl) (by kernel_rfl) (by kernel_rfl) (lowc_of (by kernel_rfl)) ?_
  show Awp prog 0 22 (cB f12) _ _
  refine awp_seq ?_
  refine awp_region ?_
  refine aR 3 ?_
  refine aE ?_
  refine awp_seq ?_
  refine bE hF fun vr h1 hF => ?_
  refine bE hF fun vr1 h2 hF => ?_
  refine bE hF fun vr2 h3 hF => ?_
  refine bE hF fun vr3 h4 hF => ?_
  refine aD ?_
  refine dR 4 ?_
  refine dC (cmp_Compare_int_ok h1) [] [] [] ?_
  refine dR 4 ?_
  refine dC (cmp_Compare_int_ok h2) [] [] [] ?_
  refine dR 4 ?_
  refine dC (cmp_Compare_int_ok h3) [] [] [] ?_
  refine dR 1 ?_
  refine dC (cmp_Or_int_ok h4) [] [] [18000] ?_
  refine dR 1 ?_
  refine dE ?_
  refine awp_ret ?_
  exact oF hF [] []

end Go.Eng
