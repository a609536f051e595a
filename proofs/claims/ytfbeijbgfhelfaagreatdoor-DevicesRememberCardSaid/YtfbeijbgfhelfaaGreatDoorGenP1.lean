/-
The code of the Go functions that the law DevicesRemember reaches does what the plain functions say, part 1.
-/
import Derived.Test.YtfbeijbgfhelfaaGreatDoorGenF

import Derived.Test.YtfbeijbgfhelfaaGreatDoorEng9

import Derived.Test.YtfbeijbgfhelfaaGreatDoorGenS

import Derived.Test.YtfbeijbgfhelfaaGreatDoorProg

import Derived.KernelRfl

namespace Go.Eng

open Go Go.Proofs.Tryz

set_option linter.unusedVariables false

set_option maxRecDepth 20000

set_option maxHeartbeats 0

def ti2 : TI := ⟨1, 8, [.d (.int .i64 0)], false, .int .i64⟩

def ti3 : TI := ⟨1, 8, [.d (.int .i64 0)], false, .int .i64⟩

def ti4 : TI := ⟨1, 1, [.d (.bool false)], false, .bool⟩

def ti5 : TI := ⟨1, 1, [.d (.int .u8 0)], false, .int .u8⟩

def ti9 : TI := ⟨1, 16, [.d (.str [])], false, .str⟩

def ti21 : TI := ⟨1, 4, [.d (.int .i32 0)], false, .int .i32⟩

def ti22 : TI := ⟨1, 24, [.nil], false, .slice 3⟩

def ti25 : TI := ⟨2, 32, [.nil, .d (.int .i64 0)], true, .struct [(0, 22), (1, 3)]⟩

def ti27 : TI := ⟨1, 8, [.nilp], false, .ptr⟩

def ti28 : TI := ⟨1, 8, [.d (.int .i64 0)], false, .int .i64⟩

def ti34 : TI := ⟨1, 24, [.nil], false, .slice 40⟩

def ti36 : TI := ⟨3, 40, [.d (.int .i64 0), .nil, .d (.int .i64 0)], true, .struct [(0, 3), (1, 34), (2, 3)]⟩

def ti40 : TI := ⟨6, 72, [.d (.str []), .d (.str []), .d (.str []), .d (.int .i64 0), .d (.int .i64 0), .d (.int .i64 0)], true, .struct [(0, 9), (1, 9), (2, 9), (3, 3), (4, 3), (5, 3)]⟩

def ti45 : TI := ⟨1, 24, [.nil], false, .slice 9⟩

def ti49 : TI := ⟨4, 32, [.d (.int .i64 0), .d (.int .i64 0), .d (.int .i64 0), .d (.int .i64 0)], true, .struct [(0, 3), (1, 3), (2, 3), (3, 3)]⟩

def ti51 : TI := ⟨1, 8, [.nilp], false, .ptr⟩

def ti56 : TI := ⟨1, 24, [.nil], false, .slice 65⟩

def ti65 : TI := ⟨9, 96, [.d (.str []), .d (.str []), .d (.str []), .d (.int .i64 0), .d (.int .i64 0), .d (.int .i64 0), .d (.int .i64 0), .d (.int .i64 0), .d (.int .i64 0)], true, .struct [(0, 40), (6, 3), (7, 3), (8, 3)]⟩

def ti75 : TI := ⟨1, 24, [.nil], false, .slice 152⟩

def ti77 : TI := ⟨2, 48, [.nil, .nil], true, .struct [(0, 75), (1, 75)]⟩

def ti80 : TI := ⟨3, 32, [.d (.int .i64 0), .d (.str []), .d (.int .i64 0)], true, .struct [(0, 3), (1, 9), (2, 3)]⟩

def ti82 : TI := ⟨1, 24, [.nil], false, .slice 92⟩

def ti90 : TI := ⟨4, 40, [.d (.int .i64 0), .d (.bool false), .d (.int .i64 0), .d (.str [])], true, .struct [(0, 3), (1, 4), (2, 3), (3, 9)]⟩

def ti92 : TI := ⟨9, 96, [.d (.str []), .d (.int .i64 0), .d (.bool false), .d (.int .i64 0), .d (.str []), .d (.int .i64 0), .d (.bool false), .d (.int .i64 0), .d (.str [])], true, .struct [(0, 9), (1, 90), (5, 90)]⟩

def ti109 : TI := ⟨1, 24, [.nil], false, .slice 117⟩

def ti111 : TI := ⟨3, 40, [.d (.int .i64 0), .nil, .d (.int .i64 0)], true, .struct [(0, 3), (1, 109), (2, 3)]⟩

def ti117 : TI := ⟨2, 24, [.d (.str []), .d (.int .i64 0)], true, .struct [(0, 9), (1, 3)]⟩

def ti124 : TI := ⟨1, 8, [.nilm], false, .map 9 65⟩

def ti126 : TI := ⟨6, 48, [.d (.int .i64 0), .d (.int .i64 0), .d (.int .i64 0), .d (.int .i64 0), .nilm, .d (.int .i64 0)], true, .struct [(0, 49), (4, 124), (5, 3)]⟩

def ti145 : TI := ⟨1, 8, [.d (.int .u64 0)], false, .int .u64⟩

def ti147 : TI := ⟨1, 24, [.nil], false, .slice 150⟩

def ti150 : TI := ⟨5, 56, [.d (.str []), .d (.int .i64 0), .d (.bool false), .d (.int .i64 0), .d (.str [])], true, .struct [(0, 9), (1, 90)]⟩

def ti152 : TI := ⟨8, 88, [.d (.str []), .d (.int .i64 0), .d (.bool false), .d (.int .i64 0), .d (.str []), .d (.int .i64 0), .d (.str []), .d (.int .i64 0)], true, .struct [(0, 150), (5, 80)]⟩

def ti154 : TI := ⟨1, 8, [.undef], false, .other⟩

def ti162 : TI := ⟨1, 8, [.nilm], false, .map 9 90⟩

def ti174 : TI := ⟨1, 24, [.nil], false, .slice 28⟩

def ti179 : TI := ⟨1, 24, [.nil], false, .slice 5⟩

def ti183 : TI := ⟨4, 48, [.d (.str []), .d (.str []), .d (.int .i64 0), .d (.int .i64 0)], true, .struct [(0, 9), (1, 9), (2, 3), (3, 3)]⟩

def ti184 : TI := ⟨1, 24, [.nil], false, .slice 183⟩

def ti186 : TI := ⟨3, 24, [.d (.int .i64 0), .d (.int .i64 0), .d (.int .i64 0)], true, .struct [(0, 3), (1, 3), (2, 3)]⟩

def ti192 : TI := ⟨2, 16, [.d (.int .i64 0), .d (.int .i64 0)], true, .struct [(0, 3), (1, 3)]⟩

def ti205 : TI := ⟨1, 16, [.nili], false, .other⟩

def ti233 : TI := ⟨1, 8, [.d (.int .u64 0)], false, .int .u64⟩

def ti237 : TI := ⟨1, 24, [.nil], false, .slice 147⟩

def ti249 : TI := ⟨1, 8, [.nilm], false, .map 9 152⟩

def ti257 : TI := ⟨1, 24, [.nil], false, .slice 56⟩

def ti290 : TI := ⟨1, 24, [.nil], false, .slice 75⟩

def Γ : Types := [(2, ti2), (3, ti3), (4, ti4), (5, ti5), (9, ti9), (21, ti21), (22, ti22), (25, ti25), (27, ti27), (28, ti28), (34, ti34), (36, ti36), (40, ti40), (45, ti45), (49, ti49), (51, ti51), (56, ti56), (65, ti65), (75, ti75), (77, ti77), (80, ti80), (82, ti82), (90, ti90), (92, ti92), (109, ti109), (111, ti111), (117, ti117), (124, ti124), (126, ti126), (145, ti145), (147, ti147), (150, ti150), (152, ti152), (154, ti154), (162, ti162), (174, ti174), (179, ti179), (183, ti183), (184, ti184), (186, ti186), (192, ti192), (205, ti205), (233, ti233), (237, ti237), (249, ti249), (257, ti257), (290, ti290)]

theorem hΓ : TypesOk prog Γ := typesOk_of (by kernel_rfl)

instance : TOk prog Γ := ⟨hΓ⟩

theorem hm : prog.follows .mixedOrders = true := by kernel_rfl

instance : Mixed prog := ⟨hm⟩

/-! ### beaconfleet/fleetmake.Below -/
def fleetmake_Below_x1_k : Int → AEx
  | _ => .normal

def fleetmake_Below_x1_S (qx : Int) (qn : Int) : Int → St
  | vx => Mem.st ⟨[], []⟩ (tl [(0, .v (.one (.d (.int .i64 vx))))]) 0

def fleetmake_Below_x1_I (qx : Int) (qn : Int) : St := Mem.st ⟨[], []⟩ (tl [(0, .v (.one (.d (.int .i64 (qx.tmod qn))))), (1, .v (.one (.d (.int .i64 qn))))]) 0

theorem fleetmake_Below_x1_ok (qx : Int) (qn : Int) {r} (hF : fleetmake_Below_x1 qx qn = some r) : Awp prog 0 16 (cL (cR (cR (cR (cB f152))))) (Out 0 fleetmake_Below_x1_k (fleetmake_Below_x1_S qx qn) r) (fleetmake_Below_x1_I qx qn) := by
  unfold fleetmake_Below_x1 at hF
  refine awp_seq ?_
  refine awp_region ?_
  refine aR 2 ?_
  refine aE ?_
  refine cE hF (fun h3 hF => ?_) fun h3 hF => ?_
  · refine awp_true (by kernel_rfl) h3 ?_
    refine awp_region ?_
    refine aR 4 ?_
    refine aE ?_
    exact oO hF [] [] rfl
  · refine awp_false (by kernel_rfl) h3 ?_
    refine awp_skip ?_
    exact oO hF [] [] rfl

def fleetmake_Below_R (qx : Int) (qn : Int) (r : Int) : TV × Mem := (.v (.one (.d (.int .i64 r))), ⟨[], []⟩)

theorem fleetmake_Below_ok {qx : Int} {qn : Int} {r} (hF : fleetmake_Below qx qn = some r) : Holds prog 152 [.v (.one (.d (.int .i64 qx))), .v (.one (.d (.int .i64 qn)))] ⟨[], []⟩ (Is (fleetmake_Below_R qx qn r)) := by
  unfold fleetmake_Below at hF
  refine holds_of_awp hΓ (fn := f152) (c := cB f152) (A := 0) (nx := 0) (by kernel_rfl) (by kernel_rfl) (by kernel_rfl) (by kernel_rfl) (by kernel_rfl) (by kernel_rfl) (lowc_of (by kernel_rfl)) ?_
  show Awp prog 0 16 (cB f152) _ _
  refine awp_seq ?_
  refine awp_region ?_
  refine aR 1 ?_
  refine aE ?_
  refine awp_seq ?_
  refine awp_seq ?_
  refine awp_region ?_
  refine aR 2 ?_
  refine aE ?_
  refine cE hF (fun h1 hF => ?_) fun h1 hF => ?_
  · refine awp_true (by kernel_rfl) h1 ?_
    refine awp_seq ?_
    refine awp_region ?_
    refine aR 1 ?_
    refine aE ?_
    refine awp_ret ?_
    exact oF hF [] []
  · refine awp_false (by kernel_rfl) h1 ?_
    refine awp_skip ?_
    refine awp_seq ?_
    refine gE hF fun h2 hF => ?_
    refine awp_region ?_
    refine aR 2 ?_
    refine aX (x_rem h2) ?_
    refine aR 1 ?_
    refine aE ?_
    refine awp_seq ?_
    refine awp_to (st' := fleetmake_Below_x1_I qx qn) (oT [] []) ?_
    refine bE hF fun vx1 h4 hF => ?_
    refine awp_sub (fleetmake_Below_x1_ok qx qn h4) ?_
    refine awp_seq ?_
    refine awp_region ?_
    refine aR 2 ?_
    refine aE ?_
    refine awp_ret ?_
    exact oF hF [] []

/-! ### (*beaconfleet/fleetmake.Stream).Next -/
def fleetmake_Stream_Next_R (qs : fleetmake_Stream) (qn : Int) (r : Int) : TV × Mem := (.v (.one (.d (.int .i64 r))), ⟨[], [(0, [.d (.lst (List.map (encI .i64) qs.L)), .d (.int .i64 (IntKind.wrap .i64 (qs.at_ + 1)))])]⟩)

theorem fleetmake_Stream_Next_ok {qs : fleetmake_Stream} {qn : Int} {r} (hF : fleetmake_Stream_Next qs qn = some r) : Holds prog 54 [.v (.one (.box 0 0)), .v (.one (.d (.int .i64 qn)))] ⟨[], [(0, [.d (.lst (List.map (encI .i64) qs.L)), .d (.int .i64 qs.at_)])]⟩ (Is (fleetmake_Stream_Next_R qs qn r)) := by
  unfold fleetmake_Stream_Next at hF
  refine holds_of_awp hΓ (fn := f54) (c := cB f54) (A := 1) (nx := 1) (by kernel_rfl) (by kernel_rfl) (by kernel_rfl) (by kernel_rfl) (by kernel_rfl) (by kernel_rfl) (lowc_of (by kernel_rfl)) ?_
  show Awp prog 1 64 (cB f54) _ _
  refine awp_seq ?_
  refine awp_region ?_
  refine aR 1 ?_
  refine aE ?_
  refine awp_seq ?_
  refine awp_region ?_
  refine aR 8 ?_
  refine aE ?_
  refine awp_seq ?_
  refine awp_seq ?_
  refine awp_region ?_
  refine aR 4 ?_
  refine aL (encI .i64) qs.L ?_
  refine aR 1 ?_
  refine aE ?_
  refine cE hF (fun h1 hF => ?_) fun h1 hF => ?_
  · refine awp_true (by kernel_rfl) h1 ?_
    refine awp_seq ?_
    refine bE hF fun vr h2 hF => ?_
    refine awp_region ?_
    refine aR 6 ?_
    refine aC (fleetmake_Below_ok h2) [] [] [] ?_
    refine aR 1 ?_
    refine aE ?_
    refine awp_ret ?_
    exact oF hF [] []
  · refine awp_false (by kernel_rfl) h1 ?_
    refine awp_skip ?_
    refine awp_seq ?_
    refine gE hF fun h3 hF => ?_
    refine aD ?_
    refine dR 9 ?_
    refine dL (encI .i64) qs.L ?_
    refine dX (x_rem h3) ?_
    refine dR 1 ?_
    refine dE ?_
    refine awp_seq ?_
    refine aD ?_
    refine dR 9 ?_
    refine dL (encI .i64) qs.L ?_
    refine dX (x_quo h3) ?_
    refine dR 1 ?_
    refine dE ?_
    refine awp_seq ?_
    refine bE hF fun vy h4 hF => ?_
    refine bE hF fun vr1 h5 hF => ?_
    refine bE hF fun vr2 h6 hF => ?_
    refine awp_region ?_
    refine aR 5 ?_
    refine aX (x_idx (encI .i64) h4) ?_
    refine aR 1 ?_
    refine aC (fleetmake_Below_ok h5) [] [] [] ?_
    refine aR 6 ?_
    refine aC (fleetmake_Below_ok h6) [] [] [] ?_
    refine aR 1 ?_
    refine aE ?_
    refine awp_ret ?_
    exact oF hF [] []

/-! ### (*beaconfleet/fleetmake.Stream).Pick -/
def fleetmake_Stream_Pick_o1_R (qs : fleetmake_Stream) (ql : List Int) (r : Int) : TV × Mem := (.v (.one (.d (.int .i64 r))), ⟨[], [(0, [.d (.lst (List.map (encI .i64) qs.L)), .d (.int .i64 (IntKind.wrap .i64 (qs.at_ + 1)))])]⟩)

theorem fleetmake_Stream_Pick_o1_ok {qs : fleetmake_Stream} {ql : List Int} {r} (hF : fleetmake_Stream_Pick_o1 qs ql = some r) : Holds prog 9 [.v (.one (.box 0 0)), .v (.one (.own 1 none))] ⟨[(1, ⟨3, 1, List.map (encI .i64) ql⟩)], [(0, [.d (.lst (List.map (encI .i64) qs.L)), .d (.int .i64 qs.at_)])]⟩ (Is (fleetmake_Stream_Pick_o1_R qs ql r)) := by
  unfold fleetmake_Stream_Pick_o1 at hF
  refine holds_of_awp hΓ (fn := f9) (c := cB f9) (A := 2) (nx := 2) (by kernel_rfl) (by kernel_rfl) (by kernel_rfl) (by kernel_rfl) (by kernel_rfl) (by kernel_rfl) (lowc_of (by kernel_rfl)) ?_
  show Awp prog 2 12 (cB f9) _ _
  refine awp_seq ?_
  refine awp_region ?_
  refine aR 1 ?_
  refine aE ?_
  refine awp_to (oT (m := ⟨[], [(0, [.d (.lst (List.map (encI .i64) qs.L)), .d (.int .i64 qs.at_)])]⟩) (ts := [(0, .v (.one (.box 0 0))), (1, .v (.one (.d (.lst (List.map (encI .i64) ql)))))]) (nx := 2) [] []) ?_
  refine awp_seq ?_
  refine bE hF fun vr3 h1 hF => ?_
  refine bE hF fun vy h2 hF => ?_
  refine awp_region ?_
  refine aR 3 ?_
  refine aL (encI .i64) ql ?_
  refine aC (fleetmake_Stream_Next_ok h1) [] [] [] ?_
  refine aX (x_idx (encI .i64) h2) ?_
  refine aR 2 ?_
  refine aE ?_
  refine awp_ret ?_
  exact oF hF [] []

/-! ### beaconfleet/base.Out -/
def base_Out_x1_k : Bool → AEx
  | _ => .normal

def base_Out_x1_S (qn : Int) (qlow : Int) (qhigh : Int) : Bool → St
  | vx => Mem.st ⟨[], []⟩ (tl [(6, .v (.one (.d (.bool vx))))]) 0

def base_Out_x1_I (qn : Int) (qlow : Int) (qhigh : Int) : St := Mem.st ⟨[], []⟩ (tl [(0, .v (.one (.d (.int .i64 qn)))), (1, .v (.one (.d (.int .i64 qlow)))), (2, .v (.one (.d (.int .i64 qhigh))))]) 0

theorem base_Out_x1_ok (qn : Int) (qlow : Int) (qhigh : Int) {r} (hF : base_Out_x1 qn qlow qhigh = some r) : Awp prog 0 15 (cL (cR (cB f64))) (Out 0 base_Out_x1_k (base_Out_x1_S qn qlow qhigh) r) (base_Out_x1_I qn qlow qhigh) := by
  unfold base_Out_x1 at hF
  refine cE hF (fun h1 hF => ?_) fun h1 hF => ?_
  · refine awp_region ?_
    refine aR 2 ?_
    refine aB h1 ?_
    refine aR 6 ?_
    refine aE ?_
    exact oO hF [] [] rfl
  · refine awp_region ?_
    refine aR 2 ?_
    refine aB h1 ?_
    refine aR 6 ?_
    refine aE ?_
    exact oO hF [] [] rfl

def base_Out_R (qn : Int) (qlow : Int) (qhigh : Int) (r : Bool) : TV × Mem := (.v (.one (.d (.bool r))), ⟨[], []⟩)

theorem base_Out_ok {qn : Int} {qlow : Int} {qhigh : Int} {r} (hF : base_Out qn qlow qhigh = some r) : Holds prog 64 [.v (.one (.d (.int .i64 qn))), .v (.one (.d (.int .i64 qlow))), .v (.one (.d (.int .i64 qhigh)))] ⟨[], []⟩ (Is (base_Out_R qn qlow qhigh r)) := by
  unfold base_Out at hF
  refine holds_of_awp hΓ (fn := f64) (c := cB f64) (A := 0) (nx := 0) (by kernel_rfl) (by kernel_rfl) (by kernel_rfl) (by kernel_rfl) (by kernel_rfl) (by kernel_rfl) (lowc_of (by kernel_rfl)) ?_
  show Awp prog 0 15 (cB f64) _ _
  refine awp_seq ?_
  refine awp_region ?_
  refine aR 1 ?_
  refine aE ?_
  refine awp_seq ?_
  refine awp_to (st' := base_Out_x1_I qn qlow qhigh) (oT [] []) ?_
  refine bE hF fun vx1 h2 hF => ?_
  refine awp_sub (base_Out_x1_ok qn qlow qhigh h2) ?_
  refine awp_ret ?_
  exact oF hF [] []

/-! ### beaconfleet/command.NewDoer -/
def command_NewDoer_R (qremember : Int) : Unit ⊕ Unit → TV × Mem
  | .inl _ => (.tup [.one (.nilp), .one (.d (.int .i64 1))], ⟨[], []⟩)
  | .inr _ => (.tup [.one (.box 0 0), .one (.d (.int .i64 0))], ⟨[], [(0, [.d (.int .i64 qremember), .nil, .d (.int .i64 0)])]⟩)

theorem command_NewDoer_ok {qremember : Int} {r} (hF : command_NewDoer qremember = some r) : Holds prog 10 [.v (.one (.d (.int .i64 qremember)))] ⟨[], []⟩ (Is (command_NewDoer_R qremember r)) := by
  unfold command_NewDoer at hF
  refine holds_of_awp hΓ (fn := f10) (c := cB f10) (A := 0) (nx := 0) (by kernel_rfl) (by kernel_rfl) (by kernel_rfl) (by kernel_rfl) (by kernel_rfl) (by kernel_rfl) (lowc_of (by kernel_rfl)) ?_
  show Awp prog 0 9 (cB f10) _ _
  refine awp_seq ?_
  refine awp_region ?_
  refine aR 2 ?_
  refine aE ?_
  refine awp_seq ?_
  refine awp_seq ?_
  refine bE hF fun vr h1 hF => ?_
  refine awp_region ?_
  refine aR 1 ?_
  refine aC (base_Out_ok h1) [] [] [] ?_
  refine aE ?_
  refine cE hF (fun h2 hF => ?_) fun h2 hF => ?_
  · refine awp_true (by kernel_rfl) h2 ?_
    refine awp_seq ?_
    refine awp_region ?_
    refine aR 2 ?_
    refine aE ?_
    refine awp_ret ?_
    exact oF hF [] []
  · refine awp_false (by kernel_rfl) h2 ?_
    refine awp_skip ?_
    refine awp_seq ?_
    refine awp_region ?_
    refine aR 5 ?_
    refine aE ?_
    refine awp_ret ?_
    exact oF hF [(0, 6000)] []

/-! ### beaconfleet/fleetlaw2.when -/
def fleetlaw2_when_R (qis : Bool) (qe : Int) (r : Int) : TV × Mem := (.v (.one (.d (.int .i64 r))), ⟨[], []⟩)

theorem fleetlaw2_when_ok {qis : Bool} {qe : Int} {r} (hF : fleetlaw2_when qis qe = some r) : Holds prog 11 [.v (.one (.d (.bool qis))), .v (.one (.d (.int .i64 qe)))] ⟨[], []⟩ (Is (fleetlaw2_when_R qis qe r)) := by
  unfold fleetlaw2_when at hF
  refine holds_of_awp hΓ (fn := f11) (c := cB f11) (A := 0) (nx := 0) (by kernel_rfl) (by kernel_rfl) (by kernel_rfl) (by kernel_rfl) (by kernel_rfl) (by kernel_rfl) (lowc_of (by kernel_rfl)) ?_
  show Awp prog 0 7 (cB f11) _ _
  refine awp_seq ?_
  refine awp_region ?_
  refine aR 1 ?_
  refine aE ?_
  refine awp_seq ?_
  refine awp_seq ?_
  refine awp_region ?_
  refine aR 1 ?_
  refine aE ?_
  refine cE hF (fun h1 hF => ?_) fun h1 hF => ?_
  · refine awp_true (by kernel_rfl) h1 ?_
    refine awp_seq ?_
    refine awp_region ?_
    refine aR 2 ?_
    refine aE ?_
    refine awp_ret ?_
    exact oF hF [] []
  · refine awp_false (by kernel_rfl) h1 ?_
    refine awp_skip ?_
    refine awp_seq ?_
    refine awp_region ?_
    refine aR 1 ?_
    refine aE ?_
    refine awp_ret ?_
    exact oF hF [] []

/-! ### beaconfleet/command.CheckPost -/
def command_CheckPost_x1_k : Bool → AEx
  | _ => .normal

def command_CheckPost_x1_S (qp : api_Post) : Bool → St
  | vx => Mem.st ⟨[], []⟩ (tl [(20, .v (.one (.d (.bool vx))))]) 0

def command_CheckPost_x1_I (qp : api_Post) : St := Mem.st ⟨[], [(0, [.d (.int .i64 qp.Room), .d (.int .i64 qp.Timeout), .d (.int .i64 qp.Tries), .d (.int .i64 qp.Kept)])]⟩ (tl [(1, .v (.one (.box 0 0)))]) 1

theorem command_CheckPost_x1_ok (qp : api_Post) {r} (hF : command_CheckPost_x1 qp = some r) : Awp prog 0 21 (cL (cL (cR (cB f34)))) (Out 0 command_CheckPost_x1_k (command_CheckPost_x1_S qp) r) (command_CheckPost_x1_I qp) := by
  unfold command_CheckPost_x1 at hF
  refine bE hF fun vr h1 hF => ?_
  refine cE hF (fun h2 hF => ?_) fun h2 hF => ?_
  · refine awp_region ?_
    refine aR 2 ?_
    refine aCb (base_Out_ok h1) [] [] [] h2 ?_
    refine aR 15 ?_
    refine aE ?_
    exact oO hF [] [] rfl
  · refine bE hF fun vr1 h3 hF => ?_
    refine cE hF (fun h4 hF => ?_) fun h4 hF => ?_
    · refine awp_region ?_
      refine aR 2 ?_
      refine aCb (base_Out_ok h1) [] [] [] h2 ?_
      refine aR 3 ?_
      refine aCb (base_Out_ok h3) [] [] [] h4 ?_
      refine aR 11 ?_
      refine aE ?_
      exact oO hF [] [] rfl
    · refine bE hF fun vr2 h5 hF => ?_
      refine cE hF (fun h6 hF => ?_) fun h6 hF => ?_
      · refine awp_region ?_
        refine aR 2 ?_
        refine aCb (base_Out_ok h1) [] [] [] h2 ?_
        refine aR 3 ?_
        refine aCb (base_Out_ok h3) [] [] [] h4 ?_
        refine aR 4 ?_
        refine aCb (base_Out_ok h5) [] [] [] h6 ?_
        refine aR 6 ?_
        refine aE ?_
        exact oO hF [] [] rfl
      · refine bE hF fun vr3 h7 hF => ?_
        refine awp_region ?_
        refine aR 2 ?_
        refine aCb (base_Out_ok h1) [] [] [] h2 ?_
        refine aR 3 ?_
        refine aCb (base_Out_ok h3) [] [] [] h4 ?_
        refine aR 4 ?_
        refine aCb (base_Out_ok h5) [] [] [] h6 ?_
        refine aR 4 ?_
        refine aC (base_Out_ok h7) [] [] [] ?_
        refine aR 1 ?_
        refine aE ?_
        exact oO hF [] [] rfl

def command_CheckPost_R (qp : api_Post) (r : Int) : TV × Mem := (.v (.one (.d (.int .i64 r))), ⟨[], []⟩)

theorem command_CheckPost_ok {qp : api_Post} {r} (hF : command_CheckPost qp = some r) : Holds prog 34 [.v (.agg [.d (.int .i64 qp.Room), .d (.int .i64 qp.Timeout), .d (.int .i64 qp.Tries), .d (.int .i64 qp.Kept)])] ⟨[], []⟩ (Is (command_CheckPost_R qp r)) := by
  unfold command_CheckPost at hF
  refine holds_of_awp hΓ (fn := f34) (c := cB f34) (A := 0) (nx := 0) (by kernel_rfl) (by kernel_rfl) (by kernel_rfl) (by kernel_rfl) (by kernel_rfl) (by kernel_rfl) (lowc_of (by kernel_rfl)) ?_
  show Awp prog 0 21 (cB f34) _ _
  refine awp_seq ?_
  refine awp_region ?_
  refine aR 2 ?_
  refine aE ?_
  refine awp_seq ?_
  refine awp_seq ?_
  refine awp_to (st' := command_CheckPost_x1_I qp) (oT [] []) ?_
  refine bE hF fun vx1 h8 hF => ?_
  refine awp_sub (command_CheckPost_x1_ok qp h8) ?_
  refine cE hF (fun h9 hF => ?_) fun h9 hF => ?_
  · refine awp_true (by kernel_rfl) h9 ?_
    refine awp_seq ?_
    refine awp_region ?_
    refine aR 1 ?_
    refine aE ?_
    refine awp_ret ?_
    exact oF hF [] []
  · refine awp_false (by kernel_rfl) h9 ?_
    refine awp_skip ?_
    refine awp_seq ?_
    refine awp_region ?_
    refine aR 1 ?_
    refine aE ?_
    refine awp_ret ?_
    exact oF hF [] []

/-! ### beaconfleet/command.New -/
def command_New_R (qp : api_Post) : Int ⊕ Unit → TV × Mem
  | .inl vr => (.tup [.one (.nilp), .one (.d (.int .i64 vr))], ⟨[], []⟩)
  | .inr _ => (.tup [.one (.box 0 0), .one (.d (.int .i64 0))], ⟨[], [(0, [.d (.int .i64 qp.Room), .d (.int .i64 qp.Timeout), .d (.int .i64 qp.Tries), .d (.int .i64 qp.Kept), .mapp 1, .d (.int .i64 0)]), (1, [.mapc .str true (List.map (encM D.str api_Note.enc) ([] : List (List UInt8 × api_Note)))])]⟩)

theorem command_New_ok {qp : api_Post} {r} (hF : command_New qp = some r) : Holds prog 22 [.v (.agg [.d (.int .i64 qp.Room), .d (.int .i64 qp.Timeout), .d (.int .i64 qp.Tries), .d (.int .i64 qp.Kept)])] ⟨[], []⟩ (Is (command_New_R qp r)) := by
  unfold command_New at hF
  refine holds_of_awp hΓ (fn := f22) (c := cB f22) (A := 0) (nx := 0) (by kernel_rfl) (by kernel_rfl) (by kernel_rfl) (by kernel_rfl) (by kernel_rfl) (by kernel_rfl) (lowc_of (by kernel_rfl)) ?_
  show Awp prog 0 14 (cB f22) _ _
  refine awp_seq ?_
  refine awp_region ?_
  refine aR 3 ?_
  refine aE ?_
  refine awp_seq ?_
  refine awp_seq ?_
  refine bE hF fun vr4 h1 hF => ?_
  refine awp_region ?_
  refine aR 1 ?_
  refine aC (command_CheckPost_ok h1) [] [] [] ?_
  refine aR 1 ?_
  refine aE ?_
  refine awp_seq ?_
  refine awp_region ?_
  refine aR 2 ?_
  refine aE ?_
  refine cE hF (fun h2 hF => ?_) fun h2 hF => ?_
  · refine awp_true (by kernel_rfl) h2 ?_
    refine awp_seq ?_
    refine awp_region ?_
    refine aR 3 ?_
    refine aE ?_
    refine awp_ret ?_
    exact oF hF [] []
  · refine awp_false (by kernel_rfl) h2 ?_
    refine awp_skip ?_
    refine awp_seq ?_
    refine awp_region ?_
    refine aR 1 ?_
    refine aX (x_map .str true (κ := List UInt8) (β := api_Note) D.str api_Note.enc) ?_
    refine aR 4 ?_
    refine aE ?_
    refine awp_ret ?_
    exact oF hF [(0, 11000), (1, 9000)] []

/-! ### beaconfleet/base.Key -/
def base_Key_x1_k : Bool → AEx
  | _ => .normal

def base_Key_x1_S (qs : List UInt8) : Bool → St
  | vx => Mem.st ⟨[], []⟩ (tl [(0, .v (.one (.d (.str qs)))), (21, .v (.one (.d (.bool vx))))]) 0

def base_Key_x1_I (qs : List UInt8) : St := Mem.st ⟨[], []⟩ (tl [(0, .v (.one (.d (.str qs))))]) 0

theorem base_Key_x1_ok (qs : List UInt8) {r} (hF : base_Key_x1 qs = some r) : Awp prog 0 54 (cL (cL (cR (cB f106)))) (Out 0 base_Key_x1_k (base_Key_x1_S qs) r) (base_Key_x1_I qs) := by
  unfold base_Key_x1 at hF
  refine cE hF (fun h1 hF => ?_) fun h1 hF => ?_
  · refine awp_region ?_
    refine aR 1 ?_
    refine aB h1 ?_
    refine aR 15 ?_
    refine aE ?_
    exact oO hF [] [] rfl
  · refine cE hF (fun h2 hF => ?_) fun h2 hF => ?_
    · refine awp_region ?_
      refine aR 1 ?_
      refine aB h1 ?_
      refine aR 3 ?_
      refine aB h2 ?_
      refine aR 11 ?_
      refine aE ?_
      exact oO hF [] [] rfl
    · refine bE hF fun vc h3 hF => ?_
      refine cE hF (fun h4 hF => ?_) fun h4 hF => ?_
      · refine awp_region ?_
        refine aR 1 ?_
        refine aB h1 ?_
        refine aR 3 ?_
        refine aB h2 ?_
        refine aR 3 ?_
        refine aX (x_idxS h3) ?_
        refine aB h4 ?_
        refine aR 6 ?_
        refine aE ?_
        exact oO hF [] [] rfl
      · refine awp_region ?_
        refine aR 1 ?_
        refine aB h1 ?_
        refine aR 3 ?_
        refine aB h2 ?_
        refine aR 3 ?_
        refine aX (x_idxS h3) ?_
        refine aB h4 ?_
        refine aR 3 ?_
        refine aX (x_idxS h3) ?_
        refine aR 2 ?_
        refine aE ?_
        exact oO hF [] [] rfl

def base_Key_x3_k : Bool → AEx
  | _ => .normal

def base_Key_x3_S (qs : List UInt8) (vx2 : Int) (vc2 : UInt8) : Bool → St
  | vx4 => Mem.st ⟨[], []⟩ (tl [(0, .v (.one (.d (.str qs)))), (23, .v (.one (.d (.int .i64 (qs.length : Int))))), (24, .v (.one (.d (.int .i64 vx2)))), (52, .v (.one (.d (.bool vx4))))]) 0

def base_Key_x3_I (qs : List UInt8) (vx2 : Int) (vc2 : UInt8) : St := Mem.st ⟨[], []⟩ (tl [(0, .v (.one (.d (.str qs)))), (4, .v (.one (.d (.int .u8 (vc2.toNat : Int))))), (23, .v (.one (.d (.int .i64 (qs.length : Int))))), (24, .v (.one (.d (.int .i64 vx2))))]) 0

theorem base_Key_x3_ok (qs : List UInt8) (vx2 : Int) (vc2 : UInt8) {r} (hF : base_Key_x3 vc2 = some r) : Awp prog 0 54 (cL (cR (cR (cL (cL (cR (cR (cL (cL (cR (cL (cR (cR (cB f106)))))))))))))) (Out 0 base_Key_x3_k (base_Key_x3_S qs vx2 vc2) r) (base_Key_x3_I qs vx2 vc2) := by
  unfold base_Key_x3 at hF
  refine cE hF (fun h9 hF => ?_) fun h9 hF => ?_
  · refine cE hF (fun h10 hF => ?_) fun h10 hF => ?_
    · refine awp_region ?_
      refine aR 1 ?_
      refine aB h9 ?_
      refine aR 2 ?_
      refine aB h10 ?_
      refine aR 18 ?_
      refine aE ?_
      exact oO hF [] [] rfl
    · refine cE hF (fun h11 hF => ?_) fun h11 hF => ?_
      · refine cE hF (fun h12 hF => ?_) fun h12 hF => ?_
        · refine awp_region ?_
          refine aR 1 ?_
          refine aB h9 ?_
          refine aR 2 ?_
          refine aB h10 ?_
          refine aR 3 ?_
          refine aB h11 ?_
          refine aR 2 ?_
          refine aB h12 ?_
          refine aR 11 ?_
          refine aE ?_
          exact oO hF [] [] rfl
        · refine cE hF (fun h13 hF => ?_) fun h13 hF => ?_
          · refine awp_region ?_
            refine aR 1 ?_
            refine aB h9 ?_
            refine aR 2 ?_
            refine aB h10 ?_
            refine aR 3 ?_
            refine aB h11 ?_
            refine aR 2 ?_
            refine aB h12 ?_
            refine aR 4 ?_
            refine aB h13 ?_
            refine aR 6 ?_
            refine aE ?_
            exact oO hF [] [] rfl
          · refine awp_region ?_
            refine aR 1 ?_
            refine aB h9 ?_
            refine aR 2 ?_
            refine aB h10 ?_
            refine aR 3 ?_
            refine aB h11 ?_
            refine aR 2 ?_
            refine aB h12 ?_
            refine aR 4 ?_
            refine aB h13 ?_
            refine aR 6 ?_
            refine aE ?_
            exact oO hF [] [] rfl
      · refine cE hF (fun h14 hF => ?_) fun h14 hF => ?_
        · refine awp_region ?_
          refine aR 1 ?_
          refine aB h9 ?_
          refine aR 2 ?_
          refine aB h10 ?_
          refine aR 3 ?_
          refine aB h11 ?_
          refine aR 7 ?_
          refine aB h14 ?_
          refine aR 6 ?_
          refine aE ?_
          exact oO hF [] [] rfl
        · refine awp_region ?_
          refine aR 1 ?_
          refine aB h9 ?_
          refine aR 2 ?_
          refine aB h10 ?_
          refine aR 3 ?_
          refine aB h11 ?_
          refine aR 7 ?_
          refine aB h14 ?_
          refine aR 6 ?_
          refine aE ?_
          exact oO hF [] [] rfl
  · refine cE hF (fun h15 hF => ?_) fun h15 hF => ?_
    · refine cE hF (fun h16 hF => ?_) fun h16 hF => ?_
      · refine awp_region ?_
        refine aR 1 ?_
        refine aB h9 ?_
        refine aR 6 ?_
        refine aB h15 ?_
        refine aR 2 ?_
        refine aB h16 ?_
        refine aR 11 ?_
        refine aE ?_
        exact oO hF [] [] rfl
      · refine cE hF (fun h17 hF => ?_) fun h17 hF => ?_
        · refine awp_region ?_
          refine aR 1 ?_
          refine aB h9 ?_
          refine aR 6 ?_
          refine aB h15 ?_
          refine aR 2 ?_
          refine aB h16 ?_
          refine aR 4 ?_
          refine aB h17 ?_
          refine aR 6 ?_
          refine aE ?_
          exact oO hF [] [] rfl
        · refine awp_region ?_
          refine aR 1 ?_
          refine aB h9 ?_
          refine aR 6 ?_
          refine aB h15 ?_
          refine aR 2 ?_
          refine aB h16 ?_
          refine aR 4 ?_
          refine aB h17 ?_
          refine aR 6 ?_
          refine aE ?_
          exact oO hF [] [] rfl
    · refine cE hF (fun h18 hF => ?_) fun h18 hF => ?_
      · refine awp_region ?_
        refine aR 1 ?_
        refine aB h9 ?_
        refine aR 6 ?_
        refine aB h15 ?_
        refine aR 7 ?_
        refine aB h18 ?_
        refine aR 6 ?_
        refine aE ?_
        exact oO hF [] [] rfl
      · refine awp_region ?_
        refine aR 1 ?_
        refine aB h9 ?_
        refine aR 6 ?_
        refine aB h15 ?_
        refine aR 7 ?_
        refine aB h18 ?_
        refine aR 6 ?_
        refine aE ?_
        exact oO hF [] [] rfl

def base_Key_x2_k : Unit ⊕ Unit → AEx
  | .inl _ => .exit 0
  | .inr _ => .ret

def base_Key_x2_S (qs : List UInt8) : Unit ⊕ Unit → St
  | .inl _ => Mem.st ⟨[], []⟩ (tl []) 0
  | .inr _ => Mem.st ⟨[], []⟩ (tl [(2, .v (.one (.d (.bool false))))]) 0

def base_Key_x2_H (qs : List UInt8) : Int → St
  | vx2 => Mem.st ⟨[], []⟩ (tl [(0, .v (.one (.d (.str qs)))), (23, .v (.one (.d (.int .i64 (qs.length : Int))))), (24, .v (.one (.d (.int .i64 vx2))))]) 0

theorem base_Key_x2_ok (qs : List UInt8) (vx2 : Int) (r : (Int) ⊕ (Unit ⊕ Unit)) (hF : base_Key_x2 qs vx2 = some r) : Awp prog 0 54 (cL (cL (cR (cL (cR (cR (cB f106))))))) (Out 0 (kk base_Key_x2_k) (SS (base_Key_x2_H qs) (base_Key_x2_S qs)) r) (base_Key_x2_H qs vx2) := by
  unfold base_Key_x2 at hF
  refine awp_seq ?_
  refine awp_region ?_
  refine aR 1 ?_
  refine aE ?_
  refine awp_seq ?_
  refine cE hF (fun h7 hF => ?_) fun h7 hF => ?_
  · refine awp_true (by kernel_rfl) h7 ?_
    refine awp_skip ?_
    refine awp_seq ?_
    refine awp_block ?_
    refine awp_seq ?_
    refine awp_region ?_
    refine aR 2 ?_
    refine aE ?_
    refine awp_seq ?_
    refine bE hF fun vc2 h8 hF => ?_
    refine awp_region ?_
    refine aR 2 ?_
    refine aX (x_idxS h8) ?_
    refine aR 1 ?_
    refine aE ?_
    refine awp_seq ?_
    refine awp_to (st' := base_Key_x3_I qs vx2 vc2) (oT [] []) ?_
    refine bE hF fun vx4_1 h19 hF => ?_
    refine awp_sub (base_Key_x3_ok qs vx2 vc2 h19) ?_
    refine cE hF (fun h20 hF => ?_) fun h20 hF => ?_
    · refine awp_true (by kernel_rfl) h20 ?_
      refine awp_seq ?_
      refine awp_region ?_
      refine aR 1 ?_
      refine aE ?_
      refine awp_ret ?_
      exact oO hF [] [] rfl
    · refine awp_false (by kernel_rfl) h20 ?_
      refine awp_skip ?_
      refine awp_region ?_
      refine aR 2 ?_
      refine aE ?_
      exact oO hF [] [] rfl
  · refine awp_false (by kernel_rfl) h7 ?_
    refine awp_exit ?_
    exact oO hF [] [] rfl

def base_Key_R (qs : List UInt8) (r : Bool) : TV × Mem := (.v (.one (.d (.bool r))), ⟨[], []⟩)

theorem base_Key_ok {qs : List UInt8} {r} (hF : base_Key qs = some r) : Holds prog 106 [.v (.one (.d (.str qs)))] ⟨[], []⟩ (Is (base_Key_R qs r)) := by
  unfold base_Key at hF
  refine holds_of_awp hΓ (fn := f106) (c := cB f106) (A := 0) (nx := 0) (by kernel_rfl) (by kernel_rfl) (by kernel_rfl) (by kernel_rfl) (by kernel_rfl) (by kernel_rfl) (lowc_of (by kernel_rfl)) ?_
  show Awp prog 0 54 (cB f106) _ _
  refine awp_seq ?_
  refine awp_region ?_
  refine aR 1 ?_
  refine aE ?_
  refine awp_seq ?_
  refine awp_seq ?_
  refine awp_to (st' := base_Key_x1_I qs) (oT [] []) ?_
  refine bE hF fun vx1 h5 hF => ?_
  refine awp_sub (base_Key_x1_ok qs h5) ?_
  refine cE hF (fun h6 hF => ?_) fun h6 hF => ?_
  · refine awp_true (by kernel_rfl) h6 ?_
    refine awp_seq ?_
    refine awp_region ?_
    refine aR 1 ?_
    refine aE ?_
    refine awp_ret ?_
    exact oF hF [] []
  · refine awp_false (by kernel_rfl) h6 ?_
    refine awp_skip ?_
    refine awp_seq ?_
    refine awp_seq ?_
    refine awp_region ?_
    refine aR 3 ?_
    refine aE ?_
    refine awp_block ?_
    refine awp_to (st' := base_Key_x2_H qs 0) (oT [] []) ?_
    refine bE hF fun x h21 hF => ?_
    rcases x with _ | _
    · refine awp_sub (awp_loop' (base_Key_x2_H qs) base_Key_x2_k (base_Key_x2_S qs) (by intro x; rcases x with x | x <;> exact fun h => nomatch h) h21 (base_Key_x2_ok qs)) ?_
      refine awp_seq ?_
      refine awp_region ?_
      refine aR 1 ?_
      refine aE ?_
      refine awp_ret ?_
      exact oF hF [] []
    · refine awp_sub (awp_loop' (base_Key_x2_H qs) base_Key_x2_k (base_Key_x2_S qs) (by intro x; rcases x with x | x <;> exact fun h => nomatch h) h21 (base_Key_x2_ok qs)) ?_
      exact oF hF [] []

/-! ### unicode/utf8.ValidString -/
def utf8_ValidString_R (qx : List UInt8) (r : Bool) : TV × Mem := (.v (.one (.d (.bool r))), ⟨[], []⟩)

theorem utf8_ValidString_ok {qx : List UInt8} {r} (hF : utf8_ValidString qx = some r) : Holds prog 190 [.v (.one (.d (.str qx)))] ⟨[], []⟩ (Is (utf8_ValidString_R qx r)) := by
  unfold utf8_ValidString at hF
  refine gE hF fun h1 hF => ?_
  obtain rfl := Option.some.inj hF
  have h2 : qx.length ≤ 9223372036854775807 := by simpa using h1
  refine holds_lib (args := [.str qx]) (tv := .c (.d (.bool (Lib.validD qx)))) ⟨_, cB Go.Proofs.Tryz.f190, Go.Proofs.Tryz.func190, by kernel_rfl, by kernel_rfl⟩ rfl rfl fun w ht => ?_
  refine (Go.Proofs.Any.utf8_ValidString Go.Proofs.Tryz.lays196 ⟨qx.toArray⟩ w (by simpa [ByteArray.size] using h2) (utf8_tabs (ht 1 _ rfl) (ht 2 _ rfl) (by kernel_rfl) (by kernel_rfl))).mono ?_
  rintro e w' ⟨rfl, hb⟩
  exact ⟨rfl, hb⟩

/-! ### beaconfleet/base.Unmarked -/
def base_Unmarked_x2_k : Bool → AEx
  | _ => .normal

def base_Unmarked_x2_S (qs : List UInt8) (vx : Int) : Bool → St
  | vx2 => Mem.st ⟨[], []⟩ (tl [(0, .v (.one (.d (.str qs)))), (5, .v (.one (.d (.int .i64 (qs.length : Int))))), (6, .v (.one (.d (.int .i64 vx)))), (18, .v (.one (.d (.bool vx2))))]) 0

def base_Unmarked_x2_I (qs : List UInt8) (vx : Int) : St := Mem.st ⟨[], []⟩ (tl [(0, .v (.one (.d (.str qs)))), (3, .v (.one (.d (.int .i64 vx)))), (5, .v (.one (.d (.int .i64 (qs.length : Int))))), (6, .v (.one (.d (.int .i64 vx))))]) 0

theorem base_Unmarked_x2_ok (qs : List UInt8) (vx : Int) {r} (hF : base_Unmarked_x2 qs vx = some r) : Awp prog 0 22 (cL (cR (cL (cL (cR (cR (cL (cL (cR (cL (cR (cB f107)))))))))))) (Out 0 base_Unmarked_x2_k (base_Unmarked_x2_S qs vx) r) (base_Unmarked_x2_I qs vx) := by
  unfold base_Unmarked_x2 at hF
  refine bE hF fun vc1 h2 hF => ?_
  refine cE hF (fun h3 hF => ?_) fun h3 hF => ?_
  · refine awp_region ?_
    refine aR 2 ?_
    refine aX (x_idxS h2) ?_
    refine aB h3 ?_
    refine aR 6 ?_
    refine aE ?_
    exact oO hF [] [] rfl
  · refine awp_region ?_
    refine aR 2 ?_
    refine aX (x_idxS h2) ?_
    refine aB h3 ?_
    refine aR 3 ?_
    refine aX (x_idxS h2) ?_
    refine aR 2 ?_
    refine aE ?_
    exact oO hF [] [] rfl

def base_Unmarked_x1_k : Unit ⊕ Unit → AEx
  | .inl _ => .exit 0
  | .inr _ => .ret

def base_Unmarked_x1_S (qs : List UInt8) : Unit ⊕ Unit → St
  | .inl _ => Mem.st ⟨[], []⟩ (tl [(0, .v (.one (.d (.str qs))))]) 0
  | .inr _ => Mem.st ⟨[], []⟩ (tl [(2, .v (.one (.d (.bool false))))]) 0

def base_Unmarked_x1_H (qs : List UInt8) : Int → St
  | vx => Mem.st ⟨[], []⟩ (tl [(0, .v (.one (.d (.str qs)))), (5, .v (.one (.d (.int .i64 (qs.length : Int))))), (6, .v (.one (.d (.int .i64 vx))))]) 0

theorem base_Unmarked_x1_ok (qs : List UInt8) (vx : Int) (r : (Int) ⊕ (Unit ⊕ Unit)) (hF : base_Unmarked_x1 qs vx = some r) : Awp prog 0 22 (cL (cL (cR (cL (cR (cB f107)))))) (Out 0 (kk base_Unmarked_x1_k) (SS (base_Unmarked_x1_H qs) (base_Unmarked_x1_S qs)) r) (base_Unmarked_x1_H qs vx) := by
  unfold base_Unmarked_x1 at hF
  refine awp_seq ?_
  refine awp_region ?_
  refine aR 1 ?_
  refine aE ?_
  refine awp_seq ?_
  refine cE hF (fun h1 hF => ?_) fun h1 hF => ?_
  · refine awp_true (by kernel_rfl) h1 ?_
    refine awp_skip ?_
    refine awp_seq ?_
    refine awp_block ?_
    refine awp_seq ?_
    refine awp_region ?_
    refine aR 2 ?_
    refine aE ?_
    refine awp_seq ?_
    refine awp_to (st' := base_Unmarked_x2_I qs vx) (oT [] []) ?_
    refine bE hF fun vx2_1 h4 hF => ?_
    refine awp_sub (base_Unmarked_x2_ok qs vx h4) ?_
    refine cE hF (fun h5 hF => ?_) fun h5 hF => ?_
    · refine awp_true (by kernel_rfl) h5 ?_
      refine awp_seq ?_
      refine awp_region ?_
      refine aR 1 ?_
      refine aE ?_
      refine awp_ret ?_
      exact oO hF [] [] rfl
    · refine awp_false (by kernel_rfl) h5 ?_
      refine awp_skip ?_
      refine awp_region ?_
      refine aR 2 ?_
      refine aE ?_
      exact oO hF [] [] rfl
  · refine awp_false (by kernel_rfl) h1 ?_
    refine awp_exit ?_
    exact oO hF [] [] rfl

def base_Unmarked_R (qs : List UInt8) (r : Bool) : TV × Mem := (.v (.one (.d (.bool r))), ⟨[], []⟩)

theorem base_Unmarked_ok {qs : List UInt8} {r} (hF : base_Unmarked qs = some r) : Holds prog 107 [.v (.one (.d (.str qs)))] ⟨[], []⟩ (Is (base_Unmarked_R qs r)) := by
  unfold base_Unmarked at hF
  refine holds_of_awp hΓ (fn := f107) (c := cB f107) (A := 0) (nx := 0) (by kernel_rfl) (by kernel_rfl) (by kernel_rfl) (by kernel_rfl) (by kernel_rfl) (by kernel_rfl) (lowc_of (by kernel_rfl)) ?_
  show Awp prog 0 22 (cB f107) _ _
  refine awp_seq ?_
  refine awp_region ?_
  refine aR 1 ?_
  refine aE ?_
  refine awp_seq ?_
  refine awp_seq ?_
  refine awp_region ?_
  refine aR 3 ?_
  refine aE ?_
  refine awp_block ?_
  refine awp_to (st' := base_Unmarked_x1_H qs 0) (oT [] []) ?_
  refine bE hF fun x h6 hF => ?_
  rcases x with _ | _
  · refine awp_sub (awp_loop' (base_Unmarked_x1_H qs) base_Unmarked_x1_k (base_Unmarked_x1_S qs) (by intro x; rcases x with x | x <;> exact fun h => nomatch h) h6 (base_Unmarked_x1_ok qs)) ?_
    refine awp_seq ?_
    refine bE hF fun vr h7 hF => ?_
    refine awp_region ?_
    refine aR 1 ?_
    refine aC (utf8_ValidString_ok h7) [] [] [] ?_
    refine aR 1 ?_
    refine aE ?_
    refine awp_ret ?_
    exact oF hF [] []
  · refine awp_sub (awp_loop' (base_Unmarked_x1_H qs) base_Unmarked_x1_k (base_Unmarked_x1_S qs) (by intro x; rcases x with x | x <;> exact fun h => nomatch h) h6 (base_Unmarked_x1_ok qs)) ?_
    exact oF hF [] []

/-! ### beaconfleet/base.Moment -/
def base_Moment_R (qn : Int) (r : Bool) : TV × Mem := (.v (.one (.d (.bool r))), ⟨[], []⟩)

theorem base_Moment_ok {qn : Int} {r} (hF : base_Moment qn = some r) : Holds prog 69 [.v (.one (.d (.int .i64 qn)))] ⟨[], []⟩ (Is (base_Moment_R qn r)) := by
  unfold base_Moment at hF
  refine holds_of_awp hΓ (fn := f69) (c := cB f69) (A := 0) (nx := 0) (by kernel_rfl) (by kernel_rfl) (by kernel_rfl) (by kernel_rfl) (by kernel_rfl) (by kernel_rfl) (lowc_of (by kernel_rfl)) ?_
  show Awp prog 0 6 (cB f69) _ _
  refine awp_seq ?_
  refine awp_region ?_
  refine aR 1 ?_
  refine aE ?_
  refine awp_seq ?_
  refine bE hF fun vr h1 hF => ?_
  refine awp_region ?_
  refine aR 1 ?_
  refine aC (base_Out_ok h1) [] [] [] ?_
  refine aR 2 ?_
  refine aE ?_
  refine awp_ret ?_
  exact oF hF [] []

/-! ### beaconfleet/command.CheckLetter -/
def command_CheckLetter_x1_k : Bool → AEx
  | _ => .normal

def command_CheckLetter_x1_S (ql : api_Letter) : Bool → St
  | vx => Mem.st ⟨[], [(0, [.d (.str ql.Id), .d (.str ql.Slot), .d (.str ql.Body), .d (.int .i64 ql.Prio), .d (.int .i64 ql.At), .d (.int .i64 ql.Until)])]⟩ (tl [(1, .v (.one (.box 0 0))), (3, .v (.one (.d (.bool vx))))]) 1

def command_CheckLetter_x1_I (ql : api_Letter) : St := Mem.st ⟨[], [(0, [.d (.str ql.Id), .d (.str ql.Slot), .d (.str ql.Body), .d (.int .i64 ql.Prio), .d (.int .i64 ql.At), .d (.int .i64 ql.Until)])]⟩ (tl [(1, .v (.one (.box 0 0)))]) 1

theorem command_CheckLetter_x1_ok (ql : api_Letter) {r} (hF : command_CheckLetter_x1 ql = some r) : Awp prog 0 51 (cL (cL (cL (cR (cB f32))))) (Out 0 command_CheckLetter_x1_k (command_CheckLetter_x1_S ql) r) (command_CheckLetter_x1_I ql) := by
  unfold command_CheckLetter_x1 at hF
  refine bE hF fun vr h1 hF => ?_
  refine cE hF (fun h2 hF => ?_) fun h2 hF => ?_
  · refine awp_region ?_
    refine aR 2 ?_
    refine aC (base_Key_ok h1) [] [] [] ?_
    refine aB h2 ?_
    refine aR 12 ?_
    refine aE ?_
    exact oO hF [] [] rfl
  · refine cE hF (fun h3 hF => ?_) fun h3 hF => ?_
    · refine bE hF fun vr1 h4 hF => ?_
      refine awp_region ?_
      refine aR 2 ?_
      refine aC (base_Key_ok h1) [] [] [] ?_
      refine aB h2 ?_
      refine aR 3 ?_
      refine aB h3 ?_
      refine aR 3 ?_
      refine aC (base_Key_ok h4) [] [] [] ?_
      refine aR 4 ?_
      refine aE ?_
      exact oO hF [] [] rfl
    · refine awp_region ?_
      refine aR 2 ?_
      refine aC (base_Key_ok h1) [] [] [] ?_
      refine aB h2 ?_
      refine aR 3 ?_
      refine aB h3 ?_
      refine aR 8 ?_
      refine aE ?_
      exact oO hF [] [] rfl

def command_CheckLetter_x2_k : Bool → AEx
  | _ => .normal

def command_CheckLetter_x2_S (ql : api_Letter) : Bool → St
  | vx2 => Mem.st ⟨[], []⟩ (tl [(29, .v (.one (.d (.bool vx2))))]) 0

def command_CheckLetter_x2_I (ql : api_Letter) : St := Mem.st ⟨[], [(0, [.d (.str ql.Id), .d (.str ql.Slot), .d (.str ql.Body), .d (.int .i64 ql.Prio), .d (.int .i64 ql.At), .d (.int .i64 ql.Until)])]⟩ (tl [(1, .v (.one (.box 0 0)))]) 1

theorem command_CheckLetter_x2_ok (ql : api_Letter) {r} (hF : command_CheckLetter_x2 ql = some r) : Awp prog 0 51 (cL (cR (cR (cR (cR (cR (cR (cL (cL (cR (cB f32))))))))))) (Out 0 command_CheckLetter_x2_k (command_CheckLetter_x2_S ql) r) (command_CheckLetter_x2_I ql) := by
  unfold command_CheckLetter_x2 at hF
  refine bE hF fun vr2 h10 hF => ?_
  refine cE hF (fun h11 hF => ?_) fun h11 hF => ?_
  · refine awp_region ?_
    refine aR 2 ?_
    refine aCb (base_Out_ok h10) [] [] [] h11 ?_
    refine aR 19 ?_
    refine aE ?_
    exact oO hF [] [] rfl
  · refine bE hF fun vr1_2 h12 hF => ?_
    refine cE hF (fun h13 hF => ?_) fun h13 hF => ?_
    · refine awp_region ?_
      refine aR 2 ?_
      refine aCb (base_Out_ok h10) [] [] [] h11 ?_
      refine aR 3 ?_
      refine aC (base_Moment_ok h12) [] [] [] ?_
      refine aB h13 ?_
      refine aR 14 ?_
      refine aE ?_
      exact oO hF [] [] rfl
    · refine cE hF (fun h14 hF => ?_) fun h14 hF => ?_
      · refine awp_region ?_
        refine aR 2 ?_
        refine aCb (base_Out_ok h10) [] [] [] h11 ?_
        refine aR 3 ?_
        refine aC (base_Moment_ok h12) [] [] [] ?_
        refine aB h13 ?_
        refine aR 6 ?_
        refine aB h14 ?_
        refine aR 7 ?_
        refine aE ?_
        exact oO hF [] [] rfl
      · refine awp_region ?_
        refine aR 2 ?_
        refine aCb (base_Out_ok h10) [] [] [] h11 ?_
        refine aR 3 ?_
        refine aC (base_Moment_ok h12) [] [] [] ?_
        refine aB h13 ?_
        refine aR 6 ?_
        refine aB h14 ?_
        refine aR 7 ?_
        refine aE ?_
        exact oO hF [] [] rfl

def command_CheckLetter_R (ql : api_Letter) (r : Int) : TV × Mem := (.v (.one (.d (.int .i64 r))), ⟨[], []⟩)

theorem command_CheckLetter_ok {ql : api_Letter} {r} (hF : command_CheckLetter ql = some r) : Holds prog 32 [.v (.agg [.d (.str ql.Id), .d (.str ql.Slot), .d (.str ql.Body), .d (.int .i64 ql.Prio), .d (.int .i64 ql.At), .d (.int .i64 ql.Until)])] ⟨[], []⟩ (Is (command_CheckLetter_R ql r)) := by
  unfold command_CheckLetter at hF
  refine holds_of_awp hΓ (fn := f32) (c := cB f32) (A := 0) (nx := 0) (by kernel_rfl) (by kernel_rfl) (by kernel_rfl) (by kernel_rfl) (by kernel_rfl) (by kernel_rfl) (lowc_of (by kernel_rfl)) ?_
  show Awp prog 0 51 (cB f32) _ _
  refine awp_seq ?_
  refine awp_region ?_
  refine aR 2 ?_
  refine aE ?_
  refine awp_seq ?_
  refine awp_block ?_
  refine awp_seq ?_
  refine awp_to (st' := command_CheckLetter_x1_I ql) (oT [] []) ?_
  refine bE hF fun vx1 h5 hF => ?_
  refine awp_sub (command_CheckLetter_x1_ok ql h5) ?_
  refine cE hF (fun h6 hF => ?_) fun h6 hF => ?_
  · refine awp_true (by kernel_rfl) h6 ?_
    refine awp_seq ?_
    refine awp_region ?_
    refine aR 1 ?_
    refine aE ?_
    refine awp_ret ?_
    exact oF hF [] []
  · refine awp_false (by kernel_rfl) h6 ?_
    refine awp_seq ?_
    refine awp_region ?_
    refine aR 5 ?_
    refine aE ?_
    refine cE hF (fun h7 hF => ?_) fun h7 hF => ?_
    · refine awp_true (by kernel_rfl) h7 ?_
      refine awp_seq ?_
      refine awp_region ?_
      refine aR 1 ?_
      refine aE ?_
      refine awp_ret ?_
      exact oF hF [] []
    · refine awp_false (by kernel_rfl) h7 ?_
      refine awp_seq ?_
      refine bE hF fun vr1_1 h8 hF => ?_
      refine awp_region ?_
      refine aR 2 ?_
      refine aC (base_Unmarked_ok h8) [] [] [] ?_
      refine aR 2 ?_
      refine aE ?_
      refine cE hF (fun h9 hF => ?_) fun h9 hF => ?_
      · refine awp_true (by kernel_rfl) h9 ?_
        refine awp_seq ?_
        refine awp_region ?_
        refine aR 1 ?_
        refine aE ?_
        refine awp_ret ?_
        exact oF hF [] []
      · refine awp_false (by kernel_rfl) h9 ?_
        refine awp_seq ?_
        refine awp_to (st' := command_CheckLetter_x2_I ql) (oT [] []) ?_
        refine bE hF fun vx2_1 h15 hF => ?_
        refine awp_sub (command_CheckLetter_x2_ok ql h15) ?_
        refine cE hF (fun h16 hF => ?_) fun h16 hF => ?_
        · refine awp_true (by kernel_rfl) h16 ?_
          refine awp_seq ?_
          refine awp_region ?_
          refine aR 1 ?_
          refine aE ?_
          refine awp_ret ?_
          exact oF hF [] []
        · refine awp_false (by kernel_rfl) h16 ?_
          refine awp_skip ?_
          refine awp_seq ?_
          refine awp_region ?_
          refine aR 1 ?_
          refine aE ?_
          refine awp_ret ?_
          exact oF hF [] []

/-! ### (*beaconfleet/command.Office).timeFault -/
def command_Office_timeFault_R (qo : Int) (qo1 : Int) (qm : List (List UInt8 × api_Note)) (qat : Int) (r : Int) : TV × Mem := (.v (.one (.d (.int .i64 r))), ⟨[], [(0, [.d (.int .i64 qo), .d (.int .i64 qo), .d (.int .i64 qo), .d (.int .i64 qo1), .mapp 1, .d (.int .i64 qo1)]), (1, [.mapc .str true (List.map (encM D.str api_Note.enc) qm)])]⟩)

theorem command_Office_timeFault_ok {qo : Int} {qo1 : Int} {qm : List (List UInt8 × api_Note)} {qat : Int} {r} (hF : command_Office_timeFault qo qo1 qm qat = some r) : Holds prog 91 [.v (.one (.box 0 0)), .v (.one (.d (.int .i64 qat)))] ⟨[], [(0, [.d (.int .i64 qo), .d (.int .i64 qo), .d (.int .i64 qo), .d (.int .i64 qo1), .mapp 1, .d (.int .i64 qo1)]), (1, [.mapc .str true (List.map (encM D.str api_Note.enc) qm)])]⟩ (Is (command_Office_timeFault_R qo qo1 qm qat r)) := by
  unfold command_Office_timeFault at hF
  refine holds_of_awp hΓ (fn := f91) (c := cB f91) (A := 2) (nx := 2) (by kernel_rfl) (by kernel_rfl) (by kernel_rfl) (by kernel_rfl) (by kernel_rfl) (by kernel_rfl) (lowc_of (by kernel_rfl)) ?_
  show Awp prog 2 16 (cB f91) _ _
  refine awp_seq ?_
  refine awp_region ?_
  refine aR 1 ?_
  refine aE ?_
  refine awp_seq ?_
  refine awp_block ?_
  refine awp_seq ?_
  refine bE hF fun vr1 h1 hF => ?_
  refine awp_region ?_
  refine aR 1 ?_
  refine aC (base_Moment_ok h1) [] [] [] ?_
  refine aR 2 ?_
  refine aE ?_
  refine cE hF (fun h2 hF => ?_) fun h2 hF => ?_
  · refine awp_true (by kernel_rfl) h2 ?_
    refine awp_seq ?_
    refine awp_region ?_
    refine aR 1 ?_
    refine aE ?_
    refine awp_ret ?_
    exact oF hF [] []
  · refine awp_false (by kernel_rfl) h2 ?_
    refine awp_seq ?_
    refine awp_region ?_
    refine aR 7 ?_
    refine aE ?_
    refine cE hF (fun h3 hF => ?_) fun h3 hF => ?_
    · refine awp_true (by kernel_rfl) h3 ?_
      refine awp_seq ?_
      refine awp_region ?_
      refine aR 1 ?_
      refine aE ?_
      refine awp_ret ?_
      exact oF hF [] []
    · refine awp_false (by kernel_rfl) h3 ?_
      refine awp_skip ?_
      refine awp_seq ?_
      refine awp_region ?_
      refine aR 1 ?_
      refine aE ?_
      refine awp_ret ?_
      exact oF hF [] []

/-! ### beaconfleet/base.First -/
def base_First_x1_k : Unit ⊕ Int → AEx
  | .inl _ => .exit 0
  | .inr _ => .ret

def base_First_x1_S (ql : List Int) : Unit ⊕ Int → St
  | .inl _ => Mem.st ⟨[], []⟩ (tl []) 0
  | .inr vx1 => Mem.st ⟨[], []⟩ (tl [(2, .v (.one (.d (.int .i64 vx1))))]) 0

def base_First_x1_H (ql : List Int) : Int → St
  | vx => Mem.st ⟨[], []⟩ (tl [(5, .v (.one (.d (.lst (List.map (encI .i64) ql))))), (6, .v (.one (.d (.int .i64 (ql.length : Int))))), (7, .v (.one (.d (.int .i64 vx))))]) 0

theorem base_First_x1_ok (ql : List Int) (vx : Int) (r : (Int) ⊕ (Unit ⊕ Int)) (hF : base_First_x1 ql vx = some r) : Awp prog 0 15 (cL (cL (cR (cL (cR (cB f137)))))) (Out 0 (kk base_First_x1_k) (SS (base_First_x1_H ql) (base_First_x1_S ql)) r) (base_First_x1_H ql vx) := by
  unfold base_First_x1 at hF
  refine awp_seq ?_
  refine awp_region ?_
  refine aR 1 ?_
  refine aE ?_
  refine awp_seq ?_
  refine cE hF (fun h1 hF => ?_) fun h1 hF => ?_
  · refine awp_true (by kernel_rfl) h1 ?_
    refine awp_skip ?_
    refine awp_seq ?_
    refine awp_block ?_
    refine awp_seq ?_
    refine bE hF fun vy1 h2 hF => ?_
    refine awp_region ?_
    refine aX (x_idx (encI .i64) h2) ?_
    refine aR 2 ?_
    refine aE ?_
    refine awp_seq ?_
    refine awp_region ?_
    refine aR 2 ?_
    refine aE ?_
    refine cE hF (fun h3 hF => ?_) fun h3 hF => ?_
    · refine awp_true (by kernel_rfl) h3 ?_
      refine awp_seq ?_
      refine awp_region ?_
      refine aR 2 ?_
      refine aE ?_
      refine awp_ret ?_
      exact oO hF [] [] rfl
    · refine awp_false (by kernel_rfl) h3 ?_
      refine awp_skip ?_
      refine awp_region ?_
      refine aR 2 ?_
      refine aE ?_
      exact oO hF [] [] rfl
  · refine awp_false (by kernel_rfl) h1 ?_
    refine awp_exit ?_
    exact oO hF [] [] rfl

def base_First_R (ql : List Int) (r : Int) : TV × Mem := (.v (.one (.d (.int .i64 r))), ⟨[], []⟩)

theorem base_First_ok {ql : List Int} {r} (hF : base_First ql = some r) : Holds prog 137 [.v (.one (.d (.lst (List.map (encI .i64) ql))))] ⟨[], []⟩ (Is (base_First_R ql r)) := by
  unfold base_First at hF
  refine holds_of_awp hΓ (fn := f137) (c := cB f137) (A := 0) (nx := 0) (by kernel_rfl) (by kernel_rfl) (by kernel_rfl) (by kernel_rfl) (by kernel_rfl) (by kernel_rfl) (lowc_of (by kernel_rfl)) ?_
  show Awp prog 0 15 (cB f137) _ _
  refine awp_seq ?_
  refine awp_region ?_
  refine aR 1 ?_
  refine aE ?_
  refine awp_seq ?_
  refine awp_seq ?_
  refine awp_region ?_
  refine aR 1 ?_
  refine aL (encI .i64) ql ?_
  refine aR 1 ?_
  refine aE ?_
  refine awp_block ?_
  refine awp_to (st' := base_First_x1_H ql 0) (oT [] []) ?_
  refine bE hF fun x h4 hF => ?_
  rcases x with _ | vx1_1
  · refine awp_sub (awp_loop' (base_First_x1_H ql) base_First_x1_k (base_First_x1_S ql) (by intro x; rcases x with x | x <;> exact fun h => nomatch h) h4 (base_First_x1_ok ql)) ?_
    refine awp_seq ?_
    refine awp_region ?_
    refine aR 1 ?_
    refine aE ?_
    refine awp_ret ?_
    exact oF hF [] []
  · refine awp_sub (awp_loop' (base_First_x1_H ql) base_First_x1_k (base_First_x1_S ql) (by intro x; rcases x with x | x <;> exact fun h => nomatch h) h4 (base_First_x1_ok ql)) ?_
    exact oF hF [] []

/-! ### beaconfleet/command.ended -/
def command_ended_R (qstate : Int) (r : Unit) : TV × Mem := (.v (.one (.d (.bool (decide (3 ≤ qstate))))), ⟨[], []⟩)

theorem command_ended_ok {qstate : Int} {r} (hF : command_ended qstate = some r) : Holds prog 177 [.v (.one (.d (.int .i64 qstate)))] ⟨[], []⟩ (Is (command_ended_R qstate r)) := by
  unfold command_ended at hF
  refine holds_of_awp hΓ (fn := f177) (c := cB f177) (A := 0) (nx := 0) (by kernel_rfl) (by kernel_rfl) (by kernel_rfl) (by kernel_rfl) (by kernel_rfl) (by kernel_rfl) (lowc_of (by kernel_rfl)) ?_
  show Awp prog 0 5 (cB f177) _ _
  refine awp_seq ?_
  refine awp_region ?_
  refine aR 1 ?_
  refine aE ?_
  refine awp_seq ?_
  refine awp_region ?_
  refine aR 3 ?_
  refine aE ?_
  refine awp_ret ?_
  exact oF hF [] []

/-! ### (*beaconfleet/command.Office).turn -/
def command_Office_turn_R (qo : Int) (qo1 : Int) (qn : api_Note) (qme0 : List (Nat × List D × List D)) (qcl0 : Nat) (r : Int) : TV × Mem := (.v (.one (.d (.int .i64 r))), ⟨[], [(0, [.d (.int .i64 qo), .d (.int .i64 qo), .d (.int .i64 qo), .d (.int .i64 qo1), .mapp 1, .d (.int .i64 qo1)]), (1, [.mapg .str true qme0 qcl0])]⟩)

theorem command_Office_turn_ok {qo : Int} {qo1 : Int} {qn : api_Note} {qme0 : List (Nat × List D × List D)} {qcl0 : Nat} {r} (hF : command_Office_turn qo qo1 qn = some r) : Holds prog 180 [.v (.one (.box 0 0)), .v (.agg [.d (.str qn.Letter.Id), .d (.str qn.Letter.Slot), .d (.str qn.Letter.Body), .d (.int .i64 qn.Letter.Prio), .d (.int .i64 qn.Letter.At), .d (.int .i64 qn.Letter.Until), .d (.int .i64 qn.State), .d (.int .i64 qn.Tries), .d (.int .i64 qn.Since)])] ⟨[], [(0, [.d (.int .i64 qo), .d (.int .i64 qo), .d (.int .i64 qo), .d (.int .i64 qo1), .mapp 1, .d (.int .i64 qo1)]), (1, [.mapg .str true qme0 qcl0])]⟩ (Is (command_Office_turn_R qo qo1 qn qme0 qcl0 r)) := by
  unfold command_Office_turn at hF
  refine holds_of_awp hΓ (fn := f180) (c := cB f180) (A := 2) (nx := 2) (by kernel_rfl) (by kernel_rfl) (by kernel_rfl) (by kernel_rfl) (by kernel_rfl) (by kernel_rfl) (lowc_of (by kernel_rfl)) ?_
  show Awp prog 2 23 (cB f180) _ _
  refine awp_seq ?_
  refine awp_region ?_
  refine aR 2 ?_
  refine aE ?_
  refine awp_seq ?_
  refine awp_seq ?_
  refine awp_region ?_
  refine aR 3 ?_
  refine aE ?_
  refine cE hF (fun h1 hF => ?_) fun h1 hF => ?_
  · refine awp_true (by kernel_rfl) h1 ?_
    refine awp_seq ?_
    refine aD ?_
    refine dR 13 ?_
    refine dE ?_
    refine awp_ret ?_
    exact oF hF [] []
  · refine awp_false (by kernel_rfl) h1 ?_
    refine awp_skip ?_
    refine awp_seq ?_
    refine awp_region ?_
    refine aR 4 ?_
    refine aE ?_
    refine awp_ret ?_
    exact oF hF [] []

/-! ### (*beaconfleet/command.Office).grown -/
def command_Office_grown_x1_k : api_Note → AEx
  | _ => .exit 0

def command_Office_grown_x1_S (qo : Int) (qo1 : Int) (qat : Int) (qme0 : List (Nat × List D × List D)) (qcl0 : Nat) : api_Note → St
  | vn1 => Mem.st ⟨[], [(0, [.d (.int .i64 qo), .d (.int .i64 qo), .d (.int .i64 qo), .d (.int .i64 qo1), .mapp 1, .d (.int .i64 qo1)]), (1, [.mapg .str true qme0 qcl0]), (2, [.d (.str vn1.Letter.Id), .d (.str vn1.Letter.Slot), .d (.str vn1.Letter.Body), .d (.int .i64 vn1.Letter.Prio), .d (.int .i64 vn1.Letter.At), .d (.int .i64 vn1.Letter.Until), .d (.int .i64 vn1.State), .d (.int .i64 vn1.Tries), .d (.int .i64 vn1.Since)]), (3, [.d (.str ([] : List UInt8)), .d (.str ([] : List UInt8)), .d (.str ([] : List UInt8)), .d (.int .i64 0), .d (.int .i64 0), .d (.int .i64 0), .d (.int .i64 0), .d (.int .i64 0), .d (.int .i64 0)])]⟩ (tl [(4, .v (.one (.box 2 0))), (6, .v (.one (.box 3 0)))]) 4

def command_Office_grown_x1_H (qo : Int) (qo1 : Int) (qat : Int) (qme0 : List (Nat × List D × List D)) (qcl0 : Nat) : api_Note → St
  | vn => Mem.st ⟨[], [(0, [.d (.int .i64 qo), .d (.int .i64 qo), .d (.int .i64 qo), .d (.int .i64 qo1), .mapp 1, .d (.int .i64 qo1)]), (1, [.mapg .str true qme0 qcl0]), (2, [.d (.str vn.Letter.Id), .d (.str vn.Letter.Slot), .d (.str vn.Letter.Body), .d (.int .i64 vn.Letter.Prio), .d (.int .i64 vn.Letter.At), .d (.int .i64 vn.Letter.Until), .d (.int .i64 vn.State), .d (.int .i64 vn.Tries), .d (.int .i64 vn.Since)]), (3, [.d (.str ([] : List UInt8)), .d (.str ([] : List UInt8)), .d (.str ([] : List UInt8)), .d (.int .i64 0), .d (.int .i64 0), .d (.int .i64 0), .d (.int .i64 0), .d (.int .i64 0), .d (.int .i64 0)])]⟩ (tl [(0, .v (.one (.box 0 0))), (2, .v (.one (.d (.int .i64 qat)))), (4, .v (.one (.box 2 0))), (6, .v (.one (.box 3 0)))]) 4

theorem command_Office_grown_x1_ok (qo : Int) (qo1 : Int) (qat : Int) (qme0 : List (Nat × List D × List D)) (qcl0 : Nat) (vn : api_Note) (r : (api_Note) ⊕ (api_Note)) (hF : command_Office_grown_x1 qo qo1 qat vn = some r) : Awp prog 2 39 (cL (cL (cL (cR (cB f182))))) (Out 2 (kk command_Office_grown_x1_k) (SS (command_Office_grown_x1_H qo qo1 qat qme0 qcl0) (command_Office_grown_x1_S qo qo1 qat qme0 qcl0)) r) (command_Office_grown_x1_H qo qo1 qat qme0 qcl0 vn) := by
  unfold command_Office_grown_x1 at hF
  refine awp_seq ?_
  refine awp_seq ?_
  refine bE hF fun _ h1 hF => ?_
  refine awp_region ?_
  refine aR 2 ?_
  refine aC (command_ended_ok h1) [] [] [] ?_
  refine aR 1 ?_
  refine aE ?_
  refine cE hF (fun h2 hF => ?_) fun h2 hF => ?_
  · refine awp_true (by kernel_rfl) h2 ?_
    refine awp_skip ?_
    refine awp_block ?_
    refine awp_seq ?_
    refine bE hF fun vr1 h3 hF => ?_
    refine awp_region ?_
    refine aR 2 ?_
    refine aC (command_Office_turn_ok (qme0 := qme0) (qcl0 := qcl0) h3) [] [] [] ?_
    refine aR 1 ?_
    refine aE ?_
    refine awp_seq ?_
    refine awp_seq ?_
    refine awp_region ?_
    refine aR 3 ?_
    refine aE ?_
    refine cE hF (fun h4 hF => ?_) fun h4 hF => ?_
    · refine awp_true (by kernel_rfl) h4 ?_
      refine awp_exit ?_
      exact oO hF [] [] rfl
    · refine awp_false (by kernel_rfl) h4 ?_
      refine awp_skip ?_
      refine awp_seq ?_
      refine awp_region ?_
      refine aR 3 ?_
      refine aE ?_
      refine awp_block ?_
      refine awp_seq ?_
      refine awp_region ?_
      refine aR 6 ?_
      refine aE ?_
      refine cE hF (fun h5 hF => ?_) fun h5 hF => ?_
      · refine awp_true (by kernel_rfl) h5 ?_
        refine awp_region ?_
        refine aR 2 ?_
        refine aE ?_
        exact oO hF [] [] rfl
      · refine awp_false (by kernel_rfl) h5 ?_
        refine awp_seq ?_
        refine aD ?_
        refine dR 9 ?_
        refine dE ?_
        refine cE hF (fun h6 hF => ?_) fun h6 hF => ?_
        · refine awp_true (by kernel_rfl) h6 ?_
          refine awp_region ?_
          refine aR 2 ?_
          refine aE ?_
          exact oO hF [] [] rfl
        · refine awp_false (by kernel_rfl) h6 ?_
          refine awp_region ?_
          refine aR 2 ?_
          refine aE ?_
          exact oO hF [] [] rfl
  · refine awp_false (by kernel_rfl) h2 ?_
    refine awp_exit ?_
    exact oO hF [] [] rfl

def command_Office_grown_R (qo : Int) (qo1 : Int) (qn : api_Note) (qat : Int) (qme0 : List (Nat × List D × List D)) (qcl0 : Nat) (r : api_Note) : TV × Mem := (.v (.agg [.d (.str r.Letter.Id), .d (.str r.Letter.Slot), .d (.str r.Letter.Body), .d (.int .i64 r.Letter.Prio), .d (.int .i64 r.Letter.At), .d (.int .i64 r.Letter.Until), .d (.int .i64 r.State), .d (.int .i64 r.Tries), .d (.int .i64 r.Since)]), ⟨[], [(0, [.d (.int .i64 qo), .d (.int .i64 qo), .d (.int .i64 qo), .d (.int .i64 qo1), .mapp 1, .d (.int .i64 qo1)]), (1, [.mapg .str true qme0 qcl0])]⟩)

theorem command_Office_grown_ok {qo : Int} {qo1 : Int} {qn : api_Note} {qat : Int} {qme0 : List (Nat × List D × List D)} {qcl0 : Nat} {r} (hF : command_Office_grown qo qo1 qn qat = some r) : Holds prog 182 [.v (.one (.box 0 0)), .v (.agg [.d (.str qn.Letter.Id), .d (.str qn.Letter.Slot), .d (.str qn.Letter.Body), .d (.int .i64 qn.Letter.Prio), .d (.int .i64 qn.Letter.At), .d (.int .i64 qn.Letter.Until), .d (.int .i64 qn.State), .d (.int .i64 qn.Tries), .d (.int .i64 qn.Since)]), .v (.one (.d (.int .i64 qat)))] ⟨[], [(0, [.d (.int .i64 qo), .d (.int .i64 qo), .d (.int .i64 qo), .d (.int .i64 qo1), .mapp 1, .d (.int .i64 qo1)]), (1, [.mapg .str true qme0 qcl0])]⟩ (Is (command_Office_grown_R qo qo1 qn qat qme0 qcl0 r)) := by
  unfold command_Office_grown at hF
  refine holds_of_awp hΓ (fn := f182) (c := cB f182) (A := 2) (nx := 2) (by kernel_rfl) (by kernel_rfl) (by kernel_rfl) (by kernel_rfl) (by kernel_rfl) (by kernel_rfl) (lowc_of (by kernel_rfl)) ?_
  show Awp prog 2 39 (cB f182) _ _
  refine awp_seq ?_
  refine awp_region ?_
  refine aR 2 ?_
  refine aE ?_
  refine awp_seq ?_
  refine awp_block ?_
  refine awp_to (st' := command_Office_grown_x1_H qo qo1 qat qme0 qcl0 (api_Note.mk (api_Letter.mk qn.Letter.Id qn.Letter.Slot qn.Letter.Body qn.Letter.Prio qn.Letter.At qn.Letter.Until) qn.State qn.Tries qn.Since)) (oT [(3, 1002)] []) ?_
  refine bE hF fun vn1_1 h7 hF => ?_
  refine awp_sub (awp_loop' (command_Office_grown_x1_H qo qo1 qat qme0 qcl0) command_Office_grown_x1_k (command_Office_grown_x1_S qo qo1 qat qme0 qcl0) (by intro x; exact fun h => nomatch h) h7 (command_Office_grown_x1_ok qo qo1 qat qme0 qcl0)) ?_
  refine awp_seq ?_
  refine awp_region ?_
  refine aR 2 ?_
  refine aE ?_
  refine awp_ret ?_
  exact oF hF [] []

/-! ### math/bits.Len64 -/
def bits_Len64_x1_k : (Int × Int) → AEx
  | _ => .normal

def bits_Len64_x1_S (qx : Int) : (Int × Int) → St
  | (vx, vn) => Mem.st ⟨[], []⟩ (tl [(0, .v (.one (.d (.int .u64 vx)))), (2, .v (.one (.d (.int .i64 vn))))]) 0

def bits_Len64_x1_I (qx : Int) : St := Mem.st ⟨[], []⟩ (tl [(0, .v (.one (.d (.int .u64 qx)))), (2, .v (.one (.d (.int .i64 0))))]) 0

theorem bits_Len64_x1_ok (qx : Int) {r} (hF : bits_Len64_x1 qx = some r) : Awp prog 0 25 (cL (cR (cB f203))) (Out 0 bits_Len64_x1_k (bits_Len64_x1_S qx) r) (bits_Len64_x1_I qx) := by
  unfold bits_Len64_x1 at hF
  refine awp_seq ?_
  refine awp_region ?_
  refine aR 2 ?_
  refine aE ?_
  refine cE hF (fun h1 hF => ?_) fun h1 hF => ?_
  · refine awp_true (by kernel_rfl) h1 ?_
    refine awp_seq ?_
    refine awp_region ?_
    refine aR 3 ?_
    refine aE ?_
    refine awp_region ?_
    refine aR 1 ?_
    refine aE ?_
    exact oO hF [] [] rfl
  · refine awp_false (by kernel_rfl) h1 ?_
    refine awp_skip ?_
    exact oO hF [] [] rfl

def bits_Len64_x2_k : (Int × Int) → AEx
  | _ => .normal

def bits_Len64_x2_S (vx1 : Int) (vn1 : Int) : (Int × Int) → St
  | (vx2, vn2) => Mem.st ⟨[], []⟩ (tl [(0, .v (.one (.d (.int .u64 vx2)))), (2, .v (.one (.d (.int .i64 vn2))))]) 0

def bits_Len64_x2_I (vx1 : Int) (vn1 : Int) : St := Mem.st ⟨[], []⟩ (tl [(0, .v (.one (.d (.int .u64 vx1)))), (2, .v (.one (.d (.int .i64 vn1))))]) 0

theorem bits_Len64_x2_ok (vx1 : Int) (vn1 : Int) {r} (hF : bits_Len64_x2 vx1 vn1 = some r) : Awp prog 0 25 (cL (cR (cR (cB f203)))) (Out 0 bits_Len64_x2_k (bits_Len64_x2_S vx1 vn1) r) (bits_Len64_x2_I vx1 vn1) := by
  unfold bits_Len64_x2 at hF
  refine awp_seq ?_
  refine awp_region ?_
  refine aR 2 ?_
  refine aE ?_
  refine cE hF (fun h3 hF => ?_) fun h3 hF => ?_
  · refine awp_true (by kernel_rfl) h3 ?_
    refine awp_seq ?_
    refine awp_region ?_
    refine aR 3 ?_
    refine aE ?_
    refine awp_region ?_
    refine aR 3 ?_
    refine aE ?_
    exact oO hF [] [] rfl
  · refine awp_false (by kernel_rfl) h3 ?_
    refine awp_skip ?_
    exact oO hF [] [] rfl

def bits_Len64_x3_k : (Int × Int) → AEx
  | _ => .normal

def bits_Len64_x3_S (vx2_1 : Int) (vn2_1 : Int) : (Int × Int) → St
  | (vx3, vn3) => Mem.st ⟨[], []⟩ (tl [(0, .v (.one (.d (.int .u64 vx3)))), (2, .v (.one (.d (.int .i64 vn3))))]) 0

def bits_Len64_x3_I (vx2_1 : Int) (vn2_1 : Int) : St := Mem.st ⟨[], []⟩ (tl [(0, .v (.one (.d (.int .u64 vx2_1)))), (2, .v (.one (.d (.int .i64 vn2_1))))]) 0

theorem bits_Len64_x3_ok (vx2_1 : Int) (vn2_1 : Int) {r} (hF : bits_Len64_x3 vx2_1 vn2_1 = some r) : Awp prog 0 25 (cL (cR (cR (cR (cB f203))))) (Out 0 bits_Len64_x3_k (bits_Len64_x3_S vx2_1 vn2_1) r) (bits_Len64_x3_I vx2_1 vn2_1) := by
  unfold bits_Len64_x3 at hF
  refine awp_seq ?_
  refine awp_region ?_
  refine aR 2 ?_
  refine aE ?_
  refine cE hF (fun h5 hF => ?_) fun h5 hF => ?_
  · refine awp_true (by kernel_rfl) h5 ?_
    refine awp_seq ?_
    refine awp_region ?_
    refine aR 3 ?_
    refine aE ?_
    refine awp_region ?_
    refine aR 3 ?_
    refine aE ?_
    exact oO hF [] [] rfl
  · refine awp_false (by kernel_rfl) h5 ?_
    refine awp_skip ?_
    exact oO hF [] [] rfl

def bits_Len64_R (qx : Int) (r : Int) : TV × Mem := (.v (.one (.d (.int .i64 r))), ⟨[], []⟩)

theorem bits_Len64_ok {qx : Int} {r} (hF : bits_Len64 qx = some r) : Holds prog 203 [.v (.one (.d (.int .u64 qx)))] ⟨[], []⟩ (Is (bits_Len64_R qx r)) := by
  unfold bits_Len64 at hF
  refine holds_of_awp hΓ (fn := f203) (c := cB f203) (A := 0) (nx := 0) (by kernel_rfl) (by kernel_rfl) (by kernel_rfl) (by kernel_rfl) (by kernel_rfl) (by kernel_rfl) (lowc_of (by kernel_rfl)) ?_
  show Awp prog 0 25 (cB f203) _ _
  refine awp_seq ?_
  refine awp_region ?_
  refine aR 1 ?_
  refine aE ?_
  refine awp_seq ?_
  refine awp_to (st' := bits_Len64_x1_I qx) (oT [] []) ?_
  refine bE hF fun x h2 hF => ?_
  obtain ⟨vx1, vn1⟩ := x
  refine awp_sub (bits_Len64_x1_ok qx h2) ?_
  refine awp_seq ?_
  refine awp_to (st' := bits_Len64_x2_I vx1 vn1) (oT [] []) ?_
  refine bE hF fun x h4 hF => ?_
  obtain ⟨vx2_1, vn2_1⟩ := x
  refine awp_sub (bits_Len64_x2_ok vx1 vn1 h4) ?_
  refine awp_seq ?_
  refine awp_to (st' := bits_Len64_x3_I vx2_1 vn2_1) (oT [] []) ?_
  refine bE hF fun x h6 hF => ?_
  obtain ⟨vx3_1, vn3_1⟩ := x
  refine awp_sub (bits_Len64_x3_ok vx2_1 vn2_1 h6) ?_
  refine awp_seq ?_
  refine bE hF fun vc h7 hF => ?_
  refine awp_region ?_
  refine aR 3 ?_
  refine aX (x_idxS h7) ?_
  refine aR 3 ?_
  refine aE ?_
  refine awp_ret ?_
  exact oF hF [] []

/-! ### math/bits.Len -/
def bits_Len_R (qx : Int) (r : Int) : TV × Mem := (.v (.one (.d (.int .i64 r))), ⟨[], []⟩)

theorem bits_Len_ok {qx : Int} {r} (hF : bits_Len qx = some r) : Holds prog 111 [.v (.one (.d (.int .u64 qx)))] ⟨[], []⟩ (Is (bits_Len_R qx r)) := by
  unfold bits_Len at hF
  refine holds_of_awp hΓ (fn := f111) (c := cB f111) (A := 0) (nx := 0) (by kernel_rfl) (by kernel_rfl) (by kernel_rfl) (by kernel_rfl) (by kernel_rfl) (by kernel_rfl) (lowc_of (by kernel_rfl)) ?_
  show Awp prog 0 8 (cB f111) _ _
  refine awp_seq ?_
  refine awp_region ?_
  refine aR 1 ?_
  refine aE ?_
  refine awp_seq ?_
  refine awp_false (by kernel_rfl) rfl ?_
  refine awp_skip ?_
  refine awp_seq ?_
  refine bE hF fun vr h1 hF => ?_
  refine awp_region ?_
  refine aR 1 ?_
  refine aC (bits_Len64_ok h1) [] [] [] ?_
  refine aR 1 ?_
  refine aE ?_
  refine awp_ret ?_
  exact oF hF [] []

/-! ### cmp.isNaN[int] -/
def cmp_isNaN_int_R (qx : Int) (r : Unit) : TV × Mem := (.v (.one (.d (.bool (!decide (qx = qx))))), ⟨[], []⟩)

theorem cmp_isNaN_int_ok {qx : Int} {r} (hF : cmp_isNaN_int qx = some r) : Holds prog 246 [.v (.one (.d (.int .i64 qx)))] ⟨[], []⟩ (Is (cmp_isNaN_int_R qx r)) := by
  unfold cmp_isNaN_int at hF
  refine holds_of_awp hΓ (fn := f246) (c := cB f246) (A := 0) (nx := 0) (by kernel_rfl) (by kernel_rfl) (by kernel_rfl) (by kernel_rfl) (by kernel_rfl) (by kernel_rfl) (lowc_of (by kernel_rfl)) ?_
  show Awp prog 0 6 (cB f246) _ _
  refine awp_seq ?_
  refine awp_region ?_
  refine aR 1 ?_
  refine aE ?_
  refine awp_seq ?_
  refine awp_region ?_
  refine aR 4 ?_
  refine aE ?_
  refine awp_ret ?_
  exact oF hF [] []

/-! ### cmp.Compare[int] -/
def cmp_Compare_int_R (qx : Int) (qy : Int) (r : Int) : TV × Mem := (.v (.one (.d (.int .i64 r))), ⟨[], []⟩)

theorem cmp_Compare_int_ok {qx : Int} {qy : Int} {r} (hF : cmp_Compare_int qx qy = some r) : Holds prog 185 [.v (.one (.d (.int .i64 qx))), .v (.one (.d (.int .i64 qy)))] ⟨[], []⟩ (Is (cmp_Compare_int_R qx qy r)) := by
  unfold cmp_Compare_int at hF
  refine holds_of_awp hΓ (fn := f185) (c := cB f185) (A := 0) (nx := 0) (by kernel_rfl) (by kernel_rfl) (by kernel_rfl) (by kernel_rfl) (by kernel_rfl) (by kernel_rfl) (lowc_of (by kernel_rfl)) ?_
  show Awp prog 0 20 (cB f185) _ _
  refine awp_seq ?_
  refine awp_region ?_
  refine aR 1 ?_
  refine aE ?_
  refine awp_seq ?_
  refine bE hF fun _ h1 hF => ?_
  refine awp_region ?_
  refine aR 1 ?_
  refine aC (cmp_isNaN_int_ok h1) [] [] [] ?_
  refine aR 1 ?_
  refine aE ?_
  refine awp_seq ?_
  refine bE hF fun _ h2 hF => ?_
  refine awp_region ?_
  refine aR 1 ?_
  refine aC (cmp_isNaN_int_ok h2) [] [] [] ?_
  refine aR 1 ?_
  refine aE ?_
  refine awp_seq ?_
  refine awp_seq ?_
  refine awp_region ?_
  refine aR 1 ?_
  refine aE ?_
  refine cE hF (fun h3 hF => ?_) fun h3 hF => ?_
  · refine awp_true (by kernel_rfl) h3 ?_
    refine awp_seq ?_
    refine awp_seq ?_
    refine awp_region ?_
    refine aR 1 ?_
    refine aE ?_
    refine cE hF (fun h4 hF => ?_) fun h4 hF => ?_
    · refine awp_true (by kernel_rfl) h4 ?_
      refine awp_seq ?_
      refine awp_region ?_
      refine aR 1 ?_
      refine aE ?_
      refine awp_ret ?_
      exact oF hF [] []
    · refine awp_false (by kernel_rfl) h4 ?_
      refine awp_skip ?_
      refine awp_seq ?_
      refine awp_region ?_
      refine aR 1 ?_
      refine aE ?_
      refine awp_ret ?_
      exact oF hF [] []
  · refine awp_false (by kernel_rfl) h3 ?_
    refine awp_skip ?_
    refine awp_seq ?_
    refine awp_seq ?_
    refine awp_region ?_
    refine aR 1 ?_
    refine aE ?_
    refine cE hF (fun h5 hF => ?_) fun h5 hF => ?_
    · refine awp_true (by kernel_rfl) h5 ?_
      refine awp_seq ?_
      refine awp_region ?_
      refine aR 1 ?_
      refine aE ?_
      refine awp_ret ?_
      exact oF hF [] []
    · refine awp_false (by kernel_rfl) h5 ?_
      refine awp_skip ?_
      refine awp_seq ?_
      refine awp_seq ?_
      refine awp_region ?_
      refine aR 3 ?_
      refine aE ?_
      refine cE hF (fun h6 hF => ?_) fun h6 hF => ?_
      · refine awp_true (by kernel_rfl) h6 ?_
        refine awp_seq ?_
        refine awp_region ?_
        refine aR 1 ?_
        refine aE ?_
        refine awp_ret ?_
        exact oF hF [] []
      · refine awp_false (by kernel_rfl) h6 ?_
        refine awp_skip ?_
        refine awp_seq ?_
        refine awp_seq ?_
        refine awp_region ?_
        refine aR 3 ?_
        refine aE ?_
        refine cE hF (fun h7 hF => ?_) fun h7 hF => ?_
        · refine awp_true (by kernel_rfl) h7 ?_
          refine awp_seq ?_
          refine awp_region ?_
          refine aR 1 ?_
          refine aE ?_
          refine awp_ret ?_
          exact oF hF [] []
        · refine awp_false (by kernel_rfl) h7 ?_
          refine awp_skip ?_
          refine awp_seq ?_
          refine awp_region ?_
          refine aR 1 ?_
          refine aE ?_
          refine awp_ret ?_
          exact oF hF [] []

/-! ### internal/bytealg.CompareString -/
def bytealg_CompareString_R (qa : List UInt8) (qb : List UInt8) (r : Unit) : TV × Mem := (.v (.one (.d (.int .i64 (Lib.compareBytes qa qb)))), ⟨[], []⟩)

theorem bytealg_CompareString_ok {qa : List UInt8} {qb : List UInt8} {r} (hF : bytealg_CompareString qa qb = some r) : Holds prog 187 [.v (.one (.d (.str qa))), .v (.one (.d (.str qb)))] ⟨[], []⟩ (Is (bytealg_CompareString_R qa qb r)) := by
  unfold bytealg_CompareString at hF
  refine holds_of_awp hΓ (fn := f187) (c := cB f187) (A := 0) (nx := 0) (by kernel_rfl) (by kernel_rfl) (by kernel_rfl) (by kernel_rfl) (by kernel_rfl) (by kernel_rfl) (lowc_of (by kernel_rfl)) ?_
  show Awp prog 0 8 (cB f187) _ _
  refine awp_seq ?_
  refine awp_region ?_
  refine aR 1 ?_
  refine aE ?_
  refine awp_seq ?_
  refine awp_region ?_
  refine aR 2 ?_
  refine aS (does_cmpstring (g := 255) (fn := f255) (a := qa) (b := qb) rfl (by kernel_rfl) (by kernel_rfl) (by kernel_rfl) (by kernel_rfl) (by kernel_rfl) (by kernel_rfl)) ?_
  refine aR 1 ?_
  refine aE ?_
  refine awp_ret ?_
  exact oF hF [] []

/-! ### strings.Compare -/
def strings_Compare_R (qa : List UInt8) (qb : List UInt8) (r : Unit) : TV × Mem := (.v (.one (.d (.int .i64 (Lib.compareBytes qa qb)))), ⟨[], []⟩)

theorem strings_Compare_ok {qa : List UInt8} {qb : List UInt8} {r} (hF : strings_Compare qa qb = some r) : Holds prog 96 [.v (.one (.d (.str qa))), .v (.one (.d (.str qb)))] ⟨[], []⟩ (Is (strings_Compare_R qa qb r)) := by
  unfold strings_Compare at hF
  refine holds_of_awp hΓ (fn := f96) (c := cB f96) (A := 0) (nx := 0) (by kernel_rfl) (by kernel_rfl) (by kernel_rfl) (by kernel_rfl) (by kernel_rfl) (by kernel_rfl) (lowc_of (by kernel_rfl)) ?_
  show Awp prog 0 8 (cB f96) _ _
  refine awp_seq ?_
  refine awp_region ?_
  refine aR 1 ?_
  refine aE ?_
  refine awp_seq ?_
  refine bE hF fun _ h1 hF => ?_
  refine awp_region ?_
  refine aR 2 ?_
  refine aC (bytealg_CompareString_ok h1) [] [] [] ?_
  refine aR 1 ?_
  refine aE ?_
  refine awp_ret ?_
  exact oF hF [] []

/-! ### cmp.Or[int] -/
def cmp_Or_int_x1_k : Unit ⊕ Int → AEx
  | .inl _ => .exit 0
  | .inr _ => .ret

def cmp_Or_int_x1_S (qvals : List Int) : Unit ⊕ Int → St
  | .inl _ => Mem.st ⟨[], []⟩ (tl [(3, .v (.one (.d (.int .i64 0))))]) 0
  | .inr vx1 => Mem.st ⟨[], []⟩ (tl [(2, .v (.one (.d (.int .i64 vx1))))]) 0

def cmp_Or_int_x1_H (qvals : List Int) : Int → St
  | vx => Mem.st ⟨[], []⟩ (tl [(3, .v (.one (.d (.int .i64 0)))), (6, .v (.one (.d (.lst (List.map (encI .i64) qvals))))), (7, .v (.one (.d (.int .i64 (qvals.length : Int))))), (8, .v (.one (.d (.int .i64 vx))))]) 0

theorem cmp_Or_int_x1_ok (qvals : List Int) (vx : Int) (r : (Int) ⊕ (Unit ⊕ Int)) (hF : cmp_Or_int_x1 qvals vx = some r) : Awp prog 0 18 (cL (cL (cR (cL (cR (cR (cB f184))))))) (Out 0 (kk cmp_Or_int_x1_k) (SS (cmp_Or_int_x1_H qvals) (cmp_Or_int_x1_S qvals)) r) (cmp_Or_int_x1_H qvals vx) := by
  unfold cmp_Or_int_x1 at hF
  refine awp_seq ?_
  refine awp_region ?_
  refine aR 1 ?_
  refine aE ?_
  refine awp_seq ?_
  refine cE hF (fun h1 hF => ?_) fun h1 hF => ?_
  · refine awp_true (by kernel_rfl) h1 ?_
    refine awp_skip ?_
    refine awp_seq ?_
    refine awp_block ?_
    refine awp_seq ?_
    refine bE hF fun vy1 h2 hF => ?_
    refine awp_region ?_
    refine aX (x_idx (encI .i64) h2) ?_
    refine aR 2 ?_
    refine aE ?_
    refine awp_seq ?_
    refine awp_region ?_
    refine aR 3 ?_
    refine aE ?_
    refine cE hF (fun h3 hF => ?_) fun h3 hF => ?_
    · refine awp_true (by kernel_rfl) h3 ?_
      refine awp_seq ?_
      refine awp_region ?_
      refine aR 2 ?_
      refine aE ?_
      refine awp_ret ?_
      exact oO hF [] [] rfl
    · refine awp_false (by kernel_rfl) h3 ?_
      refine awp_skip ?_
      refine awp_region ?_
      refine aR 2 ?_
      refine aE ?_
      exact oO hF [] [] rfl
  · refine awp_false (by kernel_rfl) h1 ?_
    refine awp_exit ?_
    exact oO hF [] [] rfl

def cmp_Or_int_R (qvals : List Int) (r : Int) : TV × Mem := (.v (.one (.d (.int .i64 r))), ⟨[], []⟩)

theorem cmp_Or_int_ok {qvals : List Int} {r} (hF : cmp_Or_int qvals = some r) : Holds prog 184 [.v (.one (.d (.lst (List.map (encI .i64) qvals))))] ⟨[], []⟩ (Is (cmp_Or_int_R qvals r)) := by
  unfold cmp_Or_int at hF
  refine holds_of_awp hΓ (fn := f184) (c := cB f184) (A := 0) (nx := 0) (by kernel_rfl) (by kernel_rfl) (by kernel_rfl) (by kernel_rfl) (by kernel_rfl) (by kernel_rfl) (lowc_of (by kernel_rfl)) ?_
  show Awp prog 0 18 (cB f184) _ _
  refine awp_seq ?_
  refine awp_region ?_
  refine aR 1 ?_
  refine aE ?_
  refine awp_seq ?_
  refine awp_region ?_
  refine aR 1 ?_
  refine aE ?_
  refine awp_seq ?_
  refine awp_seq ?_
  refine awp_region ?_
  refine aR 1 ?_
  refine aL (encI .i64) qvals ?_
  refine aR 1 ?_
  refine aE ?_
  refine awp_block ?_
  refine awp_to (st' := cmp_Or_int_x1_H qvals 0) (oT [] []) ?_
  refine bE hF fun x h4 hF => ?_
  rcases x with _ | vx1_1
  · refine awp_sub (awp_loop' (cmp_Or_int_x1_H qvals) cmp_Or_int_x1_k (cmp_Or_int_x1_S qvals) (by intro x; rcases x with x | x <;> exact fun h => nomatch h) h4 (cmp_Or_int_x1_ok qvals)) ?_
    refine awp_seq ?_
    refine awp_region ?_
    refine aR 2 ?_
    refine aE ?_
    refine awp_ret ?_
    exact oF hF [] []
  · refine awp_sub (awp_loop' (cmp_Or_int_x1_H qvals) cmp_Or_int_x1_k (cmp_Or_int_x1_S qvals) (by intro x; rcases x with x | x <;> exact fun h => nomatch h) h4 (cmp_Or_int_x1_ok qvals)) ?_
    exact oF hF [] []

/-! ### (*beaconfleet/command.Office).aged$1 -/
def command_Office_aged_1_R (qa : api_Note) (qb : api_Note) (r : Int) : TV × Mem := (.v (.one (.d (.int .i64 r))), ⟨[], []⟩)

theorem command_Office_aged_1_ok {qa : api_Note} {qb : api_Note} {r} (hF : command_Office_aged_1 qa qb = some r) : Holds prog 183 [.v (.agg [.d (.str qa.Letter.Id), .d (.str qa.Letter.Slot), .d (.str qa.Letter.Body), .d (.int .i64 qa.Letter.Prio), .d (.int .i64 qa.Letter.At), .d (.int .i64 qa.Letter.Until), .d (.int .i64 qa.State), .d (.int .i64 qa.Tries), .d (.int .i64 qa.Since)]), .v (.agg [.d (.str qb.Letter.Id), .d (.str qb.Letter.Slot), .d (.str qb.Letter.Body), .d (.int .i64 qb.Letter.Prio), .d (.int .i64 qb.Letter.At), .d (.int .i64 qb.Letter.Until), .d (.int .i64 qb.State), .d (.int .i64 qb.Tries), .d (.int .i64 qb.Since)])] ⟨[], []⟩ (Is (command_Office_aged_1_R qa qb r)) := by
  unfold command_Office_aged_1 at hF
  refine holds_of_awp hΓ (fn := f183) (c := cB f183) (A := 0) (nx := 0) (by kernel_rfl) (by kernel_rfl) (by kernel_rfl) (by kernel_rfl) (by kernel_rfl) (by kernel_rfl) (lowc_of (by kernel_rfl)) ?_
  show Awp prog 0 19 (cB f183) _ _
  refine awp_seq ?_
  refine awp_region ?_
  refine aR 3 ?_
  refine aE ?_
  refine awp_seq ?_
  refine bE hF fun vr h1 hF => ?_
  refine bE hF fun _ h2 hF => ?_
  refine bE hF fun vr1 h3 hF => ?_
  refine aD ?_
  refine dR 4 ?_
  refine dC (cmp_Compare_int_ok h1) [] [] [] ?_
  refine dR 6 ?_
  refine dC (strings_Compare_ok h2) [] [] [] ?_
  refine dR 1 ?_
  refine dC (cmp_Or_int_ok h3) [] [] [15000] ?_
  refine dR 1 ?_
  refine dE ?_
  refine awp_ret ?_
  exact oF hF [] []

/-! ### slices.insertionSortCmpFunc[beaconfleet/api.Note] -/
def slices_insertionSortCmpFunc_api_Note_o0_f3_command_Office_aged_1_x3_k : Bool → AEx
  | _ => .normal

def slices_insertionSortCmpFunc_api_Note_o0_f3_command_Office_aged_1_x3_S (qa : Int) (qb : Int) (vi : Int) (vl3 : List api_Note) (vj1 : Int) : Bool → St
  | vx4 => Mem.st ⟨[(0, ⟨65, 9, List.map api_Note.enc vl3⟩)], []⟩ (tl [(0, .v (.one (.own 0 none))), (1, .v (.one (.d (.int .i64 qa)))), (2, .v (.one (.d (.int .i64 qb)))), (3, .v (.one (.fn 183 []))), (8, .v (.one (.d (.int .i64 vi)))), (9, .v (.one (.d (.int .i64 vj1)))), (34, .v (.one (.d (.bool vx4))))]) 1

def slices_insertionSortCmpFunc_api_Note_o0_f3_command_Office_aged_1_x3_I (qa : Int) (qb : Int) (vi : Int) (vl3 : List api_Note) (vj1 : Int) : St := Mem.st ⟨[(0, ⟨65, 9, List.map api_Note.enc vl3⟩)], []⟩ (tl [(0, .v (.one (.own 0 none))), (1, .v (.one (.d (.int .i64 qa)))), (2, .v (.one (.d (.int .i64 qb)))), (3, .v (.one (.fn 183 []))), (8, .v (.one (.d (.int .i64 vi)))), (9, .v (.one (.d (.int .i64 vj1))))]) 1

theorem slices_insertionSortCmpFunc_api_Note_o0_f3_command_Office_aged_1_x3_ok (qa : Int) (qb : Int) (vi : Int) (vl3 : List api_Note) (vj1 : Int) {r} (hF : slices_insertionSortCmpFunc_api_Note_o0_f3_command_Office_aged_1_x3 qa vl3 vj1 = some r) : Awp prog 1 53 (cL (cL (cL (cL (cR (cL (cL (cR (cL (cL (cR (cB f247)))))))))))) (Out 1 slices_insertionSortCmpFunc_api_Note_o0_f3_command_Office_aged_1_x3_k (slices_insertionSortCmpFunc_api_Note_o0_f3_command_Office_aged_1_x3_S qa qb vi vl3 vj1) r) (slices_insertionSortCmpFunc_api_Note_o0_f3_command_Office_aged_1_x3_I qa qb vi vl3 vj1) := by
  unfold slices_insertionSortCmpFunc_api_Note_o0_f3_command_Office_aged_1_x3 at hF
  refine cE hF (fun h2 hF => ?_) fun h2 hF => ?_
  · refine bE hF fun vy15 h3 hF => ?_
    refine bE hF fun vy16 h4 hF => ?_
    refine bE hF fun vr2_3 h5 hF => ?_
    refine aD ?_
    refine dR 2 ?_
    refine dB h2 ?_
    refine dR 4 ?_
    refine dX (x_idxO api_Note.enc 0 h3) ?_
    refine dX (x_ldE api_Note.enc h3) ?_
    refine dR 3 ?_
    refine dX (x_idxO api_Note.enc 0 h4) ?_
    refine dX (x_ldE api_Note.enc h4) ?_
    refine dC (command_Office_aged_1_ok h5) [] [] [] ?_
    refine dR 2 ?_
    refine dE ?_
    exact oO hF [] [] rfl
  · refine aD ?_
    refine dR 2 ?_
    refine dB h2 ?_
    refine dR 14 ?_
    refine dE ?_
    exact oO hF [] [] rfl

def slices_insertionSortCmpFunc_api_Note_o0_f3_command_Office_aged_1_x2_k : (List api_Note) → AEx
  | _ => .exit 2

def slices_insertionSortCmpFunc_api_Note_o0_f3_command_Office_aged_1_x2_S (qa : Int) (qb : Int) (vi : Int) : (List api_Note) → St
  | vl4 => Mem.st ⟨[(0, ⟨65, 9, List.map api_Note.enc vl4⟩)], []⟩ (tl [(0, .v (.one (.own 0 none))), (1, .v (.one (.d (.int .i64 qa)))), (2, .v (.one (.d (.int .i64 qb)))), (3, .v (.one (.fn 183 []))), (8, .v (.one (.d (.int .i64 vi))))]) 1

def slices_insertionSortCmpFunc_api_Note_o0_f3_command_Office_aged_1_x2_H (qa : Int) (qb : Int) (vi : Int) : (List api_Note) × Int → St
  | (vl3, vj1) => Mem.st ⟨[(0, ⟨65, 9, List.map api_Note.enc vl3⟩)], []⟩ (tl [(0, .v (.one (.own 0 none))), (1, .v (.one (.d (.int .i64 qa)))), (2, .v (.one (.d (.int .i64 qb)))), (3, .v (.one (.fn 183 []))), (8, .v (.one (.d (.int .i64 vi)))), (9, .v (.one (.d (.int .i64 vj1))))]) 1

theorem slices_insertionSortCmpFunc_api_Note_o0_f3_command_Office_aged_1_x2_ok (qa : Int) (qb : Int) (vi : Int) (s : (List api_Note) × Int) (r : ((List api_Note) × Int) ⊕ ((List api_Note))) (hF : slices_insertionSortCmpFunc_api_Note_o0_f3_command_Office_aged_1_x2 qa s = some r) : Awp prog 1 53 (cL (cL (cR (cL (cL (cR (cL (cL (cR (cB f247)))))))))) (Out 1 (kk slices_insertionSortCmpFunc_api_Note_o0_f3_command_Office_aged_1_x2_k) (SS (slices_insertionSortCmpFunc_api_Note_o0_f3_command_Office_aged_1_x2_H qa qb vi) (slices_insertionSortCmpFunc_api_Note_o0_f3_command_Office_aged_1_x2_S qa qb vi)) r) (slices_insertionSortCmpFunc_api_Note_o0_f3_command_Office_aged_1_x2_H qa qb vi s) := by
  obtain ⟨vl3, vj1⟩ := s
  unfold slices_insertionSortCmpFunc_api_Note_o0_f3_command_Office_aged_1_x2 at hF
  refine awp_seq ?_
  refine awp_seq ?_
  refine awp_to (st' := slices_insertionSortCmpFunc_api_Note_o0_f3_command_Office_aged_1_x3_I qa qb vi vl3 vj1) (oT [] []) ?_
  refine bE hF fun vx4_1 h6 hF => ?_
  refine awp_sub (slices_insertionSortCmpFunc_api_Note_o0_f3_command_Office_aged_1_x3_ok qa qb vi vl3 vj1 h6) ?_
  refine cE hF (fun h7 hF => ?_) fun h7 hF => ?_
  · refine awp_true (by kernel_rfl) h7 ?_
    refine awp_skip ?_
    refine awp_seq ?_
    refine awp_block ?_
    refine bE hF fun vy17 h8 hF => ?_
    refine bE hF fun vy18 h9 hF => ?_
    refine bE hF fun vy19 h10 hF => ?_
    refine aDw [0] ?_
    refine dR 8 ?_
    refine dI api_Note.enc 0 h8 rfl ?_
    refine dX (x_ldE api_Note.enc h8) ?_
    refine dR 2 ?_
    refine dI api_Note.enc 0 h9 rfl ?_
    refine dX (x_ldE api_Note.enc h9) ?_
    refine dI api_Note.enc 0 h9 rfl ?_
    refine dW api_Note.enc (api_Note.mk (api_Letter.mk vy17.Letter.Id vy17.Letter.Slot vy17.Letter.Body vy17.Letter.Prio vy17.Letter.At vy17.Letter.Until) vy17.State vy17.Tries vy17.Since) h9 rfl ?_
    refine dI api_Note.enc 0 h10 rfl ?_
    refine dW api_Note.enc (api_Note.mk (api_Letter.mk vy18.Letter.Id vy18.Letter.Slot vy18.Letter.Body vy18.Letter.Prio vy18.Letter.At vy18.Letter.Until) vy18.State vy18.Tries vy18.Since) h10 rfl ?_
    refine dE ?_
    refine awp_region ?_
    refine aR 3 ?_
    refine aE ?_
    exact oO hF [] [] rfl
  · refine awp_false (by kernel_rfl) h7 ?_
    refine awp_exit ?_
    exact oO hF [] [] rfl

def slices_insertionSortCmpFunc_api_Note_o0_f3_command_Office_aged_1_x1_k : (List api_Note) → AEx
  | _ => .exit 0

def slices_insertionSortCmpFunc_api_Note_o0_f3_command_Office_aged_1_x1_S (qa : Int) (qb : Int) : (List api_Note) → St
  | vl5 => Mem.st ⟨[(0, ⟨65, 9, List.map api_Note.enc vl5⟩)], []⟩ (tl []) 1

def slices_insertionSortCmpFunc_api_Note_o0_f3_command_Office_aged_1_x1_H (qa : Int) (qb : Int) : (List api_Note) × Int → St
  | (vl, vi) => Mem.st ⟨[(0, ⟨65, 9, List.map api_Note.enc vl⟩)], []⟩ (tl [(0, .v (.one (.own 0 none))), (1, .v (.one (.d (.int .i64 qa)))), (2, .v (.one (.d (.int .i64 qb)))), (3, .v (.one (.fn 183 []))), (8, .v (.one (.d (.int .i64 vi))))]) 1

theorem slices_insertionSortCmpFunc_api_Note_o0_f3_command_Office_aged_1_x1_ok (qa : Int) (qb : Int) (s : (List api_Note) × Int) (r : ((List api_Note) × Int) ⊕ ((List api_Note))) (hF : slices_insertionSortCmpFunc_api_Note_o0_f3_command_Office_aged_1_x1 qa qb s = some r) : Awp prog 1 53 (cL (cL (cR (cB f247)))) (Out 1 (kk slices_insertionSortCmpFunc_api_Note_o0_f3_command_Office_aged_1_x1_k) (SS (slices_insertionSortCmpFunc_api_Note_o0_f3_command_Office_aged_1_x1_H qa qb) (slices_insertionSortCmpFunc_api_Note_o0_f3_command_Office_aged_1_x1_S qa qb)) r) (slices_insertionSortCmpFunc_api_Note_o0_f3_command_Office_aged_1_x1_H qa qb s) := by
  obtain ⟨vl, vi⟩ := s
  unfold slices_insertionSortCmpFunc_api_Note_o0_f3_command_Office_aged_1_x1 at hF
  refine awp_seq ?_
  refine awp_seq ?_
  refine awp_region ?_
  refine aR 3 ?_
  refine aE ?_
  refine cE hF (fun h1 hF => ?_) fun h1 hF => ?_
  · refine awp_true (by kernel_rfl) h1 ?_
    refine awp_skip ?_
    refine awp_seq ?_
    refine awp_block ?_
    refine awp_seq ?_
    refine awp_region ?_
    refine aR 2 ?_
    refine aE ?_
    refine awp_block ?_
    refine awp_to (st' := slices_insertionSortCmpFunc_api_Note_o0_f3_command_Office_aged_1_x2_H qa qb vi (vl, vi)) (oT [] []) ?_
    refine bE hF fun vl4_1 h11 hF => ?_
    refine awp_sub (awp_loop' (slices_insertionSortCmpFunc_api_Note_o0_f3_command_Office_aged_1_x2_H qa qb vi) slices_insertionSortCmpFunc_api_Note_o0_f3_command_Office_aged_1_x2_k (slices_insertionSortCmpFunc_api_Note_o0_f3_command_Office_aged_1_x2_S qa qb vi) (by intro x; exact fun h => nomatch h) h11 (slices_insertionSortCmpFunc_api_Note_o0_f3_command_Office_aged_1_x2_ok qa qb vi)) ?_
    refine awp_region ?_
    refine aR 3 ?_
    refine aE ?_
    exact oO hF [] [] rfl
  · refine awp_false (by kernel_rfl) h1 ?_
    refine awp_exit ?_
    exact oO hF [] [] rfl

def slices_insertionSortCmpFunc_api_Note_o0_f3_command_Office_aged_1_R (qdata : List api_Note) (qa : Int) (qb : Int) (r : (List api_Note)) : TV × Mem := (.tup [], ⟨[(0, ⟨65, 9, List.map api_Note.enc r⟩)], []⟩)

theorem slices_insertionSortCmpFunc_api_Note_o0_f3_command_Office_aged_1_ok {qdata : List api_Note} {qa : Int} {qb : Int} {r} (hF : slices_insertionSortCmpFunc_api_Note_o0_f3_command_Office_aged_1 qdata qa qb = some r) : Holds prog 247 [.v (.one (.own 0 none)), .v (.one (.d (.int .i64 qa))), .v (.one (.d (.int .i64 qb))), .v (.one (.fn 183 []))] ⟨[(0, ⟨65, 9, List.map api_Note.enc qdata⟩)], []⟩ (Is (slices_insertionSortCmpFunc_api_Note_o0_f3_command_Office_aged_1_R qdata qa qb r)) := by
  unfold slices_insertionSortCmpFunc_api_Note_o0_f3_command_Office_aged_1 at hF
  refine holds_of_awp hΓ (fn := f247) (c := cB f247) (A := 1) (nx := 1) (by kernel_rfl) (by kernel_rfl) (by kernel_rfl) (by kernel_rfl) (by kernel_rfl) (by kernel_rfl) (lowc_of (by kernel_rfl)) ?_
  show Awp prog 1 53 (cB f247) _ _
  refine awp_seq ?_
  refine awp_region ?_
  refine aR 3 ?_
  refine aE ?_
  refine awp_block ?_
  refine awp_to (st' := slices_insertionSortCmpFunc_api_Note_o0_f3_command_Office_aged_1_x1_H qa qb (qdata, IntKind.wrap .i64 (qa + 1))) (oT [] []) ?_
  refine bE hF fun vl5_1 h12 hF => ?_
  refine awp_sub (awp_loop' (slices_insertionSortCmpFunc_api_Note_o0_f3_command_Office_aged_1_x1_H qa qb) slices_insertionSortCmpFunc_api_Note_o0_f3_command_Office_aged_1_x1_k (slices_insertionSortCmpFunc_api_Note_o0_f3_command_Office_aged_1_x1_S qa qb) (by intro x; exact fun h => nomatch h) h12 (slices_insertionSortCmpFunc_api_Note_o0_f3_command_Office_aged_1_x1_ok qa qb)) ?_
  exact oF hF [] []

/-! ### slices.pdqsortCmpFunc[beaconfleet/api.Note] -/
def slices_pdqsortCmpFunc_api_Note_o0_f4_command_Office_aged_1_x1_k : (List api_Note) → AEx
  | _ => .ret

def slices_pdqsortCmpFunc_api_Note_o0_f4_command_Office_aged_1_x1_S (qx : List api_Note) (qx1 : Int) (qx2 : Int) (qx3 : Int) : (List api_Note) → St
  | vl => Mem.st ⟨[(0, ⟨65, 9, List.map api_Note.enc vl⟩)], []⟩ (tl []) 1

def slices_pdqsortCmpFunc_api_Note_o0_f4_command_Office_aged_1_x1_H (qx : List api_Note) (qx1 : Int) (qx2 : Int) (qx3 : Int) : Unit → St
  | _ => Mem.st ⟨[(0, ⟨65, 9, List.map api_Note.enc qx⟩)], []⟩ (tl [(0, .v (.one (.own 0 none))), (1, .v (.one (.d (.int .i64 qx1)))), (2, .v (.one (.d (.int .i64 qx2)))), (3, .v (.one (.d (.int .i64 qx3)))), (4, .v (.one (.fn 183 []))), (10, .v (.one (.d (.bool true)))), (11, .v (.one (.d (.bool true))))]) 1

theorem slices_pdqsortCmpFunc_api_Note_o0_f4_command_Office_aged_1_x1_ok (qx : List api_Note) (qx1 : Int) (qx2 : Int) (qx3 : Int) (s : Unit) (r : (Unit) ⊕ ((List api_Note))) (hF : slices_pdqsortCmpFunc_api_Note_o0_f4_command_Office_aged_1_x1 qx qx1 qx2 qx3 s = some r) : Awp prog 1 148 (cL (cL (cR (cR (cB f186))))) (Out 1 (kk slices_pdqsortCmpFunc_api_Note_o0_f4_command_Office_aged_1_x1_k) (SS (slices_pdqsortCmpFunc_api_Note_o0_f4_command_Office_aged_1_x1_H qx qx1 qx2 qx3) (slices_pdqsortCmpFunc_api_Note_o0_f4_command_Office_aged_1_x1_S qx qx1 qx2 qx3)) r) (slices_pdqsortCmpFunc_api_Note_o0_f4_command_Office_aged_1_x1_H qx qx1 qx2 qx3 s) := by
  unfold slices_pdqsortCmpFunc_api_Note_o0_f4_command_Office_aged_1_x1 at hF
  refine awp_block ?_
  refine awp_seq ?_
  refine awp_region ?_
  refine aR 4 ?_
  refine aE ?_
  refine awp_seq ?_
  refine awp_seq ?_
  refine awp_region ?_
  refine aR 2 ?_
  refine aE ?_
  refine cE hF (fun h1 hF => ?_) fun h1 hF => ?_
  · refine awp_true (by kernel_rfl) h1 ?_
    refine awp_seq ?_
    refine bE hF fun vl6_1 h2 hF => ?_
    refine gE hF fun h3 hF => ?_
    refine awp_region ?_
    refine aR 4 ?_
    refine aCp (slices_insertionSortCmpFunc_api_Note_o0_f3_command_Office_aged_1_ok h2) ⟨⟨rfl, rfl, pin1 h3⟩, trivial⟩ [] [] [] ?_
    refine aE ?_
    refine awp_ret ?_
    exact oO hF [] [] rfl
  · refine awp_false (by kernel_rfl) h1 ?_
    refine awp_skip ?_
    refine awp_seq ?_
    refine awp_seq ?_
    refine awp_region ?_
    refine aR 2 ?_
    refine aE ?_
    refine cE hF (fun h4 hF => ?_) fun h4 hF => ?_
    · refine awp_true (by kernel_rfl) h4 ?_
      refine awp_seq ?_
      exact nE hF
    · refine awp_false (by kernel_rfl) h4 ?_
      refine awp_skip ?_
      refine awp_seq ?_
      refine awp_seq ?_
      refine awp_region ?_
      refine aR 2 ?_
      refine aE ?_
      refine awp_false (by kernel_rfl) rfl ?_
      refine awp_skip ?_
      refine awp_seq ?_
      exact nE hF

def slices_pdqsortCmpFunc_api_Note_o0_f4_command_Office_aged_1_R (qx : List api_Note) (qx1 : Int) (qx2 : Int) (qx3 : Int) (r : (List api_Note)) : TV × Mem := (.tup [], ⟨[(0, ⟨65, 9, List.map api_Note.enc r⟩)], []⟩)

theorem slices_pdqsortCmpFunc_api_Note_o0_f4_command_Office_aged_1_ok {qx : List api_Note} {qx1 : Int} {qx2 : Int} {qx3 : Int} {r} (hF : slices_pdqsortCmpFunc_api_Note_o0_f4_command_Office_aged_1 qx qx1 qx2 qx3 = some r) : Holds prog 186 [.v (.one (.own 0 none)), .v (.one (.d (.int .i64 qx1))), .v (.one (.d (.int .i64 qx2))), .v (.one (.d (.int .i64 qx3))), .v (.one (.fn 183 []))] ⟨[(0, ⟨65, 9, List.map api_Note.enc qx⟩)], []⟩ (Is (slices_pdqsortCmpFunc_api_Note_o0_f4_command_Office_aged_1_R qx qx1 qx2 qx3 r)) := by
  unfold slices_pdqsortCmpFunc_api_Note_o0_f4_command_Office_aged_1 at hF
  refine holds_of_awp hΓ (fn := f186) (c := cB f186) (A := 1) (nx := 1) (by kernel_rfl) (by kernel_rfl) (by kernel_rfl) (by kernel_rfl) (by kernel_rfl) (by kernel_rfl) (lowc_of (by kernel_rfl)) ?_
  show Awp prog 1 148 (cB f186) _ _
  refine awp_seq ?_
  refine awp_region ?_
  refine aR 1 ?_
  refine aE ?_
  refine awp_seq ?_
  refine awp_region ?_
  refine aR 1 ?_
  refine aE ?_
  refine awp_block ?_
  refine awp_to (st' := slices_pdqsortCmpFunc_api_Note_o0_f4_command_Office_aged_1_x1_H qx qx1 qx2 qx3 ()) (oT [] []) ?_
  refine bE hF fun vl1 h7 hF => ?_
  refine awp_sub (awp_loop' (slices_pdqsortCmpFunc_api_Note_o0_f4_command_Office_aged_1_x1_H qx qx1 qx2 qx3) slices_pdqsortCmpFunc_api_Note_o0_f4_command_Office_aged_1_x1_k (slices_pdqsortCmpFunc_api_Note_o0_f4_command_Office_aged_1_x1_S qx qx1 qx2 qx3) (by intro x; exact fun h => nomatch h) h7 (slices_pdqsortCmpFunc_api_Note_o0_f4_command_Office_aged_1_x1_ok qx qx1 qx2 qx3)) ?_
  exact oF hF [] []

/-! ### slices.SortFunc[[]beaconfleet/api.Note,beaconfleet/api.Note] -/
def slices_SortFunc_api_Note_api_Note_o0_f1_command_Office_aged_1_R (qx : List api_Note) (r : (List api_Note)) : TV × Mem := (.tup [], ⟨[(0, ⟨65, 9, List.map api_Note.enc r⟩)], []⟩)

theorem slices_SortFunc_api_Note_api_Note_o0_f1_command_Office_aged_1_ok {qx : List api_Note} {r} (hF : slices_SortFunc_api_Note_api_Note_o0_f1_command_Office_aged_1 qx = some r) : Holds prog 94 [.v (.one (.own 0 none)), .v (.one (.fn 183 []))] ⟨[(0, ⟨65, 9, List.map api_Note.enc qx⟩)], []⟩ (Is (slices_SortFunc_api_Note_api_Note_o0_f1_command_Office_aged_1_R qx r)) := by
  unfold slices_SortFunc_api_Note_api_Note_o0_f1_command_Office_aged_1 at hF
  refine holds_of_awp hΓ (fn := f94) (c := cB f94) (A := 1) (nx := 1) (by kernel_rfl) (by kernel_rfl) (by kernel_rfl) (by kernel_rfl) (by kernel_rfl) (by kernel_rfl) (lowc_of (by kernel_rfl)) ?_
  show Awp prog 1 14 (cB f94) _ _
  refine awp_seq ?_
  refine awp_region ?_
  refine aR 1 ?_
  refine aL api_Note.enc qx ?_
  refine aR 1 ?_
  refine aE ?_
  refine bE hF fun vr1 h1 hF => ?_
  refine bE hF fun vl2 h2 hF => ?_
  refine gE hF fun h3 hF => ?_
  refine awp_region ?_
  refine aR 4 ?_
  refine aC (bits_Len_ok h1) [] [] [] ?_
  refine aR 1 ?_
  refine aCp (slices_pdqsortCmpFunc_api_Note_o0_f4_command_Office_aged_1_ok h2) ⟨⟨rfl, rfl, pin1 h3⟩, trivial⟩ [] [] [] ?_
  refine aE ?_
  exact oF hF [] []

/-! ### (*beaconfleet/command.Office).aged -/
def command_Office_aged_x1_k : ((List (List UInt8 × api_Note)) × (List api_Note)) → AEx
  | _ => .exit 0

def command_Office_aged_x1_S (qo : Int) (qo1 : Int) (qm : List (List UInt8 × api_Note)) (qat : Int) (vme : List (Nat × List D × List D)) (vcl : Nat) (vhp : (List.map (encM D.str api_Note.enc) qm).Perm (List.map (·.2) vme)) : ((List (List UInt8 × api_Note)) × (List api_Note)) → St
  | (vm1, vover1) => Mem.st ⟨[(3, ⟨65, 9, List.map api_Note.enc vover1⟩)], [(0, [.d (.int .i64 qo), .d (.int .i64 qo), .d (.int .i64 qo), .d (.int .i64 qo1), .mapp 1, .d (.int .i64 qo1)]), (1, [.mapc .str true (List.map (encM D.str api_Note.enc) qm)]), (2, [.mapc .str true (List.map (encM D.str api_Note.enc) vm1)])]⟩ (tl [(0, .v (.one (.box 0 0))), (5, .v (.one (.mapp 2))), (6, .v (.one (.own 3 none)))]) 4

def command_Office_aged_x1_H (qo : Int) (qo1 : Int) (qm : List (List UInt8 × api_Note)) (qat : Int) (vme : List (Nat × List D × List D)) (vcl : Nat) (vhp : (List.map (encM D.str api_Note.enc) qm).Perm (List.map (·.2) vme)) (vl : List (List UInt8 × api_Note)) : (List (List UInt8 × api_Note)) × (List api_Note) → St
  | (vm, vover) => Mem.st ⟨[(4, ⟨65, 9, List.map api_Note.enc vover⟩)], [(0, [.d (.int .i64 qo), .d (.int .i64 qo), .d (.int .i64 qo), .d (.int .i64 qo1), .mapp 1, .d (.int .i64 qo1)]), (1, [.mapg .str true vme vcl]), (2, [.iterc 1 vme vcl (List.map (encM D.str api_Note.enc) vl) none]), (3, [.mapc .str true (List.map (encM D.str api_Note.enc) vm)])]⟩ (tl [(0, .v (.one (.box 0 0))), (1, .v (.one (.d (.int .i64 qat)))), (5, .v (.one (.mapp 3))), (6, .v (.one (.own 4 none))), (16, .v (.one (.box 2 0)))]) 5

theorem command_Office_aged_x1_ok (qo : Int) (qo1 : Int) (qm : List (List UInt8 × api_Note)) (qat : Int) (vme : List (Nat × List D × List D)) (vcl : Nat) (vhp : (List.map (encM D.str api_Note.enc) qm).Perm (List.map (·.2) vme)) (vl : List (List UInt8 × api_Note)) (s : (List (List UInt8 × api_Note)) × (List api_Note)) (hE : vl = [] → ∃ x, command_Office_aged_x1 qo qo1 qat none s = some x) (hP : ∀ e l', List.Perm vl (e :: l') → ∃ x, command_Office_aged_x1 qo qo1 qat (some e) s = some x) : Awp prog 2 60 (cL (cL (cR (cL (cR (cR (cR (cB f93)))))))) (OutR 2 command_Office_aged_x1_k (command_Office_aged_x1 qo qo1 qat) (command_Office_aged_x1_H qo qo1 qm qat vme vcl vhp) (command_Office_aged_x1_S qo qo1 qm qat vme vcl vhp) vl s) (command_Office_aged_x1_H qo qo1 qm qat vme vcl vhp vl s) := by
  obtain ⟨vm, vover⟩ := s
  refine awp_seq ?_
  refine awp_region ?_
  refine aNext (ka := .str) (va := true) (me := vme) (cl := vcl) (cur := none) 2 1 (encM D.str api_Note.enc) vl rfl (fun h3 => ?_) (fun ve1 vl2 vb1 h4 => ?_)
  · obtain ⟨x, hF0⟩ := hE h3
    have hF := hF0
    unfold command_Office_aged_x1 at hF
    refine aR 1 ?_
    refine aE ?_
    refine awp_seq ?_
    refine awp_false (by kernel_rfl) rfl ?_
    refine awp_close (ka := .str) (va := true) (me := vme) (cl := vcl) 1 vhp ?_
    refine awp_exit ?_
    exact outE h3 hF0 (oO hF [(2, 3), (3, 4)] [] rfl)
  · obtain ⟨x, hF0⟩ := hP _ _ h4
    have hF := hF0
    unfold command_Office_aged_x1 at hF
    refine aR 1 ?_
    refine aE ?_
    refine awp_seq ?_
    refine awp_true (by kernel_rfl) rfl ?_
    refine awp_skip ?_
    refine awp_block ?_
    refine awp_seq ?_
    refine awp_region ?_
    refine aEntry (ka := .str) (va := true) (me := vme) (cl := vcl) (b := vb1) (rest := List.map (encM D.str api_Note.enc) vl2) 2 1 (encM D.str api_Note.enc) ve1 rfl ?_
    refine aR 5 ?_
    refine aE ?_
    refine awp_seq ?_
    refine bE hF fun vr2_1 h5 hF => ?_
    refine awp_region ?_
    refine aR 3 ?_
    refine aC (command_Office_grown_ok (qme0 := vme) (qcl0 := vcl) h5) [] [] [] ?_
    refine aR 1 ?_
    refine aE ?_
    refine awp_seq ?_
    refine awp_region ?_
    refine aR 3 ?_
    refine aPut 3 .str true (l := vm) (key := ve1.1) (v := (api_Note.mk (api_Letter.mk vr2_1.Letter.Id vr2_1.Letter.Slot vr2_1.Letter.Body vr2_1.Letter.Prio vr2_1.Letter.At vr2_1.Letter.Until) vr2_1.State vr2_1.Tries vr2_1.Since)) D.str api_Note.enc rfl ?_
    refine aE ?_
    refine awp_seq ?_
    refine bE hF fun _ h6 hF => ?_
    refine awp_region ?_
    refine aR 2 ?_
    refine aC (command_ended_ok h6) [] [] [] ?_
    refine aE ?_
    refine cE hF (fun h7 hF => ?_) fun h7 hF => ?_
    · refine awp_true (by kernel_rfl) h7 ?_
      refine gE hF fun h8 hF => ?_
      refine awp_region ?_
      refine aR 3 ?_
      refine aX (x_app api_Note.enc 4 h8) ?_
      refine aR 1 ?_
      refine aE ?_
      exact outP h4 hF0 (outCur (idM := 1) (me := vme) (cl := vcl) (rest := List.map (encM D.str api_Note.enc) vl2) (cur := some (vb1, (encM D.str api_Note.enc) ve1)) 2 <| oO hF [(4, 23005)] [] rfl)
    · refine awp_false (by kernel_rfl) h7 ?_
      refine awp_skip ?_
      exact outP h4 hF0 (outCur (idM := 1) (me := vme) (cl := vcl) (rest := List.map (encM D.str api_Note.enc) vl2) (cur := some (vb1, (encM D.str api_Note.enc) ve1)) 2 <| oO hF [] [] rfl)

def command_Office_aged_x2_k : (List (List UInt8 × api_Note)) → AEx
  | _ => .exit 2

def command_Office_aged_x2_S (qo : Int) (qo1 : Int) (qm : List (List UInt8 × api_Note)) (vl3 : List api_Note) : (List (List UInt8 × api_Note)) → St
  | vm3 => Mem.st ⟨[], [(0, [.d (.int .i64 qo), .d (.int .i64 qo), .d (.int .i64 qo), .d (.int .i64 qo1), .mapp 1, .d (.int .i64 qo1)]), (1, [.mapc .str true (List.map (encM D.str api_Note.enc) qm)]), (2, [.mapc .str true (List.map (encM D.str api_Note.enc) vm3)])]⟩ (tl [(5, .v (.one (.mapp 2)))]) 3

def command_Office_aged_x2_H (qo : Int) (qo1 : Int) (qm : List (List UInt8 × api_Note)) (vl3 : List api_Note) : (List (List UInt8 × api_Note)) × Int → St
  | (vm2, vx) => Mem.st ⟨[], [(0, [.d (.int .i64 qo), .d (.int .i64 qo), .d (.int .i64 qo), .d (.int .i64 qo1), .mapp 1, .d (.int .i64 qo1)]), (1, [.mapc .str true (List.map (encM D.str api_Note.enc) qm)]), (2, [.mapc .str true (List.map (encM D.str api_Note.enc) vm2)])]⟩ (tl [(5, .v (.one (.mapp 2))), (48, .v (.one (.d (.lst (List.map api_Note.enc (vl3.take (imax 0 (IntKind.wrap .i64 ((vl3.length : Int) - qo1))).toNat)))))), (49, .v (.one (.d (.int .i64 ((vl3.take (imax 0 (IntKind.wrap .i64 ((vl3.length : Int) - qo1))).toNat).length : Int))))), (50, .v (.one (.d (.int .i64 vx))))]) 3

theorem command_Office_aged_x2_ok (qo : Int) (qo1 : Int) (qm : List (List UInt8 × api_Note)) (vl3 : List api_Note) (s : (List (List UInt8 × api_Note)) × Int) (r : ((List (List UInt8 × api_Note)) × Int) ⊕ ((List (List UInt8 × api_Note)))) (hF : command_Office_aged_x2 qo1 vl3 s = some r) : Awp prog 2 60 (cL (cL (cR (cL (cR (cR (cR (cR (cR (cB f93)))))))))) (Out 2 (kk command_Office_aged_x2_k) (SS (command_Office_aged_x2_H qo qo1 qm vl3) (command_Office_aged_x2_S qo qo1 qm vl3)) r) (command_Office_aged_x2_H qo qo1 qm vl3 s) := by
  obtain ⟨vm2, vx⟩ := s
  unfold command_Office_aged_x2 at hF
  refine awp_seq ?_
  refine awp_region ?_
  refine aR 1 ?_
  refine aE ?_
  refine awp_seq ?_
  refine cE hF (fun h13 hF => ?_) fun h13 hF => ?_
  · refine awp_true (by kernel_rfl) h13 ?_
    refine awp_skip ?_
    refine awp_seq ?_
    refine awp_block ?_
    refine awp_seq ?_
    refine bE hF fun vy1 h14 hF => ?_
    refine awp_region ?_
    refine aX (x_idx api_Note.enc h14) ?_
    refine aR 3 ?_
    refine aE ?_
    refine awp_region ?_
    refine aR 4 ?_
    refine aDel 2 .str true (l := vm2) (key := vy1.Letter.Id) D.str api_Note.enc rfl ?_
    refine aE ?_
    refine awp_region ?_
    refine aR 2 ?_
    refine aE ?_
    exact oO hF [] [] rfl
  · refine awp_false (by kernel_rfl) h13 ?_
    refine awp_exit ?_
    exact oO hF [] [] rfl

def command_Office_aged_R (qo : Int) (qo1 : Int) (qm : List (List UInt8 × api_Note)) (qat : Int) (r : (List (List UInt8 × api_Note))) : TV × Mem := (.v (.one (.mapp 2)), ⟨[], [(0, [.d (.int .i64 qo), .d (.int .i64 qo), .d (.int .i64 qo), .d (.int .i64 qo1), .mapp 1, .d (.int .i64 qo1)]), (1, [.mapc .str true (List.map (encM D.str api_Note.enc) qm)]), (2, [.mapc .str true (List.map (encM D.str api_Note.enc) r)])]⟩)

theorem command_Office_aged_ok {qo : Int} {qo1 : Int} {qm : List (List UInt8 × api_Note)} {qat : Int} {r} (hF : command_Office_aged qo qo1 qm qat = some r) : Holds prog 93 [.v (.one (.box 0 0)), .v (.one (.d (.int .i64 qat)))] ⟨[], [(0, [.d (.int .i64 qo), .d (.int .i64 qo), .d (.int .i64 qo), .d (.int .i64 qo1), .mapp 1, .d (.int .i64 qo1)]), (1, [.mapc .str true (List.map (encM D.str api_Note.enc) qm)])]⟩ (Is (command_Office_aged_R qo qo1 qm qat r)) := by
  unfold command_Office_aged at hF
  refine holds_of_awp hΓ (fn := f93) (c := cB f93) (A := 2) (nx := 2) (by kernel_rfl) (by kernel_rfl) (by kernel_rfl) (by kernel_rfl) (by kernel_rfl) (by kernel_rfl) (lowc_of (by kernel_rfl)) ?_
  show Awp prog 2 60 (cB f93) _ _
  refine awp_seq ?_
  refine awp_region ?_
  refine aR 1 ?_
  refine aE ?_
  refine awp_seq ?_
  refine awp_region ?_
  refine aX (x_map .str true (κ := List UInt8) (β := api_Note) D.str api_Note.enc) ?_
  refine aR 1 ?_
  refine aE ?_
  refine awp_seq ?_
  refine awp_region ?_
  refine aR 1 ?_
  refine aE ?_
  refine awp_seq ?_
  refine awp_seq ?_
  refine awp_region ?_
  refine aR 4 ?_
  refine aRange (ka := .str) (va := true) 1 (encM D.str api_Note.enc) qm rfl (fun vme vcl vhp => ?_)
  refine aE ?_
  refine awp_block ?_
  refine awp_to (st' := command_Office_aged_x1_H qo qo1 qm qat vme vcl vhp qm (([] : List (List UInt8 × api_Note)), [])) (oT [(2, 8002), (3, 1002)] [4]) ?_
  refine rG (H := command_Office_aged_x1_H qo qo1 qm qat vme vcl vhp) (k := command_Office_aged_x1_k) (S := command_Office_aged_x1_S qo qo1 qm qat vme vcl vhp) hF (by intro x; exact fun h => nomatch h) (fun l s => command_Office_aged_x1_ok qo qo1 qm qat vme vcl vhp l s) (fun x hF => ?_)
  obtain ⟨vm1_1, vover1_1⟩ := x
  refine awp_seq ?_
  refine bE hF fun vl3 h10 hF => ?_
  refine gE hF fun h11 hF => ?_
  refine awp_region ?_
  refine aR 1 ?_
  refine aCp (slices_SortFunc_api_Note_api_Note_o0_f1_command_Office_aged_1_ok h10) ⟨⟨rfl, rfl, pin1 h11⟩, trivial⟩ [(0, 3)] [] [] ?_
  refine aE ?_
  refine awp_seq ?_
  refine awp_seq ?_
  refine gE hF fun h12 hF => ?_
  refine awp_region ?_
  refine aR 2 ?_
  refine aL api_Note.enc vl3 ?_
  refine aR 7 ?_
  refine aT api_Note.enc 3 h12 rfl ?_
  refine aL api_Note.enc (vl3.take (imax 0 (IntKind.wrap .i64 ((vl3.length : Int) - qo1))).toNat) ?_
  refine aR 1 ?_
  refine aE ?_
  refine awp_to (oT (m := ⟨[], [(0, [.d (.int .i64 qo), .d (.int .i64 qo), .d (.int .i64 qo), .d (.int .i64 qo1), .mapp 1, .d (.int .i64 qo1)]), (1, [.mapc .str true (List.map (encM D.str api_Note.enc) qm)]), (2, [.mapc .str true (List.map (encM D.str api_Note.enc) vm1_1)])]⟩) (ts := [(5, .v (.one (.mapp 2))), (48, .v (.one (.d (.lst (List.map api_Note.enc (vl3.take (imax 0 (IntKind.wrap .i64 ((vl3.length : Int) - qo1))).toNat)))))), (49, .v (.one (.d (.int .i64 ((vl3.take (imax 0 (IntKind.wrap .i64 ((vl3.length : Int) - qo1))).toNat).length : Int))))), (50, .v (.one (.d (.int .i64 0))))]) (nx := 3) [] []) ?_
  refine awp_block ?_
  refine awp_to (st' := command_Office_aged_x2_H qo qo1 qm vl3 (vm1_1, 0)) (oT [] []) ?_
  refine bE hF fun vm3_1 h15 hF => ?_
  refine awp_sub (awp_loop' (command_Office_aged_x2_H qo qo1 qm vl3) command_Office_aged_x2_k (command_Office_aged_x2_S qo qo1 qm vl3) (by intro x; exact fun h => nomatch h) h15 (command_Office_aged_x2_ok qo qo1 qm vl3)) ?_
  refine awp_seq ?_
  refine awp_region ?_
  refine aR 2 ?_
  refine aE ?_
  refine awp_ret ?_
  exact oF hF [] []

/-! ### beaconfleet/command.pending -/
def command_pending_x1_k : Int → AEx
  | _ => .exit 0

def command_pending_x1_S (qm : List (List UInt8 × api_Note)) (vme : List (Nat × List D × List D)) (vcl : Nat) (vhp : (List.map (encM D.str api_Note.enc) qm).Perm (List.map (·.2) vme)) : Int → St
  | vk1 => Mem.st ⟨[], [(0, [.mapc .str true (List.map (encM D.str api_Note.enc) qm)])]⟩ (tl [(3, .v (.one (.d (.int .i64 vk1))))]) 1

def command_pending_x1_H (qm : List (List UInt8 × api_Note)) (vme : List (Nat × List D × List D)) (vcl : Nat) (vhp : (List.map (encM D.str api_Note.enc) qm).Perm (List.map (·.2) vme)) (vl : List (List UInt8 × api_Note)) : Int → St
  | vk => Mem.st ⟨[], [(0, [.mapg .str true vme vcl]), (1, [.iterc 0 vme vcl (List.map (encM D.str api_Note.enc) vl) none])]⟩ (tl [(3, .v (.one (.d (.int .i64 vk)))), (7, .v (.one (.box 1 0)))]) 2

theorem command_pending_x1_ok (qm : List (List UInt8 × api_Note)) (vme : List (Nat × List D × List D)) (vcl : Nat) (vhp : (List.map (encM D.str api_Note.enc) qm).Perm (List.map (·.2) vme)) (vl : List (List UInt8 × api_Note)) (vk : Int) (hE : vl = [] → ∃ x, command_pending_x1 none vk = some x) (hP : ∀ e l', List.Perm vl (e :: l') → ∃ x, command_pending_x1 (some e) vk = some x) : Awp prog 1 19 (cL (cL (cR (cL (cR (cR (cB f162))))))) (OutR 1 command_pending_x1_k (command_pending_x1) (command_pending_x1_H qm vme vcl vhp) (command_pending_x1_S qm vme vcl vhp) vl vk) (command_pending_x1_H qm vme vcl vhp vl vk) := by
  refine awp_seq ?_
  refine awp_region ?_
  refine aNext (ka := .str) (va := true) (me := vme) (cl := vcl) (cur := none) 1 0 (encM D.str api_Note.enc) vl rfl (fun h3 => ?_) (fun ve1 vl2 vb1 h4 => ?_)
  · obtain ⟨x, hF0⟩ := hE h3
    have hF := hF0
    unfold command_pending_x1 at hF
    refine aR 1 ?_
    refine aE ?_
    refine awp_seq ?_
    refine awp_false (by kernel_rfl) rfl ?_
    refine awp_close (ka := .str) (va := true) (me := vme) (cl := vcl) 0 vhp ?_
    refine awp_exit ?_
    exact outE h3 hF0 (oO hF [] [] rfl)
  · obtain ⟨x, hF0⟩ := hP _ _ h4
    have hF := hF0
    unfold command_pending_x1 at hF
    refine aR 1 ?_
    refine aE ?_
    refine awp_seq ?_
    refine awp_true (by kernel_rfl) rfl ?_
    refine awp_skip ?_
    refine awp_block ?_
    refine awp_seq ?_
    refine awp_region ?_
    refine aEntry (ka := .str) (va := true) (me := vme) (cl := vcl) (b := vb1) (rest := List.map (encM D.str api_Note.enc) vl2) 1 0 (encM D.str api_Note.enc) ve1 rfl ?_
    refine aR 3 ?_
    refine aE ?_
    refine awp_seq ?_
    refine bE hF fun _ h5 hF => ?_
    refine awp_region ?_
    refine aR 2 ?_
    refine aC (command_ended_ok h5) [] [] [] ?_
    refine aR 1 ?_
    refine aE ?_
    refine cE hF (fun h6 hF => ?_) fun h6 hF => ?_
    · refine awp_true (by kernel_rfl) h6 ?_
      refine awp_region ?_
      refine aR 3 ?_
      refine aE ?_
      exact outP h4 hF0 (outCur (idM := 0) (me := vme) (cl := vcl) (rest := List.map (encM D.str api_Note.enc) vl2) (cur := some (vb1, (encM D.str api_Note.enc) ve1)) 1 <| oO hF [] [] rfl)
    · refine awp_false (by kernel_rfl) h6 ?_
      refine awp_skip ?_
      exact outP h4 hF0 (outCur (idM := 0) (me := vme) (cl := vcl) (rest := List.map (encM D.str api_Note.enc) vl2) (cur := some (vb1, (encM D.str api_Note.enc) ve1)) 1 <| oO hF [] [] rfl)

def command_pending_R (qm : List (List UInt8 × api_Note)) (r : Int) : TV × Mem := (.v (.one (.d (.int .i64 r))), ⟨[], [(0, [.mapc .str true (List.map (encM D.str api_Note.enc) qm)])]⟩)

theorem command_pending_ok {qm : List (List UInt8 × api_Note)} {r} (hF : command_pending qm = some r) : Holds prog 162 [.v (.one (.mapp 0))] ⟨[], [(0, [.mapc .str true (List.map (encM D.str api_Note.enc) qm)])]⟩ (Is (command_pending_R qm r)) := by
  unfold command_pending at hF
  refine holds_of_awp hΓ (fn := f162) (c := cB f162) (A := 1) (nx := 1) (by kernel_rfl) (by kernel_rfl) (by kernel_rfl) (by kernel_rfl) (by kernel_rfl) (by kernel_rfl) (lowc_of (by kernel_rfl)) ?_
  show Awp prog 1 19 (cB f162) _ _
  refine awp_seq ?_
  refine awp_region ?_
  refine aR 1 ?_
  refine aE ?_
  refine awp_seq ?_
  refine awp_region ?_
  refine aR 1 ?_
  refine aE ?_
  refine awp_seq ?_
  refine awp_seq ?_
  refine awp_region ?_
  refine aR 1 ?_
  refine aRange (ka := .str) (va := true) 0 (encM D.str api_Note.enc) qm rfl (fun vme vcl vhp => ?_)
  refine aE ?_
  refine awp_block ?_
  refine awp_to (st' := command_pending_x1_H qm vme vcl vhp qm 0) (oT [(1, 3001)] []) ?_
  refine rG (H := command_pending_x1_H qm vme vcl vhp) (k := command_pending_x1_k) (S := command_pending_x1_S qm vme vcl vhp) hF (by intro x; exact fun h => nomatch h) (fun l s => command_pending_x1_ok qm vme vcl vhp l s) (fun vk1_1 hF => ?_)
  refine awp_seq ?_
  refine awp_region ?_
  refine aR 2 ?_
  refine aE ?_
  refine awp_ret ?_
  exact oF hF [] []

/-! ### (*beaconfleet/command.Office).keep -/
def command_Office_keep_R (qo : Int) (qo1 : Int) (qm : List (List UInt8 × api_Note)) (qm1 : List (List UInt8 × api_Note)) (qat : Int) (r : Unit) : TV × Mem := (.tup [], ⟨[], [(0, [.d (.int .i64 qo), .d (.int .i64 qo), .d (.int .i64 qo), .d (.int .i64 qo1), .mapp 2, .d (.int .i64 qat)]), (1, [.mapc .str true (List.map (encM D.str api_Note.enc) qm)]), (2, [.mapc .str true (List.map (encM D.str api_Note.enc) qm1)])]⟩)

theorem command_Office_keep_ok {qo : Int} {qo1 : Int} {qm : List (List UInt8 × api_Note)} {qm1 : List (List UInt8 × api_Note)} {qat : Int} {r} (hF : command_Office_keep qo qo1 qm qm1 qat = some r) : Holds prog 92 [.v (.one (.box 0 0)), .v (.one (.mapp 2)), .v (.one (.d (.int .i64 qat)))] ⟨[], [(0, [.d (.int .i64 qo), .d (.int .i64 qo), .d (.int .i64 qo), .d (.int .i64 qo1), .mapp 1, .d (.int .i64 qo1)]), (1, [.mapc .str true (List.map (encM D.str api_Note.enc) qm)]), (2, [.mapc .str true (List.map (encM D.str api_Note.enc) qm1)])]⟩ (Is (command_Office_keep_R qo qo1 qm qm1 qat r)) := by
  unfold command_Office_keep at hF
  refine holds_of_awp hΓ (fn := f92) (c := cB f92) (A := 3) (nx := 3) (by kernel_rfl) (by kernel_rfl) (by kernel_rfl) (by kernel_rfl) (by kernel_rfl) (by kernel_rfl) (lowc_of (by kernel_rfl)) ?_
  show Awp prog 3 14 (cB f92) _ _
  refine awp_region ?_
  refine aR 10 ?_
  refine aE ?_
  exact oF hF [] []

/-! ### (*beaconfleet/command.Office).Put -/
def command_Office_Put_x2_k : Bool → AEx
  | _ => .normal

def command_Office_Put_x2_S (qx : Int) (qx1 : Int) (qm : List (List UInt8 × api_Note)) (qx2 : api_Letter) (vm4 : List (List UInt8 × api_Note)) (vme : List (Nat × List D × List D)) (vcl : Nat) (vhp : (List.map (encM D.str api_Note.enc) vm4).Perm (List.map (·.2) vme)) (vx : List UInt8) (ve2 : (List UInt8 × api_Note)) (vl2 : List (List UInt8 × api_Note)) (vb1 : Nat) : Bool → St
  | vx2 => Mem.st ⟨[], [(0, [.d (.int .i64 qx), .d (.int .i64 qx), .d (.int .i64 qx), .d (.int .i64 qx1), .mapp 1, .d (.int .i64 qx1)]), (1, [.mapc .str true (List.map (encM D.str api_Note.enc) qm)]), (2, [.d (.str qx2.Id), .d (.str qx2.Slot), .d (.str qx2.Body), .d (.int .i64 qx2.Prio), .d (.int .i64 qx2.At), .d (.int .i64 qx2.Until)]), (3, [.iterc 4 vme vcl (List.map (encM D.str api_Note.enc) vl2) (some (vb1, (encM D.str api_Note.enc) ve2))]), (4, [.mapg .str true vme vcl])]⟩ (tl [(0, .v (.one (.box 0 0))), (3, .v (.one (.box 2 0))), (6, .v (.one (.mapp 4))), (9, .v (.one (.d (.str vx)))), (10, .v (.one (.d (.str ve2.1)))), (38, .v (.one (.box 3 0))), (64, .v (.one (.d (.bool vx2))))]) 5

def command_Office_Put_x2_I (qx : Int) (qx1 : Int) (qm : List (List UInt8 × api_Note)) (qx2 : api_Letter) (vm4 : List (List UInt8 × api_Note)) (vme : List (Nat × List D × List D)) (vcl : Nat) (vhp : (List.map (encM D.str api_Note.enc) vm4).Perm (List.map (·.2) vme)) (vx : List UInt8) (ve2 : (List UInt8 × api_Note)) (vl2 : List (List UInt8 × api_Note)) (vb1 : Nat) : St := Mem.st ⟨[], [(0, [.d (.int .i64 qx), .d (.int .i64 qx), .d (.int .i64 qx), .d (.int .i64 qx1), .mapp 1, .d (.int .i64 qx1)]), (1, [.mapc .str true (List.map (encM D.str api_Note.enc) qm)]), (2, [.d (.str qx2.Id), .d (.str qx2.Slot), .d (.str qx2.Body), .d (.int .i64 qx2.Prio), .d (.int .i64 qx2.At), .d (.int .i64 qx2.Until)]), (3, [.d (.str ve2.2.Letter.Id), .d (.str ve2.2.Letter.Slot), .d (.str ve2.2.Letter.Body), .d (.int .i64 ve2.2.Letter.Prio), .d (.int .i64 ve2.2.Letter.At), .d (.int .i64 ve2.2.Letter.Until), .d (.int .i64 ve2.2.State), .d (.int .i64 ve2.2.Tries), .d (.int .i64 ve2.2.Since)]), (4, [.iterc 5 vme vcl (List.map (encM D.str api_Note.enc) vl2) (some (vb1, (encM D.str api_Note.enc) ve2))]), (5, [.mapg .str true vme vcl])]⟩ (tl [(0, .v (.one (.box 0 0))), (3, .v (.one (.box 2 0))), (6, .v (.one (.mapp 5))), (9, .v (.one (.d (.str vx)))), (10, .v (.one (.d (.str ve2.1)))), (11, .v (.one (.box 3 0))), (38, .v (.one (.box 4 0)))]) 6

theorem command_Office_Put_x2_ok (qx : Int) (qx1 : Int) (qm : List (List UInt8 × api_Note)) (qx2 : api_Letter) (vm4 : List (List UInt8 × api_Note)) (vme : List (Nat × List D × List D)) (vcl : Nat) (vhp : (List.map (encM D.str api_Note.enc) vm4).Perm (List.map (·.2) vme)) (vx : List UInt8) (ve2 : (List UInt8 × api_Note)) (vl2 : List (List UInt8 × api_Note)) (vb1 : Nat) {r} (hF : command_Office_Put_x2 qx2 ve2 = some r) : Awp prog 2 103 (cL (cR (cL (cR (cR (cL (cL (cR (cL (cR (cR (cR (cR (cR (cB f61))))))))))))))) (Out 2 command_Office_Put_x2_k (command_Office_Put_x2_S qx qx1 qm qx2 vm4 vme vcl vhp vx ve2 vl2 vb1) r) (command_Office_Put_x2_I qx qx1 qm qx2 vm4 vme vcl vhp vx ve2 vl2 vb1) := by
  unfold command_Office_Put_x2 at hF
  refine cE hF (fun h13 hF => ?_) fun h13 hF => ?_
  · refine cE hF (fun h14 hF => ?_) fun h14 hF => ?_
    · refine cE hF (fun h15 hF => ?_) fun h15 hF => ?_
      · refine awp_region ?_
        refine aR 2 ?_
        refine aB h13 ?_
        refine aR 6 ?_
        refine aB h14 ?_
        refine aR 4 ?_
        refine aB h15 ?_
        refine aR 6 ?_
        refine aE ?_
        exact oO hF [(3, 4), (4, 5)] [] rfl
      · refine awp_region ?_
        refine aR 2 ?_
        refine aB h13 ?_
        refine aR 6 ?_
        refine aB h14 ?_
        refine aR 4 ?_
        refine aB h15 ?_
        refine aR 6 ?_
        refine aE ?_
        exact oO hF [(3, 4), (4, 5)] [] rfl
    · refine awp_region ?_
      refine aR 2 ?_
      refine aB h13 ?_
      refine aR 6 ?_
      refine aB h14 ?_
      refine aR 11 ?_
      refine aE ?_
      exact oO hF [(3, 4), (4, 5)] [] rfl
  · refine awp_region ?_
    refine aR 2 ?_
    refine aB h13 ?_
    refine aR 18 ?_
    refine aE ?_
    exact oO hF [(3, 4), (4, 5)] [] rfl

def command_Office_Put_x1_k : (List UInt8) → AEx
  | _ => .exit 0

def command_Office_Put_x1_S (qx : Int) (qx1 : Int) (qm : List (List UInt8 × api_Note)) (qx2 : api_Letter) (vm4 : List (List UInt8 × api_Note)) (vme : List (Nat × List D × List D)) (vcl : Nat) (vhp : (List.map (encM D.str api_Note.enc) vm4).Perm (List.map (·.2) vme)) : (List UInt8) → St
  | vx3 => Mem.st ⟨[], [(0, [.d (.int .i64 qx), .d (.int .i64 qx), .d (.int .i64 qx), .d (.int .i64 qx1), .mapp 1, .d (.int .i64 qx1)]), (1, [.mapc .str true (List.map (encM D.str api_Note.enc) qm)]), (2, [.d (.str qx2.Id), .d (.str qx2.Slot), .d (.str qx2.Body), .d (.int .i64 qx2.Prio), .d (.int .i64 qx2.At), .d (.int .i64 qx2.Until)]), (3, [.mapc .str true (List.map (encM D.str api_Note.enc) vm4)])]⟩ (tl [(0, .v (.one (.box 0 0))), (3, .v (.one (.box 2 0))), (6, .v (.one (.mapp 3))), (9, .v (.one (.d (.str vx3))))]) 4

def command_Office_Put_x1_H (qx : Int) (qx1 : Int) (qm : List (List UInt8 × api_Note)) (qx2 : api_Letter) (vm4 : List (List UInt8 × api_Note)) (vme : List (Nat × List D × List D)) (vcl : Nat) (vhp : (List.map (encM D.str api_Note.enc) vm4).Perm (List.map (·.2) vme)) (vl : List (List UInt8 × api_Note)) : (List UInt8) → St
  | vx => Mem.st ⟨[], [(0, [.d (.int .i64 qx), .d (.int .i64 qx), .d (.int .i64 qx), .d (.int .i64 qx1), .mapp 1, .d (.int .i64 qx1)]), (1, [.mapc .str true (List.map (encM D.str api_Note.enc) qm)]), (2, [.d (.str qx2.Id), .d (.str qx2.Slot), .d (.str qx2.Body), .d (.int .i64 qx2.Prio), .d (.int .i64 qx2.At), .d (.int .i64 qx2.Until)]), (3, [.iterc 4 vme vcl (List.map (encM D.str api_Note.enc) vl) none]), (4, [.mapg .str true vme vcl])]⟩ (tl [(0, .v (.one (.box 0 0))), (3, .v (.one (.box 2 0))), (6, .v (.one (.mapp 4))), (9, .v (.one (.d (.str vx)))), (38, .v (.one (.box 3 0)))]) 5

theorem command_Office_Put_x1_ok (qx : Int) (qx1 : Int) (qm : List (List UInt8 × api_Note)) (qx2 : api_Letter) (vm4 : List (List UInt8 × api_Note)) (vme : List (Nat × List D × List D)) (vcl : Nat) (vhp : (List.map (encM D.str api_Note.enc) vm4).Perm (List.map (·.2) vme)) (vl : List (List UInt8 × api_Note)) (vx : (List UInt8)) (hE : vl = [] → ∃ x, command_Office_Put_x1 qx2 none vx = some x) (hP : ∀ e l', List.Perm vl (e :: l') → ∃ x, command_Office_Put_x1 qx2 (some e) vx = some x) : Awp prog 2 103 (cL (cL (cR (cL (cR (cR (cR (cR (cR (cB f61)))))))))) (OutR 2 command_Office_Put_x1_k (command_Office_Put_x1 qx2) (command_Office_Put_x1_H qx qx1 qm qx2 vm4 vme vcl vhp) (command_Office_Put_x1_S qx qx1 qm qx2 vm4 vme vcl vhp) vl vx) (command_Office_Put_x1_H qx qx1 qm qx2 vm4 vme vcl vhp vl vx) := by
  refine awp_seq ?_
  refine awp_region ?_
  refine aNext (ka := .str) (va := true) (me := vme) (cl := vcl) (cur := none) 3 4 (encM D.str api_Note.enc) vl rfl (fun h11 => ?_) (fun ve2 vl2 vb1 h12 => ?_)
  · obtain ⟨x, hF0⟩ := hE h11
    have hF := hF0
    unfold command_Office_Put_x1 at hF
    refine aR 1 ?_
    refine aE ?_
    refine awp_seq ?_
    refine awp_false (by kernel_rfl) rfl ?_
    refine awp_close (ka := .str) (va := true) (me := vme) (cl := vcl) 4 vhp ?_
    refine awp_exit ?_
    exact outE h11 hF0 (oO hF [(3, 4)] [] rfl)
  · obtain ⟨x, hF0⟩ := hP _ _ h12
    have hF := hF0
    unfold command_Office_Put_x1 at hF
    refine aR 1 ?_
    refine aE ?_
    refine awp_seq ?_
    refine awp_true (by kernel_rfl) rfl ?_
    refine awp_skip ?_
    refine awp_block ?_
    refine awp_seq ?_
    refine awp_region ?_
    refine aEntry (ka := .str) (va := true) (me := vme) (cl := vcl) (b := vb1) (rest := List.map (encM D.str api_Note.enc) vl2) 3 4 (encM D.str api_Note.enc) ve2 rfl ?_
    refine aR 5 ?_
    refine aE ?_
    refine awp_seq ?_
    refine awp_to (st' := command_Office_Put_x2_I qx qx1 qm qx2 vm4 vme vcl vhp vx ve2 vl2 vb1) (oT [(3, 5005), (4, 3), (5, 4)] []) ?_
    refine bE hF fun vx2_1 h16 hF => ?_
    refine awp_sub (command_Office_Put_x2_ok qx qx1 qm qx2 vm4 vme vcl vhp vx ve2 vl2 vb1 h16) ?_
    refine cE hF (fun h17 hF => ?_) fun h17 hF => ?_
    · refine awp_true (by kernel_rfl) h17 ?_
      refine awp_region ?_
      refine aR 2 ?_
      refine aE ?_
      exact outP h12 hF0 (outCur (idM := 4) (me := vme) (cl := vcl) (rest := List.map (encM D.str api_Note.enc) vl2) (cur := some (vb1, (encM D.str api_Note.enc) ve2)) 3 <| oO hF [] [] rfl)
    · refine awp_false (by kernel_rfl) h17 ?_
      refine awp_skip ?_
      exact outP h12 hF0 (outCur (idM := 4) (me := vme) (cl := vcl) (rest := List.map (encM D.str api_Note.enc) vl2) (cur := some (vb1, (encM D.str api_Note.enc) ve2)) 3 <| oO hF [] [] rfl)

def command_Office_Put_x3_k : Int → AEx
  | _ => .normal

def command_Office_Put_x3_S (qx : Int) (qx1 : Int) (qm : List (List UInt8 × api_Note)) (qx2 : api_Letter) (vm4 : List (List UInt8 × api_Note)) (vx3_1 : List UInt8) : Int → St
  | vx4 => Mem.st ⟨[], [(0, [.d (.int .i64 qx), .d (.int .i64 qx), .d (.int .i64 qx), .d (.int .i64 qx1), .mapp 1, .d (.int .i64 qx1)]), (1, [.mapc .str true (List.map (encM D.str api_Note.enc) qm)]), (2, [.d (.str qx2.Id), .d (.str qx2.Slot), .d (.str qx2.Body), .d (.int .i64 qx2.Prio), .d (.int .i64 qx2.At), .d (.int .i64 qx2.Until)]), (3, [.mapc .str true (List.map (encM D.str api_Note.enc) vm4)])]⟩ (tl [(0, .v (.one (.box 0 0))), (3, .v (.one (.box 2 0))), (6, .v (.one (.mapp 3))), (9, .v (.one (.d (.str vx3_1)))), (12, .v (.one (.d (.int .i64 vx4))))]) 4

def command_Office_Put_x3_I (qx : Int) (qx1 : Int) (qm : List (List UInt8 × api_Note)) (qx2 : api_Letter) (vm4 : List (List UInt8 × api_Note)) (vx3_1 : List UInt8) : St := Mem.st ⟨[], [(0, [.d (.int .i64 qx), .d (.int .i64 qx), .d (.int .i64 qx), .d (.int .i64 qx1), .mapp 1, .d (.int .i64 qx1)]), (1, [.mapc .str true (List.map (encM D.str api_Note.enc) qm)]), (2, [.d (.str qx2.Id), .d (.str qx2.Slot), .d (.str qx2.Body), .d (.int .i64 qx2.Prio), .d (.int .i64 qx2.At), .d (.int .i64 qx2.Until)]), (3, [.mapc .str true (List.map (encM D.str api_Note.enc) vm4)])]⟩ (tl [(0, .v (.one (.box 0 0))), (3, .v (.one (.box 2 0))), (6, .v (.one (.mapp 3))), (9, .v (.one (.d (.str vx3_1)))), (12, .v (.one (.d (.int .i64 qx))))]) 4

theorem command_Office_Put_x3_ok (qx : Int) (qx1 : Int) (qm : List (List UInt8 × api_Note)) (qx2 : api_Letter) (vm4 : List (List UInt8 × api_Note)) (vx3_1 : List UInt8) {r} (hF : command_Office_Put_x3 qx vx3_1 = some r) : Awp prog 2 103 (cL (cR (cR (cR (cR (cR (cR (cR (cB f61))))))))) (Out 2 command_Office_Put_x3_k (command_Office_Put_x3_S qx qx1 qm qx2 vm4 vx3_1) r) (command_Office_Put_x3_I qx qx1 qm qx2 vm4 vx3_1) := by
  unfold command_Office_Put_x3 at hF
  refine awp_seq ?_
  refine awp_region ?_
  refine aR 2 ?_
  refine aE ?_
  refine cE hF (fun h19 hF => ?_) fun h19 hF => ?_
  · refine awp_true (by kernel_rfl) h19 ?_
    refine awp_region ?_
    refine aR 3 ?_
    refine aE ?_
    exact oO hF [] [] rfl
  · refine awp_false (by kernel_rfl) h19 ?_
    refine awp_skip ?_
    exact oO hF [] [] rfl

def command_Office_Put_x4_k : (List (List UInt8 × api_Note)) → AEx
  | _ => .normal

def command_Office_Put_x4_S (qx : Int) (qx1 : Int) (qm : List (List UInt8 × api_Note)) (qx2 : api_Letter) (vm4 : List (List UInt8 × api_Note)) (vx3_1 : List UInt8) : (List (List UInt8 × api_Note)) → St
  | vm => Mem.st ⟨[], [(0, [.d (.int .i64 qx), .d (.int .i64 qx), .d (.int .i64 qx), .d (.int .i64 qx1), .mapp 1, .d (.int .i64 qx1)]), (1, [.mapc .str true (List.map (encM D.str api_Note.enc) qm)]), (2, [.d (.str qx2.Id), .d (.str qx2.Slot), .d (.str qx2.Body), .d (.int .i64 qx2.Prio), .d (.int .i64 qx2.At), .d (.int .i64 qx2.Until)]), (3, [.mapc .str true (List.map (encM D.str api_Note.enc) vm)])]⟩ (tl [(0, .v (.one (.box 0 0))), (3, .v (.one (.box 2 0))), (6, .v (.one (.mapp 3)))]) 4

def command_Office_Put_x4_I (qx : Int) (qx1 : Int) (qm : List (List UInt8 × api_Note)) (qx2 : api_Letter) (vm4 : List (List UInt8 × api_Note)) (vx3_1 : List UInt8) : St := Mem.st ⟨[], [(0, [.d (.int .i64 qx), .d (.int .i64 qx), .d (.int .i64 qx), .d (.int .i64 qx1), .mapp 1, .d (.int .i64 qx1)]), (1, [.mapc .str true (List.map (encM D.str api_Note.enc) qm)]), (2, [.d (.str qx2.Id), .d (.str qx2.Slot), .d (.str qx2.Body), .d (.int .i64 qx2.Prio), .d (.int .i64 qx2.At), .d (.int .i64 qx2.Until)]), (3, [.mapc .str true (List.map (encM D.str api_Note.enc) vm4)])]⟩ (tl [(0, .v (.one (.box 0 0))), (3, .v (.one (.box 2 0))), (6, .v (.one (.mapp 3))), (9, .v (.one (.d (.str vx3_1))))]) 4

theorem command_Office_Put_x4_ok (qx : Int) (qx1 : Int) (qm : List (List UInt8 × api_Note)) (qx2 : api_Letter) (vm4 : List (List UInt8 × api_Note)) (vx3_1 : List UInt8) {r} (hF : command_Office_Put_x4 qx2 vm4 vx3_1 = some r) : Awp prog 2 103 (cL (cR (cR (cR (cR (cR (cR (cR (cR (cR (cB f61))))))))))) (Out 2 command_Office_Put_x4_k (command_Office_Put_x4_S qx qx1 qm qx2 vm4 vx3_1) r) (command_Office_Put_x4_I qx qx1 qm qx2 vm4 vx3_1) := by
  unfold command_Office_Put_x4 at hF
  refine awp_seq ?_
  refine awp_region ?_
  refine aR 2 ?_
  refine aE ?_
  refine cE hF (fun h23 hF => ?_) fun h23 hF => ?_
  · refine awp_true (by kernel_rfl) h23 ?_
    refine awp_seq ?_
    refine bE hF fun ve3 h24 hF => ?_
    refine awp_region ?_
    refine aR 2 ?_
    refine aX (x_get 3 true D.str api_Note.enc h24) ?_
    refine aR 2 ?_
    refine aE ?_
    refine awp_seq ?_
    refine aD ?_
    refine dR 6 ?_
    refine dE ?_
    refine awp_region ?_
    refine aR 3 ?_
    refine aPut 3 .str true (l := vm4) (key := vx3_1) (v := (api_Note.mk (api_Letter.mk ve3.Letter.Id ve3.Letter.Slot ve3.Letter.Body ve3.Letter.Prio ve3.Letter.At ve3.Letter.Until) 6 ve3.Tries qx2.At)) D.str api_Note.enc rfl ?_
    refine aE ?_
    exact oO hF [] [] rfl
  · refine awp_false (by kernel_rfl) h23 ?_
    refine awp_skip ?_
    exact oO hF [] [] rfl

def command_Office_Put_R (qx : Int) (qx1 : Int) (qm : List (List UInt8 × api_Note)) (qx2 : api_Letter) : Int ⊕ (List (List UInt8 × api_Note)) → TV × Mem
  | .inl vr4 => (.v (.one (.d (.int .i64 vr4))), ⟨[], [(0, [.d (.int .i64 qx), .d (.int .i64 qx), .d (.int .i64 qx), .d (.int .i64 qx1), .mapp 1, .d (.int .i64 qx1)]), (1, [.mapc .str true (List.map (encM D.str api_Note.enc) qm)])]⟩)
  | .inr vm2 => (.v (.one (.d (.int .i64 0))), ⟨[], [(0, [.d (.int .i64 qx), .d (.int .i64 qx), .d (.int .i64 qx), .d (.int .i64 qx1), .mapp 2, .d (.int .i64 qx2.At)]), (1, [.mapc .str true (List.map (encM D.str api_Note.enc) qm)]), (2, [.mapc .str true (List.map (encM D.str api_Note.enc) vm2)])]⟩)

theorem command_Office_Put_ok {qx : Int} {qx1 : Int} {qm : List (List UInt8 × api_Note)} {qx2 : api_Letter} {r} (hF : command_Office_Put qx qx1 qm qx2 = some r) : Holds prog 61 [.v (.one (.box 0 0)), .v (.agg [.d (.str qx2.Id), .d (.str qx2.Slot), .d (.str qx2.Body), .d (.int .i64 qx2.Prio), .d (.int .i64 qx2.At), .d (.int .i64 qx2.Until)])] ⟨[], [(0, [.d (.int .i64 qx), .d (.int .i64 qx), .d (.int .i64 qx), .d (.int .i64 qx1), .mapp 1, .d (.int .i64 qx1)]), (1, [.mapc .str true (List.map (encM D.str api_Note.enc) qm)])]⟩ (Is (command_Office_Put_R qx qx1 qm qx2 r)) := by
  unfold command_Office_Put at hF
  refine holds_of_awp hΓ (fn := f61) (c := cB f61) (A := 2) (nx := 2) (by kernel_rfl) (by kernel_rfl) (by kernel_rfl) (by kernel_rfl) (by kernel_rfl) (by kernel_rfl) (lowc_of (by kernel_rfl)) ?_
  show Awp prog 2 103 (cB f61) _ _
  refine awp_seq ?_
  refine awp_region ?_
  refine aR 2 ?_
  refine aE ?_
  refine awp_seq ?_
  refine awp_seq ?_
  refine bE hF fun vr3 h1 hF => ?_
  refine bE hF fun vr h2 hF => ?_
  refine bE hF fun vr1 h3 hF => ?_
  refine aD ?_
  refine dR 1 ?_
  refine dC (command_CheckLetter_ok h1) [] [] [] ?_
  refine dR 3 ?_
  refine dC (command_Office_timeFault_ok h2) [] [] [] ?_
  refine dR 1 ?_
  refine dC (base_First_ok h3) [] [] [8002] ?_
  refine dR 1 ?_
  refine dE ?_
  refine awp_seq ?_
  refine awp_region ?_
  refine aR 2 ?_
  refine aE ?_
  refine cE hF (fun h4 hF => ?_) fun h4 hF => ?_
  · refine awp_true (by kernel_rfl) h4 ?_
    refine awp_seq ?_
    refine awp_region ?_
    refine aR 2 ?_
    refine aE ?_
    refine awp_ret ?_
    exact oF hF [] []
  · refine awp_false (by kernel_rfl) h4 ?_
    refine awp_skip ?_
    refine awp_seq ?_
    refine bE hF fun vm4 h5 hF => ?_
    refine awp_region ?_
    refine aR 3 ?_
    refine aC (command_Office_aged_ok h5) [] [] [] ?_
    refine aR 1 ?_
    refine aE ?_
    refine awp_seq ?_
    refine awp_seq ?_
    refine bE hF fun ve h6 hF => ?_
    refine bE hF fun vis h7 hF => ?_
    refine awp_region ?_
    refine aR 3 ?_
    refine aX (x_getO 16004 true D.str api_Note.enc h6 h7) ?_
    refine aR 6 ?_
    refine aE ?_
    refine awp_seq ?_
    refine awp_region ?_
    refine aR 1 ?_
    refine aE ?_
    refine cE hF (fun h8 hF => ?_) fun h8 hF => ?_
    · refine awp_true (by kernel_rfl) h8 ?_
      refine awp_seq ?_
      refine awp_region ?_
      refine aR 1 ?_
      refine aE ?_
      refine awp_ret ?_
      exact oF hF [] []
    · refine awp_false (by kernel_rfl) h8 ?_
      refine awp_skip ?_
      refine awp_seq ?_
      refine awp_region ?_
      refine aR 1 ?_
      refine aE ?_
      refine awp_seq ?_
      refine awp_seq ?_
      refine awp_region ?_
      refine aR 1 ?_
      refine aRange (ka := .str) (va := true) 16004 (encM D.str api_Note.enc) vm4 rfl (fun vme vcl vhp => ?_)
      refine aE ?_
      refine awp_block ?_
      refine awp_to (st' := command_Office_Put_x1_H qx qx1 qm qx2 vm4 vme vcl vhp vm4 ([] : List UInt8)) (oT [(3, 31002), (4, 16004)] []) ?_
      refine rG (H := command_Office_Put_x1_H qx qx1 qm qx2 vm4 vme vcl vhp) (k := command_Office_Put_x1_k) (S := command_Office_Put_x1_S qx qx1 qm qx2 vm4 vme vcl vhp) hF (by intro x; exact fun h => nomatch h) (fun l s => command_Office_Put_x1_ok qx qx1 qm qx2 vm4 vme vcl vhp l s) (fun vx3_1 hF => ?_)
      refine awp_seq ?_
      refine awp_region ?_
      refine aR 6 ?_
      refine aE ?_
      refine awp_seq ?_
      refine awp_to (st' := command_Office_Put_x3_I qx qx1 qm qx2 vm4 vx3_1) (oT [] []) ?_
      refine bE hF fun vx4_1 h20 hF => ?_
      refine awp_sub (command_Office_Put_x3_ok qx qx1 qm qx2 vm4 vx3_1 h20) ?_
      refine awp_seq ?_
      refine awp_seq ?_
      refine bE hF fun vr2 h21 hF => ?_
      refine awp_region ?_
      refine aR 1 ?_
      refine aC (command_pending_ok h21) [(0, 3)] [] [] ?_
      refine aR 2 ?_
      refine aE ?_
      refine cE hF (fun h22 hF => ?_) fun h22 hF => ?_
      · refine awp_true (by kernel_rfl) h22 ?_
        refine awp_seq ?_
        refine awp_region ?_
        refine aR 1 ?_
        refine aE ?_
        refine awp_ret ?_
        exact oF hF [] []
      · refine awp_false (by kernel_rfl) h22 ?_
        refine awp_skip ?_
        refine awp_seq ?_
        refine awp_to (st' := command_Office_Put_x4_I qx qx1 qm qx2 vm4 vx3_1) (oT [] []) ?_
        refine bE hF fun vm1 h25 hF => ?_
        refine awp_sub (command_Office_Put_x4_ok qx qx1 qm qx2 vm4 vx3_1 h25) ?_
        refine awp_seq ?_
        refine awp_region ?_
        refine aR 7 ?_
        refine aPut 3 .str true (l := vm1) (key := qx2.Id) (v := (api_Note.mk qx2 1 0 qx2.At)) D.str api_Note.enc rfl ?_
        refine aE ?_
        refine awp_seq ?_
        refine bE hF fun _ h26 hF => ?_
        refine awp_region ?_
        refine aR 4 ?_
        refine aC (command_Office_keep_ok h26) [(2, 3)] [] [] ?_
        refine aE ?_
        refine awp_seq ?_
        refine awp_region ?_
        refine aR 1 ?_
        refine aE ?_
        refine awp_ret ?_
        exact oF hF [(2, 3)] []

/-! ### (*beaconfleet/command.Office).timeFault -/
def command_Office_timeFault_2_R (qo : Int) (qo1 : Int) (qm : List (List UInt8 × api_Note)) (r : Int) : TV × Mem := (.v (.one (.d (.int .i64 r))), ⟨[], [(0, [.d (.int .i64 qo), .d (.int .i64 qo), .d (.int .i64 qo), .d (.int .i64 qo1), .mapp 1, .d (.int .i64 qo1)]), (1, [.mapc .str true (List.map (encM D.str api_Note.enc) qm)])]⟩)

theorem command_Office_timeFault_2_ok {qo : Int} {qo1 : Int} {qm : List (List UInt8 × api_Note)} {r} (hF : command_Office_timeFault_2 qo qo1 qm = some r) : Holds prog 91 [.v (.one (.box 0 0)), .v (.one (.d (.int .i64 qo1)))] ⟨[], [(0, [.d (.int .i64 qo), .d (.int .i64 qo), .d (.int .i64 qo), .d (.int .i64 qo1), .mapp 1, .d (.int .i64 qo1)]), (1, [.mapc .str true (List.map (encM D.str api_Note.enc) qm)])]⟩ (Is (command_Office_timeFault_2_R qo qo1 qm r)) := by
  unfold command_Office_timeFault_2 at hF
  refine holds_of_awp hΓ (fn := f91) (c := cB f91) (A := 2) (nx := 2) (by kernel_rfl) (by kernel_rfl) (by kernel_rfl) (by kernel_rfl) (by kernel_rfl) (by kernel_rfl) (lowc_of (by kernel_rfl)) ?_
  show Awp prog 2 16 (cB f91) _ _
  refine awp_seq ?_
  refine awp_region ?_
  refine aR 1 ?_
  refine aE ?_
  refine awp_seq ?_
  refine awp_block ?_
  refine awp_seq ?_
  refine bE hF fun vr1 h1 hF => ?_
  refine awp_region ?_
  refine aR 1 ?_
  refine aC (base_Moment_ok h1) [] [] [] ?_
  refine aR 2 ?_
  refine aE ?_
  refine cE hF (fun h2 hF => ?_) fun h2 hF => ?_
  · refine awp_true (by kernel_rfl) h2 ?_
    refine awp_seq ?_
    refine awp_region ?_
    refine aR 1 ?_
    refine aE ?_
    refine awp_ret ?_
    exact oF hF [] []
  · refine awp_false (by kernel_rfl) h2 ?_
    refine awp_seq ?_
    refine awp_region ?_
    refine aR 7 ?_
    refine aE ?_
    refine cE hF (fun h3 hF => ?_) fun h3 hF => ?_
    · refine awp_true (by kernel_rfl) h3 ?_
      refine awp_seq ?_
      refine awp_region ?_
      refine aR 1 ?_
      refine aE ?_
      refine awp_ret ?_
      exact oF hF [] []
    · refine awp_false (by kernel_rfl) h3 ?_
      refine awp_skip ?_
      refine awp_seq ?_
      refine awp_region ?_
      refine aR 1 ?_
      refine aE ?_
      refine awp_ret ?_
      exact oF hF [] []

/-! ### (*beaconfleet/command.Office).grown -/
def command_Office_grown_2_x1_k : api_Note → AEx
  | _ => .exit 0

def command_Office_grown_2_x1_S (qo : Int) (qo1 : Int) (qme0 : List (Nat × List D × List D)) (qcl0 : Nat) : api_Note → St
  | vn1 => Mem.st ⟨[], [(0, [.d (.int .i64 qo), .d (.int .i64 qo), .d (.int .i64 qo), .d (.int .i64 qo1), .mapp 1, .d (.int .i64 qo1)]), (1, [.mapg .str true qme0 qcl0]), (2, [.d (.str vn1.Letter.Id), .d (.str vn1.Letter.Slot), .d (.str vn1.Letter.Body), .d (.int .i64 vn1.Letter.Prio), .d (.int .i64 vn1.Letter.At), .d (.int .i64 vn1.Letter.Until), .d (.int .i64 vn1.State), .d (.int .i64 vn1.Tries), .d (.int .i64 vn1.Since)]), (3, [.d (.str ([] : List UInt8)), .d (.str ([] : List UInt8)), .d (.str ([] : List UInt8)), .d (.int .i64 0), .d (.int .i64 0), .d (.int .i64 0), .d (.int .i64 0), .d (.int .i64 0), .d (.int .i64 0)])]⟩ (tl [(4, .v (.one (.box 2 0))), (6, .v (.one (.box 3 0)))]) 4

def command_Office_grown_2_x1_H (qo : Int) (qo1 : Int) (qme0 : List (Nat × List D × List D)) (qcl0 : Nat) : api_Note → St
  | vn => Mem.st ⟨[], [(0, [.d (.int .i64 qo), .d (.int .i64 qo), .d (.int .i64 qo), .d (.int .i64 qo1), .mapp 1, .d (.int .i64 qo1)]), (1, [.mapg .str true qme0 qcl0]), (2, [.d (.str vn.Letter.Id), .d (.str vn.Letter.Slot), .d (.str vn.Letter.Body), .d (.int .i64 vn.Letter.Prio), .d (.int .i64 vn.Letter.At), .d (.int .i64 vn.Letter.Until), .d (.int .i64 vn.State), .d (.int .i64 vn.Tries), .d (.int .i64 vn.Since)]), (3, [.d (.str ([] : List UInt8)), .d (.str ([] : List UInt8)), .d (.str ([] : List UInt8)), .d (.int .i64 0), .d (.int .i64 0), .d (.int .i64 0), .d (.int .i64 0), .d (.int .i64 0), .d (.int .i64 0)])]⟩ (tl [(0, .v (.one (.box 0 0))), (2, .v (.one (.d (.int .i64 qo1)))), (4, .v (.one (.box 2 0))), (6, .v (.one (.box 3 0)))]) 4

theorem command_Office_grown_2_x1_ok (qo : Int) (qo1 : Int) (qme0 : List (Nat × List D × List D)) (qcl0 : Nat) (vn : api_Note) (r : (api_Note) ⊕ (api_Note)) (hF : command_Office_grown_2_x1 qo qo1 vn = some r) : Awp prog 2 39 (cL (cL (cL (cR (cB f182))))) (Out 2 (kk command_Office_grown_2_x1_k) (SS (command_Office_grown_2_x1_H qo qo1 qme0 qcl0) (command_Office_grown_2_x1_S qo qo1 qme0 qcl0)) r) (command_Office_grown_2_x1_H qo qo1 qme0 qcl0 vn) := by
  unfold command_Office_grown_2_x1 at hF
  refine awp_seq ?_
  refine awp_seq ?_
  refine bE hF fun _ h1 hF => ?_
  refine awp_region ?_
  refine aR 2 ?_
  refine aC (command_ended_ok h1) [] [] [] ?_
  refine aR 1 ?_
  refine aE ?_
  refine cE hF (fun h2 hF => ?_) fun h2 hF => ?_
  · refine awp_true (by kernel_rfl) h2 ?_
    refine awp_skip ?_
    refine awp_block ?_
    refine awp_seq ?_
    refine bE hF fun vr1 h3 hF => ?_
    refine awp_region ?_
    refine aR 2 ?_
    refine aC (command_Office_turn_ok (qme0 := qme0) (qcl0 := qcl0) h3) [] [] [] ?_
    refine aR 1 ?_
    refine aE ?_
    refine awp_seq ?_
    refine awp_seq ?_
    refine awp_region ?_
    refine aR 3 ?_
    refine aE ?_
    refine cE hF (fun h4 hF => ?_) fun h4 hF => ?_
    · refine awp_true (by kernel_rfl) h4 ?_
      refine awp_exit ?_
      exact oO hF [] [] rfl
    · refine awp_false (by kernel_rfl) h4 ?_
      refine awp_skip ?_
      refine awp_seq ?_
      refine awp_region ?_
      refine aR 3 ?_
      refine aE ?_
      refine awp_block ?_
      refine awp_seq ?_
      refine awp_region ?_
      refine aR 6 ?_
      refine aE ?_
      refine cE hF (fun h5 hF => ?_) fun h5 hF => ?_
      · refine awp_true (by kernel_rfl) h5 ?_
        refine awp_region ?_
        refine aR 2 ?_
        refine aE ?_
        exact oO hF [] [] rfl
      · refine awp_false (by kernel_rfl) h5 ?_
        refine awp_seq ?_
        refine aD ?_
        refine dR 9 ?_
        refine dE ?_
        refine cE hF (fun h6 hF => ?_) fun h6 hF => ?_
        · refine awp_true (by kernel_rfl) h6 ?_
          refine awp_region ?_
          refine aR 2 ?_
          refine aE ?_
          exact oO hF [] [] rfl
        · refine awp_false (by kernel_rfl) h6 ?_
          refine awp_region ?_
          refine aR 2 ?_
          refine aE ?_
          exact oO hF [] [] rfl
  · refine awp_false (by kernel_rfl) h2 ?_
    refine awp_exit ?_
    exact oO hF [] [] rfl

def command_Office_grown_2_R (qo : Int) (qo1 : Int) (qn : api_Note) (qme0 : List (Nat × List D × List D)) (qcl0 : Nat) (r : api_Note) : TV × Mem := (.v (.agg [.d (.str r.Letter.Id), .d (.str r.Letter.Slot), .d (.str r.Letter.Body), .d (.int .i64 r.Letter.Prio), .d (.int .i64 r.Letter.At), .d (.int .i64 r.Letter.Until), .d (.int .i64 r.State), .d (.int .i64 r.Tries), .d (.int .i64 r.Since)]), ⟨[], [(0, [.d (.int .i64 qo), .d (.int .i64 qo), .d (.int .i64 qo), .d (.int .i64 qo1), .mapp 1, .d (.int .i64 qo1)]), (1, [.mapg .str true qme0 qcl0])]⟩)

theorem command_Office_grown_2_ok {qo : Int} {qo1 : Int} {qn : api_Note} {qme0 : List (Nat × List D × List D)} {qcl0 : Nat} {r} (hF : command_Office_grown_2 qo qo1 qn = some r) : Holds prog 182 [.v (.one (.box 0 0)), .v (.agg [.d (.str qn.Letter.Id), .d (.str qn.Letter.Slot), .d (.str qn.Letter.Body), .d (.int .i64 qn.Letter.Prio), .d (.int .i64 qn.Letter.At), .d (.int .i64 qn.Letter.Until), .d (.int .i64 qn.State), .d (.int .i64 qn.Tries), .d (.int .i64 qn.Since)]), .v (.one (.d (.int .i64 qo1)))] ⟨[], [(0, [.d (.int .i64 qo), .d (.int .i64 qo), .d (.int .i64 qo), .d (.int .i64 qo1), .mapp 1, .d (.int .i64 qo1)]), (1, [.mapg .str true qme0 qcl0])]⟩ (Is (command_Office_grown_2_R qo qo1 qn qme0 qcl0 r)) := by
  unfold command_Office_grown_2 at hF
  refine holds_of_awp hΓ (fn := f182) (c := cB f182) (A := 2) (nx := 2) (by kernel_rfl) (by kernel_rfl) (by kernel_rfl) (by kernel_rfl) (by kernel_rfl) (by kernel_rfl) (lowc_of (by kernel_rfl)) ?_
  show Awp prog 2 39 (cB f182) _ _
  refine awp_seq ?_
  refine awp_region ?_
  refine aR 2 ?_
  refine aE ?_
  refine awp_seq ?_
  refine awp_block ?_
  refine awp_to (st' := command_Office_grown_2_x1_H qo qo1 qme0 qcl0 (api_Note.mk (api_Letter.mk qn.Letter.Id qn.Letter.Slot qn.Letter.Body qn.Letter.Prio qn.Letter.At qn.Letter.Until) qn.State qn.Tries qn.Since)) (oT [(3, 1002)] []) ?_
  refine bE hF fun vn1_1 h7 hF => ?_
  refine awp_sub (awp_loop' (command_Office_grown_2_x1_H qo qo1 qme0 qcl0) command_Office_grown_2_x1_k (command_Office_grown_2_x1_S qo qo1 qme0 qcl0) (by intro x; exact fun h => nomatch h) h7 (command_Office_grown_2_x1_ok qo qo1 qme0 qcl0)) ?_
  refine awp_seq ?_
  refine awp_region ?_
  refine aR 2 ?_
  refine aE ?_
  refine awp_ret ?_
  exact oF hF [] []

/-! ### (*beaconfleet/command.Office).aged -/
def command_Office_aged_2_x1_k : ((List (List UInt8 × api_Note)) × (List api_Note)) → AEx
  | _ => .exit 0

def command_Office_aged_2_x1_S (qo : Int) (qo1 : Int) (qm : List (List UInt8 × api_Note)) (vme : List (Nat × List D × List D)) (vcl : Nat) (vhp : (List.map (encM D.str api_Note.enc) qm).Perm (List.map (·.2) vme)) : ((List (List UInt8 × api_Note)) × (List api_Note)) → St
  | (vm1, vover1) => Mem.st ⟨[(3, ⟨65, 9, List.map api_Note.enc vover1⟩)], [(0, [.d (.int .i64 qo), .d (.int .i64 qo), .d (.int .i64 qo), .d (.int .i64 qo1), .mapp 1, .d (.int .i64 qo1)]), (1, [.mapc .str true (List.map (encM D.str api_Note.enc) qm)]), (2, [.mapc .str true (List.map (encM D.str api_Note.enc) vm1)])]⟩ (tl [(0, .v (.one (.box 0 0))), (5, .v (.one (.mapp 2))), (6, .v (.one (.own 3 none)))]) 4

def command_Office_aged_2_x1_H (qo : Int) (qo1 : Int) (qm : List (List UInt8 × api_Note)) (vme : List (Nat × List D × List D)) (vcl : Nat) (vhp : (List.map (encM D.str api_Note.enc) qm).Perm (List.map (·.2) vme)) (vl : List (List UInt8 × api_Note)) : (List (List UInt8 × api_Note)) × (List api_Note) → St
  | (vm, vover) => Mem.st ⟨[(4, ⟨65, 9, List.map api_Note.enc vover⟩)], [(0, [.d (.int .i64 qo), .d (.int .i64 qo), .d (.int .i64 qo), .d (.int .i64 qo1), .mapp 1, .d (.int .i64 qo1)]), (1, [.mapg .str true vme vcl]), (2, [.iterc 1 vme vcl (List.map (encM D.str api_Note.enc) vl) none]), (3, [.mapc .str true (List.map (encM D.str api_Note.enc) vm)])]⟩ (tl [(0, .v (.one (.box 0 0))), (1, .v (.one (.d (.int .i64 qo1)))), (5, .v (.one (.mapp 3))), (6, .v (.one (.own 4 none))), (16, .v (.one (.box 2 0)))]) 5

theorem command_Office_aged_2_x1_ok (qo : Int) (qo1 : Int) (qm : List (List UInt8 × api_Note)) (vme : List (Nat × List D × List D)) (vcl : Nat) (vhp : (List.map (encM D.str api_Note.enc) qm).Perm (List.map (·.2) vme)) (vl : List (List UInt8 × api_Note)) (s : (List (List UInt8 × api_Note)) × (List api_Note)) (hE : vl = [] → ∃ x, command_Office_aged_2_x1 qo qo1 none s = some x) (hP : ∀ e l', List.Perm vl (e :: l') → ∃ x, command_Office_aged_2_x1 qo qo1 (some e) s = some x) : Awp prog 2 60 (cL (cL (cR (cL (cR (cR (cR (cB f93)))))))) (OutR 2 command_Office_aged_2_x1_k (command_Office_aged_2_x1 qo qo1) (command_Office_aged_2_x1_H qo qo1 qm vme vcl vhp) (command_Office_aged_2_x1_S qo qo1 qm vme vcl vhp) vl s) (command_Office_aged_2_x1_H qo qo1 qm vme vcl vhp vl s) := by
  obtain ⟨vm, vover⟩ := s
  refine awp_seq ?_
  refine awp_region ?_
  refine aNext (ka := .str) (va := true) (me := vme) (cl := vcl) (cur := none) 2 1 (encM D.str api_Note.enc) vl rfl (fun h3 => ?_) (fun ve1 vl2 vb1 h4 => ?_)
  · obtain ⟨x, hF0⟩ := hE h3
    have hF := hF0
    unfold command_Office_aged_2_x1 at hF
    refine aR 1 ?_
    refine aE ?_
    refine awp_seq ?_
    refine awp_false (by kernel_rfl) rfl ?_
    refine awp_close (ka := .str) (va := true) (me := vme) (cl := vcl) 1 vhp ?_
    refine awp_exit ?_
    exact outE h3 hF0 (oO hF [(2, 3), (3, 4)] [] rfl)
  · obtain ⟨x, hF0⟩ := hP _ _ h4
    have hF := hF0
    unfold command_Office_aged_2_x1 at hF
    refine aR 1 ?_
    refine aE ?_
    refine awp_seq ?_
    refine awp_true (by kernel_rfl) rfl ?_
    refine awp_skip ?_
    refine awp_block ?_
    refine awp_seq ?_
    refine awp_region ?_
    refine aEntry (ka := .str) (va := true) (me := vme) (cl := vcl) (b := vb1) (rest := List.map (encM D.str api_Note.enc) vl2) 2 1 (encM D.str api_Note.enc) ve1 rfl ?_
    refine aR 5 ?_
    refine aE ?_
    refine awp_seq ?_
    refine bE hF fun vr2_1 h5 hF => ?_
    refine awp_region ?_
    refine aR 3 ?_
    refine aC (command_Office_grown_2_ok (qme0 := vme) (qcl0 := vcl) h5) [] [] [] ?_
    refine aR 1 ?_
    refine aE ?_
    refine awp_seq ?_
    refine awp_region ?_
    refine aR 3 ?_
    refine aPut 3 .str true (l := vm) (key := ve1.1) (v := (api_Note.mk (api_Letter.mk vr2_1.Letter.Id vr2_1.Letter.Slot vr2_1.Letter.Body vr2_1.Letter.Prio vr2_1.Letter.At vr2_1.Letter.Until) vr2_1.State vr2_1.Tries vr2_1.Since)) D.str api_Note.enc rfl ?_
    refine aE ?_
    refine awp_seq ?_
    refine bE hF fun _ h6 hF => ?_
    refine awp_region ?_
    refine aR 2 ?_
    refine aC (command_ended_ok h6) [] [] [] ?_
    refine aE ?_
    refine cE hF (fun h7 hF => ?_) fun h7 hF => ?_
    · refine awp_true (by kernel_rfl) h7 ?_
      refine gE hF fun h8 hF => ?_
      refine awp_region ?_
      refine aR 3 ?_
      refine aX (x_app api_Note.enc 4 h8) ?_
      refine aR 1 ?_
      refine aE ?_
      exact outP h4 hF0 (outCur (idM := 1) (me := vme) (cl := vcl) (rest := List.map (encM D.str api_Note.enc) vl2) (cur := some (vb1, (encM D.str api_Note.enc) ve1)) 2 <| oO hF [(4, 23005)] [] rfl)
    · refine awp_false (by kernel_rfl) h7 ?_
      refine awp_skip ?_
      exact outP h4 hF0 (outCur (idM := 1) (me := vme) (cl := vcl) (rest := List.map (encM D.str api_Note.enc) vl2) (cur := some (vb1, (encM D.str api_Note.enc) ve1)) 2 <| oO hF [] [] rfl)

def command_Office_aged_2_x2_k : (List (List UInt8 × api_Note)) → AEx
  | _ => .exit 2

def command_Office_aged_2_x2_S (qo : Int) (qo1 : Int) (qm : List (List UInt8 × api_Note)) (vl3 : List api_Note) : (List (List UInt8 × api_Note)) → St
  | vm3 => Mem.st ⟨[], [(0, [.d (.int .i64 qo), .d (.int .i64 qo), .d (.int .i64 qo), .d (.int .i64 qo1), .mapp 1, .d (.int .i64 qo1)]), (1, [.mapc .str true (List.map (encM D.str api_Note.enc) qm)]), (2, [.mapc .str true (List.map (encM D.str api_Note.enc) vm3)])]⟩ (tl [(5, .v (.one (.mapp 2)))]) 3

def command_Office_aged_2_x2_H (qo : Int) (qo1 : Int) (qm : List (List UInt8 × api_Note)) (vl3 : List api_Note) : (List (List UInt8 × api_Note)) × Int → St
  | (vm2, vx) => Mem.st ⟨[], [(0, [.d (.int .i64 qo), .d (.int .i64 qo), .d (.int .i64 qo), .d (.int .i64 qo1), .mapp 1, .d (.int .i64 qo1)]), (1, [.mapc .str true (List.map (encM D.str api_Note.enc) qm)]), (2, [.mapc .str true (List.map (encM D.str api_Note.enc) vm2)])]⟩ (tl [(5, .v (.one (.mapp 2))), (48, .v (.one (.d (.lst (List.map api_Note.enc (vl3.take (imax 0 (IntKind.wrap .i64 ((vl3.length : Int) - qo1))).toNat)))))), (49, .v (.one (.d (.int .i64 ((vl3.take (imax 0 (IntKind.wrap .i64 ((vl3.length : Int) - qo1))).toNat).length : Int))))), (50, .v (.one (.d (.int .i64 vx))))]) 3

theorem command_Office_aged_2_x2_ok (qo : Int) (qo1 : Int) (qm : List (List UInt8 × api_Note)) (vl3 : List api_Note) (s : (List (List UInt8 × api_Note)) × Int) (r : ((List (List UInt8 × api_Note)) × Int) ⊕ ((List (List UInt8 × api_Note)))) (hF : command_Office_aged_2_x2 qo1 vl3 s = some r) : Awp prog 2 60 (cL (cL (cR (cL (cR (cR (cR (cR (cR (cB f93)))))))))) (Out 2 (kk command_Office_aged_2_x2_k) (SS (command_Office_aged_2_x2_H qo qo1 qm vl3) (command_Office_aged_2_x2_S qo qo1 qm vl3)) r) (command_Office_aged_2_x2_H qo qo1 qm vl3 s) := by
  obtain ⟨vm2, vx⟩ := s
  unfold command_Office_aged_2_x2 at hF
  refine awp_seq ?_
  refine awp_region ?_
  refine aR 1 ?_
  refine aE ?_
  refine awp_seq ?_
  refine cE hF (fun h13 hF => ?_) fun h13 hF => ?_
  · refine awp_true (by kernel_rfl) h13 ?_
    refine awp_skip ?_
    refine awp_seq ?_
    refine awp_block ?_
    refine awp_seq ?_
    refine bE hF fun vy1 h14 hF => ?_
    refine awp_region ?_
    refine aX (x_idx api_Note.enc h14) ?_
    refine aR 3 ?_
    refine aE ?_
    refine awp_region ?_
    refine aR 4 ?_
    refine aDel 2 .str true (l := vm2) (key := vy1.Letter.Id) D.str api_Note.enc rfl ?_
    refine aE ?_
    refine awp_region ?_
    refine aR 2 ?_
    refine aE ?_
    exact oO hF [] [] rfl
  · refine awp_false (by kernel_rfl) h13 ?_
    refine awp_exit ?_
    exact oO hF [] [] rfl

def command_Office_aged_2_R (qo : Int) (qo1 : Int) (qm : List (List UInt8 × api_Note)) (r : (List (List UInt8 × api_Note))) : TV × Mem := (.v (.one (.mapp 2)), ⟨[], [(0, [.d (.int .i64 qo), .d (.int .i64 qo), .d (.int .i64 qo), .d (.int .i64 qo1), .mapp 1, .d (.int .i64 qo1)]), (1, [.mapc .str true (List.map (encM D.str api_Note.enc) qm)]), (2, [.mapc .str true (List.map (encM D.str api_Note.enc) r)])]⟩)

theorem command_Office_aged_2_ok {qo : Int} {qo1 : Int} {qm : List (List UInt8 × api_Note)} {r} (hF : command_Office_aged_2 qo qo1 qm = some r) : Holds prog 93 [.v (.one (.box 0 0)), .v (.one (.d (.int .i64 qo1)))] ⟨[], [(0, [.d (.int .i64 qo), .d (.int .i64 qo), .d (.int .i64 qo), .d (.int .i64 qo1), .mapp 1, .d (.int .i64 qo1)]), (1, [.mapc .str true (List.map (encM D.str api_Note.enc) qm)])]⟩ (Is (command_Office_aged_2_R qo qo1 qm r)) := by
  unfold command_Office_aged_2 at hF
  refine holds_of_awp hΓ (fn := f93) (c := cB f93) (A := 2) (nx := 2) (by kernel_rfl) (by kernel_rfl) (by kernel_rfl) (by kernel_rfl) (by kernel_rfl) (by kernel_rfl) (lowc_of (by kernel_rfl)) ?_
  show Awp prog 2 60 (cB f93) _ _
  refine awp_seq ?_
  refine awp_region ?_
  refine aR 1 ?_
  refine aE ?_
  refine awp_seq ?_
  refine awp_region ?_
  refine aX (x_map .str true (κ := List UInt8) (β := api_Note) D.str api_Note.enc) ?_
  refine aR 1 ?_
  refine aE ?_
  refine awp_seq ?_
  refine awp_region ?_
  refine aR 1 ?_
  refine aE ?_
  refine awp_seq ?_
  refine awp_seq ?_
  refine awp_region ?_
  refine aR 4 ?_
  refine aRange (ka := .str) (va := true) 1 (encM D.str api_Note.enc) qm rfl (fun vme vcl vhp => ?_)
  refine aE ?_
  refine awp_block ?_
  refine awp_to (st' := command_Office_aged_2_x1_H qo qo1 qm vme vcl vhp qm (([] : List (List UInt8 × api_Note)), [])) (oT [(2, 8002), (3, 1002)] [4]) ?_
  refine rG (H := command_Office_aged_2_x1_H qo qo1 qm vme vcl vhp) (k := command_Office_aged_2_x1_k) (S := command_Office_aged_2_x1_S qo qo1 qm vme vcl vhp) hF (by intro x; exact fun h => nomatch h) (fun l s => command_Office_aged_2_x1_ok qo qo1 qm vme vcl vhp l s) (fun x hF => ?_)
  obtain ⟨vm1_1, vover1_1⟩ := x
  refine awp_seq ?_
  refine bE hF fun vl3 h10 hF => ?_
  refine gE hF fun h11 hF => ?_
  refine awp_region ?_
  refine aR 1 ?_
  refine aCp (slices_SortFunc_api_Note_api_Note_o0_f1_command_Office_aged_1_ok h10) ⟨⟨rfl, rfl, pin1 h11⟩, trivial⟩ [(0, 3)] [] [] ?_
  refine aE ?_
  refine awp_seq ?_
  refine awp_seq ?_
  refine gE hF fun h12 hF => ?_
  refine awp_region ?_
  refine aR 2 ?_
  refine aL api_Note.enc vl3 ?_
  refine aR 7 ?_
  refine aT api_Note.enc 3 h12 rfl ?_
  refine aL api_Note.enc (vl3.take (imax 0 (IntKind.wrap .i64 ((vl3.length : Int) - qo1))).toNat) ?_
  refine aR 1 ?_
  refine aE ?_
  refine awp_to (oT (m := ⟨[], [(0, [.d (.int .i64 qo), .d (.int .i64 qo), .d (.int .i64 qo), .d (.int .i64 qo1), .mapp 1, .d (.int .i64 qo1)]), (1, [.mapc .str true (List.map (encM D.str api_Note.enc) qm)]), (2, [.mapc .str true (List.map (encM D.str api_Note.enc) vm1_1)])]⟩) (ts := [(5, .v (.one (.mapp 2))), (48, .v (.one (.d (.lst (List.map api_Note.enc (vl3.take (imax 0 (IntKind.wrap .i64 ((vl3.length : Int) - qo1))).toNat)))))), (49, .v (.one (.d (.int .i64 ((vl3.take (imax 0 (IntKind.wrap .i64 ((vl3.length : Int) - qo1))).toNat).length : Int))))), (50, .v (.one (.d (.int .i64 0))))]) (nx := 3) [] []) ?_
  refine awp_block ?_
  refine awp_to (st' := command_Office_aged_2_x2_H qo qo1 qm vl3 (vm1_1, 0)) (oT [] []) ?_
  refine bE hF fun vm3_1 h15 hF => ?_
  refine awp_sub (awp_loop' (command_Office_aged_2_x2_H qo qo1 qm vl3) command_Office_aged_2_x2_k (command_Office_aged_2_x2_S qo qo1 qm vl3) (by intro x; exact fun h => nomatch h) h15 (command_Office_aged_2_x2_ok qo qo1 qm vl3)) ?_
  refine awp_seq ?_
  refine awp_region ?_
  refine aR 2 ?_
  refine aE ?_
  refine awp_ret ?_
  exact oF hF [] []

/-! ### (*beaconfleet/command.Office).keep -/
def command_Office_keep_2_R (qo : Int) (qo1 : Int) (qm : List (List UInt8 × api_Note)) (qm1 : List (List UInt8 × api_Note)) (r : Unit) : TV × Mem := (.tup [], ⟨[], [(0, [.d (.int .i64 qo), .d (.int .i64 qo), .d (.int .i64 qo), .d (.int .i64 qo1), .mapp 2, .d (.int .i64 qo1)]), (1, [.mapc .str true (List.map (encM D.str api_Note.enc) qm)]), (2, [.mapc .str true (List.map (encM D.str api_Note.enc) qm1)])]⟩)

theorem command_Office_keep_2_ok {qo : Int} {qo1 : Int} {qm : List (List UInt8 × api_Note)} {qm1 : List (List UInt8 × api_Note)} {r} (hF : command_Office_keep_2 qo qo1 qm qm1 = some r) : Holds prog 92 [.v (.one (.box 0 0)), .v (.one (.mapp 2)), .v (.one (.d (.int .i64 qo1)))] ⟨[], [(0, [.d (.int .i64 qo), .d (.int .i64 qo), .d (.int .i64 qo), .d (.int .i64 qo1), .mapp 1, .d (.int .i64 qo1)]), (1, [.mapc .str true (List.map (encM D.str api_Note.enc) qm)]), (2, [.mapc .str true (List.map (encM D.str api_Note.enc) qm1)])]⟩ (Is (command_Office_keep_2_R qo qo1 qm qm1 r)) := by
  unfold command_Office_keep_2 at hF
  refine holds_of_awp hΓ (fn := f92) (c := cB f92) (A := 3) (nx := 3) (by kernel_rfl) (by kernel_rfl) (by kernel_rfl) (by kernel_rfl) (by kernel_rfl) (by kernel_rfl) (lowc_of (by kernel_rfl)) ?_
  show Awp prog 3 14 (cB f92) _ _
  refine awp_region ?_
  refine aR 10 ?_
  refine aE ?_
  exact oF hF [] []

/-! ### (*beaconfleet/command.Office).Waiting -/
def command_Office_Waiting_R (qo : Int) (qo1 : Int) (qm : List (List UInt8 × api_Note)) : Int ⊕ ((List (List UInt8 × api_Note)) × Int) → TV × Mem
  | .inl vr2 => (.tup [.one (.d (.int .i64 0)), .one (.d (.int .i64 vr2))], ⟨[], [(0, [.d (.int .i64 qo), .d (.int .i64 qo), .d (.int .i64 qo), .d (.int .i64 qo1), .mapp 1, .d (.int .i64 qo1)]), (1, [.mapc .str true (List.map (encM D.str api_Note.enc) qm)])]⟩)
  | .inr (vm, vr3) => (.tup [.one (.d (.int .i64 vr3)), .one (.d (.int .i64 0))], ⟨[], [(0, [.d (.int .i64 qo), .d (.int .i64 qo), .d (.int .i64 qo), .d (.int .i64 qo1), .mapp 2, .d (.int .i64 qo1)]), (1, [.mapc .str true (List.map (encM D.str api_Note.enc) qm)]), (2, [.mapc .str true (List.map (encM D.str api_Note.enc) vm)])]⟩)

theorem command_Office_Waiting_ok {qo : Int} {qo1 : Int} {qm : List (List UInt8 × api_Note)} {r} (hF : command_Office_Waiting qo qo1 qm = some r) : Holds prog 65 [.v (.one (.box 0 0)), .v (.one (.d (.int .i64 qo1)))] ⟨[], [(0, [.d (.int .i64 qo), .d (.int .i64 qo), .d (.int .i64 qo), .d (.int .i64 qo1), .mapp 1, .d (.int .i64 qo1)]), (1, [.mapc .str true (List.map (encM D.str api_Note.enc) qm)])]⟩ (Is (command_Office_Waiting_R qo qo1 qm r)) := by
  unfold command_Office_Waiting at hF
  refine holds_of_awp hΓ (fn := f65) (c := cB f65) (A := 2) (nx := 2) (by kernel_rfl) (by kernel_rfl) (by kernel_rfl) (by kernel_rfl) (by kernel_rfl) (by kernel_rfl) (lowc_of (by kernel_rfl)) ?_
  show Awp prog 2 24 (cB f65) _ _
  refine awp_seq ?_
  refine awp_region ?_
  refine aR 2 ?_
  refine aE ?_
  refine awp_seq ?_
  refine awp_seq ?_
  refine bE hF fun vr h1 hF => ?_
  refine awp_region ?_
  refine aR 2 ?_
  refine aC (command_Office_timeFault_2_ok h1) [] [] [] ?_
  refine aR 1 ?_
  refine aE ?_
  refine awp_seq ?_
  refine awp_region ?_
  refine aR 2 ?_
  refine aE ?_
  refine cE hF (fun h2 hF => ?_) fun h2 hF => ?_
  · refine awp_true (by kernel_rfl) h2 ?_
    refine awp_seq ?_
    refine awp_region ?_
    refine aR 3 ?_
    refine aE ?_
    refine awp_ret ?_
    exact oF hF [] []
  · refine awp_false (by kernel_rfl) h2 ?_
    refine awp_skip ?_
    refine awp_seq ?_
    refine bE hF fun vm4 h3 hF => ?_
    refine bE hF fun _ h4 hF => ?_
    refine awp_region ?_
    refine aR 3 ?_
    refine aC (command_Office_aged_2_ok h3) [] [] [] ?_
    refine aR 1 ?_
    refine aC (command_Office_keep_2_ok h4) [(2, 11004)] [] [] ?_
    refine aE ?_
    refine awp_seq ?_
    refine bE hF fun vr1 h5 hF => ?_
    refine awp_region ?_
    refine aR 4 ?_
    refine aC (command_pending_ok h5) [(0, 11004)] [] [] ?_
    refine aR 2 ?_
    refine aE ?_
    refine awp_ret ?_
    exact oF hF [(2, 11004)] []

/-! ### beaconfleet/fleetlaw2.posted -/
def fleetlaw2_posted_x1_k : Unit → AEx
  | _ => .normal

def fleetlaw2_posted_x1_S (vr : Int) : Unit → St
  | _ => Mem.st ⟨[], []⟩ (tl [(1, .v (.one (.nilp))), (20, .v (.one (.d (.bool true))))]) 0

def fleetlaw2_posted_x1_I (vr : Int) : St := Mem.st ⟨[], []⟩ (tl [(1, .v (.one (.nilp))), (2, .v (.one (.d (.int .i64 vr))))]) 0

theorem fleetlaw2_posted_x1_ok (vr : Int) {r} (hF : fleetlaw2_posted_x1 vr = some r) : Awp prog 0 32 (cL (cL (cR (cR (cB f12))))) (Out 0 fleetlaw2_posted_x1_k (fleetlaw2_posted_x1_S vr) r) (fleetlaw2_posted_x1_I vr) := by
  unfold fleetlaw2_posted_x1 at hF
  refine cE hF (fun h2 hF => ?_) fun h2 hF => ?_
  · refine awp_region ?_
    refine aR 1 ?_
    refine aB h2 ?_
    refine aR 10 ?_
    refine aE ?_
    exact oO hF [] [] rfl
  · refine awp_region ?_
    refine aR 1 ?_
    refine aB h2 ?_
    refine aR 10 ?_
    refine aE ?_
    exact oO hF [] [] rfl

def fleetlaw2_posted_x2_k : ((List (List UInt8 × api_Note)) × Bool) → AEx
  | _ => .normal

def fleetlaw2_posted_x2_S : ((List (List UInt8 × api_Note)) × Bool) → St
  | (vm, vx) => Mem.st ⟨[], [(0, [.d (.int .i64 1), .d (.int .i64 1), .d (.int .i64 1), .d (.int .i64 0), .mapp 1, .d (.int .i64 0)]), (1, [.mapc .str true (List.map (encM D.str api_Note.enc) vm)])]⟩ (tl [(1, .v (.one (.box 0 0))), (20, .v (.one (.d (.bool vx))))]) 2

def fleetlaw2_posted_x2_I : St := Mem.st ⟨[], [(0, [.d (.int .i64 1), .d (.int .i64 1), .d (.int .i64 1), .d (.int .i64 0), .mapp 1, .d (.int .i64 0)]), (1, [.mapc .str true (List.map (encM D.str api_Note.enc) ([] : List (List UInt8 × api_Note)))])]⟩ (tl [(1, .v (.one (.box 0 0))), (2, .v (.one (.d (.int .i64 0))))]) 2

theorem fleetlaw2_posted_x2_ok {r} (hF : fleetlaw2_posted_x2  = some r) : Awp prog 0 32 (cL (cL (cR (cR (cB f12))))) (Out 0 fleetlaw2_posted_x2_k (fleetlaw2_posted_x2_S ) r) (fleetlaw2_posted_x2_I ) := by
  unfold fleetlaw2_posted_x2 at hF
  refine cE hF (fun h4 hF => ?_) fun h4 hF => ?_
  · refine awp_region ?_
    refine aR 1 ?_
    refine aB h4 ?_
    refine aR 10 ?_
    refine aE ?_
    exact oO hF [] [] rfl
  · refine bE hF fun x h5 hF => ?_
    rcases x with vr4 | vm2
    · refine awp_region ?_
      refine aR 1 ?_
      refine aB h4 ?_
      refine aR 7 ?_
      refine aC (command_Office_Put_ok h5) [] [] [] ?_
      refine aR 2 ?_
      refine aE ?_
      exact oO hF [] [] rfl
    · refine awp_region ?_
      refine aR 1 ?_
      refine aB h4 ?_
      refine aR 7 ?_
      refine aC (command_Office_Put_ok h5) [] [] [] ?_
      refine aB h4 ?_
      refine aR 1 ?_
      refine aE ?_
      exact oO hF [(1, 9004)] [] rfl

def fleetlaw2_posted_x3_k : (Int × Int) → AEx
  | _ => .normal

def fleetlaw2_posted_x3_S (vm1 : List (List UInt8 × api_Note)) : (Int × Int) → St
  | (ve, vn) => Mem.st ⟨[], []⟩ (tl [(2, .v (.one (.d (.int .i64 ve)))), (3, .v (.one (.d (.int .i64 vn))))]) 0

def fleetlaw2_posted_x3_I (vm1 : List (List UInt8 × api_Note)) : St := Mem.st ⟨[], [(0, [.d (.int .i64 1), .d (.int .i64 1), .d (.int .i64 1), .d (.int .i64 0), .mapp 1, .d (.int .i64 0)]), (1, [.mapc .str true (List.map (encM D.str api_Note.enc) vm1)])]⟩ (tl [(1, .v (.one (.box 0 0)))]) 2

theorem fleetlaw2_posted_x3_ok (vm1 : List (List UInt8 × api_Note)) {r} (hF : fleetlaw2_posted_x3 vm1 = some r) : Awp prog 0 32 (cL (cR (cR (cR (cB f12))))) (Out 0 fleetlaw2_posted_x3_k (fleetlaw2_posted_x3_S vm1) r) (fleetlaw2_posted_x3_I vm1) := by
  unfold fleetlaw2_posted_x3 at hF
  refine bE hF fun x h8 hF => ?_
  rcases x with vr2 | ⟨vm3, vr3⟩
  · refine awp_region ?_
    refine aR 1 ?_
    refine aC (command_Office_Waiting_ok h8) [] [] [] ?_
    refine aR 5 ?_
    refine aE ?_
    exact oO hF [] [] rfl
  · refine awp_region ?_
    refine aR 1 ?_
    refine aC (command_Office_Waiting_ok h8) [] [] [] ?_
    refine aR 5 ?_
    refine aE ?_
    exact oO hF [] [] rfl

def fleetlaw2_posted_x4_k : Bool → AEx
  | _ => .normal

def fleetlaw2_posted_x4_S (ve1 : Int) (vn1 : Int) : Bool → St
  | vx2 => Mem.st ⟨[], []⟩ (tl [(0, .v (.one (.d (.bool vx2))))]) 0

def fleetlaw2_posted_x4_I (ve1 : Int) (vn1 : Int) : St := Mem.st ⟨[], []⟩ (tl [(2, .v (.one (.d (.int .i64 ve1)))), (3, .v (.one (.d (.int .i64 vn1))))]) 0

theorem fleetlaw2_posted_x4_ok (ve1 : Int) (vn1 : Int) {r} (hF : fleetlaw2_posted_x4 ve1 vn1 = some r) : Awp prog 0 32 (cL (cR (cR (cR (cR (cB f12)))))) (Out 0 fleetlaw2_posted_x4_k (fleetlaw2_posted_x4_S ve1 vn1) r) (fleetlaw2_posted_x4_I ve1 vn1) := by
  unfold fleetlaw2_posted_x4 at hF
  refine cE hF (fun h10 hF => ?_) fun h10 hF => ?_
  · refine awp_region ?_
    refine aR 1 ?_
    refine aB h10 ?_
    refine aR 5 ?_
    refine aE ?_
    exact oO hF [] [] rfl
  · refine awp_region ?_
    refine aR 1 ?_
    refine aB h10 ?_
    refine aR 5 ?_
    refine aE ?_
    exact oO hF [] [] rfl

def fleetlaw2_posted_R (r : Bool) : TV × Mem := (.v (.one (.d (.bool r))), ⟨[], []⟩)

theorem fleetlaw2_posted_ok {r} (hF : fleetlaw2_posted = some r) : Holds prog 12 [] ⟨[], []⟩ (Is (fleetlaw2_posted_R  r)) := by
  unfold fleetlaw2_posted at hF
  refine holds_of_awp hΓ (fn := f12) (c := cB f12) (A := 0) (nx := 0) (by kernel_rfl) (by kernel_rfl) (by kernel_rfl) (by kernel_rfl) (by kernel_rfl) (by kernel_rfl) (lowc_of (by kernel_rfl)) ?_
  show Awp prog 0 32 (cB f12) _ _
  refine awp_seq ?_
  refine awp_region ?_
  refine aR 1 ?_
  refine aE ?_
  refine awp_seq ?_
  refine bE hF fun x h1 hF => ?_
  rcases x with vr | _
  · refine awp_region ?_
    refine aR 1 ?_
    refine aC (command_New_ok h1) [] [] [] ?_
    refine aR 5 ?_
    refine aE ?_
    refine awp_seq ?_
    refine awp_seq ?_
    refine awp_to (st' := fleetlaw2_posted_x1_I vr) (oT [] []) ?_
    refine bE hF fun _ h3 hF => ?_
    refine awp_sub (fleetlaw2_posted_x1_ok vr h3) ?_
    refine awp_true (by kernel_rfl) rfl ?_
    refine awp_seq ?_
    refine awp_region ?_
    refine aR 1 ?_
    refine aE ?_
    refine awp_ret ?_
    exact oF hF [] []
  · refine awp_region ?_
    refine aR 1 ?_
    refine aC (command_New_ok h1) [] [] [] ?_
    refine aR 5 ?_
    refine aE ?_
    refine awp_seq ?_
    refine awp_seq ?_
    refine awp_to (st' := fleetlaw2_posted_x2_I ) (oT [(0, 2000), (1, 2001)] []) ?_
    refine bE hF fun x h6 hF => ?_
    obtain ⟨vm1, vx1⟩ := x
    refine awp_sub (fleetlaw2_posted_x2_ok  h6) ?_
    refine cE hF (fun h7 hF => ?_) fun h7 hF => ?_
    · refine awp_true (by kernel_rfl) h7 ?_
      refine awp_seq ?_
      refine awp_region ?_
      refine aR 1 ?_
      refine aE ?_
      refine awp_ret ?_
      exact oF hF [] []
    · refine awp_false (by kernel_rfl) h7 ?_
      refine awp_skip ?_
      refine awp_seq ?_
      refine awp_to (st' := fleetlaw2_posted_x3_I vm1) (oT [] []) ?_
      refine bE hF fun x h9 hF => ?_
      obtain ⟨ve1, vn1⟩ := x
      refine awp_sub (fleetlaw2_posted_x3_ok vm1 h9) ?_
      refine awp_seq ?_
      refine awp_to (st' := fleetlaw2_posted_x4_I ve1 vn1) (oT [] []) ?_
      refine bE hF fun vx2_1 h11 hF => ?_
      refine awp_sub (fleetlaw2_posted_x4_ok ve1 vn1 h11) ?_
      refine awp_ret ?_
      exact oF hF [] []

/-! ### (*beaconfleet/fleetmake.Stream).Range -/
def fleetmake_Stream_Range_R (qs : fleetmake_Stream) (qlow : Int) (qhigh : Int) (r : fleetmake_Stream × Int) : TV × Mem := (.v (.one (.d (.int .i64 r.2))), ⟨[], [(0, [.d (.lst (List.map (encI .i64) r.1.L)), .d (.int .i64 r.1.at_)])]⟩)

theorem fleetmake_Stream_Range_ok {qs : fleetmake_Stream} {qlow : Int} {qhigh : Int} {r} (hF : fleetmake_Stream_Range qs qlow qhigh = some r) : Holds prog 13 [.v (.one (.box 0 0)), .v (.one (.d (.int .i64 qlow))), .v (.one (.d (.int .i64 qhigh)))] ⟨[], [(0, [.d (.lst (List.map (encI .i64) qs.L)), .d (.int .i64 qs.at_)])]⟩ (Is (fleetmake_Stream_Range_R qs qlow qhigh r)) := by
  unfold fleetmake_Stream_Range at hF
  refine holds_of_awp hΓ (fn := f13) (c := cB f13) (A := 1) (nx := 1) (by kernel_rfl) (by kernel_rfl) (by kernel_rfl) (by kernel_rfl) (by kernel_rfl) (by kernel_rfl) (lowc_of (by kernel_rfl)) ?_
  show Awp prog 1 19 (cB f13) _ _
  refine awp_seq ?_
  refine awp_region ?_
  refine aR 1 ?_
  refine aE ?_
  refine awp_seq ?_
  refine awp_seq ?_
  refine awp_region ?_
  refine aR 3 ?_
  refine aE ?_
  refine cE hF (fun h1 hF => ?_) fun h1 hF => ?_
  · refine awp_true (by kernel_rfl) h1 ?_
    refine awp_seq ?_
    refine awp_region ?_
    refine aR 2 ?_
    refine aE ?_
    refine awp_ret ?_
    exact oF hF [] []
  · refine awp_false (by kernel_rfl) h1 ?_
    refine awp_skip ?_
    refine awp_seq ?_
    refine bE hF fun vr3 h2 hF => ?_
    refine awp_region ?_
    refine aR 6 ?_
    refine aC (fleetmake_Stream_Next_ok h2) [] [] [] ?_
    refine aR 2 ?_
    refine aE ?_
    refine awp_ret ?_
    exact oF hF [] []

/-! ### (*beaconfleet/fleetmake.Stream).Flip -/
def fleetmake_Stream_Flip_R (qs : fleetmake_Stream) (qn : Int) (r : Bool) : TV × Mem := (.v (.one (.d (.bool r))), ⟨[], [(0, [.d (.lst (List.map (encI .i64) qs.L)), .d (.int .i64 (IntKind.wrap .i64 (qs.at_ + 1)))])]⟩)

theorem fleetmake_Stream_Flip_ok {qs : fleetmake_Stream} {qn : Int} {r} (hF : fleetmake_Stream_Flip qs qn = some r) : Holds prog 14 [.v (.one (.box 0 0)), .v (.one (.d (.int .i64 qn)))] ⟨[], [(0, [.d (.lst (List.map (encI .i64) qs.L)), .d (.int .i64 qs.at_)])]⟩ (Is (fleetmake_Stream_Flip_R qs qn r)) := by
  unfold fleetmake_Stream_Flip at hF
  refine holds_of_awp hΓ (fn := f14) (c := cB f14) (A := 1) (nx := 1) (by kernel_rfl) (by kernel_rfl) (by kernel_rfl) (by kernel_rfl) (by kernel_rfl) (by kernel_rfl) (lowc_of (by kernel_rfl)) ?_
  show Awp prog 1 9 (cB f14) _ _
  refine awp_seq ?_
  refine awp_region ?_
  refine aR 1 ?_
  refine aE ?_
  refine awp_seq ?_
  refine bE hF fun vr3 h1 hF => ?_
  refine awp_region ?_
  refine aR 2 ?_
  refine aC (fleetmake_Stream_Next_ok h1) [] [] [] ?_
  refine aR 2 ?_
  refine aE ?_
  refine awp_ret ?_
  exact oF hF [] []

/-! ### (*beaconfleet/fleetmake.Stream).Some -/
def fleetmake_Stream_Some_o1_R (qs : fleetmake_Stream) (ql : List (List UInt8)) (r : (List UInt8)) : TV × Mem := (.v (.one (.d (.str r))), ⟨[], [(0, [.d (.lst (List.map (encI .i64) qs.L)), .d (.int .i64 (IntKind.wrap .i64 (qs.at_ + 1)))])]⟩)

theorem fleetmake_Stream_Some_o1_ok {qs : fleetmake_Stream} {ql : List (List UInt8)} {r} (hF : fleetmake_Stream_Some_o1 qs ql = some r) : Holds prog 24 [.v (.one (.box 0 0)), .v (.one (.own 1 none))] ⟨[(1, ⟨9, 1, List.map encS ql⟩)], [(0, [.d (.lst (List.map (encI .i64) qs.L)), .d (.int .i64 qs.at_)])]⟩ (Is (fleetmake_Stream_Some_o1_R qs ql r)) := by
  unfold fleetmake_Stream_Some_o1 at hF
  refine holds_of_awp hΓ (fn := f24) (c := cB f24) (A := 2) (nx := 2) (by kernel_rfl) (by kernel_rfl) (by kernel_rfl) (by kernel_rfl) (by kernel_rfl) (by kernel_rfl) (lowc_of (by kernel_rfl)) ?_
  show Awp prog 2 12 (cB f24) _ _
  refine awp_seq ?_
  refine awp_region ?_
  refine aR 1 ?_
  refine aE ?_
  refine awp_to (oT (m := ⟨[], [(0, [.d (.lst (List.map (encI .i64) qs.L)), .d (.int .i64 qs.at_)])]⟩) (ts := [(0, .v (.one (.box 0 0))), (1, .v (.one (.d (.lst (List.map encS ql)))))]) (nx := 2) [] []) ?_
  refine awp_seq ?_
  refine bE hF fun vr3 h1 hF => ?_
  refine bE hF fun vy h2 hF => ?_
  refine awp_region ?_
  refine aR 3 ?_
  refine aL encS ql ?_
  refine aC (fleetmake_Stream_Next_ok h1) [] [] [] ?_
  refine aX (x_idx encS h2) ?_
  refine aR 2 ?_
  refine aE ?_
  refine awp_ret ?_
  exact oF hF [] []

/-! ### (*beaconfleet/fleetmake.Stream).RightLetter -/
def fleetmake_Stream_RightLetter_R (qs : fleetmake_Stream) (qat : Int) (r : api_Letter) : TV × Mem := (.v (.agg [.d (.str r.Id), .d (.str r.Slot), .d (.str r.Body), .d (.int .i64 r.Prio), .d (.int .i64 r.At), .d (.int .i64 r.Until)]), ⟨[], [(0, [.d (.lst (List.map (encI .i64) qs.L)), .d (.int .i64 (IntKind.wrap .i64 ((IntKind.wrap .i64 ((IntKind.wrap .i64 ((IntKind.wrap .i64 ((IntKind.wrap .i64 (qs.at_ + 1)) + 1)) + 1)) + 1)) + 1)))])]⟩)

theorem fleetmake_Stream_RightLetter_ok {qs : fleetmake_Stream} {qat : Int} {r} (hF : fleetmake_Stream_RightLetter qs qat = some r) : Holds prog 66 [.v (.one (.box 0 0)), .v (.one (.d (.int .i64 qat)))] ⟨[], [(0, [.d (.lst (List.map (encI .i64) qs.L)), .d (.int .i64 qs.at_)])]⟩ (Is (fleetmake_Stream_RightLetter_R qs qat r)) := by
  unfold fleetmake_Stream_RightLetter at hF
  refine holds_of_awp hΓ (fn := f66) (c := cB f66) (A := 1) (nx := 1) (by kernel_rfl) (by kernel_rfl) (by kernel_rfl) (by kernel_rfl) (by kernel_rfl) (by kernel_rfl) (lowc_of (by kernel_rfl)) ?_
  show Awp prog 1 24 (cB f66) _ _
  refine awp_seq ?_
  refine awp_region ?_
  refine aR 1 ?_
  refine aE ?_
  refine awp_seq ?_
  refine bE hF fun vr h1 hF => ?_
  refine bE hF fun vr1 h2 hF => ?_
  refine bE hF fun vr2 h3 hF => ?_
  refine bE hF fun vr3 h4 hF => ?_
  refine bE hF fun vr4 h5 hF => ?_
  refine awp_region ?_
  refine aR 2 ?_
  refine aC (fleetmake_Stream_Some_o1_ok h1) [(1, 2001)] [] [] ?_
  refine aR 2 ?_
  refine aC (fleetmake_Stream_Some_o1_ok h2) [(1, 5001)] [] [] ?_
  refine aR 2 ?_
  refine aC (fleetmake_Stream_Some_o1_ok h3) [(1, 8001)] [] [] ?_
  refine aR 2 ?_
  refine aC (fleetmake_Stream_Pick_o1_ok h4) [(1, 11001)] [] [] ?_
  refine aR 4 ?_
  refine aC (fleetmake_Stream_Pick_o1_ok h5) [(1, 16001)] [] [] ?_
  refine aR 3 ?_
  refine aE ?_
  refine awp_ret ?_
  exact oF hF [] []

/-! ### strings.Repeat -/
def strings_Repeat_R (qx : List UInt8) (qx1 : Int) (r : List UInt8) : TV × Mem := (.v (.one (.d (.str r))), ⟨[], []⟩)

theorem strings_Repeat_ok {qx : List UInt8} {qx1 : Int} {r} (hF : strings_Repeat qx qx1 = some r) : Holds prog 67 [.v (.one (.d (.str qx))), .v (.one (.d (.int .i64 qx1)))] ⟨[], []⟩ (Is (strings_Repeat_R qx qx1 r)) := by
  unfold strings_Repeat at hF
  refine gE hF fun h1 hF => ?_
  obtain rfl := Option.some.inj hF
  have h2 : (0 ≤ qx1 ∧ qx1 ≤ 9223372036854775807) ∧ qx.length * qx1.toNat ≤ 140737488355328 := by simpa using h1
  have h3 : ((qx1.toNat : Nat) : Int) = qx1 := Int.toNat_of_nonneg h2.1.1
  refine holds_lib (args := [.str qx, .int .i64 qx1]) (tv := .c (.d (.str (Lib.repeatL qx qx1.toNat)))) ⟨_, cB Go.Proofs.Tryz.f67, Go.Proofs.Tryz.func67, by kernel_rfl, by kernel_rfl⟩ rfl rfl fun w ht => ?_
  have h4 := Go.Proofs.Any.strings_Repeat Go.Proofs.Tryz.lays105 Go.Proofs.Tryz.Builder_Extra_105 ⟨qx.toArray⟩ qx1.toNat w (by omega) (by simpa [ByteArray.size] using h2.2)
  rw [h3] at h4
  exact h4

/-! ### (*beaconfleet/fleetmake.Stream).Odd -/
def fleetmake_Stream_Odd_R (qs : fleetmake_Stream) (qlow : Int) (qhigh : Int) (r : fleetmake_Stream × Int) : TV × Mem := (.v (.one (.d (.int .i64 r.2))), ⟨[], [(0, [.d (.lst (List.map (encI .i64) r.1.L)), .d (.int .i64 r.1.at_)])]⟩)

theorem fleetmake_Stream_Odd_ok {qs : fleetmake_Stream} {qlow : Int} {qhigh : Int} {r} (hF : fleetmake_Stream_Odd qs qlow qhigh = some r) : Holds prog 68 [.v (.one (.box 0 0)), .v (.one (.d (.int .i64 qlow))), .v (.one (.d (.int .i64 qhigh)))] ⟨[], [(0, [.d (.lst (List.map (encI .i64) qs.L)), .d (.int .i64 qs.at_)])]⟩ (Is (fleetmake_Stream_Odd_R qs qlow qhigh r)) := by
  unfold fleetmake_Stream_Odd at hF
  refine holds_of_awp hΓ (fn := f68) (c := cB f68) (A := 1) (nx := 1) (by kernel_rfl) (by kernel_rfl) (by kernel_rfl) (by kernel_rfl) (by kernel_rfl) (by kernel_rfl) (lowc_of (by kernel_rfl)) ?_
  show Awp prog 1 22 (cB f68) _ _
  refine awp_seq ?_
  refine awp_region ?_
  refine aR 1 ?_
  refine aE ?_
  refine awp_seq ?_
  refine awp_seq ?_
  refine bE hF fun vr h1 hF => ?_
  refine awp_region ?_
  refine aR 1 ?_
  refine aC (fleetmake_Stream_Flip_ok h1) [] [] [] ?_
  refine aE ?_
  refine cE hF (fun h2 hF => ?_) fun h2 hF => ?_
  · refine awp_true (by kernel_rfl) h2 ?_
    refine awp_seq ?_
    refine bE hF fun vr1 h3 hF => ?_
    refine awp_region ?_
    refine aR 8 ?_
    refine aC (fleetmake_Stream_Pick_o1_ok h3) [(1, 10001)] [] [] ?_
    refine aR 1 ?_
    refine aE ?_
    refine awp_ret ?_
    exact oF hF [] []
  · refine awp_false (by kernel_rfl) h2 ?_
    refine awp_skip ?_
    refine awp_seq ?_
    refine bE hF fun x h4 hF => ?_
    obtain ⟨vs, vr2⟩ := x
    refine awp_region ?_
    refine aR 3 ?_
    refine aC (fleetmake_Stream_Range_ok h4) [] [] [] ?_
    refine aR 1 ?_
    refine aE ?_
    refine awp_ret ?_
    exact oF hF [] []

/-! ### (*beaconfleet/fleetmake.Stream).Letter -/
def fleetmake_Stream_Letter_x1_k : (fleetmake_Stream × api_Letter) → AEx
  | _ => .normal

def fleetmake_Stream_Letter_x1_S (qs : fleetmake_Stream) (vr5 : api_Letter) : (fleetmake_Stream × api_Letter) → St
  | (vs, vl) => Mem.st ⟨[], [(0, [.d (.lst (List.map (encI .i64) vs.L)), .d (.int .i64 vs.at_)]), (1, [.d (.str ([] : List UInt8)), .d (.str ([] : List UInt8)), .d (.str ([] : List UInt8)), .d (.int .i64 0), .d (.int .i64 0), .d (.int .i64 0)]), (2, [.d (.str vl.Id), .d (.str vl.Slot), .d (.str vl.Body), .d (.int .i64 vl.Prio), .d (.int .i64 vl.At), .d (.int .i64 vl.Until)])]⟩ (tl [(4, .v (.one (.box 1 0))), (5, .v (.one (.box 2 0)))]) 3

def fleetmake_Stream_Letter_x1_I (qs : fleetmake_Stream) (vr5 : api_Letter) : St := Mem.st ⟨[], [(0, [.d (.lst (List.map (encI .i64) qs.L)), .d (.int .i64 (IntKind.wrap .i64 ((IntKind.wrap .i64 ((IntKind.wrap .i64 ((IntKind.wrap .i64 ((IntKind.wrap .i64 (qs.at_ + 1)) + 1)) + 1)) + 1)) + 1)))]), (1, [.d (.str ([] : List UInt8)), .d (.str ([] : List UInt8)), .d (.str ([] : List UInt8)), .d (.int .i64 0), .d (.int .i64 0), .d (.int .i64 0)]), (2, [.d (.str vr5.Id), .d (.str vr5.Slot), .d (.str vr5.Body), .d (.int .i64 vr5.Prio), .d (.int .i64 vr5.At), .d (.int .i64 vr5.Until)])]⟩ (tl [(0, .v (.one (.box 0 0))), (4, .v (.one (.box 1 0))), (5, .v (.one (.box 2 0)))]) 3

theorem fleetmake_Stream_Letter_x1_ok (qs : fleetmake_Stream) (vr5 : api_Letter) {r} (hF : fleetmake_Stream_Letter_x1 qs vr5 = some r) : Awp prog 1 44 (cL (cR (cR (cB f15)))) (Out 1 fleetmake_Stream_Letter_x1_k (fleetmake_Stream_Letter_x1_S qs vr5) r) (fleetmake_Stream_Letter_x1_I qs vr5) := by
  unfold fleetmake_Stream_Letter_x1 at hF
  refine awp_seq ?_
  refine bE hF fun vr h2 hF => ?_
  refine awp_region ?_
  refine aR 1 ?_
  refine aC (fleetmake_Stream_Flip_ok h2) [] [] [] ?_
  refine aE ?_
  refine cE hF (fun h3 hF => ?_) fun h3 hF => ?_
  · refine awp_true (by kernel_rfl) h3 ?_
    refine awp_seq ?_
    refine bE hF fun vr3 h4 hF => ?_
    refine awp_region ?_
    refine aR 1 ?_
    refine aC (fleetmake_Stream_Next_ok h4) [] [] [] ?_
    refine aE ?_
    refine awp_block ?_
    refine awp_seq ?_
    refine awp_region ?_
    refine aR 2 ?_
    refine aE ?_
    refine cE hF (fun h5 hF => ?_) fun h5 hF => ?_
    · refine awp_true (by kernel_rfl) h5 ?_
      refine bE hF fun vr1 h6 hF => ?_
      refine awp_region ?_
      refine aR 2 ?_
      refine aC (fleetmake_Stream_Some_o1_ok h6) [(1, 7003)] [] [] ?_
      refine aR 2 ?_
      refine aE ?_
      exact oO hF [] [] rfl
    · refine awp_false (by kernel_rfl) h5 ?_
      refine awp_seq ?_
      refine awp_region ?_
      refine aR 2 ?_
      refine aE ?_
      refine cE hF (fun h7 hF => ?_) fun h7 hF => ?_
      · refine awp_true (by kernel_rfl) h7 ?_
        refine bE hF fun vr2 h8 hF => ?_
        refine awp_region ?_
        refine aR 2 ?_
        refine aC (fleetmake_Stream_Some_o1_ok h8) [(1, 9003)] [] [] ?_
        refine aR 2 ?_
        refine aE ?_
        exact oO hF [] [] rfl
      · refine awp_false (by kernel_rfl) h7 ?_
        refine awp_seq ?_
        refine awp_region ?_
        refine aR 2 ?_
        refine aE ?_
        refine cE hF (fun h9 hF => ?_) fun h9 hF => ?_
        · refine awp_true (by kernel_rfl) h9 ?_
          refine bE hF fun vr4 h10 hF => ?_
          refine bE hF fun vr6 h11 hF => ?_
          refine awp_region ?_
          refine aR 1 ?_
          refine aC (strings_Repeat_ok h10) [] [] [] ?_
          refine aR 1 ?_
          refine aC (fleetmake_Stream_Some_o1_ok h11) [(1, 12003)] [] [] ?_
          refine aR 2 ?_
          refine aE ?_
          exact oO hF [] [] rfl
        · refine awp_false (by kernel_rfl) h9 ?_
          refine awp_seq ?_
          refine awp_region ?_
          refine aR 2 ?_
          refine aE ?_
          refine cE hF (fun h12 hF => ?_) fun h12 hF => ?_
          · refine awp_true (by kernel_rfl) h12 ?_
            refine bE hF fun x h13 hF => ?_
            obtain ⟨vs1, vr3_1⟩ := x
            refine awp_region ?_
            refine aR 1 ?_
            refine aC (fleetmake_Stream_Odd_ok h13) [] [] [] ?_
            refine aR 2 ?_
            refine aE ?_
            exact oO hF [] [] rfl
          · refine awp_false (by kernel_rfl) h12 ?_
            refine bE hF fun x h14 hF => ?_
            obtain ⟨vs1_1, vr3_2⟩ := x
            refine bE hF fun x h15 hF => ?_
            obtain ⟨vs1_2, vr3_3⟩ := x
            refine awp_region ?_
            refine aR 1 ?_
            refine aC (fleetmake_Stream_Odd_ok h14) [] [] [] ?_
            refine aR 1 ?_
            refine aC (fleetmake_Stream_Odd_ok h15) [] [] [] ?_
            refine aR 4 ?_
            refine aE ?_
            exact oO hF [] [] rfl
  · refine awp_false (by kernel_rfl) h3 ?_
    refine awp_skip ?_
    exact oO hF [] [] rfl

def fleetmake_Stream_Letter_R (qs : fleetmake_Stream) (qat : Int) (r : fleetmake_Stream × api_Letter) : TV × Mem := (.v (.agg [.d (.str r.2.Id), .d (.str r.2.Slot), .d (.str r.2.Body), .d (.int .i64 r.2.Prio), .d (.int .i64 r.2.At), .d (.int .i64 r.2.Until)]), ⟨[], [(0, [.d (.lst (List.map (encI .i64) r.1.L)), .d (.int .i64 r.1.at_)])]⟩)

theorem fleetmake_Stream_Letter_ok {qs : fleetmake_Stream} {qat : Int} {r} (hF : fleetmake_Stream_Letter qs qat = some r) : Holds prog 15 [.v (.one (.box 0 0)), .v (.one (.d (.int .i64 qat)))] ⟨[], [(0, [.d (.lst (List.map (encI .i64) qs.L)), .d (.int .i64 qs.at_)])]⟩ (Is (fleetmake_Stream_Letter_R qs qat r)) := by
  unfold fleetmake_Stream_Letter at hF
  refine holds_of_awp hΓ (fn := f15) (c := cB f15) (A := 1) (nx := 1) (by kernel_rfl) (by kernel_rfl) (by kernel_rfl) (by kernel_rfl) (by kernel_rfl) (by kernel_rfl) (lowc_of (by kernel_rfl)) ?_
  show Awp prog 1 44 (cB f15) _ _
  refine awp_seq ?_
  refine awp_region ?_
  refine aR 1 ?_
  refine aE ?_
  refine awp_seq ?_
  refine bE hF fun vr5 h1 hF => ?_
  refine awp_region ?_
  refine aR 2 ?_
  refine aC (fleetmake_Stream_RightLetter_ok h1) [] [] [] ?_
  refine aR 2 ?_
  refine aE ?_
  refine awp_seq ?_
  refine awp_to (st' := fleetmake_Stream_Letter_x1_I qs vr5) (oT [(2, 4001)] []) ?_
  refine bE hF fun x h16 hF => ?_
  obtain ⟨vs2, vl1⟩ := x
  refine awp_sub (fleetmake_Stream_Letter_x1_ok qs vr5 h16) ?_
  refine awp_seq ?_
  refine awp_region ?_
  refine aR 2 ?_
  refine aE ?_
  refine awp_ret ?_
  exact oF hF [] []

/-! ### (*beaconfleet/command.Doer).Do$1 -/
def command_Doer_Do_1_R (qx : command_done) (qx1 : api_Letter) (r : Unit) : TV × Mem := (.v (.one (.d (.bool (decide (qx.id_ = qx1.Id))))), ⟨[], [(0, [.d (.str qx1.Id), .d (.str qx1.Slot), .d (.str qx1.Body), .d (.int .i64 qx1.Prio), .d (.int .i64 qx1.At), .d (.int .i64 qx1.Until)])]⟩)

theorem command_Doer_Do_1_ok {qx : command_done} {qx1 : api_Letter} {r} (hF : command_Doer_Do_1 qx qx1 = some r) : Holds prog 71 [.v (.agg [.d (.str qx.id_), .d (.int .i64 qx.until_)]), .v (.one (.box 0 0))] ⟨[], [(0, [.d (.str qx1.Id), .d (.str qx1.Slot), .d (.str qx1.Body), .d (.int .i64 qx1.Prio), .d (.int .i64 qx1.At), .d (.int .i64 qx1.Until)])]⟩ (Is (command_Doer_Do_1_R qx qx1 r)) := by
  unfold command_Doer_Do_1 at hF
  refine holds_of_awp hΓ (fn := f71) (c := cB f71) (A := 1) (nx := 1) (by kernel_rfl) (by kernel_rfl) (by kernel_rfl) (by kernel_rfl) (by kernel_rfl) (by kernel_rfl) (lowc_of (by kernel_rfl)) ?_
  show Awp prog 1 9 (cB f71) _ _
  refine awp_seq ?_
  refine awp_region ?_
  refine aR 2 ?_
  refine aE ?_
  refine awp_seq ?_
  refine awp_region ?_
  refine aR 6 ?_
  refine aE ?_
  refine awp_ret ?_
  exact oF hF [] []

/-! ### slices.IndexFunc[[]beaconfleet/command.done,beaconfleet/command.done] -/
def slices_IndexFunc_command_done_command_done_f1_command_Doer_Do_1_x1_k : Unit ⊕ Int → AEx
  | .inl _ => .exit 0
  | .inr _ => .ret

def slices_IndexFunc_command_done_command_done_f1_command_Doer_Do_1_x1_S (qs : List command_done) (qf : api_Letter) : Unit ⊕ Int → St
  | .inl _ => Mem.st ⟨[], [(0, [.d (.str qf.Id), .d (.str qf.Slot), .d (.str qf.Body), .d (.int .i64 qf.Prio), .d (.int .i64 qf.At), .d (.int .i64 qf.Until)])]⟩ (tl []) 1
  | .inr vx1 => Mem.st ⟨[], [(0, [.d (.str qf.Id), .d (.str qf.Slot), .d (.str qf.Body), .d (.int .i64 qf.Prio), .d (.int .i64 qf.At), .d (.int .i64 qf.Until)])]⟩ (tl [(4, .v (.one (.d (.int .i64 vx1))))]) 1

def slices_IndexFunc_command_done_command_done_f1_command_Doer_Do_1_x1_H (qs : List command_done) (qf : api_Letter) : Int → St
  | vx => Mem.st ⟨[], [(0, [.d (.str qf.Id), .d (.str qf.Slot), .d (.str qf.Body), .d (.int .i64 qf.Prio), .d (.int .i64 qf.At), .d (.int .i64 qf.Until)])]⟩ (tl [(0, .v (.one (.d (.lst (List.map command_done.enc qs))))), (1, .v (.one (.fn 71 [0]))), (7, .v (.one (.d (.int .i64 (qs.length : Int))))), (8, .v (.one (.d (.int .i64 vx))))]) 1

theorem slices_IndexFunc_command_done_command_done_f1_command_Doer_Do_1_x1_ok (qs : List command_done) (qf : api_Letter) (vx : Int) (r : (Int) ⊕ (Unit ⊕ Int)) (hF : slices_IndexFunc_command_done_command_done_f1_command_Doer_Do_1_x1 qs qf vx = some r) : Awp prog 1 19 (cL (cL (cR (cL (cR (cB f169)))))) (Out 1 (kk slices_IndexFunc_command_done_command_done_f1_command_Doer_Do_1_x1_k) (SS (slices_IndexFunc_command_done_command_done_f1_command_Doer_Do_1_x1_H qs qf) (slices_IndexFunc_command_done_command_done_f1_command_Doer_Do_1_x1_S qs qf)) r) (slices_IndexFunc_command_done_command_done_f1_command_Doer_Do_1_x1_H qs qf vx) := by
  unfold slices_IndexFunc_command_done_command_done_f1_command_Doer_Do_1_x1 at hF
  refine awp_seq ?_
  refine awp_region ?_
  refine aR 1 ?_
  refine aE ?_
  refine awp_seq ?_
  refine cE hF (fun h1 hF => ?_) fun h1 hF => ?_
  · refine awp_true (by kernel_rfl) h1 ?_
    refine awp_skip ?_
    refine awp_seq ?_
    refine awp_block ?_
    refine awp_seq ?_
    refine awp_region ?_
    refine aR 2 ?_
    refine aE ?_
    refine awp_seq ?_
    refine bE hF fun vy1 h2 hF => ?_
    refine bE hF fun _ h3 hF => ?_
    refine awp_region ?_
    refine aR 3 ?_
    refine aX (x_idx command_done.enc h2) ?_
    refine aR 1 ?_
    refine aC (command_Doer_Do_1_ok h3) [] [] [] ?_
    refine aE ?_
    refine cE hF (fun h4 hF => ?_) fun h4 hF => ?_
    · refine awp_true (by kernel_rfl) h4 ?_
      refine awp_seq ?_
      refine awp_region ?_
      refine aR 2 ?_
      refine aE ?_
      refine awp_ret ?_
      exact oO hF [] [] rfl
    · refine awp_false (by kernel_rfl) h4 ?_
      refine awp_skip ?_
      refine awp_region ?_
      refine aR 2 ?_
      refine aE ?_
      exact oO hF [] [] rfl
  · refine awp_false (by kernel_rfl) h1 ?_
    refine awp_exit ?_
    exact oO hF [] [] rfl

def slices_IndexFunc_command_done_command_done_f1_command_Doer_Do_1_R (qs : List command_done) (qf : api_Letter) (r : Int) : TV × Mem := (.v (.one (.d (.int .i64 r))), ⟨[], [(0, [.d (.str qf.Id), .d (.str qf.Slot), .d (.str qf.Body), .d (.int .i64 qf.Prio), .d (.int .i64 qf.At), .d (.int .i64 qf.Until)])]⟩)

theorem slices_IndexFunc_command_done_command_done_f1_command_Doer_Do_1_ok {qs : List command_done} {qf : api_Letter} {r} (hF : slices_IndexFunc_command_done_command_done_f1_command_Doer_Do_1 qs qf = some r) : Holds prog 169 [.v (.one (.d (.lst (List.map command_done.enc qs)))), .v (.one (.fn 71 [0]))] ⟨[], [(0, [.d (.str qf.Id), .d (.str qf.Slot), .d (.str qf.Body), .d (.int .i64 qf.Prio), .d (.int .i64 qf.At), .d (.int .i64 qf.Until)])]⟩ (Is (slices_IndexFunc_command_done_command_done_f1_command_Doer_Do_1_R qs qf r)) := by
  unfold slices_IndexFunc_command_done_command_done_f1_command_Doer_Do_1 at hF
  refine holds_of_awp hΓ (fn := f169) (c := cB f169) (A := 1) (nx := 1) (by kernel_rfl) (by kernel_rfl) (by kernel_rfl) (by kernel_rfl) (by kernel_rfl) (by kernel_rfl) (lowc_of (by kernel_rfl)) ?_
  show Awp prog 1 19 (cB f169) _ _
  refine awp_seq ?_
  refine awp_region ?_
  refine aR 1 ?_
  refine aE ?_
  refine awp_seq ?_
  refine awp_seq ?_
  refine awp_region ?_
  refine aR 1 ?_
  refine aL command_done.enc qs ?_
  refine aR 1 ?_
  refine aE ?_
  refine awp_block ?_
  refine awp_to (st' := slices_IndexFunc_command_done_command_done_f1_command_Doer_Do_1_x1_H qs qf 0) (oT [] []) ?_
  refine bE hF fun x h5 hF => ?_
  rcases x with _ | vx1_1
  · refine awp_sub (awp_loop' (slices_IndexFunc_command_done_command_done_f1_command_Doer_Do_1_x1_H qs qf) slices_IndexFunc_command_done_command_done_f1_command_Doer_Do_1_x1_k (slices_IndexFunc_command_done_command_done_f1_command_Doer_Do_1_x1_S qs qf) (by intro x; rcases x with x | x <;> exact fun h => nomatch h) h5 (slices_IndexFunc_command_done_command_done_f1_command_Doer_Do_1_x1_ok qs qf)) ?_
    refine awp_seq ?_
    refine awp_region ?_
    refine aR 1 ?_
    refine aE ?_
    refine awp_ret ?_
    exact oF hF [] []
  · refine awp_sub (awp_loop' (slices_IndexFunc_command_done_command_done_f1_command_Doer_Do_1_x1_H qs qf) slices_IndexFunc_command_done_command_done_f1_command_Doer_Do_1_x1_k (slices_IndexFunc_command_done_command_done_f1_command_Doer_Do_1_x1_S qs qf) (by intro x; rcases x with x | x <;> exact fun h => nomatch h) h5 (slices_IndexFunc_command_done_command_done_f1_command_Doer_Do_1_x1_ok qs qf)) ?_
    exact oF hF [] []

/-! ### slices.ContainsFunc[[]beaconfleet/command.done,beaconfleet/command.done] -/
def slices_ContainsFunc_command_done_command_done_f1_command_Doer_Do_1_R (qs : List command_done) (qf : api_Letter) (r : Bool) : TV × Mem := (.v (.one (.d (.bool r))), ⟨[], [(0, [.d (.str qf.Id), .d (.str qf.Slot), .d (.str qf.Body), .d (.int .i64 qf.Prio), .d (.int .i64 qf.At), .d (.int .i64 qf.Until)])]⟩)

theorem slices_ContainsFunc_command_done_command_done_f1_command_Doer_Do_1_ok {qs : List command_done} {qf : api_Letter} {r} (hF : slices_ContainsFunc_command_done_command_done_f1_command_Doer_Do_1 qs qf = some r) : Holds prog 70 [.v (.one (.d (.lst (List.map command_done.enc qs)))), .v (.one (.fn 71 [0]))] ⟨[], [(0, [.d (.str qf.Id), .d (.str qf.Slot), .d (.str qf.Body), .d (.int .i64 qf.Prio), .d (.int .i64 qf.At), .d (.int .i64 qf.Until)])]⟩ (Is (slices_ContainsFunc_command_done_command_done_f1_command_Doer_Do_1_R qs qf r)) := by
  unfold slices_ContainsFunc_command_done_command_done_f1_command_Doer_Do_1 at hF
  refine holds_of_awp hΓ (fn := f70) (c := cB f70) (A := 1) (nx := 1) (by kernel_rfl) (by kernel_rfl) (by kernel_rfl) (by kernel_rfl) (by kernel_rfl) (by kernel_rfl) (lowc_of (by kernel_rfl)) ?_
  show Awp prog 1 9 (cB f70) _ _
  refine awp_seq ?_
  refine awp_region ?_
  refine aR 1 ?_
  refine aE ?_
  refine awp_seq ?_
  refine bE hF fun vr h1 hF => ?_
  refine awp_region ?_
  refine aR 2 ?_
  refine aC (slices_IndexFunc_command_done_command_done_f1_command_Doer_Do_1_ok h1) [] [] [] ?_
  refine aR 2 ?_
  refine aE ?_
  refine awp_ret ?_
  exact oF hF [] []

/-! ### slices.Clone[[]beaconfleet/command.done,beaconfleet/command.done] -/
def slices_Clone_command_done_command_done_R (qs : List command_done) (r : List command_done) : TV × Mem := (.v (.one (.own 0 none)), ⟨[(0, ⟨117, 2, List.map command_done.enc r⟩)], []⟩)

theorem slices_Clone_command_done_command_done_ok {qs : List command_done} {r} (hF : slices_Clone_command_done_command_done qs = some r) : Holds prog 72 [.v (.one (.d (.lst (List.map command_done.enc qs))))] ⟨[], []⟩ (Is (slices_Clone_command_done_command_done_R qs r)) := by
  unfold slices_Clone_command_done_command_done at hF
  refine gE hF fun h1 hF => ?_
  refine holds_of_awp hΓ (fn := f72) (c := cB f72) (A := 0) (nx := 0) (by kernel_rfl) (by kernel_rfl) (by kernel_rfl) (by kernel_rfl) (by kernel_rfl) (by kernel_rfl) (lowc_of (by kernel_rfl)) ?_
  show Awp prog 0 8 (cB f72) _ _
  refine awp_seq ?_
  refine awp_region ?_
  refine aR 1 ?_
  refine aE ?_
  refine awp_seq ?_
  refine awp_seq ?_
  refine awp_region ?_
  refine aR 1 ?_
  refine aN command_done.enc qs (fun b hb => ?_) rfl
  refine aE ?_
  cases b with
  | true =>
    obtain rfl := hb rfl
    refine awp_true (by kernel_rfl) rfl ?_
    refine awp_seq ?_
    refine awp_region ?_
    refine aR 1 ?_
    refine aE ?_
    refine awp_ret ?_
    exact oF hF [] [0]
  | false =>
    refine awp_false (by kernel_rfl) rfl ?_
    refine awp_skip ?_
    refine awp_seq ?_
    refine awp_region ?_
    refine aR 2 ?_
    refine aX (x_app command_done.enc 3000 h1) ?_
    refine aR 1 ?_
    refine aE ?_
    refine awp_ret ?_
    exact oF hF [(0, 5000)] []

/-! ### slices.Delete[[]beaconfleet/command.done,beaconfleet/command.done] -/
def slices_Delete_command_done_command_done_o0_R (qs : List command_done) (qi : Int) (qj : Int) (r : List command_done) : TV × Mem := (.v (.one (.own 1 none)), ⟨[(1, ⟨117, 2, List.map command_done.enc r⟩)], []⟩)

theorem slices_Delete_command_done_command_done_o0_ok {qs : List command_done} {qi : Int} {qj : Int} {r} (hF : slices_Delete_command_done_command_done_o0 qs qi qj = some r) : Holds prog 73 [.v (.one (.own 0 none)), .v (.one (.d (.int .i64 qi))), .v (.one (.d (.int .i64 qj)))] ⟨[(0, ⟨117, 2, List.map command_done.enc qs⟩)], []⟩ (Is (slices_Delete_command_done_command_done_o0_R qs qi qj r)) := by
  unfold slices_Delete_command_done_command_done_o0 at hF
  refine gE hF fun h1 hF => ?_
  obtain ⟨d1, d2, d3, d4, d5⟩ := del_facts h1
  refine holds_of_awp hΓ (fn := f73) (c := cB f73) (A := 1) (nx := 1) (by kernel_rfl) (by kernel_rfl) (by kernel_rfl) (by kernel_rfl) (by kernel_rfl) (by kernel_rfl) (lowc_of (by kernel_rfl)) ?_
  show Awp prog 1 33 (cB f73) _ _
  refine awp_seq ?_
  refine awp_region ?_
  refine aR 1 ?_
  refine aE ?_
  refine awp_seq ?_
  refine awp_region ?_
  refine aR 4 ?_
  refine aL command_done.enc qs ?_
  refine aS3 command_done.enc 0 h1 rfl ?_
  refine aE ?_
  refine awp_seq ?_
  refine awp_seq ?_
  refine awp_region ?_
  refine aR 3 ?_
  refine aE ?_
  refine cE hF (fun h2 hF => ?_) fun h2 hF => ?_
  · refine awp_true (by kernel_rfl) h2 ?_
    refine awp_seq ?_
    refine awp_region ?_
    refine aR 2 ?_
    refine aE ?_
    refine awp_ret ?_
    exact oF hF [(1, 0)] []
  · refine awp_false (by kernel_rfl) h2 ?_
    refine awp_skip ?_
    refine awp_seq ?_
    refine awp_region ?_
    refine aR 1 ?_
    refine aL command_done.enc qs ?_
    refine aR 1 ?_
    refine aE ?_
    refine awp_seq ?_
    refine aD ?_
    refine dR 2 ?_
    refine dX (x_pre command_done.enc 0 d1) ?_
    refine dR 2 ?_
    refine dX (x_viewN command_done.enc 0 d2) ?_
    refine dAD command_done.enc 0 d3 rfl ?_
    refine dR 1 ?_
    refine dE ?_
    refine awp_seq ?_
    refine awp_region ?_
    refine aR 4 ?_
    refine aVP command_done.enc 19001 (p := qi.toNat + ((qs.length : Int).toNat - qj.toNat)) (xs := delX qs qi qj) (a := delA qs qi qj) (b := (qs.length : Int)) d4 rfl ?_
    refine aCl command_done.enc 19001 (xs := delX qs qi qj) (y := (command_done.mk ([] : List UInt8) 0)) (lo := delA qs qi qj) (hi := (qs.length : Int)) rfl ?_
    refine aE ?_
    refine awp_seq ?_
    refine awp_region ?_
    refine aTM command_done.enc 19001 (et := 117) (sz := 2) (p := qi.toNat + ((qs.length : Int).toNat - qj.toNat)) (xs := delY qs qi qj (command_done.mk ([] : List UInt8) 0)) rfl ?_
    refine aR 1 ?_
    refine aE ?_
    refine awp_ret ?_
    exact oF ((congrArg some (d5 (command_done.mk ([] : List UInt8) 0))).trans hF) [(1, 27001)] []

/-! ### (*beaconfleet/command.Doer).Do -/
def command_Doer_Do_x1_k : Bool → AEx
  | _ => .normal

def command_Doer_Do_x1_S (qx : command_Doer) (qx1 : api_Letter) (qx2 : Int) : Bool → St
  | vx => Mem.st ⟨[], [(0, [.d (.int .i64 qx.most_), .d (.lst (List.map command_done.enc qx.l_)), .d (.int .i64 qx.time_)]), (1, [.d (.str qx1.Id), .d (.str qx1.Slot), .d (.str qx1.Body), .d (.int .i64 qx1.Prio), .d (.int .i64 qx1.At), .d (.int .i64 qx1.Until)])]⟩ (tl [(0, .v (.one (.box 0 0))), (2, .v (.one (.d (.int .i64 qx2)))), (4, .v (.one (.box 1 0))), (40, .v (.one (.d (.bool vx))))]) 2

def command_Doer_Do_x1_I (qx : command_Doer) (qx1 : api_Letter) (qx2 : Int) : St := Mem.st ⟨[], [(0, [.d (.int .i64 qx.most_), .d (.lst (List.map command_done.enc qx.l_)), .d (.int .i64 qx.time_)]), (1, [.d (.str qx1.Id), .d (.str qx1.Slot), .d (.str qx1.Body), .d (.int .i64 qx1.Prio), .d (.int .i64 qx1.At), .d (.int .i64 qx1.Until)])]⟩ (tl [(0, .v (.one (.box 0 0))), (2, .v (.one (.d (.int .i64 qx2)))), (4, .v (.one (.box 1 0)))]) 2

theorem command_Doer_Do_x1_ok (qx : command_Doer) (qx1 : api_Letter) (qx2 : Int) {r} (hF : command_Doer_Do_x1 qx qx1 qx2 = some r) : Awp prog 1 101 (cL (cL (cR (cR (cR (cB f16)))))) (Out 1 command_Doer_Do_x1_k (command_Doer_Do_x1_S qx qx1 qx2) r) (command_Doer_Do_x1_I qx qx1 qx2) := by
  unfold command_Doer_Do_x1 at hF
  refine cE hF (fun h6 hF => ?_) fun h6 hF => ?_
  · refine awp_region ?_
    refine aR 3 ?_
    refine aB h6 ?_
    refine aR 8 ?_
    refine aE ?_
    exact oO hF [] [] rfl
  · refine bE hF fun vr1_1 h7 hF => ?_
    refine awp_region ?_
    refine aR 3 ?_
    refine aB h6 ?_
    refine aR 6 ?_
    refine aC (slices_ContainsFunc_command_done_command_done_f1_command_Doer_Do_1_ok h7) [(0, 1)] [] [] ?_
    refine aR 1 ?_
    refine aE ?_
    exact oO hF [] [] rfl

def command_Doer_Do_x4_k : Int → AEx
  | _ => .normal

def command_Doer_Do_x4_S (qx : command_Doer) (qx2 : Int) (vx2 : List command_done) (vx8 : Int) (vx9 : Int) : Int → St
  | vx11 => Mem.st ⟨[(1, ⟨117, 2, List.map command_done.enc vx2⟩)], [(0, [.d (.int .i64 qx.most_), .d (.lst (List.map command_done.enc qx.l_)), .d (.int .i64 qx.time_)])]⟩ (tl [(0, .v (.one (.box 0 0))), (2, .v (.one (.d (.int .i64 qx2)))), (9, .v (.one (.own 1 none))), (10, .v (.one (.d (.int .i64 vx11)))), (64, .v (.one (.own 1 none))), (65, .v (.one (.d (.int .i64 (vx2.length : Int))))), (66, .v (.one (.d (.int .i64 vx9))))]) 2

def command_Doer_Do_x4_I (qx : command_Doer) (qx2 : Int) (vx2 : List command_done) (vx8 : Int) (vx9 : Int) : St := Mem.st ⟨[(1, ⟨117, 2, List.map command_done.enc vx2⟩)], [(0, [.d (.int .i64 qx.most_), .d (.lst (List.map command_done.enc qx.l_)), .d (.int .i64 qx.time_)])]⟩ (tl [(0, .v (.one (.box 0 0))), (2, .v (.one (.d (.int .i64 qx2)))), (9, .v (.one (.own 1 none))), (10, .v (.one (.d (.int .i64 vx8)))), (64, .v (.one (.own 1 none))), (65, .v (.one (.d (.int .i64 (vx2.length : Int))))), (66, .v (.one (.d (.int .i64 vx9))))]) 2

theorem command_Doer_Do_x4_ok (qx : command_Doer) (qx2 : Int) (vx2 : List command_done) (vx8 : Int) (vx9 : Int) {r} (hF : command_Doer_Do_x4 vx2 vx8 vx9 = some r) : Awp prog 1 101 (cL (cR (cR (cL (cL (cR (cL (cR (cL (cR (cL (cL (cL (cR (cR (cR (cR (cR (cB f16))))))))))))))))))) (Out 1 command_Doer_Do_x4_k (command_Doer_Do_x4_S qx qx2 vx2 vx8 vx9) r) (command_Doer_Do_x4_I qx qx2 vx2 vx8 vx9) := by
  unfold command_Doer_Do_x4 at hF
  refine awp_block ?_
  refine awp_seq ?_
  refine bE hF fun vy7 h14 hF => ?_
  refine awp_region ?_
  refine aR 1 ?_
  refine aX (x_idxO command_done.enc 1 h14) ?_
  refine aX (x_ldE command_done.enc h14) ?_
  refine aR 3 ?_
  refine aE ?_
  refine awp_seq ?_
  refine bE hF fun vy8 h15 hF => ?_
  refine aD ?_
  refine dR 4 ?_
  refine dX (x_idxO command_done.enc 1 h15) ?_
  refine dR 1 ?_
  refine dX (x_ldE command_done.enc h15) ?_
  refine dR 1 ?_
  refine dE ?_
  refine cE hF (fun h16 hF => ?_) fun h16 hF => ?_
  · refine awp_true (by kernel_rfl) h16 ?_
    refine awp_region ?_
    refine aR 2 ?_
    refine aE ?_
    exact oO hF [] [] rfl
  · refine awp_false (by kernel_rfl) h16 ?_
    refine awp_skip ?_
    exact oO hF [] [] rfl

def command_Doer_Do_x3_k : Int → AEx
  | _ => .exit 3

def command_Doer_Do_x3_S (qx : command_Doer) (qx2 : Int) (vx2 : List command_done) : Int → St
  | vx12 => Mem.st ⟨[(1, ⟨117, 2, List.map command_done.enc vx2⟩)], [(0, [.d (.int .i64 qx.most_), .d (.lst (List.map command_done.enc qx.l_)), .d (.int .i64 qx.time_)])]⟩ (tl [(0, .v (.one (.box 0 0))), (2, .v (.one (.d (.int .i64 qx2)))), (9, .v (.one (.own 1 none))), (10, .v (.one (.d (.int .i64 vx12))))]) 2

def command_Doer_Do_x3_H (qx : command_Doer) (qx2 : Int) (vx2 : List command_done) : Int × Int → St
  | (vx8, vx9) => Mem.st ⟨[(1, ⟨117, 2, List.map command_done.enc vx2⟩)], [(0, [.d (.int .i64 qx.most_), .d (.lst (List.map command_done.enc qx.l_)), .d (.int .i64 qx.time_)])]⟩ (tl [(0, .v (.one (.box 0 0))), (2, .v (.one (.d (.int .i64 qx2)))), (9, .v (.one (.own 1 none))), (10, .v (.one (.d (.int .i64 vx8)))), (64, .v (.one (.own 1 none))), (65, .v (.one (.d (.int .i64 (vx2.length : Int))))), (66, .v (.one (.d (.int .i64 vx9))))]) 2

theorem command_Doer_Do_x3_ok (qx : command_Doer) (qx2 : Int) (vx2 : List command_done) (s : Int × Int) (r : (Int × Int) ⊕ (Int)) (hF : command_Doer_Do_x3 vx2 s = some r) : Awp prog 1 101 (cL (cL (cR (cL (cR (cL (cR (cL (cL (cL (cR (cR (cR (cR (cR (cB f16)))))))))))))))) (Out 1 (kk command_Doer_Do_x3_k) (SS (command_Doer_Do_x3_H qx qx2 vx2) (command_Doer_Do_x3_S qx qx2 vx2)) r) (command_Doer_Do_x3_H qx qx2 vx2 s) := by
  obtain ⟨vx8, vx9⟩ := s
  unfold command_Doer_Do_x3 at hF
  refine awp_seq ?_
  refine awp_region ?_
  refine aR 1 ?_
  refine aE ?_
  refine awp_seq ?_
  refine cE hF (fun h13 hF => ?_) fun h13 hF => ?_
  · refine awp_true (by kernel_rfl) h13 ?_
    refine awp_skip ?_
    refine awp_seq ?_
    refine awp_to (st' := command_Doer_Do_x4_I qx qx2 vx2 vx8 vx9) (oT [] []) ?_
    refine bE hF fun vx11_1 h17 hF => ?_
    refine awp_sub (command_Doer_Do_x4_ok qx qx2 vx2 vx8 vx9 h17) ?_
    refine awp_region ?_
    refine aR 2 ?_
    refine aE ?_
    exact oO hF [] [] rfl
  · refine awp_false (by kernel_rfl) h13 ?_
    refine awp_exit ?_
    exact oO hF [] [] rfl

def command_Doer_Do_x2_k : (List command_done) ⊕ Unit → AEx
  | .inl _ => .exit 1
  | .inr _ => .ret

def command_Doer_Do_x2_S (qx : command_Doer) (qx2 : Int) : (List command_done) ⊕ Unit → St
  | .inl vx13 => Mem.st ⟨[(1, ⟨117, 2, List.map command_done.enc vx13⟩)], [(0, [.d (.int .i64 qx.most_), .d (.lst (List.map command_done.enc qx.l_)), .d (.int .i64 qx.time_)])]⟩ (tl [(0, .v (.one (.box 0 0))), (2, .v (.one (.d (.int .i64 qx2)))), (9, .v (.one (.own 1 none)))]) 2
  | .inr _ => Mem.st ⟨[], [(0, [.d (.int .i64 qx.most_), .d (.lst (List.map command_done.enc qx.l_)), .d (.int .i64 qx.time_)])]⟩ (tl [(6, .v (.one (.d (.bool false)))), (7, .v (.one (.d (.int .i64 12))))]) 1

def command_Doer_Do_x2_H (qx : command_Doer) (qx2 : Int) : (List command_done) → St
  | vx2 => Mem.st ⟨[(1, ⟨117, 2, List.map command_done.enc vx2⟩)], [(0, [.d (.int .i64 qx.most_), .d (.lst (List.map command_done.enc qx.l_)), .d (.int .i64 qx.time_)])]⟩ (tl [(0, .v (.one (.box 0 0))), (2, .v (.one (.d (.int .i64 qx2)))), (9, .v (.one (.own 1 none)))]) 2

theorem command_Doer_Do_x2_ok (qx : command_Doer) (qx2 : Int) (vx2 : (List command_done)) (r : ((List command_done)) ⊕ ((List command_done) ⊕ Unit)) (hF : command_Doer_Do_x2 qx qx2 vx2 = some r) : Awp prog 1 101 (cL (cL (cL (cR (cR (cR (cR (cR (cB f16))))))))) (Out 1 (kk command_Doer_Do_x2_k) (SS (command_Doer_Do_x2_H qx qx2) (command_Doer_Do_x2_S qx qx2)) r) (command_Doer_Do_x2_H qx qx2 vx2) := by
  unfold command_Doer_Do_x2 at hF
  refine awp_seq ?_
  refine awp_seq ?_
  refine awp_region ?_
  refine aR 1 ?_
  refine aL command_done.enc vx2 ?_
  refine aR 5 ?_
  refine aE ?_
  refine cE hF (fun h12 hF => ?_) fun h12 hF => ?_
  · refine awp_true (by kernel_rfl) h12 ?_
    refine awp_skip ?_
    refine awp_block ?_
    refine awp_seq ?_
    refine awp_region ?_
    refine aR 1 ?_
    refine aE ?_
    refine awp_seq ?_
    refine awp_seq ?_
    refine awp_region ?_
    refine aR 1 ?_
    refine aL command_done.enc vx2 ?_
    refine aR 1 ?_
    refine aE ?_
    refine awp_block ?_
    refine awp_to (st' := command_Doer_Do_x3_H qx qx2 vx2 (0, 0)) (oT [] []) ?_
    refine bE hF fun vx12_1 h18 hF => ?_
    refine awp_sub (awp_loop' (command_Doer_Do_x3_H qx qx2 vx2) command_Doer_Do_x3_k (command_Doer_Do_x3_S qx qx2 vx2) (by intro x; exact fun h => nomatch h) h18 (command_Doer_Do_x3_ok qx qx2 vx2)) ?_
    refine awp_seq ?_
    refine awp_seq ?_
    refine bE hF fun vy9 h19 hF => ?_
    refine awp_region ?_
    refine aR 2 ?_
    refine aX (x_idxO command_done.enc 1 h19) ?_
    refine aR 1 ?_
    refine aX (x_ldE command_done.enc h19) ?_
    refine aR 2 ?_
    refine aE ?_
    refine cE hF (fun h20 hF => ?_) fun h20 hF => ?_
    · refine awp_true (by kernel_rfl) h20 ?_
      refine awp_seq ?_
      refine awp_region ?_
      refine aR 2 ?_
      refine aE ?_
      refine awp_ret ?_
      exact oO hF [] [] rfl
    · refine awp_false (by kernel_rfl) h20 ?_
      refine awp_skip ?_
      refine bE hF fun vr4 h21 hF => ?_
      refine awp_region ?_
      refine aR 4 ?_
      refine aC (slices_Delete_command_done_command_done_o0_ok h21) [(0, 1)] [] [] ?_
      refine aR 1 ?_
      refine aE ?_
      exact oO hF [(1, 11003)] [] rfl
  · refine awp_false (by kernel_rfl) h12 ?_
    refine awp_exit ?_
    exact oO hF [] [] rfl

def command_Doer_Do_R (qx : command_Doer) (qx1 : api_Letter) (qx2 : Int) (r : (List command_done) × Int × Bool × Int) : TV × Mem := (.tup [.one (.d (.bool r.2.2.1)), .one (.d (.int .i64 r.2.2.2))], ⟨[], [(0, [.d (.int .i64 qx.most_), .d (.lst (List.map command_done.enc r.1)), .d (.int .i64 r.2.1)])]⟩)

theorem command_Doer_Do_ok {qx : command_Doer} {qx1 : api_Letter} {qx2 : Int} {r} (hF : command_Doer_Do qx qx1 qx2 = some r) : Holds prog 16 [.v (.one (.box 0 0)), .v (.agg [.d (.str qx1.Id), .d (.str qx1.Slot), .d (.str qx1.Body), .d (.int .i64 qx1.Prio), .d (.int .i64 qx1.At), .d (.int .i64 qx1.Until)]), .v (.one (.d (.int .i64 qx2)))] ⟨[], [(0, [.d (.int .i64 qx.most_), .d (.lst (List.map command_done.enc qx.l_)), .d (.int .i64 qx.time_)])]⟩ (Is (command_Doer_Do_R qx qx1 qx2 r)) := by
  unfold command_Doer_Do at hF
  refine holds_of_awp hΓ (fn := f16) (c := cB f16) (A := 1) (nx := 1) (by kernel_rfl) (by kernel_rfl) (by kernel_rfl) (by kernel_rfl) (by kernel_rfl) (by kernel_rfl) (lowc_of (by kernel_rfl)) ?_
  show Awp prog 1 101 (cB f16) _ _
  refine awp_seq ?_
  refine awp_region ?_
  refine aR 3 ?_
  refine aE ?_
  refine awp_seq ?_
  refine awp_seq ?_
  refine bE hF fun vr3 h1 hF => ?_
  refine awp_region ?_
  refine aR 1 ?_
  refine aC (command_CheckLetter_ok h1) [] [] [] ?_
  refine aR 1 ?_
  refine aE ?_
  refine awp_seq ?_
  refine awp_region ?_
  refine aR 2 ?_
  refine aE ?_
  refine cE hF (fun h2 hF => ?_) fun h2 hF => ?_
  · refine awp_true (by kernel_rfl) h2 ?_
    refine awp_seq ?_
    refine awp_region ?_
    refine aR 3 ?_
    refine aE ?_
    refine awp_ret ?_
    exact oF hF [] []
  · refine awp_false (by kernel_rfl) h2 ?_
    refine awp_skip ?_
    refine awp_seq ?_
    refine awp_block ?_
    refine awp_seq ?_
    refine bE hF fun vr1 h3 hF => ?_
    refine awp_region ?_
    refine aR 1 ?_
    refine aC (base_Moment_ok h3) [] [] [] ?_
    refine aR 2 ?_
    refine aE ?_
    refine cE hF (fun h4 hF => ?_) fun h4 hF => ?_
    · refine awp_true (by kernel_rfl) h4 ?_
      refine awp_seq ?_
      refine awp_region ?_
      refine aR 2 ?_
      refine aE ?_
      refine awp_ret ?_
      exact oF hF [] []
    · refine awp_false (by kernel_rfl) h4 ?_
      refine awp_seq ?_
      refine awp_region ?_
      refine aR 7 ?_
      refine aE ?_
      refine cE hF (fun h5 hF => ?_) fun h5 hF => ?_
      · refine awp_true (by kernel_rfl) h5 ?_
        refine awp_seq ?_
        refine awp_region ?_
        refine aR 2 ?_
        refine aE ?_
        refine awp_ret ?_
        exact oF hF [] []
      · refine awp_false (by kernel_rfl) h5 ?_
        refine awp_skip ?_
        refine awp_seq ?_
        refine awp_seq ?_
        refine awp_to (st' := command_Doer_Do_x1_I qx qx1 qx2) (oT [] []) ?_
        refine bE hF fun vx1 h8 hF => ?_
        refine awp_sub (command_Doer_Do_x1_ok qx qx1 qx2 h8) ?_
        refine cE hF (fun h9 hF => ?_) fun h9 hF => ?_
        · refine awp_true (by kernel_rfl) h9 ?_
          refine awp_seq ?_
          refine awp_region ?_
          refine aR 5 ?_
          refine aE ?_
          refine awp_seq ?_
          refine awp_region ?_
          refine aR 2 ?_
          refine aE ?_
          refine awp_ret ?_
          exact oF hF [] []
        · refine awp_false (by kernel_rfl) h9 ?_
          refine awp_skip ?_
          refine awp_seq ?_
          refine bE hF fun vr h10 hF => ?_
          refine gE hF fun h11 hF => ?_
          refine aD ?_
          refine dR 4 ?_
          refine dC (slices_Clone_command_done_command_done_ok h10) [] [] [] ?_
          refine dR 6 ?_
          refine dX (x_app command_done.enc 4002 h11) ?_
          refine dR 1 ?_
          refine dE ?_
          refine awp_seq ?_
          refine awp_block ?_
          refine awp_to (st' := command_Doer_Do_x2_H qx qx2 (vr ++ ([command_done.mk qx1.Id qx1.Until] : List command_done))) (oT [(1, 11002)] []) ?_
          refine bE hF fun x h22 hF => ?_
          rcases x with vx13_1 | _
          · refine awp_sub (awp_loop' (command_Doer_Do_x2_H qx qx2) command_Doer_Do_x2_k (command_Doer_Do_x2_S qx qx2) (by intro x; rcases x with x | x <;> exact fun h => nomatch h) h22 (command_Doer_Do_x2_ok qx qx2)) ?_
            refine awp_seq ?_
            refine awp_region ?_
            refine aR 10 ?_
            refine aE ?_
            refine awp_seq ?_
            refine awp_region ?_
            refine aR 2 ?_
            refine aE ?_
            refine awp_ret ?_
            exact oF hF [] []
          · refine awp_sub (awp_loop' (command_Doer_Do_x2_H qx qx2) command_Doer_Do_x2_k (command_Doer_Do_x2_S qx qx2) (by intro x; rcases x with x | x <;> exact fun h => nomatch h) h22 (command_Doer_Do_x2_ok qx qx2)) ?_
            exact oF hF [] []

/-! ### beaconfleet/fleetref2.in -/
def fleetref2_in_x1_k : Bool → AEx
  | _ => .normal

def fleetref2_in_x1_S (qn : Int) (qlow : Int) (qhigh : Int) : Bool → St
  | vx => Mem.st ⟨[], []⟩ (tl [(6, .v (.one (.d (.bool vx))))]) 0

def fleetref2_in_x1_I (qn : Int) (qlow : Int) (qhigh : Int) : St := Mem.st ⟨[], []⟩ (tl [(0, .v (.one (.d (.int .i64 qn)))), (1, .v (.one (.d (.int .i64 qlow)))), (2, .v (.one (.d (.int .i64 qhigh))))]) 0

theorem fleetref2_in_x1_ok (qn : Int) (qlow : Int) (qhigh : Int) {r} (hF : fleetref2_in_x1 qn qlow qhigh = some r) : Awp prog 0 15 (cL (cR (cB f79))) (Out 0 fleetref2_in_x1_k (fleetref2_in_x1_S qn qlow qhigh) r) (fleetref2_in_x1_I qn qlow qhigh) := by
  unfold fleetref2_in_x1 at hF
  refine cE hF (fun h1 hF => ?_) fun h1 hF => ?_
  · refine awp_region ?_
    refine aR 2 ?_
    refine aB h1 ?_
    refine aR 6 ?_
    refine aE ?_
    exact oO hF [] [] rfl
  · refine awp_region ?_
    refine aR 2 ?_
    refine aB h1 ?_
    refine aR 6 ?_
    refine aE ?_
    exact oO hF [] [] rfl

def fleetref2_in_R (qn : Int) (qlow : Int) (qhigh : Int) (r : Bool) : TV × Mem := (.v (.one (.d (.bool r))), ⟨[], []⟩)

theorem fleetref2_in_ok {qn : Int} {qlow : Int} {qhigh : Int} {r} (hF : fleetref2_in qn qlow qhigh = some r) : Holds prog 79 [.v (.one (.d (.int .i64 qn))), .v (.one (.d (.int .i64 qlow))), .v (.one (.d (.int .i64 qhigh)))] ⟨[], []⟩ (Is (fleetref2_in_R qn qlow qhigh r)) := by
  unfold fleetref2_in at hF
  refine holds_of_awp hΓ (fn := f79) (c := cB f79) (A := 0) (nx := 0) (by kernel_rfl) (by kernel_rfl) (by kernel_rfl) (by kernel_rfl) (by kernel_rfl) (by kernel_rfl) (lowc_of (by kernel_rfl)) ?_
  show Awp prog 0 15 (cB f79) _ _
  refine awp_seq ?_
  refine awp_region ?_
  refine aR 1 ?_
  refine aE ?_
  refine awp_seq ?_
  refine awp_to (st' := fleetref2_in_x1_I qn qlow qhigh) (oT [] []) ?_
  refine bE hF fun vx1 h2 hF => ?_
  refine awp_sub (fleetref2_in_x1_ok qn qlow qhigh h2) ?_
  refine awp_ret ?_
  exact oF hF [] []

/-! ### internal/stringslite.IndexByte -/
def stringslite_IndexByte_R (qs : List UInt8) (qc : Int) (r : Unit) : TV × Mem := (.v (.one (.d (.int .i64 (Lib.indexByte qs qc.toNat.toUInt8)))), ⟨[], []⟩)

theorem stringslite_IndexByte_ok {qs : List UInt8} {qc : Int} {r} (hF : stringslite_IndexByte qs qc = some r) : Holds prog 292 [.v (.one (.d (.str qs))), .v (.one (.d (.int .u8 qc)))] ⟨[], []⟩ (Is (stringslite_IndexByte_R qs qc r)) := by
  unfold stringslite_IndexByte at hF
  refine holds_of_awp hΓ (fn := f292) (c := cB f292) (A := 0) (nx := 0) (by kernel_rfl) (by kernel_rfl) (by kernel_rfl) (by kernel_rfl) (by kernel_rfl) (by kernel_rfl) (lowc_of (by kernel_rfl)) ?_
  show Awp prog 0 8 (cB f292) _ _
  refine awp_seq ?_
  refine awp_region ?_
  refine aR 1 ?_
  refine aE ?_
  refine awp_seq ?_
  refine awp_region ?_
  refine aR 2 ?_
  refine aS (does_indexByte (g := 331) (fn := f331) (a := qs) (c := qc) rfl (by kernel_rfl) (by kernel_rfl) (by kernel_rfl) (by kernel_rfl) (by kernel_rfl) (by kernel_rfl)) ?_
  refine aR 1 ?_
  refine aE ?_
  refine awp_ret ?_
  exact oF hF [] []

/-! ### strings.IndexByte -/
def strings_IndexByte_R (qs : List UInt8) (qc : Int) (r : Unit) : TV × Mem := (.v (.one (.d (.int .i64 (Lib.indexByte qs qc.toNat.toUInt8)))), ⟨[], []⟩)

theorem strings_IndexByte_ok {qs : List UInt8} {qc : Int} {r} (hF : strings_IndexByte qs qc = some r) : Holds prog 258 [.v (.one (.d (.str qs))), .v (.one (.d (.int .u8 qc)))] ⟨[], []⟩ (Is (strings_IndexByte_R qs qc r)) := by
  unfold strings_IndexByte at hF
  refine holds_of_awp hΓ (fn := f258) (c := cB f258) (A := 0) (nx := 0) (by kernel_rfl) (by kernel_rfl) (by kernel_rfl) (by kernel_rfl) (by kernel_rfl) (by kernel_rfl) (lowc_of (by kernel_rfl)) ?_
  show Awp prog 0 8 (cB f258) _ _
  refine awp_seq ?_
  refine awp_region ?_
  refine aR 1 ?_
  refine aE ?_
  refine awp_seq ?_
  refine bE hF fun _ h1 hF => ?_
  refine awp_region ?_
  refine aR 2 ?_
  refine aC (stringslite_IndexByte_ok h1) [] [] [] ?_
  refine aR 1 ?_
  refine aE ?_
  refine awp_ret ?_
  exact oF hF [] []

/-! ### beaconfleet/fleetref2.only -/
def fleetref2_only_x1_k : Unit ⊕ Unit → AEx
  | .inl _ => .exit 0
  | .inr _ => .ret

def fleetref2_only_x1_S (qs : List UInt8) (qsome : List UInt8) : Unit ⊕ Unit → St
  | .inl _ => Mem.st ⟨[], []⟩ (tl []) 0
  | .inr _ => Mem.st ⟨[], []⟩ (tl [(4, .v (.one (.d (.bool false))))]) 0

def fleetref2_only_x1_H (qs : List UInt8) (qsome : List UInt8) : Int → St
  | vx => Mem.st ⟨[], []⟩ (tl [(0, .v (.one (.d (.str qs)))), (1, .v (.one (.d (.str qsome)))), (7, .v (.one (.d (.int .i64 (qs.length : Int))))), (8, .v (.one (.d (.int .i64 vx))))]) 0

theorem fleetref2_only_x1_ok (qs : List UInt8) (qsome : List UInt8) (vx : Int) (r : (Int) ⊕ (Unit ⊕ Unit)) (hF : fleetref2_only_x1 qs qsome vx = some r) : Awp prog 0 18 (cL (cL (cR (cL (cR (cB f191)))))) (Out 0 (kk fleetref2_only_x1_k) (SS (fleetref2_only_x1_H qs qsome) (fleetref2_only_x1_S qs qsome)) r) (fleetref2_only_x1_H qs qsome vx) := by
  unfold fleetref2_only_x1 at hF
  refine awp_seq ?_
  refine awp_region ?_
  refine aR 1 ?_
  refine aE ?_
  refine awp_seq ?_
  refine cE hF (fun h1 hF => ?_) fun h1 hF => ?_
  · refine awp_true (by kernel_rfl) h1 ?_
    refine awp_skip ?_
    refine awp_seq ?_
    refine awp_block ?_
    refine awp_seq ?_
    refine awp_region ?_
    refine aR 2 ?_
    refine aE ?_
    refine awp_seq ?_
    refine bE hF fun vc1 h2 hF => ?_
    refine bE hF fun _ h3 hF => ?_
    refine awp_region ?_
    refine aR 3 ?_
    refine aX (x_idxS h2) ?_
    refine aC (strings_IndexByte_ok h3) [] [] [] ?_
    refine aR 1 ?_
    refine aE ?_
    refine cE hF (fun h4 hF => ?_) fun h4 hF => ?_
    · refine awp_true (by kernel_rfl) h4 ?_
      refine awp_seq ?_
      refine awp_region ?_
      refine aR 1 ?_
      refine aE ?_
      refine awp_ret ?_
      exact oO hF [] [] rfl
    · refine awp_false (by kernel_rfl) h4 ?_
      refine awp_skip ?_
      refine awp_region ?_
      refine aR 2 ?_
      refine aE ?_
      exact oO hF [] [] rfl
  · refine awp_false (by kernel_rfl) h1 ?_
    refine awp_exit ?_
    exact oO hF [] [] rfl

def fleetref2_only_R (qs : List UInt8) (qsome : List UInt8) (r : Bool) : TV × Mem := (.v (.one (.d (.bool r))), ⟨[], []⟩)

theorem fleetref2_only_ok {qs : List UInt8} {qsome : List UInt8} {r} (hF : fleetref2_only qs qsome = some r) : Holds prog 191 [.v (.one (.d (.str qs))), .v (.one (.d (.str qsome)))] ⟨[], []⟩ (Is (fleetref2_only_R qs qsome r)) := by
  unfold fleetref2_only at hF
  refine holds_of_awp hΓ (fn := f191) (c := cB f191) (A := 0) (nx := 0) (by kernel_rfl) (by kernel_rfl) (by kernel_rfl) (by kernel_rfl) (by kernel_rfl) (by kernel_rfl) (lowc_of (by kernel_rfl)) ?_
  show Awp prog 0 18 (cB f191) _ _
  refine awp_seq ?_
  refine awp_region ?_
  refine aR 1 ?_
  refine aE ?_
  refine awp_seq ?_
  refine awp_seq ?_
  refine awp_region ?_
  refine aR 3 ?_
  refine aE ?_
  refine awp_block ?_
  refine awp_to (st' := fleetref2_only_x1_H qs qsome 0) (oT [] []) ?_
  refine bE hF fun x h5 hF => ?_
  rcases x with _ | _
  · refine awp_sub (awp_loop' (fleetref2_only_x1_H qs qsome) fleetref2_only_x1_k (fleetref2_only_x1_S qs qsome) (by intro x; rcases x with x | x <;> exact fun h => nomatch h) h5 (fleetref2_only_x1_ok qs qsome)) ?_
    refine awp_seq ?_
    refine awp_region ?_
    refine aR 1 ?_
    refine aE ?_
    refine awp_ret ?_
    exact oF hF [] []
  · refine awp_sub (awp_loop' (fleetref2_only_x1_H qs qsome) fleetref2_only_x1_k (fleetref2_only_x1_S qs qsome) (by intro x; rcases x with x | x <;> exact fun h => nomatch h) h5 (fleetref2_only_x1_ok qs qsome)) ?_
    exact oF hF [] []

/-! ### beaconfleet/fleetref2.Key -/
def fleetref2_Key_x1_k : Bool → AEx
  | _ => .normal

def fleetref2_Key_x1_S (qs : List UInt8) : Bool → St
  | vx => Mem.st ⟨[], []⟩ (tl [(2, .v (.one (.d (.bool vx))))]) 0

def fleetref2_Key_x1_I (qs : List UInt8) : St := Mem.st ⟨[], []⟩ (tl [(0, .v (.one (.d (.str qs))))]) 0

theorem fleetref2_Key_x1_ok (qs : List UInt8) {r} (hF : fleetref2_Key_x1 qs = some r) : Awp prog 0 15 (cL (cR (cB f108))) (Out 0 fleetref2_Key_x1_k (fleetref2_Key_x1_S qs) r) (fleetref2_Key_x1_I qs) := by
  unfold fleetref2_Key_x1 at hF
  refine bE hF fun vr h1 hF => ?_
  refine cE hF (fun h2 hF => ?_) fun h2 hF => ?_
  · refine bE hF fun vs h3 hF => ?_
    refine bE hF fun vr1 h4 hF => ?_
    refine cE hF (fun h5 hF => ?_) fun h5 hF => ?_
    · refine bE hF fun vr2 h6 hF => ?_
      refine awp_region ?_
      refine aR 2 ?_
      refine aCb (fleetref2_in_ok h1) [] [] [] h2 ?_
      refine aR 2 ?_
      refine aX (x_sliceS h3) ?_
      refine aCb (fleetref2_only_ok h4) [] [] [] h5 ?_
      refine aR 3 ?_
      refine aC (fleetref2_only_ok h6) [] [] [] ?_
      refine aR 2 ?_
      refine aE ?_
      exact oO hF [] [] rfl
    · refine awp_region ?_
      refine aR 2 ?_
      refine aCb (fleetref2_in_ok h1) [] [] [] h2 ?_
      refine aR 2 ?_
      refine aX (x_sliceS h3) ?_
      refine aCb (fleetref2_only_ok h4) [] [] [] h5 ?_
      refine aR 6 ?_
      refine aE ?_
      exact oO hF [] [] rfl
  · refine awp_region ?_
    refine aR 2 ?_
    refine aCb (fleetref2_in_ok h1) [] [] [] h2 ?_
    refine aR 10 ?_
    refine aE ?_
    exact oO hF [] [] rfl

def fleetref2_Key_R (qs : List UInt8) (r : Bool) : TV × Mem := (.v (.one (.d (.bool r))), ⟨[], []⟩)

theorem fleetref2_Key_ok {qs : List UInt8} {r} (hF : fleetref2_Key qs = some r) : Holds prog 108 [.v (.one (.d (.str qs)))] ⟨[], []⟩ (Is (fleetref2_Key_R qs r)) := by
  unfold fleetref2_Key at hF
  refine holds_of_awp hΓ (fn := f108) (c := cB f108) (A := 0) (nx := 0) (by kernel_rfl) (by kernel_rfl) (by kernel_rfl) (by kernel_rfl) (by kernel_rfl) (by kernel_rfl) (lowc_of (by kernel_rfl)) ?_
  show Awp prog 0 15 (cB f108) _ _
  refine awp_seq ?_
  refine awp_region ?_
  refine aR 1 ?_
  refine aE ?_
  refine awp_seq ?_
  refine awp_to (st' := fleetref2_Key_x1_I qs) (oT [] []) ?_
  refine bE hF fun vx1 h7 hF => ?_
  refine awp_sub (fleetref2_Key_x1_ok qs h7) ?_
  refine awp_ret ?_
  exact oF hF [] []

/-! ### beaconfleet/fleetref2.Printed$1 -/
def fleetref2_Printed_1_x1_k : Bool → AEx
  | _ => .normal

def fleetref2_Printed_1_x1_S (qr : Int) : Bool → St
  | vx => Mem.st ⟨[], []⟩ (tl [(2, .v (.one (.d (.bool vx))))]) 0

def fleetref2_Printed_1_x1_I (qr : Int) : St := Mem.st ⟨[], []⟩ (tl [(0, .v (.one (.d (.int .i32 qr))))]) 0

theorem fleetref2_Printed_1_x1_ok (qr : Int) {r} (hF : fleetref2_Printed_1_x1 qr = some r) : Awp prog 0 9 (cL (cR (cB f193))) (Out 0 fleetref2_Printed_1_x1_k (fleetref2_Printed_1_x1_S qr) r) (fleetref2_Printed_1_x1_I qr) := by
  unfold fleetref2_Printed_1_x1 at hF
  refine cE hF (fun h1 hF => ?_) fun h1 hF => ?_
  · refine awp_region ?_
    refine aR 1 ?_
    refine aB h1 ?_
    refine aR 5 ?_
    refine aE ?_
    exact oO hF [] [] rfl
  · refine awp_region ?_
    refine aR 1 ?_
    refine aB h1 ?_
    refine aR 5 ?_
    refine aE ?_
    exact oO hF [] [] rfl

def fleetref2_Printed_1_R (qr : Int) (r : Bool) : TV × Mem := (.v (.one (.d (.bool r))), ⟨[], []⟩)

theorem fleetref2_Printed_1_ok {qr : Int} {r} (hF : fleetref2_Printed_1 qr = some r) : Holds prog 193 [.v (.one (.d (.int .i32 qr)))] ⟨[], []⟩ (Is (fleetref2_Printed_1_R qr r)) := by
  unfold fleetref2_Printed_1 at hF
  refine holds_of_awp hΓ (fn := f193) (c := cB f193) (A := 0) (nx := 0) (by kernel_rfl) (by kernel_rfl) (by kernel_rfl) (by kernel_rfl) (by kernel_rfl) (by kernel_rfl) (lowc_of (by kernel_rfl)) ?_
  show Awp prog 0 9 (cB f193) _ _
  refine awp_seq ?_
  refine awp_region ?_
  refine aR 1 ?_
  refine aE ?_
  refine awp_seq ?_
  refine awp_to (st' := fleetref2_Printed_1_x1_I qr) (oT [] []) ?_
  refine bE hF fun vx1 h2 hF => ?_
  refine awp_sub (fleetref2_Printed_1_x1_ok qr h2) ?_
  refine awp_ret ?_
  exact oF hF [] []

/-! ### strings.indexFunc -/
def strings_indexFunc_f1_fleetref2_Printed_1_x1_k : Unit ⊕ Int → AEx
  | .inl _ => .exit 0
  | .inr _ => .ret

def strings_indexFunc_f1_fleetref2_Printed_1_x1_S (qs : List UInt8) (qtruth : Bool) : Unit ⊕ Int → St
  | .inl _ => Mem.st ⟨[], []⟩ (tl []) 0
  | .inr vx => Mem.st ⟨[], []⟩ (tl [(6, .v (.one (.d (.int .i64 vx))))]) 0

def strings_indexFunc_f1_fleetref2_Printed_1_x1_H (qs : List UInt8) (qtruth : Bool) : Nat → St
  | vpos => Mem.st ⟨[], [(0, [.iters qs vpos])]⟩ (tl [(1, .v (.one (.fn 193 []))), (2, .v (.one (.d (.bool qtruth)))), (10, .v (.one (.box 0 0)))]) 1

theorem strings_indexFunc_f1_fleetref2_Printed_1_x1_ok (qs : List UInt8) (qtruth : Bool) (vpos : Nat) (r : (Nat) ⊕ (Unit ⊕ Int)) (hF : strings_indexFunc_f1_fleetref2_Printed_1_x1 qs qtruth vpos = some r) : Awp prog 0 21 (cL (cL (cR (cL (cR (cB f293)))))) (Out 0 (kk strings_indexFunc_f1_fleetref2_Printed_1_x1_k) (SS (strings_indexFunc_f1_fleetref2_Printed_1_x1_H qs qtruth) (strings_indexFunc_f1_fleetref2_Printed_1_x1_S qs qtruth)) r) (strings_indexFunc_f1_fleetref2_Printed_1_x1_H qs qtruth vpos) := by
  unfold strings_indexFunc_f1_fleetref2_Printed_1_x1 at hF
  refine awp_seq ?_
  refine cE hF (fun h1 hF => ?_) fun h1 hF => ?_
  · refine bE hF fun vd1 h2 hF => ?_
    refine awp_region ?_
    refine aX (x_next 0 qs vpos h1 h2) ?_
    refine aR 1 ?_
    refine aE ?_
    refine awp_seq ?_
    refine awp_true (by kernel_rfl) rfl ?_
    refine awp_skip ?_
    refine awp_block ?_
    refine awp_seq ?_
    refine awp_region ?_
    refine aR 4 ?_
    refine aE ?_
    refine awp_seq ?_
    refine bE hF fun vr1 h3 hF => ?_
    refine awp_region ?_
    refine aR 2 ?_
    refine aC (fleetref2_Printed_1_ok h3) [] [] [] ?_
    refine aR 2 ?_
    refine aE ?_
    refine cE hF (fun h4 hF => ?_) fun h4 hF => ?_
    · refine awp_true (by kernel_rfl) h4 ?_
      refine awp_seq ?_
      refine awp_region ?_
      refine aR 2 ?_
      refine aE ?_
      refine awp_ret ?_
      exact oO hF [] [] rfl
    · refine awp_false (by kernel_rfl) h4 ?_
      refine awp_skip ?_
      exact oO hF [] [] rfl
  · refine awp_region ?_
    refine aX (x_nextE 0 qs vpos h1) ?_
    refine aR 1 ?_
    refine aE ?_
    refine awp_seq ?_
    refine awp_false (by kernel_rfl) rfl ?_
    refine awp_exit ?_
    exact oO hF [] [] rfl

def strings_indexFunc_f1_fleetref2_Printed_1_R (qs : List UInt8) (qtruth : Bool) (r : Int) : TV × Mem := (.v (.one (.d (.int .i64 r))), ⟨[], []⟩)

theorem strings_indexFunc_f1_fleetref2_Printed_1_ok {qs : List UInt8} {qtruth : Bool} {r} (hF : strings_indexFunc_f1_fleetref2_Printed_1 qs qtruth = some r) : Holds prog 293 [.v (.one (.d (.str qs))), .v (.one (.fn 193 [])), .v (.one (.d (.bool qtruth)))] ⟨[], []⟩ (Is (strings_indexFunc_f1_fleetref2_Printed_1_R qs qtruth r)) := by
  unfold strings_indexFunc_f1_fleetref2_Printed_1 at hF
  refine holds_of_awp hΓ (fn := f293) (c := cB f293) (A := 0) (nx := 0) (by kernel_rfl) (by kernel_rfl) (by kernel_rfl) (by kernel_rfl) (by kernel_rfl) (by kernel_rfl) (lowc_of (by kernel_rfl)) ?_
  show Awp prog 0 21 (cB f293) _ _
  refine awp_seq ?_
  refine awp_region ?_
  refine aR 1 ?_
  refine aE ?_
  refine awp_seq ?_
  refine awp_seq ?_
  refine awp_region ?_
  refine aR 2 ?_
  refine aE ?_
  refine awp_block ?_
  refine awp_to (st' := strings_indexFunc_f1_fleetref2_Printed_1_x1_H qs qtruth (0 : Nat)) (oT [(0, 2000)] []) ?_
  refine bE hF fun x h5 hF => ?_
  rcases x with _ | vx1
  · refine awp_sub (awp_loop' (strings_indexFunc_f1_fleetref2_Printed_1_x1_H qs qtruth) strings_indexFunc_f1_fleetref2_Printed_1_x1_k (strings_indexFunc_f1_fleetref2_Printed_1_x1_S qs qtruth) (by intro x; rcases x with x | x <;> exact fun h => nomatch h) h5 (strings_indexFunc_f1_fleetref2_Printed_1_x1_ok qs qtruth)) ?_
    refine awp_seq ?_
    refine awp_region ?_
    refine aR 1 ?_
    refine aE ?_
    refine awp_ret ?_
    exact oF hF [] []
  · refine awp_sub (awp_loop' (strings_indexFunc_f1_fleetref2_Printed_1_x1_H qs qtruth) strings_indexFunc_f1_fleetref2_Printed_1_x1_k (strings_indexFunc_f1_fleetref2_Printed_1_x1_S qs qtruth) (by intro x; rcases x with x | x <;> exact fun h => nomatch h) h5 (strings_indexFunc_f1_fleetref2_Printed_1_x1_ok qs qtruth)) ?_
    exact oF hF [] []

/-! ### strings.IndexFunc -/
def strings_IndexFunc_f1_fleetref2_Printed_1_R (qs : List UInt8) (r : Int) : TV × Mem := (.v (.one (.d (.int .i64 r))), ⟨[], []⟩)

theorem strings_IndexFunc_f1_fleetref2_Printed_1_ok {qs : List UInt8} {r} (hF : strings_IndexFunc_f1_fleetref2_Printed_1 qs = some r) : Holds prog 259 [.v (.one (.d (.str qs))), .v (.one (.fn 193 []))] ⟨[], []⟩ (Is (strings_IndexFunc_f1_fleetref2_Printed_1_R qs r)) := by
  unfold strings_IndexFunc_f1_fleetref2_Printed_1 at hF
  refine holds_of_awp hΓ (fn := f259) (c := cB f259) (A := 0) (nx := 0) (by kernel_rfl) (by kernel_rfl) (by kernel_rfl) (by kernel_rfl) (by kernel_rfl) (by kernel_rfl) (lowc_of (by kernel_rfl)) ?_
  show Awp prog 0 8 (cB f259) _ _
  refine awp_seq ?_
  refine awp_region ?_
  refine aR 1 ?_
  refine aE ?_
  refine awp_seq ?_
  refine bE hF fun vr2 h1 hF => ?_
  refine awp_region ?_
  refine aR 2 ?_
  refine aC (strings_indexFunc_f1_fleetref2_Printed_1_ok h1) [] [] [] ?_
  refine aR 1 ?_
  refine aE ?_
  refine awp_ret ?_
  exact oF hF [] []

/-! ### strings.ContainsFunc -/
def strings_ContainsFunc_f1_fleetref2_Printed_1_R (qs : List UInt8) (r : Bool) : TV × Mem := (.v (.one (.d (.bool r))), ⟨[], []⟩)

theorem strings_ContainsFunc_f1_fleetref2_Printed_1_ok {qs : List UInt8} {r} (hF : strings_ContainsFunc_f1_fleetref2_Printed_1 qs = some r) : Holds prog 192 [.v (.one (.d (.str qs))), .v (.one (.fn 193 []))] ⟨[], []⟩ (Is (strings_ContainsFunc_f1_fleetref2_Printed_1_R qs r)) := by
  unfold strings_ContainsFunc_f1_fleetref2_Printed_1 at hF
  refine holds_of_awp hΓ (fn := f192) (c := cB f192) (A := 0) (nx := 0) (by kernel_rfl) (by kernel_rfl) (by kernel_rfl) (by kernel_rfl) (by kernel_rfl) (by kernel_rfl) (lowc_of (by kernel_rfl)) ?_
  show Awp prog 0 9 (cB f192) _ _
  refine awp_seq ?_
  refine awp_region ?_
  refine aR 1 ?_
  refine aE ?_
  refine awp_seq ?_
  refine bE hF fun vr h1 hF => ?_
  refine awp_region ?_
  refine aR 2 ?_
  refine aC (strings_IndexFunc_f1_fleetref2_Printed_1_ok h1) [] [] [] ?_
  refine aR 2 ?_
  refine aE ?_
  refine awp_ret ?_
  exact oF hF [] []

/-! ### beaconfleet/fleetref2.Printed -/
def fleetref2_Printed_x1_k : Bool → AEx
  | _ => .normal

def fleetref2_Printed_x1_S (qs : List UInt8) : Bool → St
  | vx => Mem.st ⟨[], []⟩ (tl [(2, .v (.one (.d (.bool vx))))]) 0

def fleetref2_Printed_x1_I (qs : List UInt8) : St := Mem.st ⟨[], []⟩ (tl [(0, .v (.one (.d (.str qs))))]) 0

theorem fleetref2_Printed_x1_ok (qs : List UInt8) {r} (hF : fleetref2_Printed_x1 qs = some r) : Awp prog 0 10 (cL (cR (cB f109))) (Out 0 fleetref2_Printed_x1_k (fleetref2_Printed_x1_S qs) r) (fleetref2_Printed_x1_I qs) := by
  unfold fleetref2_Printed_x1 at hF
  refine bE hF fun vr h1 hF => ?_
  refine cE hF (fun h2 hF => ?_) fun h2 hF => ?_
  · refine bE hF fun vr1 h3 hF => ?_
    refine awp_region ?_
    refine aR 1 ?_
    refine aCb (utf8_ValidString_ok h1) [] [] [] h2 ?_
    refine aR 2 ?_
    refine aC (strings_ContainsFunc_f1_fleetref2_Printed_1_ok h3) [] [] [] ?_
    refine aR 3 ?_
    refine aE ?_
    exact oO hF [] [] rfl
  · refine awp_region ?_
    refine aR 1 ?_
    refine aCb (utf8_ValidString_ok h1) [] [] [] h2 ?_
    refine aR 6 ?_
    refine aE ?_
    exact oO hF [] [] rfl

def fleetref2_Printed_R (qs : List UInt8) (r : Bool) : TV × Mem := (.v (.one (.d (.bool r))), ⟨[], []⟩)

theorem fleetref2_Printed_ok {qs : List UInt8} {r} (hF : fleetref2_Printed qs = some r) : Holds prog 109 [.v (.one (.d (.str qs)))] ⟨[], []⟩ (Is (fleetref2_Printed_R qs r)) := by
  unfold fleetref2_Printed at hF
  refine holds_of_awp hΓ (fn := f109) (c := cB f109) (A := 0) (nx := 0) (by kernel_rfl) (by kernel_rfl) (by kernel_rfl) (by kernel_rfl) (by kernel_rfl) (by kernel_rfl) (lowc_of (by kernel_rfl)) ?_
  show Awp prog 0 10 (cB f109) _ _
  refine awp_seq ?_
  refine awp_region ?_
  refine aR 1 ?_
  refine aE ?_
  refine awp_seq ?_
  refine awp_to (st' := fleetref2_Printed_x1_I qs) (oT [] []) ?_
  refine bE hF fun vx1 h4 hF => ?_
  refine awp_sub (fleetref2_Printed_x1_ok qs h4) ?_
  refine awp_ret ?_
  exact oF hF [] []

/-! ### beaconfleet/fleetref2.Moment -/
def fleetref2_Moment_R (qat : Int) (r : Bool) : TV × Mem := (.v (.one (.d (.bool r))), ⟨[], []⟩)

theorem fleetref2_Moment_ok {qat : Int} {r} (hF : fleetref2_Moment qat = some r) : Holds prog 74 [.v (.one (.d (.int .i64 qat)))] ⟨[], []⟩ (Is (fleetref2_Moment_R qat r)) := by
  unfold fleetref2_Moment at hF
  refine holds_of_awp hΓ (fn := f74) (c := cB f74) (A := 0) (nx := 0) (by kernel_rfl) (by kernel_rfl) (by kernel_rfl) (by kernel_rfl) (by kernel_rfl) (by kernel_rfl) (lowc_of (by kernel_rfl)) ?_
  show Awp prog 0 5 (cB f74) _ _
  refine awp_seq ?_
  refine awp_region ?_
  refine aR 1 ?_
  refine aE ?_
  refine awp_seq ?_
  refine bE hF fun vr h1 hF => ?_
  refine awp_region ?_
  refine aR 1 ?_
  refine aC (fleetref2_in_ok h1) [] [] [] ?_
  refine aR 1 ?_
  refine aE ?_
  refine awp_ret ?_
  exact oF hF [] []

/-! ### beaconfleet/fleetref2.LetterFault -/
def fleetref2_LetterFault_x1_k : Bool → AEx
  | _ => .normal

def fleetref2_LetterFault_x1_S (ql : api_Letter) : Bool → St
  | vx => Mem.st ⟨[], [(0, [.d (.str ql.Id), .d (.str ql.Slot), .d (.str ql.Body), .d (.int .i64 ql.Prio), .d (.int .i64 ql.At), .d (.int .i64 ql.Until)])]⟩ (tl [(1, .v (.one (.box 0 0))), (3, .v (.one (.d (.bool vx))))]) 1

def fleetref2_LetterFault_x1_I (ql : api_Letter) : St := Mem.st ⟨[], [(0, [.d (.str ql.Id), .d (.str ql.Slot), .d (.str ql.Body), .d (.int .i64 ql.Prio), .d (.int .i64 ql.At), .d (.int .i64 ql.Until)])]⟩ (tl [(1, .v (.one (.box 0 0)))]) 1

theorem fleetref2_LetterFault_x1_ok (ql : api_Letter) {r} (hF : fleetref2_LetterFault_x1 ql = some r) : Awp prog 0 52 (cL (cL (cL (cR (cB f33))))) (Out 0 fleetref2_LetterFault_x1_k (fleetref2_LetterFault_x1_S ql) r) (fleetref2_LetterFault_x1_I ql) := by
  unfold fleetref2_LetterFault_x1 at hF
  refine bE hF fun vr3 h1 hF => ?_
  refine cE hF (fun h2 hF => ?_) fun h2 hF => ?_
  · refine awp_region ?_
    refine aR 2 ?_
    refine aC (fleetref2_Key_ok h1) [] [] [] ?_
    refine aB h2 ?_
    refine aR 12 ?_
    refine aE ?_
    exact oO hF [] [] rfl
  · refine cE hF (fun h3 hF => ?_) fun h3 hF => ?_
    · refine bE hF fun vr3_1 h4 hF => ?_
      refine awp_region ?_
      refine aR 2 ?_
      refine aC (fleetref2_Key_ok h1) [] [] [] ?_
      refine aB h2 ?_
      refine aR 3 ?_
      refine aB h3 ?_
      refine aR 3 ?_
      refine aC (fleetref2_Key_ok h4) [] [] [] ?_
      refine aR 4 ?_
      refine aE ?_
      exact oO hF [] [] rfl
    · refine awp_region ?_
      refine aR 2 ?_
      refine aC (fleetref2_Key_ok h1) [] [] [] ?_
      refine aB h2 ?_
      refine aR 3 ?_
      refine aB h3 ?_
      refine aR 8 ?_
      refine aE ?_
      exact oO hF [] [] rfl

def fleetref2_LetterFault_x2_k : Bool → AEx
  | _ => .normal

def fleetref2_LetterFault_x2_S (ql : api_Letter) : Bool → St
  | vx2 => Mem.st ⟨[], []⟩ (tl [(29, .v (.one (.d (.bool vx2))))]) 0

def fleetref2_LetterFault_x2_I (ql : api_Letter) : St := Mem.st ⟨[], [(0, [.d (.str ql.Id), .d (.str ql.Slot), .d (.str ql.Body), .d (.int .i64 ql.Prio), .d (.int .i64 ql.At), .d (.int .i64 ql.Until)])]⟩ (tl [(1, .v (.one (.box 0 0)))]) 1

theorem fleetref2_LetterFault_x2_ok (ql : api_Letter) {r} (hF : fleetref2_LetterFault_x2 ql = some r) : Awp prog 0 52 (cL (cR (cR (cR (cR (cR (cR (cL (cL (cR (cB f33))))))))))) (Out 0 fleetref2_LetterFault_x2_k (fleetref2_LetterFault_x2_S ql) r) (fleetref2_LetterFault_x2_I ql) := by
  unfold fleetref2_LetterFault_x2 at hF
  refine bE hF fun vr h10 hF => ?_
  refine cE hF (fun h11 hF => ?_) fun h11 hF => ?_
  · refine awp_region ?_
    refine aR 2 ?_
    refine aC (fleetref2_in_ok h10) [] [] [] ?_
    refine aB h11 ?_
    refine aR 19 ?_
    refine aE ?_
    exact oO hF [] [] rfl
  · refine bE hF fun vr1 h12 hF => ?_
    refine cE hF (fun h13 hF => ?_) fun h13 hF => ?_
    · refine awp_region ?_
      refine aR 2 ?_
      refine aC (fleetref2_in_ok h10) [] [] [] ?_
      refine aB h11 ?_
      refine aR 3 ?_
      refine aC (fleetref2_Moment_ok h12) [] [] [] ?_
      refine aB h13 ?_
      refine aR 14 ?_
      refine aE ?_
      exact oO hF [] [] rfl
    · refine cE hF (fun h14 hF => ?_) fun h14 hF => ?_
      · refine awp_region ?_
        refine aR 2 ?_
        refine aC (fleetref2_in_ok h10) [] [] [] ?_
        refine aB h11 ?_
        refine aR 3 ?_
        refine aC (fleetref2_Moment_ok h12) [] [] [] ?_
        refine aB h13 ?_
        refine aR 6 ?_
        refine aB h14 ?_
        refine aR 7 ?_
        refine aE ?_
        exact oO hF [] [] rfl
      · refine awp_region ?_
        refine aR 2 ?_
        refine aC (fleetref2_in_ok h10) [] [] [] ?_
        refine aB h11 ?_
        refine aR 3 ?_
        refine aC (fleetref2_Moment_ok h12) [] [] [] ?_
        refine aB h13 ?_
        refine aR 6 ?_
        refine aB h14 ?_
        refine aR 7 ?_
        refine aE ?_
        exact oO hF [] [] rfl

def fleetref2_LetterFault_R (ql : api_Letter) (r : Int) : TV × Mem := (.v (.one (.d (.int .i64 r))), ⟨[], []⟩)

theorem fleetref2_LetterFault_ok {ql : api_Letter} {r} (hF : fleetref2_LetterFault ql = some r) : Holds prog 33 [.v (.agg [.d (.str ql.Id), .d (.str ql.Slot), .d (.str ql.Body), .d (.int .i64 ql.Prio), .d (.int .i64 ql.At), .d (.int .i64 ql.Until)])] ⟨[], []⟩ (Is (fleetref2_LetterFault_R ql r)) := by
  unfold fleetref2_LetterFault at hF
  refine holds_of_awp hΓ (fn := f33) (c := cB f33) (A := 0) (nx := 0) (by kernel_rfl) (by kernel_rfl) (by kernel_rfl) (by kernel_rfl) (by kernel_rfl) (by kernel_rfl) (lowc_of (by kernel_rfl)) ?_
  show Awp prog 0 52 (cB f33) _ _
  refine awp_seq ?_
  refine awp_region ?_
  refine aR 2 ?_
  refine aE ?_
  refine awp_seq ?_
  refine awp_block ?_
  refine awp_seq ?_
  refine awp_to (st' := fleetref2_LetterFault_x1_I ql) (oT [] []) ?_
  refine bE hF fun vx1 h5 hF => ?_
  refine awp_sub (fleetref2_LetterFault_x1_ok ql h5) ?_
  refine cE hF (fun h6 hF => ?_) fun h6 hF => ?_
  · refine awp_true (by kernel_rfl) h6 ?_
    refine awp_seq ?_
    refine awp_region ?_
    refine aR 1 ?_
    refine aE ?_
    refine awp_ret ?_
    exact oF hF [] []
  · refine awp_false (by kernel_rfl) h6 ?_
    refine awp_seq ?_
    refine awp_region ?_
    refine aR 5 ?_
    refine aE ?_
    refine cE hF (fun h7 hF => ?_) fun h7 hF => ?_
    · refine awp_true (by kernel_rfl) h7 ?_
      refine awp_seq ?_
      refine awp_region ?_
      refine aR 1 ?_
      refine aE ?_
      refine awp_ret ?_
      exact oF hF [] []
    · refine awp_false (by kernel_rfl) h7 ?_
      refine awp_seq ?_
      refine bE hF fun vr2 h8 hF => ?_
      refine awp_region ?_
      refine aR 2 ?_
      refine aC (fleetref2_Printed_ok h8) [] [] [] ?_
      refine aR 2 ?_
      refine aE ?_
      refine cE hF (fun h9 hF => ?_) fun h9 hF => ?_
      · refine awp_true (by kernel_rfl) h9 ?_
        refine awp_seq ?_
        refine awp_region ?_
        refine aR 1 ?_
        refine aE ?_
        refine awp_ret ?_
        exact oF hF [] []
      · refine awp_false (by kernel_rfl) h9 ?_
        refine awp_seq ?_
        refine awp_to (st' := fleetref2_LetterFault_x2_I ql) (oT [] []) ?_
        refine bE hF fun vx2_1 h15 hF => ?_
        refine awp_sub (fleetref2_LetterFault_x2_ok ql h15) ?_
        refine cE hF (fun h16 hF => ?_) fun h16 hF => ?_
        · refine awp_true (by kernel_rfl) h16 ?_
          refine awp_seq ?_
          refine awp_region ?_
          refine aR 1 ?_
          refine aE ?_
          refine awp_ret ?_
          exact oF hF [] []
        · refine awp_false (by kernel_rfl) h16 ?_
          refine awp_skip ?_
          refine awp_seq ?_
          refine awp_region ?_
          refine aR 1 ?_
          refine aE ?_
          refine awp_ret ?_
          exact oF hF [] []

/-! ### (*beaconfleet/fleetref2.Hand).Do$1 -/
def fleetref2_Hand_Do_1_R (qo : api_Letter) (qx : api_Letter) (r : Unit) : TV × Mem := (.v (.one (.d (.bool (decide (qo.Id = qx.Id))))), ⟨[], [(0, [.d (.str qx.Id), .d (.str qx.Slot), .d (.str qx.Body), .d (.int .i64 qx.Prio), .d (.int .i64 qx.At), .d (.int .i64 qx.Until)])]⟩)

theorem fleetref2_Hand_Do_1_ok {qo : api_Letter} {qx : api_Letter} {r} (hF : fleetref2_Hand_Do_1 qo qx = some r) : Holds prog 76 [.v (.agg [.d (.str qo.Id), .d (.str qo.Slot), .d (.str qo.Body), .d (.int .i64 qo.Prio), .d (.int .i64 qo.At), .d (.int .i64 qo.Until)]), .v (.one (.box 0 0))] ⟨[], [(0, [.d (.str qx.Id), .d (.str qx.Slot), .d (.str qx.Body), .d (.int .i64 qx.Prio), .d (.int .i64 qx.At), .d (.int .i64 qx.Until)])]⟩ (Is (fleetref2_Hand_Do_1_R qo qx r)) := by
  unfold fleetref2_Hand_Do_1 at hF
  refine holds_of_awp hΓ (fn := f76) (c := cB f76) (A := 1) (nx := 1) (by kernel_rfl) (by kernel_rfl) (by kernel_rfl) (by kernel_rfl) (by kernel_rfl) (by kernel_rfl) (lowc_of (by kernel_rfl)) ?_
  show Awp prog 1 9 (cB f76) _ _
  refine awp_seq ?_
  refine awp_region ?_
  refine aR 2 ?_
  refine aE ?_
  refine awp_seq ?_
  refine awp_region ?_
  refine aR 6 ?_
  refine aE ?_
  refine awp_ret ?_
  exact oF hF [] []

/-! ### slices.IndexFunc[[]beaconfleet/api.Letter,beaconfleet/api.Letter] -/
def slices_IndexFunc_api_Letter_api_Letter_f1_fleetref2_Hand_Do_1_x1_k : Unit ⊕ Int → AEx
  | .inl _ => .exit 0
  | .inr _ => .ret

def slices_IndexFunc_api_Letter_api_Letter_f1_fleetref2_Hand_Do_1_x1_S (qs : List api_Letter) (qf : api_Letter) : Unit ⊕ Int → St
  | .inl _ => Mem.st ⟨[], [(0, [.d (.str qf.Id), .d (.str qf.Slot), .d (.str qf.Body), .d (.int .i64 qf.Prio), .d (.int .i64 qf.At), .d (.int .i64 qf.Until)])]⟩ (tl []) 1
  | .inr vx1 => Mem.st ⟨[], [(0, [.d (.str qf.Id), .d (.str qf.Slot), .d (.str qf.Body), .d (.int .i64 qf.Prio), .d (.int .i64 qf.At), .d (.int .i64 qf.Until)])]⟩ (tl [(4, .v (.one (.d (.int .i64 vx1))))]) 1

def slices_IndexFunc_api_Letter_api_Letter_f1_fleetref2_Hand_Do_1_x1_H (qs : List api_Letter) (qf : api_Letter) : Int → St
  | vx => Mem.st ⟨[], [(0, [.d (.str qf.Id), .d (.str qf.Slot), .d (.str qf.Body), .d (.int .i64 qf.Prio), .d (.int .i64 qf.At), .d (.int .i64 qf.Until)])]⟩ (tl [(0, .v (.one (.d (.lst (List.map api_Letter.enc qs))))), (1, .v (.one (.fn 76 [0]))), (7, .v (.one (.d (.int .i64 (qs.length : Int))))), (8, .v (.one (.d (.int .i64 vx))))]) 1

theorem slices_IndexFunc_api_Letter_api_Letter_f1_fleetref2_Hand_Do_1_x1_ok (qs : List api_Letter) (qf : api_Letter) (vx : Int) (r : (Int) ⊕ (Unit ⊕ Int)) (hF : slices_IndexFunc_api_Letter_api_Letter_f1_fleetref2_Hand_Do_1_x1 qs qf vx = some r) : Awp prog 1 19 (cL (cL (cR (cL (cR (cB f170)))))) (Out 1 (kk slices_IndexFunc_api_Letter_api_Letter_f1_fleetref2_Hand_Do_1_x1_k) (SS (slices_IndexFunc_api_Letter_api_Letter_f1_fleetref2_Hand_Do_1_x1_H qs qf) (slices_IndexFunc_api_Letter_api_Letter_f1_fleetref2_Hand_Do_1_x1_S qs qf)) r) (slices_IndexFunc_api_Letter_api_Letter_f1_fleetref2_Hand_Do_1_x1_H qs qf vx) := by
  unfold slices_IndexFunc_api_Letter_api_Letter_f1_fleetref2_Hand_Do_1_x1 at hF
  refine awp_seq ?_
  refine awp_region ?_
  refine aR 1 ?_
  refine aE ?_
  refine awp_seq ?_
  refine cE hF (fun h1 hF => ?_) fun h1 hF => ?_
  · refine awp_true (by kernel_rfl) h1 ?_
    refine awp_skip ?_
    refine awp_seq ?_
    refine awp_block ?_
    refine awp_seq ?_
    refine awp_region ?_
    refine aR 2 ?_
    refine aE ?_
    refine awp_seq ?_
    refine bE hF fun vy1 h2 hF => ?_
    refine bE hF fun _ h3 hF => ?_
    refine awp_region ?_
    refine aR 3 ?_
    refine aX (x_idx api_Letter.enc h2) ?_
    refine aR 1 ?_
    refine aC (fleetref2_Hand_Do_1_ok h3) [] [] [] ?_
    refine aE ?_
    refine cE hF (fun h4 hF => ?_) fun h4 hF => ?_
    · refine awp_true (by kernel_rfl) h4 ?_
      refine awp_seq ?_
      refine awp_region ?_
      refine aR 2 ?_
      refine aE ?_
      refine awp_ret ?_
      exact oO hF [] [] rfl
    · refine awp_false (by kernel_rfl) h4 ?_
      refine awp_skip ?_
      refine awp_region ?_
      refine aR 2 ?_
      refine aE ?_
      exact oO hF [] [] rfl
  · refine awp_false (by kernel_rfl) h1 ?_
    refine awp_exit ?_
    exact oO hF [] [] rfl

def slices_IndexFunc_api_Letter_api_Letter_f1_fleetref2_Hand_Do_1_R (qs : List api_Letter) (qf : api_Letter) (r : Int) : TV × Mem := (.v (.one (.d (.int .i64 r))), ⟨[], [(0, [.d (.str qf.Id), .d (.str qf.Slot), .d (.str qf.Body), .d (.int .i64 qf.Prio), .d (.int .i64 qf.At), .d (.int .i64 qf.Until)])]⟩)

theorem slices_IndexFunc_api_Letter_api_Letter_f1_fleetref2_Hand_Do_1_ok {qs : List api_Letter} {qf : api_Letter} {r} (hF : slices_IndexFunc_api_Letter_api_Letter_f1_fleetref2_Hand_Do_1 qs qf = some r) : Holds prog 170 [.v (.one (.d (.lst (List.map api_Letter.enc qs)))), .v (.one (.fn 76 [0]))] ⟨[], [(0, [.d (.str qf.Id), .d (.str qf.Slot), .d (.str qf.Body), .d (.int .i64 qf.Prio), .d (.int .i64 qf.At), .d (.int .i64 qf.Until)])]⟩ (Is (slices_IndexFunc_api_Letter_api_Letter_f1_fleetref2_Hand_Do_1_R qs qf r)) := by
  unfold slices_IndexFunc_api_Letter_api_Letter_f1_fleetref2_Hand_Do_1 at hF
  refine holds_of_awp hΓ (fn := f170) (c := cB f170) (A := 1) (nx := 1) (by kernel_rfl) (by kernel_rfl) (by kernel_rfl) (by kernel_rfl) (by kernel_rfl) (by kernel_rfl) (lowc_of (by kernel_rfl)) ?_
  show Awp prog 1 19 (cB f170) _ _
  refine awp_seq ?_
  refine awp_region ?_
  refine aR 1 ?_
  refine aE ?_
  refine awp_seq ?_
  refine awp_seq ?_
  refine awp_region ?_
  refine aR 1 ?_
  refine aL api_Letter.enc qs ?_
  refine aR 1 ?_
  refine aE ?_
  refine awp_block ?_
  refine awp_to (st' := slices_IndexFunc_api_Letter_api_Letter_f1_fleetref2_Hand_Do_1_x1_H qs qf 0) (oT [] []) ?_
  refine bE hF fun x h5 hF => ?_
  rcases x with _ | vx1_1
  · refine awp_sub (awp_loop' (slices_IndexFunc_api_Letter_api_Letter_f1_fleetref2_Hand_Do_1_x1_H qs qf) slices_IndexFunc_api_Letter_api_Letter_f1_fleetref2_Hand_Do_1_x1_k (slices_IndexFunc_api_Letter_api_Letter_f1_fleetref2_Hand_Do_1_x1_S qs qf) (by intro x; rcases x with x | x <;> exact fun h => nomatch h) h5 (slices_IndexFunc_api_Letter_api_Letter_f1_fleetref2_Hand_Do_1_x1_ok qs qf)) ?_
    refine awp_seq ?_
    refine awp_region ?_
    refine aR 1 ?_
    refine aE ?_
    refine awp_ret ?_
    exact oF hF [] []
  · refine awp_sub (awp_loop' (slices_IndexFunc_api_Letter_api_Letter_f1_fleetref2_Hand_Do_1_x1_H qs qf) slices_IndexFunc_api_Letter_api_Letter_f1_fleetref2_Hand_Do_1_x1_k (slices_IndexFunc_api_Letter_api_Letter_f1_fleetref2_Hand_Do_1_x1_S qs qf) (by intro x; rcases x with x | x <;> exact fun h => nomatch h) h5 (slices_IndexFunc_api_Letter_api_Letter_f1_fleetref2_Hand_Do_1_x1_ok qs qf)) ?_
    exact oF hF [] []

/-! ### slices.ContainsFunc[[]beaconfleet/api.Letter,beaconfleet/api.Letter] -/
def slices_ContainsFunc_api_Letter_api_Letter_f1_fleetref2_Hand_Do_1_R (qs : List api_Letter) (qf : api_Letter) (r : Bool) : TV × Mem := (.v (.one (.d (.bool r))), ⟨[], [(0, [.d (.str qf.Id), .d (.str qf.Slot), .d (.str qf.Body), .d (.int .i64 qf.Prio), .d (.int .i64 qf.At), .d (.int .i64 qf.Until)])]⟩)

theorem slices_ContainsFunc_api_Letter_api_Letter_f1_fleetref2_Hand_Do_1_ok {qs : List api_Letter} {qf : api_Letter} {r} (hF : slices_ContainsFunc_api_Letter_api_Letter_f1_fleetref2_Hand_Do_1 qs qf = some r) : Holds prog 75 [.v (.one (.d (.lst (List.map api_Letter.enc qs)))), .v (.one (.fn 76 [0]))] ⟨[], [(0, [.d (.str qf.Id), .d (.str qf.Slot), .d (.str qf.Body), .d (.int .i64 qf.Prio), .d (.int .i64 qf.At), .d (.int .i64 qf.Until)])]⟩ (Is (slices_ContainsFunc_api_Letter_api_Letter_f1_fleetref2_Hand_Do_1_R qs qf r)) := by
  unfold slices_ContainsFunc_api_Letter_api_Letter_f1_fleetref2_Hand_Do_1 at hF
  refine holds_of_awp hΓ (fn := f75) (c := cB f75) (A := 1) (nx := 1) (by kernel_rfl) (by kernel_rfl) (by kernel_rfl) (by kernel_rfl) (by kernel_rfl) (by kernel_rfl) (lowc_of (by kernel_rfl)) ?_
  show Awp prog 1 9 (cB f75) _ _
  refine awp_seq ?_
  refine awp_region ?_
  refine aR 1 ?_
  refine aE ?_
  refine awp_seq ?_
  refine bE hF fun vr h1 hF => ?_
  refine awp_region ?_
  refine aR 2 ?_
  refine aC (slices_IndexFunc_api_Letter_api_Letter_f1_fleetref2_Hand_Do_1_ok h1) [] [] [] ?_
  refine aR 2 ?_
  refine aE ?_
  refine awp_ret ?_
  exact oF hF [] []

/-! ### slices.Clone[[]beaconfleet/api.Letter,beaconfleet/api.Letter] -/
def slices_Clone_api_Letter_api_Letter_R (qs : List api_Letter) (r : List api_Letter) : TV × Mem := (.v (.one (.own 0 none)), ⟨[(0, ⟨40, 6, List.map api_Letter.enc r⟩)], []⟩)

theorem slices_Clone_api_Letter_api_Letter_ok {qs : List api_Letter} {r} (hF : slices_Clone_api_Letter_api_Letter qs = some r) : Holds prog 35 [.v (.one (.d (.lst (List.map api_Letter.enc qs))))] ⟨[], []⟩ (Is (slices_Clone_api_Letter_api_Letter_R qs r)) := by
  unfold slices_Clone_api_Letter_api_Letter at hF
  refine gE hF fun h1 hF => ?_
  refine holds_of_awp hΓ (fn := f35) (c := cB f35) (A := 0) (nx := 0) (by kernel_rfl) (by kernel_rfl) (by kernel_rfl) (by kernel_rfl) (by kernel_rfl) (by kernel_rfl) (lowc_of (by kernel_rfl)) ?_
  show Awp prog 0 8 (cB f35) _ _
  refine awp_seq ?_
  refine awp_region ?_
  refine aR 1 ?_
  refine aE ?_
  refine awp_seq ?_
  refine awp_seq ?_
  refine awp_region ?_
  refine aR 1 ?_
  refine aN api_Letter.enc qs (fun b hb => ?_) rfl
  refine aE ?_
  cases b with
  | true =>
    obtain rfl := hb rfl
    refine awp_true (by kernel_rfl) rfl ?_
    refine awp_seq ?_
    refine awp_region ?_
    refine aR 1 ?_
    refine aE ?_
    refine awp_ret ?_
    exact oF hF [] [0]
  | false =>
    refine awp_false (by kernel_rfl) rfl ?_
    refine awp_skip ?_
    refine awp_seq ?_
    refine awp_region ?_
    refine aR 2 ?_
    refine aX (x_app api_Letter.enc 3000 h1) ?_
    refine aR 1 ?_
    refine aE ?_
    refine awp_ret ?_
    exact oF hF [(0, 5000)] []

/-! ### slices.Delete[[]beaconfleet/api.Letter,beaconfleet/api.Letter] -/
def slices_Delete_api_Letter_api_Letter_o0_R (qs : List api_Letter) (qi : Int) (qj : Int) (r : List api_Letter) : TV × Mem := (.v (.one (.own 1 none)), ⟨[(1, ⟨40, 6, List.map api_Letter.enc r⟩)], []⟩)

theorem slices_Delete_api_Letter_api_Letter_o0_ok {qs : List api_Letter} {qi : Int} {qj : Int} {r} (hF : slices_Delete_api_Letter_api_Letter_o0 qs qi qj = some r) : Holds prog 77 [.v (.one (.own 0 none)), .v (.one (.d (.int .i64 qi))), .v (.one (.d (.int .i64 qj)))] ⟨[(0, ⟨40, 6, List.map api_Letter.enc qs⟩)], []⟩ (Is (slices_Delete_api_Letter_api_Letter_o0_R qs qi qj r)) := by
  unfold slices_Delete_api_Letter_api_Letter_o0 at hF
  refine gE hF fun h1 hF => ?_
  obtain ⟨d1, d2, d3, d4, d5⟩ := del_facts h1
  refine holds_of_awp hΓ (fn := f77) (c := cB f77) (A := 1) (nx := 1) (by kernel_rfl) (by kernel_rfl) (by kernel_rfl) (by kernel_rfl) (by kernel_rfl) (by kernel_rfl) (lowc_of (by kernel_rfl)) ?_
  show Awp prog 1 33 (cB f77) _ _
  refine awp_seq ?_
  refine awp_region ?_
  refine aR 1 ?_
  refine aE ?_
  refine awp_seq ?_
  refine awp_region ?_
  refine aR 4 ?_
  refine aL api_Letter.enc qs ?_
  refine aS3 api_Letter.enc 0 h1 rfl ?_
  refine aE ?_
  refine awp_seq ?_
  refine awp_seq ?_
  refine awp_region ?_
  refine aR 3 ?_
  refine aE ?_
  refine cE hF (fun h2 hF => ?_) fun h2 hF => ?_
  · refine awp_true (by kernel_rfl) h2 ?_
    refine awp_seq ?_
    refine awp_region ?_
    refine aR 2 ?_
    refine aE ?_
    refine awp_ret ?_
    exact oF hF [(1, 0)] []
  · refine awp_false (by kernel_rfl) h2 ?_
    refine awp_skip ?_
    refine awp_seq ?_
    refine awp_region ?_
    refine aR 1 ?_
    refine aL api_Letter.enc qs ?_
    refine aR 1 ?_
    refine aE ?_
    refine awp_seq ?_
    refine aD ?_
    refine dR 2 ?_
    refine dX (x_pre api_Letter.enc 0 d1) ?_
    refine dR 2 ?_
    refine dX (x_viewN api_Letter.enc 0 d2) ?_
    refine dAD api_Letter.enc 0 d3 rfl ?_
    refine dR 1 ?_
    refine dE ?_
    refine awp_seq ?_
    refine awp_region ?_
    refine aR 4 ?_
    refine aVP api_Letter.enc 19001 (p := qi.toNat + ((qs.length : Int).toNat - qj.toNat)) (xs := delX qs qi qj) (a := delA qs qi qj) (b := (qs.length : Int)) d4 rfl ?_
    refine aCl api_Letter.enc 19001 (xs := delX qs qi qj) (y := (api_Letter.mk ([] : List UInt8) ([] : List UInt8) ([] : List UInt8) 0 0 0)) (lo := delA qs qi qj) (hi := (qs.length : Int)) rfl ?_
    refine aE ?_
    refine awp_seq ?_
    refine awp_region ?_
    refine aTM api_Letter.enc 19001 (et := 40) (sz := 6) (p := qi.toNat + ((qs.length : Int).toNat - qj.toNat)) (xs := delY qs qi qj (api_Letter.mk ([] : List UInt8) ([] : List UInt8) ([] : List UInt8) 0 0 0)) rfl ?_
    refine aR 1 ?_
    refine aE ?_
    refine awp_ret ?_
    exact oF ((congrArg some (d5 (api_Letter.mk ([] : List UInt8) ([] : List UInt8) ([] : List UInt8) 0 0 0))).trans hF) [(1, 27001)] []

/-! ### (*beaconfleet/fleetref2.Hand).Do -/
def fleetref2_Hand_Do_x1_k : Bool → AEx
  | _ => .normal

def fleetref2_Hand_Do_x1_S (qx : fleetref2_Hand) (qx1 : api_Letter) (qx2 : Int) (vr1_1 : Bool) : Bool → St
  | vx => Mem.st ⟨[], [(0, [.d (.int .i64 qx.Most), .d (.lst (List.map api_Letter.enc qx.L)), .d (.int .i64 qx.time_)]), (1, [.d (.str qx1.Id), .d (.str qx1.Slot), .d (.str qx1.Body), .d (.int .i64 qx1.Prio), .d (.int .i64 qx1.At), .d (.int .i64 qx1.Until)])]⟩ (tl [(0, .v (.one (.box 0 0))), (2, .v (.one (.d (.int .i64 qx2)))), (4, .v (.one (.box 1 0))), (42, .v (.one (.d (.bool vx))))]) 2

def fleetref2_Hand_Do_x1_I (qx : fleetref2_Hand) (qx1 : api_Letter) (qx2 : Int) (vr1_1 : Bool) : St := Mem.st ⟨[], [(0, [.d (.int .i64 qx.Most), .d (.lst (List.map api_Letter.enc qx.L)), .d (.int .i64 qx.time_)]), (1, [.d (.str qx1.Id), .d (.str qx1.Slot), .d (.str qx1.Body), .d (.int .i64 qx1.Prio), .d (.int .i64 qx1.At), .d (.int .i64 qx1.Until)])]⟩ (tl [(0, .v (.one (.box 0 0))), (2, .v (.one (.d (.int .i64 qx2)))), (4, .v (.one (.box 1 0))), (9, .v (.one (.d (.bool vr1_1))))]) 2

theorem fleetref2_Hand_Do_x1_ok (qx : fleetref2_Hand) (qx1 : api_Letter) (qx2 : Int) (vr1_1 : Bool) {r} (hF : fleetref2_Hand_Do_x1 qx1 qx2 vr1_1 = some r) : Awp prog 1 99 (cL (cL (cR (cR (cR (cR (cB f17))))))) (Out 1 fleetref2_Hand_Do_x1_k (fleetref2_Hand_Do_x1_S qx qx1 qx2 vr1_1) r) (fleetref2_Hand_Do_x1_I qx qx1 qx2 vr1_1) := by
  unfold fleetref2_Hand_Do_x1 at hF
  refine cE hF (fun h7 hF => ?_) fun h7 hF => ?_
  · refine awp_region ?_
    refine aB h7 ?_
    refine aR 6 ?_
    refine aE ?_
    exact oO hF [] [] rfl
  · refine awp_region ?_
    refine aB h7 ?_
    refine aR 6 ?_
    refine aE ?_
    exact oO hF [] [] rfl

def fleetref2_Hand_Do_x4_k : Int → AEx
  | _ => .normal

def fleetref2_Hand_Do_x4_S (qx : fleetref2_Hand) (qx2 : Int) (vx2 : List api_Letter) (vx8 : Int) (vx9 : Int) : Int → St
  | vx11 => Mem.st ⟨[(1, ⟨40, 6, List.map api_Letter.enc vx2⟩)], [(0, [.d (.int .i64 qx.Most), .d (.lst (List.map api_Letter.enc qx.L)), .d (.int .i64 qx.time_)])]⟩ (tl [(0, .v (.one (.box 0 0))), (2, .v (.one (.d (.int .i64 qx2)))), (10, .v (.one (.own 1 none))), (11, .v (.one (.d (.int .i64 vx11)))), (62, .v (.one (.own 1 none))), (63, .v (.one (.d (.int .i64 (vx2.length : Int))))), (64, .v (.one (.d (.int .i64 vx9))))]) 2

def fleetref2_Hand_Do_x4_I (qx : fleetref2_Hand) (qx2 : Int) (vx2 : List api_Letter) (vx8 : Int) (vx9 : Int) : St := Mem.st ⟨[(1, ⟨40, 6, List.map api_Letter.enc vx2⟩)], [(0, [.d (.int .i64 qx.Most), .d (.lst (List.map api_Letter.enc qx.L)), .d (.int .i64 qx.time_)])]⟩ (tl [(0, .v (.one (.box 0 0))), (2, .v (.one (.d (.int .i64 qx2)))), (10, .v (.one (.own 1 none))), (11, .v (.one (.d (.int .i64 vx8)))), (62, .v (.one (.own 1 none))), (63, .v (.one (.d (.int .i64 (vx2.length : Int))))), (64, .v (.one (.d (.int .i64 vx9))))]) 2

theorem fleetref2_Hand_Do_x4_ok (qx : fleetref2_Hand) (qx2 : Int) (vx2 : List api_Letter) (vx8 : Int) (vx9 : Int) {r} (hF : fleetref2_Hand_Do_x4 vx2 vx8 vx9 = some r) : Awp prog 1 99 (cL (cR (cR (cL (cL (cR (cL (cR (cL (cR (cL (cL (cL (cR (cR (cR (cR (cR (cR (cB f17)))))))))))))))))))) (Out 1 fleetref2_Hand_Do_x4_k (fleetref2_Hand_Do_x4_S qx qx2 vx2 vx8 vx9) r) (fleetref2_Hand_Do_x4_I qx qx2 vx2 vx8 vx9) := by
  unfold fleetref2_Hand_Do_x4 at hF
  refine awp_block ?_
  refine awp_seq ?_
  refine bE hF fun vy7 h14 hF => ?_
  refine awp_region ?_
  refine aR 1 ?_
  refine aX (x_idxO api_Letter.enc 1 h14) ?_
  refine aX (x_ldE api_Letter.enc h14) ?_
  refine aR 3 ?_
  refine aE ?_
  refine awp_seq ?_
  refine bE hF fun vy8 h15 hF => ?_
  refine aD ?_
  refine dR 4 ?_
  refine dX (x_idxO api_Letter.enc 1 h15) ?_
  refine dR 1 ?_
  refine dX (x_ldE api_Letter.enc h15) ?_
  refine dR 1 ?_
  refine dE ?_
  refine cE hF (fun h16 hF => ?_) fun h16 hF => ?_
  · refine awp_true (by kernel_rfl) h16 ?_
    refine awp_region ?_
    refine aR 2 ?_
    refine aE ?_
    exact oO hF [] [] rfl
  · refine awp_false (by kernel_rfl) h16 ?_
    refine awp_skip ?_
    exact oO hF [] [] rfl

def fleetref2_Hand_Do_x3_k : Int → AEx
  | _ => .exit 3

def fleetref2_Hand_Do_x3_S (qx : fleetref2_Hand) (qx2 : Int) (vx2 : List api_Letter) : Int → St
  | vx12 => Mem.st ⟨[(1, ⟨40, 6, List.map api_Letter.enc vx2⟩)], [(0, [.d (.int .i64 qx.Most), .d (.lst (List.map api_Letter.enc qx.L)), .d (.int .i64 qx.time_)])]⟩ (tl [(0, .v (.one (.box 0 0))), (2, .v (.one (.d (.int .i64 qx2)))), (10, .v (.one (.own 1 none))), (11, .v (.one (.d (.int .i64 vx12))))]) 2

def fleetref2_Hand_Do_x3_H (qx : fleetref2_Hand) (qx2 : Int) (vx2 : List api_Letter) : Int × Int → St
  | (vx8, vx9) => Mem.st ⟨[(1, ⟨40, 6, List.map api_Letter.enc vx2⟩)], [(0, [.d (.int .i64 qx.Most), .d (.lst (List.map api_Letter.enc qx.L)), .d (.int .i64 qx.time_)])]⟩ (tl [(0, .v (.one (.box 0 0))), (2, .v (.one (.d (.int .i64 qx2)))), (10, .v (.one (.own 1 none))), (11, .v (.one (.d (.int .i64 vx8)))), (62, .v (.one (.own 1 none))), (63, .v (.one (.d (.int .i64 (vx2.length : Int))))), (64, .v (.one (.d (.int .i64 vx9))))]) 2

theorem fleetref2_Hand_Do_x3_ok (qx : fleetref2_Hand) (qx2 : Int) (vx2 : List api_Letter) (s : Int × Int) (r : (Int × Int) ⊕ (Int)) (hF : fleetref2_Hand_Do_x3 vx2 s = some r) : Awp prog 1 99 (cL (cL (cR (cL (cR (cL (cR (cL (cL (cL (cR (cR (cR (cR (cR (cR (cB f17))))))))))))))))) (Out 1 (kk fleetref2_Hand_Do_x3_k) (SS (fleetref2_Hand_Do_x3_H qx qx2 vx2) (fleetref2_Hand_Do_x3_S qx qx2 vx2)) r) (fleetref2_Hand_Do_x3_H qx qx2 vx2 s) := by
  obtain ⟨vx8, vx9⟩ := s
  unfold fleetref2_Hand_Do_x3 at hF
  refine awp_seq ?_
  refine awp_region ?_
  refine aR 1 ?_
  refine aE ?_
  refine awp_seq ?_
  refine cE hF (fun h13 hF => ?_) fun h13 hF => ?_
  · refine awp_true (by kernel_rfl) h13 ?_
    refine awp_skip ?_
    refine awp_seq ?_
    refine awp_to (st' := fleetref2_Hand_Do_x4_I qx qx2 vx2 vx8 vx9) (oT [] []) ?_
    refine bE hF fun vx11_1 h17 hF => ?_
    refine awp_sub (fleetref2_Hand_Do_x4_ok qx qx2 vx2 vx8 vx9 h17) ?_
    refine awp_region ?_
    refine aR 2 ?_
    refine aE ?_
    exact oO hF [] [] rfl
  · refine awp_false (by kernel_rfl) h13 ?_
    refine awp_exit ?_
    exact oO hF [] [] rfl

def fleetref2_Hand_Do_x2_k : (List api_Letter) ⊕ Unit → AEx
  | .inl _ => .exit 1
  | .inr _ => .ret

def fleetref2_Hand_Do_x2_S (qx : fleetref2_Hand) (qx2 : Int) : (List api_Letter) ⊕ Unit → St
  | .inl vx13 => Mem.st ⟨[(1, ⟨40, 6, List.map api_Letter.enc vx13⟩)], [(0, [.d (.int .i64 qx.Most), .d (.lst (List.map api_Letter.enc qx.L)), .d (.int .i64 qx.time_)])]⟩ (tl [(0, .v (.one (.box 0 0))), (2, .v (.one (.d (.int .i64 qx2)))), (10, .v (.one (.own 1 none)))]) 2
  | .inr _ => Mem.st ⟨[], [(0, [.d (.int .i64 qx.Most), .d (.lst (List.map api_Letter.enc qx.L)), .d (.int .i64 qx.time_)])]⟩ (tl [(6, .v (.one (.d (.bool false)))), (7, .v (.one (.d (.int .i64 12))))]) 1

def fleetref2_Hand_Do_x2_H (qx : fleetref2_Hand) (qx2 : Int) : (List api_Letter) → St
  | vx2 => Mem.st ⟨[(1, ⟨40, 6, List.map api_Letter.enc vx2⟩)], [(0, [.d (.int .i64 qx.Most), .d (.lst (List.map api_Letter.enc qx.L)), .d (.int .i64 qx.time_)])]⟩ (tl [(0, .v (.one (.box 0 0))), (2, .v (.one (.d (.int .i64 qx2)))), (10, .v (.one (.own 1 none)))]) 2

theorem fleetref2_Hand_Do_x2_ok (qx : fleetref2_Hand) (qx2 : Int) (vx2 : (List api_Letter)) (r : ((List api_Letter)) ⊕ ((List api_Letter) ⊕ Unit)) (hF : fleetref2_Hand_Do_x2 qx qx2 vx2 = some r) : Awp prog 1 99 (cL (cL (cL (cR (cR (cR (cR (cR (cR (cB f17)))))))))) (Out 1 (kk fleetref2_Hand_Do_x2_k) (SS (fleetref2_Hand_Do_x2_H qx qx2) (fleetref2_Hand_Do_x2_S qx qx2)) r) (fleetref2_Hand_Do_x2_H qx qx2 vx2) := by
  unfold fleetref2_Hand_Do_x2 at hF
  refine awp_seq ?_
  refine awp_seq ?_
  refine awp_region ?_
  refine aR 1 ?_
  refine aL api_Letter.enc vx2 ?_
  refine aR 5 ?_
  refine aE ?_
  refine cE hF (fun h12 hF => ?_) fun h12 hF => ?_
  · refine awp_true (by kernel_rfl) h12 ?_
    refine awp_skip ?_
    refine awp_block ?_
    refine awp_seq ?_
    refine awp_region ?_
    refine aR 1 ?_
    refine aE ?_
    refine awp_seq ?_
    refine awp_seq ?_
    refine awp_region ?_
    refine aR 1 ?_
    refine aL api_Letter.enc vx2 ?_
    refine aR 1 ?_
    refine aE ?_
    refine awp_block ?_
    refine awp_to (st' := fleetref2_Hand_Do_x3_H qx qx2 vx2 (0, 0)) (oT [] []) ?_
    refine bE hF fun vx12_1 h18 hF => ?_
    refine awp_sub (awp_loop' (fleetref2_Hand_Do_x3_H qx qx2 vx2) fleetref2_Hand_Do_x3_k (fleetref2_Hand_Do_x3_S qx qx2 vx2) (by intro x; exact fun h => nomatch h) h18 (fleetref2_Hand_Do_x3_ok qx qx2 vx2)) ?_
    refine awp_seq ?_
    refine awp_seq ?_
    refine bE hF fun vy9 h19 hF => ?_
    refine awp_region ?_
    refine aR 2 ?_
    refine aX (x_idxO api_Letter.enc 1 h19) ?_
    refine aR 1 ?_
    refine aX (x_ldE api_Letter.enc h19) ?_
    refine aR 2 ?_
    refine aE ?_
    refine cE hF (fun h20 hF => ?_) fun h20 hF => ?_
    · refine awp_true (by kernel_rfl) h20 ?_
      refine awp_seq ?_
      refine awp_region ?_
      refine aR 2 ?_
      refine aE ?_
      refine awp_ret ?_
      exact oO hF [] [] rfl
    · refine awp_false (by kernel_rfl) h20 ?_
      refine awp_skip ?_
      refine bE hF fun vr3 h21 hF => ?_
      refine awp_region ?_
      refine aR 4 ?_
      refine aC (slices_Delete_api_Letter_api_Letter_o0_ok h21) [(0, 1)] [] [] ?_
      refine aR 1 ?_
      refine aE ?_
      exact oO hF [(1, 11003)] [] rfl
  · refine awp_false (by kernel_rfl) h12 ?_
    refine awp_exit ?_
    exact oO hF [] [] rfl

def fleetref2_Hand_Do_R (qx : fleetref2_Hand) (qx1 : api_Letter) (qx2 : Int) (r : (List api_Letter) × Int × Bool × Int) : TV × Mem := (.tup [.one (.d (.bool r.2.2.1)), .one (.d (.int .i64 r.2.2.2))], ⟨[], [(0, [.d (.int .i64 qx.Most), .d (.lst (List.map api_Letter.enc r.1)), .d (.int .i64 r.2.1)])]⟩)

theorem fleetref2_Hand_Do_ok {qx : fleetref2_Hand} {qx1 : api_Letter} {qx2 : Int} {r} (hF : fleetref2_Hand_Do qx qx1 qx2 = some r) : Holds prog 17 [.v (.one (.box 0 0)), .v (.agg [.d (.str qx1.Id), .d (.str qx1.Slot), .d (.str qx1.Body), .d (.int .i64 qx1.Prio), .d (.int .i64 qx1.At), .d (.int .i64 qx1.Until)]), .v (.one (.d (.int .i64 qx2)))] ⟨[], [(0, [.d (.int .i64 qx.Most), .d (.lst (List.map api_Letter.enc qx.L)), .d (.int .i64 qx.time_)])]⟩ (Is (fleetref2_Hand_Do_R qx qx1 qx2 r)) := by
  unfold fleetref2_Hand_Do at hF
  refine holds_of_awp hΓ (fn := f17) (c := cB f17) (A := 1) (nx := 1) (by kernel_rfl) (by kernel_rfl) (by kernel_rfl) (by kernel_rfl) (by kernel_rfl) (by kernel_rfl) (lowc_of (by kernel_rfl)) ?_
  show Awp prog 1 99 (cB f17) _ _
  refine awp_seq ?_
  refine awp_region ?_
  refine aR 3 ?_
  refine aE ?_
  refine awp_seq ?_
  refine awp_seq ?_
  refine bE hF fun vr4 h1 hF => ?_
  refine awp_region ?_
  refine aR 1 ?_
  refine aC (fleetref2_LetterFault_ok h1) [] [] [] ?_
  refine aR 1 ?_
  refine aE ?_
  refine awp_seq ?_
  refine awp_region ?_
  refine aR 2 ?_
  refine aE ?_
  refine cE hF (fun h2 hF => ?_) fun h2 hF => ?_
  · refine awp_true (by kernel_rfl) h2 ?_
    refine awp_seq ?_
    refine awp_region ?_
    refine aR 3 ?_
    refine aE ?_
    refine awp_ret ?_
    exact oF hF [] []
  · refine awp_false (by kernel_rfl) h2 ?_
    refine awp_skip ?_
    refine awp_seq ?_
    refine awp_block ?_
    refine awp_seq ?_
    refine bE hF fun vr1 h3 hF => ?_
    refine awp_region ?_
    refine aR 1 ?_
    refine aC (fleetref2_Moment_ok h3) [] [] [] ?_
    refine aR 2 ?_
    refine aE ?_
    refine cE hF (fun h4 hF => ?_) fun h4 hF => ?_
    · refine awp_true (by kernel_rfl) h4 ?_
      refine awp_seq ?_
      refine awp_region ?_
      refine aR 2 ?_
      refine aE ?_
      refine awp_ret ?_
      exact oF hF [] []
    · refine awp_false (by kernel_rfl) h4 ?_
      refine awp_seq ?_
      refine awp_region ?_
      refine aR 7 ?_
      refine aE ?_
      refine cE hF (fun h5 hF => ?_) fun h5 hF => ?_
      · refine awp_true (by kernel_rfl) h5 ?_
        refine awp_seq ?_
        refine awp_region ?_
        refine aR 2 ?_
        refine aE ?_
        refine awp_ret ?_
        exact oF hF [] []
      · refine awp_false (by kernel_rfl) h5 ?_
        refine awp_skip ?_
        refine awp_seq ?_
        refine bE hF fun vr1_1 h6 hF => ?_
        refine awp_region ?_
        refine aR 5 ?_
        refine aC (slices_ContainsFunc_api_Letter_api_Letter_f1_fleetref2_Hand_Do_1_ok h6) [(0, 1)] [] [] ?_
        refine aR 1 ?_
        refine aE ?_
        refine awp_seq ?_
        refine awp_seq ?_
        refine awp_to (st' := fleetref2_Hand_Do_x1_I qx qx1 qx2 vr1_1) (oT [] []) ?_
        refine bE hF fun vx1 h8 hF => ?_
        refine awp_sub (fleetref2_Hand_Do_x1_ok qx qx1 qx2 vr1_1 h8) ?_
        refine cE hF (fun h9 hF => ?_) fun h9 hF => ?_
        · refine awp_true (by kernel_rfl) h9 ?_
          refine awp_seq ?_
          refine awp_region ?_
          refine aR 5 ?_
          refine aE ?_
          refine awp_seq ?_
          refine awp_region ?_
          refine aR 2 ?_
          refine aE ?_
          refine awp_ret ?_
          exact oF hF [] []
        · refine awp_false (by kernel_rfl) h9 ?_
          refine awp_skip ?_
          refine awp_seq ?_
          refine bE hF fun vr h10 hF => ?_
          refine gE hF fun h11 hF => ?_
          refine aD ?_
          refine dR 4 ?_
          refine dC (slices_Clone_api_Letter_api_Letter_ok h10) [] [] [] ?_
          refine dR 2 ?_
          refine dX (x_app api_Letter.enc 4002 h11) ?_
          refine dR 1 ?_
          refine dE ?_
          refine awp_seq ?_
          refine awp_block ?_
          refine awp_to (st' := fleetref2_Hand_Do_x2_H qx qx2 (vr ++ ([qx1] : List api_Letter))) (oT [(1, 7002)] []) ?_
          refine bE hF fun x h22 hF => ?_
          rcases x with vx13_1 | _
          · refine awp_sub (awp_loop' (fleetref2_Hand_Do_x2_H qx qx2) fleetref2_Hand_Do_x2_k (fleetref2_Hand_Do_x2_S qx qx2) (by intro x; rcases x with x | x <;> exact fun h => nomatch h) h22 (fleetref2_Hand_Do_x2_ok qx qx2)) ?_
            refine awp_seq ?_
            refine awp_region ?_
            refine aR 10 ?_
            refine aE ?_
            refine awp_seq ?_
            refine awp_region ?_
            refine aR 2 ?_
            refine aE ?_
            refine awp_ret ?_
            exact oF hF [] []
          · refine awp_sub (awp_loop' (fleetref2_Hand_Do_x2_H qx qx2) fleetref2_Hand_Do_x2_k (fleetref2_Hand_Do_x2_S qx qx2) (by intro x; rcases x with x | x <;> exact fun h => nomatch h) h22 (fleetref2_Hand_Do_x2_ok qx qx2)) ?_
            exact oF hF [] []

/-! ### (*beaconfleet/command.Doer).Done -/
def command_Doer_Done_x1_k : (List (List UInt8)) → AEx
  | _ => .exit 0

def command_Doer_Done_x1_S (qd : command_Doer) : (List (List UInt8)) → St
  | vout1 => Mem.st ⟨[(1, ⟨9, 1, List.map encS vout1⟩)], [(0, [.d (.int .i64 qd.most_), .d (.lst (List.map command_done.enc qd.l_)), .d (.int .i64 qd.time_)])]⟩ (tl [(3, .v (.one (.own 1 none)))]) 2

def command_Doer_Done_x1_H (qd : command_Doer) : (List (List UInt8)) × Int → St
  | (vout, vx) => Mem.st ⟨[(1, ⟨9, 1, List.map encS vout⟩)], [(0, [.d (.int .i64 qd.most_), .d (.lst (List.map command_done.enc qd.l_)), .d (.int .i64 qd.time_)])]⟩ (tl [(3, .v (.one (.own 1 none))), (9, .v (.one (.d (.lst (List.map command_done.enc qd.l_))))), (10, .v (.one (.d (.int .i64 (qd.l_.length : Int))))), (11, .v (.one (.d (.int .i64 vx))))]) 2

theorem command_Doer_Done_x1_ok (qd : command_Doer) (s : (List (List UInt8)) × Int) (r : ((List (List UInt8)) × Int) ⊕ ((List (List UInt8)))) (hF : command_Doer_Done_x1 qd s = some r) : Awp prog 1 22 (cL (cL (cR (cL (cR (cR (cB f19))))))) (Out 1 (kk command_Doer_Done_x1_k) (SS (command_Doer_Done_x1_H qd) (command_Doer_Done_x1_S qd)) r) (command_Doer_Done_x1_H qd s) := by
  obtain ⟨vout, vx⟩ := s
  unfold command_Doer_Done_x1 at hF
  refine awp_seq ?_
  refine awp_region ?_
  refine aR 1 ?_
  refine aE ?_
  refine awp_seq ?_
  refine cE hF (fun h1 hF => ?_) fun h1 hF => ?_
  · refine awp_true (by kernel_rfl) h1 ?_
    refine awp_skip ?_
    refine awp_seq ?_
    refine awp_block ?_
    refine awp_seq ?_
    refine bE hF fun vy1 h2 hF => ?_
    refine awp_region ?_
    refine aX (x_idx command_done.enc h2) ?_
    refine aR 3 ?_
    refine aE ?_
    refine gE hF fun h3 hF => ?_
    refine awp_region ?_
    refine aR 4 ?_
    refine aX (x_app encS 1 h3) ?_
    refine aR 1 ?_
    refine aE ?_
    refine awp_region ?_
    refine aR 2 ?_
    refine aE ?_
    exact oO hF [(1, 9002)] [] rfl
  · refine awp_false (by kernel_rfl) h1 ?_
    refine awp_exit ?_
    exact oO hF [] [] rfl

def command_Doer_Done_R (qd : command_Doer) (r : (List (List UInt8))) : TV × Mem := (.v (.one (.own 1 none)), ⟨[(1, ⟨9, 1, List.map encS r⟩)], [(0, [.d (.int .i64 qd.most_), .d (.lst (List.map command_done.enc qd.l_)), .d (.int .i64 qd.time_)])]⟩)

theorem command_Doer_Done_ok {qd : command_Doer} {r} (hF : command_Doer_Done qd = some r) : Holds prog 19 [.v (.one (.box 0 0))] ⟨[], [(0, [.d (.int .i64 qd.most_), .d (.lst (List.map command_done.enc qd.l_)), .d (.int .i64 qd.time_)])]⟩ (Is (command_Doer_Done_R qd r)) := by
  unfold command_Doer_Done at hF
  refine holds_of_awp hΓ (fn := f19) (c := cB f19) (A := 1) (nx := 1) (by kernel_rfl) (by kernel_rfl) (by kernel_rfl) (by kernel_rfl) (by kernel_rfl) (by kernel_rfl) (lowc_of (by kernel_rfl)) ?_
  show Awp prog 1 22 (cB f19) _ _
  refine awp_seq ?_
  refine awp_region ?_
  refine aR 1 ?_
  refine aE ?_
  refine awp_seq ?_
  refine awp_region ?_
  refine aR 1 ?_
  refine aE ?_
  refine awp_seq ?_
  refine awp_seq ?_
  refine awp_region ?_
  refine aR 4 ?_
  refine aL command_done.enc qd.l_ ?_
  refine aR 1 ?_
  refine aE ?_
  refine awp_block ?_
  refine awp_to (st' := command_Doer_Done_x1_H qd ([], 0)) (oT [] [1]) ?_
  refine bE hF fun vout1_1 h4 hF => ?_
  refine awp_sub (awp_loop' (command_Doer_Done_x1_H qd) command_Doer_Done_x1_k (command_Doer_Done_x1_S qd) (by intro x; exact fun h => nomatch h) h4 (command_Doer_Done_x1_ok qd)) ?_
  refine awp_seq ?_
  refine awp_region ?_
  refine aR 2 ?_
  refine aE ?_
  refine awp_ret ?_
  exact oF hF [] []

end Go.Eng
