/-
The code of the Go functions that the law CellsMerge reaches does what the plain functions say, part 1.
-/
import Derived.Test.YtebpaohebdeicaaGreatDoorGenF

import Derived.Test.YtebpaohebdeicaaGreatDoorEng8

import Derived.Test.YtebpaohebdeicaaGreatDoorGenS

import Derived.Test.YtebpaohebdeicaaGreatDoorProg

import Derived.KernelRfl

namespace Go.Eng

open Go Go.Proofs.Tryz

set_option linter.unusedVariables false

set_option maxRecDepth 20000

set_option maxHeartbeats 0

def ti3 : TI := ⟨1, 8, [.d (.int .i64 0)], false, .int .i64⟩

def ti4 : TI := ⟨1, 1, [.d (.bool false)], false, .bool⟩

def ti5 : TI := ⟨1, 1, [.d (.int .u8 0)], false, .int .u8⟩

def ti9 : TI := ⟨1, 16, [.d (.str [])], false, .str⟩

def ti21 : TI := ⟨1, 4, [.d (.int .i32 0)], false, .int .i32⟩

def ti22 : TI := ⟨1, 24, [.nil], false, .slice 3⟩

def ti25 : TI := ⟨2, 32, [.nil, .d (.int .i64 0)], true, .struct [(0, 22), (1, 3)]⟩

def ti26 : TI := ⟨1, 24, [.nil], false, .slice 49⟩

def ti29 : TI := ⟨1, 24, [.nil], false, .slice 44⟩

def ti30 : TI := ⟨1, 8, [.d (.int .i64 0)], false, .int .i64⟩

def ti42 : TI := ⟨4, 40, [.d (.int .i64 0), .d (.bool false), .d (.int .i64 0), .d (.str [])], true, .struct [(0, 3), (1, 4), (2, 3), (3, 9)]⟩

def ti44 : TI := ⟨5, 56, [.d (.str []), .d (.int .i64 0), .d (.bool false), .d (.int .i64 0), .d (.str [])], true, .struct [(0, 9), (1, 42)]⟩

def ti47 : TI := ⟨3, 32, [.d (.int .i64 0), .d (.str []), .d (.int .i64 0)], true, .struct [(0, 3), (1, 9), (2, 3)]⟩

def ti49 : TI := ⟨8, 88, [.d (.str []), .d (.int .i64 0), .d (.bool false), .d (.int .i64 0), .d (.str []), .d (.int .i64 0), .d (.str []), .d (.int .i64 0)], true, .struct [(0, 44), (5, 47)]⟩

def ti61 : TI := ⟨1, 24, [.nil], false, .slice 72⟩

def ti72 : TI := ⟨9, 96, [.d (.str []), .d (.int .i64 0), .d (.bool false), .d (.int .i64 0), .d (.str []), .d (.int .i64 0), .d (.bool false), .d (.int .i64 0), .d (.str [])], true, .struct [(0, 9), (1, 42), (5, 42)]⟩

def ti84 : TI := ⟨1, 8, [.undef], false, .other⟩

def ti90 : TI := ⟨1, 24, [.nil], false, .slice 30⟩

def ti100 : TI := ⟨1, 24, [.nil], false, .slice 9⟩

def ti107 : TI := ⟨1, 8, [.nilm], false, .map 9 42⟩

def ti114 : TI := ⟨1, 8, [.nilm], false, .map 9 49⟩

def ti122 : TI := ⟨1, 8, [.d (.int .u64 0)], false, .int .u64⟩

def ti142 : TI := ⟨1, 24, [.nil], false, .slice 29⟩

def ti145 : TI := ⟨1, 24, [.nil], false, .slice 26⟩

def ti160 : TI := ⟨1, 8, [.d (.int .u64 0)], false, .int .u64⟩

def Γ : Types := [(3, ti3), (4, ti4), (5, ti5), (9, ti9), (21, ti21), (22, ti22), (25, ti25), (26, ti26), (29, ti29), (30, ti30), (42, ti42), (44, ti44), (47, ti47), (49, ti49), (61, ti61), (72, ti72), (84, ti84), (90, ti90), (100, ti100), (107, ti107), (114, ti114), (122, ti122), (142, ti142), (145, ti145), (160, ti160)]

theorem hΓ : TypesOk prog Γ := typesOk_of (by kernel_rfl)

instance : TOk prog Γ := ⟨hΓ⟩

theorem hm : prog.follows .mixedOrders = true := by kernel_rfl

instance : Mixed prog := ⟨hm⟩

/-! ### beaconfleet/fleetmake.Below -/
def fleetmake_Below_x1_k : Int → AEx
  | _ => .normal

def fleetmake_Below_x1_S (qx : Int) (qn : Int) : Int → St
  | vx => Mem.st ⟨[], []⟩ (tl [(0, .v (.one (.d (.int .i64 vx))))]) 0

def fleetmake_Below_x1_I (qx : Int) (qn : Int) : St := Mem.st ⟨[], []⟩ (tl [(0, .v (.one (.d (.int .i64 (qx.tmod qn))))), (1, .v (.one (.d (.int .i64 qn))))]) 0

theorem fleetmake_Below_x1_ok (qx : Int) (qn : Int) {r} (hF : fleetmake_Below_x1 qx qn = some r) : Awp prog 0 16 (cL (cR (cR (cR (cB f104))))) (Out 0 fleetmake_Below_x1_k (fleetmake_Below_x1_S qx qn) r) (fleetmake_Below_x1_I qx qn) := by
  unfold fleetmake_Below_x1 at hF
  refine awp_seq ?_
  refine awp_region ?_
  refine aR 2 ?_
  refine aE ?_
  refine cE hF (fun h3 hF => ?_) fun h3 hF => ?_
  · refine awp_true (by kernel_rfl) h3 ?_
    refine awp_region ?_
    refine aR 4 ?_
    refine aE ?_
    exact oO hF [] [] rfl
  · refine awp_false (by kernel_rfl) h3 ?_
    refine awp_skip ?_
    exact oO hF [] [] rfl

def fleetmake_Below_R (qx : Int) (qn : Int) (r : Int) : TV × Mem := (.v (.one (.d (.int .i64 r))), ⟨[], []⟩)

theorem fleetmake_Below_ok {qx : Int} {qn : Int} {r} (hF : fleetmake_Below qx qn = some r) : Holds prog 104 [.v (.one (.d (.int .i64 qx))), .v (.one (.d (.int .i64 qn)))] ⟨[], []⟩ (Is (fleetmake_Below_R qx qn r)) := by
  unfold fleetmake_Below at hF
  refine holds_of_awp hΓ (fn := f104) (c := cB f104) (A := 0) (nx := 0) (by kernel_rfl) (by kernel_rfl) (by kernel_rfl) (by kernel_rfl) (by kernel_rfl) (by kernel_rfl) (lowc_of (by kernel_rfl)) ?_
  show Awp prog 0 16 (cB f104) _ _
  refine awp_seq ?_
  refine awp_region ?_
  refine aR 1 ?_
  refine aE ?_
  refine awp_seq ?_
  refine awp_seq ?_
  refine awp_region ?_
  refine aR 2 ?_
  refine aE ?_
  refine cE hF (fun h1 hF => ?_) fun h1 hF => ?_
  · refine awp_true (by kernel_rfl) h1 ?_
    refine awp_seq ?_
    refine awp_region ?_
    refine aR 1 ?_
    refine aE ?_
    refine awp_ret ?_
    exact oF hF [] []
  · refine awp_false (by kernel_rfl) h1 ?_
    refine awp_skip ?_
    refine awp_seq ?_
    refine gE hF fun h2 hF => ?_
    refine awp_region ?_
    refine aR 2 ?_
    refine aX (x_rem h2) ?_
    refine aR 1 ?_
    refine aE ?_
    refine awp_seq ?_
    refine awp_to (st' := fleetmake_Below_x1_I qx qn) (oT [] []) ?_
    refine bE hF fun vx1 h4 hF => ?_
    refine awp_sub (fleetmake_Below_x1_ok qx qn h4) ?_
    refine awp_seq ?_
    refine awp_region ?_
    refine aR 2 ?_
    refine aE ?_
    refine awp_ret ?_
    exact oF hF [] []

/-! ### (*beaconfleet/fleetmake.Stream).Next -/
def fleetmake_Stream_Next_R (qs : fleetmake_Stream) (qn : Int) (r : Int) : TV × Mem := (.v (.one (.d (.int .i64 r))), ⟨[], [(0, [.d (.lst (List.map (encI .i64) qs.L)), .d (.int .i64 (IntKind.wrap .i64 (qs.at_ + 1)))])]⟩)

theorem fleetmake_Stream_Next_ok {qs : fleetmake_Stream} {qn : Int} {r} (hF : fleetmake_Stream_Next qs qn = some r) : Holds prog 50 [.v (.one (.box 0 0)), .v (.one (.d (.int .i64 qn)))] ⟨[], [(0, [.d (.lst (List.map (encI .i64) qs.L)), .d (.int .i64 qs.at_)])]⟩ (Is (fleetmake_Stream_Next_R qs qn r)) := by
  unfold fleetmake_Stream_Next at hF
  refine holds_of_awp hΓ (fn := f50) (c := cB f50) (A := 1) (nx := 1) (by kernel_rfl) (by kernel_rfl) (by kernel_rfl) (by kernel_rfl) (by kernel_rfl) (by kernel_rfl) (lowc_of (by kernel_rfl)) ?_
  show Awp prog 1 64 (cB f50) _ _
  refine awp_seq ?_
  refine awp_region ?_
  refine aR 1 ?_
  refine aE ?_
  refine awp_seq ?_
  refine awp_region ?_
  refine aR 8 ?_
  refine aE ?_
  refine awp_seq ?_
  refine awp_seq ?_
  refine awp_region ?_
  refine aR 4 ?_
  refine aL (encI .i64) qs.L ?_
  refine aR 1 ?_
  refine aE ?_
  refine cE hF (fun h1 hF => ?_) fun h1 hF => ?_
  · refine awp_true (by kernel_rfl) h1 ?_
    refine awp_seq ?_
    refine bE hF fun vr h2 hF => ?_
    refine awp_region ?_
    refine aR 6 ?_
    refine aC (fleetmake_Below_ok h2) [] [] [] ?_
    refine aR 1 ?_
    refine aE ?_
    refine awp_ret ?_
    exact oF hF [] []
  · refine awp_false (by kernel_rfl) h1 ?_
    refine awp_skip ?_
    refine awp_seq ?_
    refine gE hF fun h3 hF => ?_
    refine aD ?_
    refine dR 9 ?_
    refine dL (encI .i64) qs.L ?_
    refine dX (x_rem h3) ?_
    refine dR 1 ?_
    refine dE ?_
    refine awp_seq ?_
    refine aD ?_
    refine dR 9 ?_
    refine dL (encI .i64) qs.L ?_
    refine dX (x_quo h3) ?_
    refine dR 1 ?_
    refine dE ?_
    refine awp_seq ?_
    refine bE hF fun vy h4 hF => ?_
    refine bE hF fun vr1 h5 hF => ?_
    refine bE hF fun vr2 h6 hF => ?_
    refine awp_region ?_
    refine aR 5 ?_
    refine aX (x_idx (encI .i64) h4) ?_
    refine aR 1 ?_
    refine aC (fleetmake_Below_ok h5) [] [] [] ?_
    refine aR 6 ?_
    refine aC (fleetmake_Below_ok h6) [] [] [] ?_
    refine aR 1 ?_
    refine aE ?_
    refine awp_ret ?_
    exact oF hF [] []

/-! ### (*beaconfleet/fleetmake.Stream).Range -/
def fleetmake_Stream_Range_R (qs : fleetmake_Stream) (qlow : Int) (qhigh : Int) (r : fleetmake_Stream × Int) : TV × Mem := (.v (.one (.d (.int .i64 r.2))), ⟨[], [(0, [.d (.lst (List.map (encI .i64) r.1.L)), .d (.int .i64 r.1.at_)])]⟩)

theorem fleetmake_Stream_Range_ok {qs : fleetmake_Stream} {qlow : Int} {qhigh : Int} {r} (hF : fleetmake_Stream_Range qs qlow qhigh = some r) : Holds prog 100 [.v (.one (.box 0 0)), .v (.one (.d (.int .i64 qlow))), .v (.one (.d (.int .i64 qhigh)))] ⟨[], [(0, [.d (.lst (List.map (encI .i64) qs.L)), .d (.int .i64 qs.at_)])]⟩ (Is (fleetmake_Stream_Range_R qs qlow qhigh r)) := by
  unfold fleetmake_Stream_Range at hF
  refine holds_of_awp hΓ (fn := f100) (c := cB f100) (A := 1) (nx := 1) (by kernel_rfl) (by kernel_rfl) (by kernel_rfl) (by kernel_rfl) (by kernel_rfl) (by kernel_rfl) (lowc_of (by kernel_rfl)) ?_
  show Awp prog 1 19 (cB f100) _ _
  refine awp_seq ?_
  refine awp_region ?_
  refine aR 1 ?_
  refine aE ?_
  refine awp_seq ?_
  refine awp_seq ?_
  refine awp_region ?_
  refine aR 3 ?_
  refine aE ?_
  refine cE hF (fun h1 hF => ?_) fun h1 hF => ?_
  · refine awp_true (by kernel_rfl) h1 ?_
    refine awp_seq ?_
    refine awp_region ?_
    refine aR 2 ?_
    refine aE ?_
    refine awp_ret ?_
    exact oF hF [] []
  · refine awp_false (by kernel_rfl) h1 ?_
    refine awp_skip ?_
    refine awp_seq ?_
    refine bE hF fun vr3 h2 hF => ?_
    refine awp_region ?_
    refine aR 6 ?_
    refine aC (fleetmake_Stream_Next_ok h2) [] [] [] ?_
    refine aR 2 ?_
    refine aE ?_
    refine awp_ret ?_
    exact oF hF [] []

/-! ### (*beaconfleet/fleetmake.Stream).Some -/
def fleetmake_Stream_Some_o1_R (qs : fleetmake_Stream) (ql : List (List UInt8)) (r : (List UInt8)) : TV × Mem := (.v (.one (.d (.str r))), ⟨[], [(0, [.d (.lst (List.map (encI .i64) qs.L)), .d (.int .i64 (IntKind.wrap .i64 (qs.at_ + 1)))])]⟩)

theorem fleetmake_Stream_Some_o1_ok {qs : fleetmake_Stream} {ql : List (List UInt8)} {r} (hF : fleetmake_Stream_Some_o1 qs ql = some r) : Holds prog 67 [.v (.one (.box 0 0)), .v (.one (.own 1 none))] ⟨[(1, ⟨9, 1, List.map encS ql⟩)], [(0, [.d (.lst (List.map (encI .i64) qs.L)), .d (.int .i64 qs.at_)])]⟩ (Is (fleetmake_Stream_Some_o1_R qs ql r)) := by
  unfold fleetmake_Stream_Some_o1 at hF
  refine holds_of_awp hΓ (fn := f67) (c := cB f67) (A := 2) (nx := 2) (by kernel_rfl) (by kernel_rfl) (by kernel_rfl) (by kernel_rfl) (by kernel_rfl) (by kernel_rfl) (lowc_of (by kernel_rfl)) ?_
  show Awp prog 2 12 (cB f67) _ _
  refine awp_seq ?_
  refine awp_region ?_
  refine aR 1 ?_
  refine aE ?_
  refine awp_to (oT (m := ⟨[], [(0, [.d (.lst (List.map (encI .i64) qs.L)), .d (.int .i64 qs.at_)])]⟩) (ts := [(0, .v (.one (.box 0 0))), (1, .v (.one (.d (.lst (List.map encS ql)))))]) (nx := 2) [] []) ?_
  refine awp_seq ?_
  refine bE hF fun vr3 h1 hF => ?_
  refine bE hF fun vy h2 hF => ?_
  refine awp_region ?_
  refine aR 3 ?_
  refine aL encS ql ?_
  refine aC (fleetmake_Stream_Next_ok h1) [] [] [] ?_
  refine aX (x_idx encS h2) ?_
  refine aR 2 ?_
  refine aE ?_
  refine awp_ret ?_
  exact oF hF [] []

/-! ### (*beaconfleet/fleetmake.Stream).Flip -/
def fleetmake_Stream_Flip_R (qs : fleetmake_Stream) (qn : Int) (r : Bool) : TV × Mem := (.v (.one (.d (.bool r))), ⟨[], [(0, [.d (.lst (List.map (encI .i64) qs.L)), .d (.int .i64 (IntKind.wrap .i64 (qs.at_ + 1)))])]⟩)

theorem fleetmake_Stream_Flip_ok {qs : fleetmake_Stream} {qn : Int} {r} (hF : fleetmake_Stream_Flip qs qn = some r) : Holds prog 47 [.v (.one (.box 0 0)), .v (.one (.d (.int .i64 qn)))] ⟨[], [(0, [.d (.lst (List.map (encI .i64) qs.L)), .d (.int .i64 qs.at_)])]⟩ (Is (fleetmake_Stream_Flip_R qs qn r)) := by
  unfold fleetmake_Stream_Flip at hF
  refine holds_of_awp hΓ (fn := f47) (c := cB f47) (A := 1) (nx := 1) (by kernel_rfl) (by kernel_rfl) (by kernel_rfl) (by kernel_rfl) (by kernel_rfl) (by kernel_rfl) (lowc_of (by kernel_rfl)) ?_
  show Awp prog 1 9 (cB f47) _ _
  refine awp_seq ?_
  refine awp_region ?_
  refine aR 1 ?_
  refine aE ?_
  refine awp_seq ?_
  refine bE hF fun vr3 h1 hF => ?_
  refine awp_region ?_
  refine aR 2 ?_
  refine aC (fleetmake_Stream_Next_ok h1) [] [] [] ?_
  refine aR 2 ?_
  refine aE ?_
  refine awp_ret ?_
  exact oF hF [] []

/-! ### (*beaconfleet/fleetmake.Stream).Pick -/
def fleetmake_Stream_Pick_o1_R (qs : fleetmake_Stream) (ql : List Int) (r : Int) : TV × Mem := (.v (.one (.d (.int .i64 r))), ⟨[], [(0, [.d (.lst (List.map (encI .i64) qs.L)), .d (.int .i64 (IntKind.wrap .i64 (qs.at_ + 1)))])]⟩)

theorem fleetmake_Stream_Pick_o1_ok {qs : fleetmake_Stream} {ql : List Int} {r} (hF : fleetmake_Stream_Pick_o1 qs ql = some r) : Holds prog 8 [.v (.one (.box 0 0)), .v (.one (.own 1 none))] ⟨[(1, ⟨3, 1, List.map (encI .i64) ql⟩)], [(0, [.d (.lst (List.map (encI .i64) qs.L)), .d (.int .i64 qs.at_)])]⟩ (Is (fleetmake_Stream_Pick_o1_R qs ql r)) := by
  unfold fleetmake_Stream_Pick_o1 at hF
  refine holds_of_awp hΓ (fn := f8) (c := cB f8) (A := 2) (nx := 2) (by kernel_rfl) (by kernel_rfl) (by kernel_rfl) (by kernel_rfl) (by kernel_rfl) (by kernel_rfl) (lowc_of (by kernel_rfl)) ?_
  show Awp prog 2 12 (cB f8) _ _
  refine awp_seq ?_
  refine awp_region ?_
  refine aR 1 ?_
  refine aE ?_
  refine awp_to (oT (m := ⟨[], [(0, [.d (.lst (List.map (encI .i64) qs.L)), .d (.int .i64 qs.at_)])]⟩) (ts := [(0, .v (.one (.box 0 0))), (1, .v (.one (.d (.lst (List.map (encI .i64) ql)))))]) (nx := 2) [] []) ?_
  refine awp_seq ?_
  refine bE hF fun vr3 h1 hF => ?_
  refine bE hF fun vy h2 hF => ?_
  refine awp_region ?_
  refine aR 3 ?_
  refine aL (encI .i64) ql ?_
  refine aC (fleetmake_Stream_Next_ok h1) [] [] [] ?_
  refine aX (x_idx (encI .i64) h2) ?_
  refine aR 2 ?_
  refine aE ?_
  refine awp_ret ?_
  exact oF hF [] []

/-! ### (*beaconfleet/fleetmake.Stream).RightValue -/
def fleetmake_Stream_RightValue_R (qs : fleetmake_Stream) (r : api_Value) : TV × Mem := (.v (.agg [.d (.int .i64 r.Kind), .d (.bool r.Flag), .d (.int .i64 r.Number), .d (.str r.Words)]), ⟨[], [(0, [.d (.lst (List.map (encI .i64) qs.L)), .d (.int .i64 (IntKind.wrap .i64 ((IntKind.wrap .i64 (qs.at_ + 1)) + 1)))])]⟩)

theorem fleetmake_Stream_RightValue_ok {qs : fleetmake_Stream} {r} (hF : fleetmake_Stream_RightValue qs = some r) : Holds prog 90 [.v (.one (.box 0 0))] ⟨[], [(0, [.d (.lst (List.map (encI .i64) qs.L)), .d (.int .i64 qs.at_)])]⟩ (Is (fleetmake_Stream_RightValue_R qs r)) := by
  unfold fleetmake_Stream_RightValue at hF
  refine holds_of_awp hΓ (fn := f90) (c := cB f90) (A := 1) (nx := 1) (by kernel_rfl) (by kernel_rfl) (by kernel_rfl) (by kernel_rfl) (by kernel_rfl) (by kernel_rfl) (lowc_of (by kernel_rfl)) ?_
  show Awp prog 1 20 (cB f90) _ _
  refine awp_seq ?_
  refine awp_region ?_
  refine aR 1 ?_
  refine aE ?_
  refine awp_seq ?_
  refine awp_seq ?_
  refine bE hF fun vr3 h1 hF => ?_
  refine awp_region ?_
  refine aR 1 ?_
  refine aC (fleetmake_Stream_Next_ok h1) [] [] [] ?_
  refine aE ?_
  refine awp_block ?_
  refine awp_seq ?_
  refine awp_region ?_
  refine aR 2 ?_
  refine aE ?_
  refine cE hF (fun h2 hF => ?_) fun h2 hF => ?_
  · refine awp_true (by kernel_rfl) h2 ?_
    refine awp_seq ?_
    refine bE hF fun vr h3 hF => ?_
    refine awp_region ?_
    refine aR 1 ?_
    refine aC (fleetmake_Stream_Flip_ok h3) [] [] [] ?_
    refine aR 2 ?_
    refine aE ?_
    refine awp_ret ?_
    exact oF hF [] []
  · refine awp_false (by kernel_rfl) h2 ?_
    refine awp_seq ?_
    refine awp_region ?_
    refine aR 2 ?_
    refine aE ?_
    refine cE hF (fun h4 hF => ?_) fun h4 hF => ?_
    · refine awp_true (by kernel_rfl) h4 ?_
      refine awp_seq ?_
      refine bE hF fun vr1 h5 hF => ?_
      refine awp_region ?_
      refine aR 2 ?_
      refine aC (fleetmake_Stream_Some_o1_ok h5) [(1, 8001)] [] [] ?_
      refine aR 2 ?_
      refine aE ?_
      refine awp_ret ?_
      exact oF hF [] []
    · refine awp_false (by kernel_rfl) h4 ?_
      refine awp_skip ?_
      refine awp_seq ?_
      refine bE hF fun vr2 h6 hF => ?_
      refine awp_region ?_
      refine aR 2 ?_
      refine aC (fleetmake_Stream_Pick_o1_ok h6) [(1, 8001)] [] [] ?_
      refine aR 2 ?_
      refine aE ?_
      refine awp_ret ?_
      exact oF hF [] []

/-! ### (*beaconfleet/fleetmake.Stream).RightStamp -/
def fleetmake_Stream_RightStamp_R (qs : fleetmake_Stream) (r : fleetmake_Stream × api_Stamp) : TV × Mem := (.v (.agg [.d (.int .i64 r.2.At), .d (.str r.2.By), .d (.int .i64 r.2.No)]), ⟨[], [(0, [.d (.lst (List.map (encI .i64) r.1.L)), .d (.int .i64 r.1.at_)])]⟩)

theorem fleetmake_Stream_RightStamp_ok {qs : fleetmake_Stream} {r} (hF : fleetmake_Stream_RightStamp qs = some r) : Holds prog 92 [.v (.one (.box 0 0))] ⟨[], [(0, [.d (.lst (List.map (encI .i64) qs.L)), .d (.int .i64 qs.at_)])]⟩ (Is (fleetmake_Stream_RightStamp_R qs r)) := by
  unfold fleetmake_Stream_RightStamp at hF
  refine holds_of_awp hΓ (fn := f92) (c := cB f92) (A := 1) (nx := 1) (by kernel_rfl) (by kernel_rfl) (by kernel_rfl) (by kernel_rfl) (by kernel_rfl) (by kernel_rfl) (lowc_of (by kernel_rfl)) ?_
  show Awp prog 1 12 (cB f92) _ _
  refine awp_seq ?_
  refine awp_region ?_
  refine aR 1 ?_
  refine aE ?_
  refine awp_seq ?_
  refine bE hF fun x h1 hF => ?_
  obtain ⟨vs, vr⟩ := x
  refine bE hF fun vr1 h2 hF => ?_
  refine bE hF fun vr2 h3 hF => ?_
  refine awp_region ?_
  refine aR 1 ?_
  refine aC (fleetmake_Stream_Range_ok h1) [] [] [] ?_
  refine aR 2 ?_
  refine aC (fleetmake_Stream_Some_o1_ok h2) [(1, 4001)] [] [] ?_
  refine aR 2 ?_
  refine aC (fleetmake_Stream_Pick_o1_ok h3) [(1, 7001)] [] [] ?_
  refine aR 2 ?_
  refine aE ?_
  refine awp_ret ?_
  exact oF hF [] []

/-! ### internal/bytealg.CompareString -/
def bytealg_CompareString_R (qa : List UInt8) (qb : List UInt8) (r : Unit) : TV × Mem := (.v (.one (.d (.int .i64 (Lib.compareBytes qa qb)))), ⟨[], []⟩)

theorem bytealg_CompareString_ok {qa : List UInt8} {qb : List UInt8} {r} (hF : bytealg_CompareString qa qb = some r) : Holds prog 132 [.v (.one (.d (.str qa))), .v (.one (.d (.str qb)))] ⟨[], []⟩ (Is (bytealg_CompareString_R qa qb r)) := by
  unfold bytealg_CompareString at hF
  refine holds_of_awp hΓ (fn := f132) (c := cB f132) (A := 0) (nx := 0) (by kernel_rfl) (by kernel_rfl) (by kernel_rfl) (by kernel_rfl) (by kernel_rfl) (by kernel_rfl) (lowc_of (by kernel_rfl)) ?_
  show Awp prog 0 8 (cB f132) _ _
  refine awp_seq ?_
  refine awp_region ?_
  refine aR 1 ?_
  refine aE ?_
  refine awp_seq ?_
  refine awp_region ?_
  refine aR 2 ?_
  refine aS (does_cmpstring (g := 167) (fn := f167) (a := qa) (b := qb) rfl (by kernel_rfl) (by kernel_rfl) (by kernel_rfl) (by kernel_rfl) (by kernel_rfl) (by kernel_rfl)) ?_
  refine aR 1 ?_
  refine aE ?_
  refine awp_ret ?_
  exact oF hF [] []

/-! ### strings.Compare -/
def strings_Compare_R (qa : List UInt8) (qb : List UInt8) (r : Unit) : TV × Mem := (.v (.one (.d (.int .i64 (Lib.compareBytes qa qb)))), ⟨[], []⟩)

theorem strings_Compare_ok {qa : List UInt8} {qb : List UInt8} {r} (hF : strings_Compare qa qb = some r) : Holds prog 87 [.v (.one (.d (.str qa))), .v (.one (.d (.str qb)))] ⟨[], []⟩ (Is (strings_Compare_R qa qb r)) := by
  unfold strings_Compare at hF
  refine holds_of_awp hΓ (fn := f87) (c := cB f87) (A := 0) (nx := 0) (by kernel_rfl) (by kernel_rfl) (by kernel_rfl) (by kernel_rfl) (by kernel_rfl) (by kernel_rfl) (lowc_of (by kernel_rfl)) ?_
  show Awp prog 0 8 (cB f87) _ _
  refine awp_seq ?_
  refine awp_region ?_
  refine aR 1 ?_
  refine aE ?_
  refine awp_seq ?_
  refine bE hF fun _ h1 hF => ?_
  refine awp_region ?_
  refine aR 2 ?_
  refine aC (bytealg_CompareString_ok h1) [] [] [] ?_
  refine aR 1 ?_
  refine aE ?_
  refine awp_ret ?_
  exact oF hF [] []

/-! ### beaconfleet/fleetmake.cellOrder -/
def fleetmake_cellOrder_R (qa : api_Cell) (qb : api_Cell) (r : Unit) : TV × Mem := (.v (.one (.d (.int .i64 (Lib.compareBytes qa.Prop_.Name qb.Prop_.Name)))), ⟨[], []⟩)

theorem fleetmake_cellOrder_ok {qa : api_Cell} {qb : api_Cell} {r} (hF : fleetmake_cellOrder qa qb = some r) : Holds prog 49 [.v (.agg [.d (.str qa.Prop_.Name), .d (.int .i64 qa.Prop_.Value.Kind), .d (.bool qa.Prop_.Value.Flag), .d (.int .i64 qa.Prop_.Value.Number), .d (.str qa.Prop_.Value.Words), .d (.int .i64 qa.Stamp.At), .d (.str qa.Stamp.By), .d (.int .i64 qa.Stamp.No)]), .v (.agg [.d (.str qb.Prop_.Name), .d (.int .i64 qb.Prop_.Value.Kind), .d (.bool qb.Prop_.Value.Flag), .d (.int .i64 qb.Prop_.Value.Number), .d (.str qb.Prop_.Value.Words), .d (.int .i64 qb.Stamp.At), .d (.str qb.Stamp.By), .d (.int .i64 qb.Stamp.No)])] ⟨[], []⟩ (Is (fleetmake_cellOrder_R qa qb r)) := by
  unfold fleetmake_cellOrder at hF
  refine holds_of_awp hΓ (fn := f49) (c := cB f49) (A := 0) (nx := 0) (by kernel_rfl) (by kernel_rfl) (by kernel_rfl) (by kernel_rfl) (by kernel_rfl) (by kernel_rfl) (lowc_of (by kernel_rfl)) ?_
  show Awp prog 0 12 (cB f49) _ _
  refine awp_seq ?_
  refine awp_region ?_
  refine aR 3 ?_
  refine aE ?_
  refine awp_seq ?_
  refine bE hF fun _ h1 hF => ?_
  refine awp_region ?_
  refine aR 6 ?_
  refine aC (strings_Compare_ok h1) [] [] [] ?_
  refine aR 1 ?_
  refine aE ?_
  refine awp_ret ?_
  exact oF hF [] []

/-! ### slices.insertionSortCmpFunc[beaconfleet/api.Cell] -/
def slices_insertionSortCmpFunc_api_Cell_o0_f3_fleetmake_cellOrder_x3_k : Bool → AEx
  | _ => .normal

def slices_insertionSortCmpFunc_api_Cell_o0_f3_fleetmake_cellOrder_x3_S (qa : Int) (qb : Int) (vi : Int) (vl3 : List api_Cell) (vj1 : Int) : Bool → St
  | vx4 => Mem.st ⟨[(0, ⟨49, 8, List.map api_Cell.enc vl3⟩)], []⟩ (tl [(0, .v (.one (.own 0 none))), (1, .v (.one (.d (.int .i64 qa)))), (2, .v (.one (.d (.int .i64 qb)))), (3, .v (.one (.fn 49 []))), (8, .v (.one (.d (.int .i64 vi)))), (9, .v (.one (.d (.int .i64 vj1)))), (34, .v (.one (.d (.bool vx4))))]) 1

def slices_insertionSortCmpFunc_api_Cell_o0_f3_fleetmake_cellOrder_x3_I (qa : Int) (qb : Int) (vi : Int) (vl3 : List api_Cell) (vj1 : Int) : St := Mem.st ⟨[(0, ⟨49, 8, List.map api_Cell.enc vl3⟩)], []⟩ (tl [(0, .v (.one (.own 0 none))), (1, .v (.one (.d (.int .i64 qa)))), (2, .v (.one (.d (.int .i64 qb)))), (3, .v (.one (.fn 49 []))), (8, .v (.one (.d (.int .i64 vi)))), (9, .v (.one (.d (.int .i64 vj1))))]) 1

theorem slices_insertionSortCmpFunc_api_Cell_o0_f3_fleetmake_cellOrder_x3_ok (qa : Int) (qb : Int) (vi : Int) (vl3 : List api_Cell) (vj1 : Int) {r} (hF : slices_insertionSortCmpFunc_api_Cell_o0_f3_fleetmake_cellOrder_x3 qa vl3 vj1 = some r) : Awp prog 1 53 (cL (cL (cL (cL (cR (cL (cL (cR (cL (cL (cR (cB f140)))))))))))) (Out 1 slices_insertionSortCmpFunc_api_Cell_o0_f3_fleetmake_cellOrder_x3_k (slices_insertionSortCmpFunc_api_Cell_o0_f3_fleetmake_cellOrder_x3_S qa qb vi vl3 vj1) r) (slices_insertionSortCmpFunc_api_Cell_o0_f3_fleetmake_cellOrder_x3_I qa qb vi vl3 vj1) := by
  unfold slices_insertionSortCmpFunc_api_Cell_o0_f3_fleetmake_cellOrder_x3 at hF
  refine cE hF (fun h2 hF => ?_) fun h2 hF => ?_
  · refine bE hF fun vy15 h3 hF => ?_
    refine bE hF fun vy16 h4 hF => ?_
    refine bE hF fun _ h5 hF => ?_
    refine aD ?_
    refine dR 2 ?_
    refine dB h2 ?_
    refine dR 4 ?_
    refine dX (x_idxO api_Cell.enc 0 h3) ?_
    refine dX (x_ldE api_Cell.enc h3) ?_
    refine dR 3 ?_
    refine dX (x_idxO api_Cell.enc 0 h4) ?_
    refine dX (x_ldE api_Cell.enc h4) ?_
    refine dC (fleetmake_cellOrder_ok h5) [] [] [] ?_
    refine dR 2 ?_
    refine dE ?_
    exact oO hF [] [] rfl
  · refine aD ?_
    refine dR 2 ?_
    refine dB h2 ?_
    refine dR 14 ?_
    refine dE ?_
    exact oO hF [] [] rfl

def slices_insertionSortCmpFunc_api_Cell_o0_f3_fleetmake_cellOrder_x2_k : (List api_Cell) → AEx
  | _ => .exit 2

def slices_insertionSortCmpFunc_api_Cell_o0_f3_fleetmake_cellOrder_x2_S (qa : Int) (qb : Int) (vi : Int) : (List api_Cell) → St
  | vl4 => Mem.st ⟨[(0, ⟨49, 8, List.map api_Cell.enc vl4⟩)], []⟩ (tl [(0, .v (.one (.own 0 none))), (1, .v (.one (.d (.int .i64 qa)))), (2, .v (.one (.d (.int .i64 qb)))), (3, .v (.one (.fn 49 []))), (8, .v (.one (.d (.int .i64 vi))))]) 1

def slices_insertionSortCmpFunc_api_Cell_o0_f3_fleetmake_cellOrder_x2_H (qa : Int) (qb : Int) (vi : Int) : (List api_Cell) × Int → St
  | (vl3, vj1) => Mem.st ⟨[(0, ⟨49, 8, List.map api_Cell.enc vl3⟩)], []⟩ (tl [(0, .v (.one (.own 0 none))), (1, .v (.one (.d (.int .i64 qa)))), (2, .v (.one (.d (.int .i64 qb)))), (3, .v (.one (.fn 49 []))), (8, .v (.one (.d (.int .i64 vi)))), (9, .v (.one (.d (.int .i64 vj1))))]) 1

theorem slices_insertionSortCmpFunc_api_Cell_o0_f3_fleetmake_cellOrder_x2_ok (qa : Int) (qb : Int) (vi : Int) (s : (List api_Cell) × Int) (r : ((List api_Cell) × Int) ⊕ ((List api_Cell))) (hF : slices_insertionSortCmpFunc_api_Cell_o0_f3_fleetmake_cellOrder_x2 qa s = some r) : Awp prog 1 53 (cL (cL (cR (cL (cL (cR (cL (cL (cR (cB f140)))))))))) (Out 1 (kk slices_insertionSortCmpFunc_api_Cell_o0_f3_fleetmake_cellOrder_x2_k) (SS (slices_insertionSortCmpFunc_api_Cell_o0_f3_fleetmake_cellOrder_x2_H qa qb vi) (slices_insertionSortCmpFunc_api_Cell_o0_f3_fleetmake_cellOrder_x2_S qa qb vi)) r) (slices_insertionSortCmpFunc_api_Cell_o0_f3_fleetmake_cellOrder_x2_H qa qb vi s) := by
  obtain ⟨vl3, vj1⟩ := s
  unfold slices_insertionSortCmpFunc_api_Cell_o0_f3_fleetmake_cellOrder_x2 at hF
  refine awp_seq ?_
  refine awp_seq ?_
  refine awp_to (st' := slices_insertionSortCmpFunc_api_Cell_o0_f3_fleetmake_cellOrder_x3_I qa qb vi vl3 vj1) (oT [] []) ?_
  refine bE hF fun vx4_1 h6 hF => ?_
  refine awp_sub (slices_insertionSortCmpFunc_api_Cell_o0_f3_fleetmake_cellOrder_x3_ok qa qb vi vl3 vj1 h6) ?_
  refine cE hF (fun h7 hF => ?_) fun h7 hF => ?_
  · refine awp_true (by kernel_rfl) h7 ?_
    refine awp_skip ?_
    refine awp_seq ?_
    refine awp_block ?_
    refine bE hF fun vy17 h8 hF => ?_
    refine bE hF fun vy18 h9 hF => ?_
    refine bE hF fun vy19 h10 hF => ?_
    refine aDw [0] ?_
    refine dR 8 ?_
    refine dI api_Cell.enc 0 h8 rfl ?_
    refine dX (x_ldE api_Cell.enc h8) ?_
    refine dR 2 ?_
    refine dI api_Cell.enc 0 h9 rfl ?_
    refine dX (x_ldE api_Cell.enc h9) ?_
    refine dI api_Cell.enc 0 h9 rfl ?_
    refine dW api_Cell.enc (api_Cell.mk (api_Prop.mk vy17.Prop_.Name (api_Value.mk vy17.Prop_.Value.Kind vy17.Prop_.Value.Flag vy17.Prop_.Value.Number vy17.Prop_.Value.Words)) (api_Stamp.mk vy17.Stamp.At vy17.Stamp.By vy17.Stamp.No)) h9 rfl ?_
    refine dI api_Cell.enc 0 h10 rfl ?_
    refine dW api_Cell.enc (api_Cell.mk (api_Prop.mk vy18.Prop_.Name (api_Value.mk vy18.Prop_.Value.Kind vy18.Prop_.Value.Flag vy18.Prop_.Value.Number vy18.Prop_.Value.Words)) (api_Stamp.mk vy18.Stamp.At vy18.Stamp.By vy18.Stamp.No)) h10 rfl ?_
    refine dE ?_
    refine awp_region ?_
    refine aR 3 ?_
    refine aE ?_
    exact oO hF [] [] rfl
  · refine awp_false (by kernel_rfl) h7 ?_
    refine awp_exit ?_
    exact oO hF [] [] rfl

def slices_insertionSortCmpFunc_api_Cell_o0_f3_fleetmake_cellOrder_x1_k : (List api_Cell) → AEx
  | _ => .exit 0

def slices_insertionSortCmpFunc_api_Cell_o0_f3_fleetmake_cellOrder_x1_S (qa : Int) (qb : Int) : (List api_Cell) → St
  | vl5 => Mem.st ⟨[(0, ⟨49, 8, List.map api_Cell.enc vl5⟩)], []⟩ (tl []) 1

def slices_insertionSortCmpFunc_api_Cell_o0_f3_fleetmake_cellOrder_x1_H (qa : Int) (qb : Int) : (List api_Cell) × Int → St
  | (vl, vi) => Mem.st ⟨[(0, ⟨49, 8, List.map api_Cell.enc vl⟩)], []⟩ (tl [(0, .v (.one (.own 0 none))), (1, .v (.one (.d (.int .i64 qa)))), (2, .v (.one (.d (.int .i64 qb)))), (3, .v (.one (.fn 49 []))), (8, .v (.one (.d (.int .i64 vi))))]) 1

theorem slices_insertionSortCmpFunc_api_Cell_o0_f3_fleetmake_cellOrder_x1_ok (qa : Int) (qb : Int) (s : (List api_Cell) × Int) (r : ((List api_Cell) × Int) ⊕ ((List api_Cell))) (hF : slices_insertionSortCmpFunc_api_Cell_o0_f3_fleetmake_cellOrder_x1 qa qb s = some r) : Awp prog 1 53 (cL (cL (cR (cB f140)))) (Out 1 (kk slices_insertionSortCmpFunc_api_Cell_o0_f3_fleetmake_cellOrder_x1_k) (SS (slices_insertionSortCmpFunc_api_Cell_o0_f3_fleetmake_cellOrder_x1_H qa qb) (slices_insertionSortCmpFunc_api_Cell_o0_f3_fleetmake_cellOrder_x1_S qa qb)) r) (slices_insertionSortCmpFunc_api_Cell_o0_f3_fleetmake_cellOrder_x1_H qa qb s) := by
  obtain ⟨vl, vi⟩ := s
  unfold slices_insertionSortCmpFunc_api_Cell_o0_f3_fleetmake_cellOrder_x1 at hF
  refine awp_seq ?_
  refine awp_seq ?_
  refine awp_region ?_
  refine aR 3 ?_
  refine aE ?_
  refine cE hF (fun h1 hF => ?_) fun h1 hF => ?_
  · refine awp_true (by kernel_rfl) h1 ?_
    refine awp_skip ?_
    refine awp_seq ?_
    refine awp_block ?_
    refine awp_seq ?_
    refine awp_region ?_
    refine aR 2 ?_
    refine aE ?_
    refine awp_block ?_
    refine awp_to (st' := slices_insertionSortCmpFunc_api_Cell_o0_f3_fleetmake_cellOrder_x2_H qa qb vi (vl, vi)) (oT [] []) ?_
    refine bE hF fun vl4_1 h11 hF => ?_
    refine awp_sub (awp_loop' (slices_insertionSortCmpFunc_api_Cell_o0_f3_fleetmake_cellOrder_x2_H qa qb vi) slices_insertionSortCmpFunc_api_Cell_o0_f3_fleetmake_cellOrder_x2_k (slices_insertionSortCmpFunc_api_Cell_o0_f3_fleetmake_cellOrder_x2_S qa qb vi) (by intro x; exact fun h => nomatch h) h11 (slices_insertionSortCmpFunc_api_Cell_o0_f3_fleetmake_cellOrder_x2_ok qa qb vi)) ?_
    refine awp_region ?_
    refine aR 3 ?_
    refine aE ?_
    exact oO hF [] [] rfl
  · refine awp_false (by kernel_rfl) h1 ?_
    refine awp_exit ?_
    exact oO hF [] [] rfl

def slices_insertionSortCmpFunc_api_Cell_o0_f3_fleetmake_cellOrder_R (qdata : List api_Cell) (qa : Int) (qb : Int) (r : (List api_Cell)) : TV × Mem := (.tup [], ⟨[(0, ⟨49, 8, List.map api_Cell.enc r⟩)], []⟩)

theorem slices_insertionSortCmpFunc_api_Cell_o0_f3_fleetmake_cellOrder_ok {qdata : List api_Cell} {qa : Int} {qb : Int} {r} (hF : slices_insertionSortCmpFunc_api_Cell_o0_f3_fleetmake_cellOrder qdata qa qb = some r) : Holds prog 140 [.v (.one (.own 0 none)), .v (.one (.d (.int .i64 qa))), .v (.one (.d (.int .i64 qb))), .v (.one (.fn 49 []))] ⟨[(0, ⟨49, 8, List.map api_Cell.enc qdata⟩)], []⟩ (Is (slices_insertionSortCmpFunc_api_Cell_o0_f3_fleetmake_cellOrder_R qdata qa qb r)) := by
  unfold slices_insertionSortCmpFunc_api_Cell_o0_f3_fleetmake_cellOrder at hF
  refine holds_of_awp hΓ (fn := f140) (c := cB f140) (A := 1) (nx := 1) (by kernel_rfl) (by kernel_rfl) (by kernel_rfl) (by kernel_rfl) (by kernel_rfl) (by kernel_rfl) (lowc_of (by kernel_rfl)) ?_
  show Awp prog 1 53 (cB f140) _ _
  refine awp_seq ?_
  refine awp_region ?_
  refine aR 3 ?_
  refine aE ?_
  refine awp_block ?_
  refine awp_to (st' := slices_insertionSortCmpFunc_api_Cell_o0_f3_fleetmake_cellOrder_x1_H qa qb (qdata, IntKind.wrap .i64 (qa + 1))) (oT [] []) ?_
  refine bE hF fun vl5_1 h12 hF => ?_
  refine awp_sub (awp_loop' (slices_insertionSortCmpFunc_api_Cell_o0_f3_fleetmake_cellOrder_x1_H qa qb) slices_insertionSortCmpFunc_api_Cell_o0_f3_fleetmake_cellOrder_x1_k (slices_insertionSortCmpFunc_api_Cell_o0_f3_fleetmake_cellOrder_x1_S qa qb) (by intro x; exact fun h => nomatch h) h12 (slices_insertionSortCmpFunc_api_Cell_o0_f3_fleetmake_cellOrder_x1_ok qa qb)) ?_
  exact oF hF [] []

/-! ### slices.stableCmpFunc[beaconfleet/api.Cell] -/
def slices_stableCmpFunc_api_Cell_o0_f2_fleetmake_cellOrder_x1_k : ((List api_Cell) × Int) → AEx
  | _ => .exit 0

def slices_stableCmpFunc_api_Cell_o0_f2_fleetmake_cellOrder_x1_S (qn : Int) : ((List api_Cell) × Int) → St
  | (vl1, va1) => Mem.st ⟨[(0, ⟨49, 8, List.map api_Cell.enc vl1⟩)], []⟩ (tl [(0, .v (.one (.own 0 none))), (1, .v (.one (.d (.int .i64 qn)))), (2, .v (.one (.fn 49 []))), (6, .v (.one (.d (.int .i64 20)))), (7, .v (.one (.d (.int .i64 va1))))]) 1

def slices_stableCmpFunc_api_Cell_o0_f2_fleetmake_cellOrder_x1_H (qn : Int) : (List api_Cell) × Int × Int → St
  | (vl, va, vb) => Mem.st ⟨[(0, ⟨49, 8, List.map api_Cell.enc vl⟩)], []⟩ (tl [(0, .v (.one (.own 0 none))), (1, .v (.one (.d (.int .i64 qn)))), (2, .v (.one (.fn 49 []))), (6, .v (.one (.d (.int .i64 20)))), (7, .v (.one (.d (.int .i64 va)))), (8, .v (.one (.d (.int .i64 vb))))]) 1

theorem slices_stableCmpFunc_api_Cell_o0_f2_fleetmake_cellOrder_x1_ok (qn : Int) (s : (List api_Cell) × Int × Int) (r : ((List api_Cell) × Int × Int) ⊕ (((List api_Cell) × Int))) (hF : slices_stableCmpFunc_api_Cell_o0_f2_fleetmake_cellOrder_x1 qn s = some r) : Awp prog 1 63 (cL (cL (cL (cR (cR (cB f103)))))) (Out 1 (kk slices_stableCmpFunc_api_Cell_o0_f2_fleetmake_cellOrder_x1_k) (SS (slices_stableCmpFunc_api_Cell_o0_f2_fleetmake_cellOrder_x1_H qn) (slices_stableCmpFunc_api_Cell_o0_f2_fleetmake_cellOrder_x1_S qn)) r) (slices_stableCmpFunc_api_Cell_o0_f2_fleetmake_cellOrder_x1_H qn s) := by
  obtain ⟨vl, va, vb⟩ := s
  unfold slices_stableCmpFunc_api_Cell_o0_f2_fleetmake_cellOrder_x1 at hF
  refine awp_seq ?_
  refine awp_seq ?_
  refine awp_region ?_
  refine aR 3 ?_
  refine aE ?_
  refine cE hF (fun h1 hF => ?_) fun h1 hF => ?_
  · refine awp_true (by kernel_rfl) h1 ?_
    refine awp_skip ?_
    refine awp_block ?_
    refine awp_seq ?_
    refine bE hF fun vl6_1 h2 hF => ?_
    refine gE hF fun h3 hF => ?_
    refine awp_region ?_
    refine aR 4 ?_
    refine aCp (slices_insertionSortCmpFunc_api_Cell_o0_f3_fleetmake_cellOrder_ok h2) ⟨⟨rfl, rfl, pin1 h3⟩, trivial⟩ [] [] [] ?_
    refine aE ?_
    refine awp_seq ?_
    refine awp_region ?_
    refine aR 2 ?_
    refine aE ?_
    refine awp_region ?_
    refine aR 4 ?_
    refine aE ?_
    exact oO hF [] [] rfl
  · refine awp_false (by kernel_rfl) h1 ?_
    refine awp_exit ?_
    exact oO hF [] [] rfl

def slices_stableCmpFunc_api_Cell_o0_f2_fleetmake_cellOrder_x3_k : Unit → AEx
  | _ => .exit 4

def slices_stableCmpFunc_api_Cell_o0_f2_fleetmake_cellOrder_x3_S (qn : Int) (vl6_2 : List api_Cell) (vblockSize : Int) : Unit → St
  | _ => Mem.st ⟨[(0, ⟨49, 8, List.map api_Cell.enc vl6_2⟩)], []⟩ (tl [(0, .v (.one (.own 0 none))), (1, .v (.one (.d (.int .i64 qn)))), (2, .v (.one (.fn 49 []))), (6, .v (.one (.d (.int .i64 vblockSize)))), (7, .v (.one (.d (.int .i64 0))))]) 1

def slices_stableCmpFunc_api_Cell_o0_f2_fleetmake_cellOrder_x3_H (qn : Int) (vl6_2 : List api_Cell) (vblockSize : Int) : Unit → St
  | _ => Mem.st ⟨[(0, ⟨49, 8, List.map api_Cell.enc vl6_2⟩)], []⟩ (tl [(0, .v (.one (.own 0 none))), (1, .v (.one (.d (.int .i64 qn)))), (2, .v (.one (.fn 49 []))), (6, .v (.one (.d (.int .i64 vblockSize)))), (7, .v (.one (.d (.int .i64 0)))), (8, .v (.one (.d (.int .i64 (IntKind.wrap .i64 ((2 : Int) * vblockSize))))))]) 1

theorem slices_stableCmpFunc_api_Cell_o0_f2_fleetmake_cellOrder_x3_ok (qn : Int) (vl6_2 : List api_Cell) (vblockSize : Int) (s : Unit) (r : (Unit) ⊕ (Unit)) (hF : slices_stableCmpFunc_api_Cell_o0_f2_fleetmake_cellOrder_x3 qn vblockSize s = some r) : Awp prog 1 63 (cL (cL (cL (cR (cL (cR (cL (cL (cR (cR (cR (cR (cB f103))))))))))))) (Out 1 (kk slices_stableCmpFunc_api_Cell_o0_f2_fleetmake_cellOrder_x3_k) (SS (slices_stableCmpFunc_api_Cell_o0_f2_fleetmake_cellOrder_x3_H qn vl6_2 vblockSize) (slices_stableCmpFunc_api_Cell_o0_f2_fleetmake_cellOrder_x3_S qn vl6_2 vblockSize)) r) (slices_stableCmpFunc_api_Cell_o0_f2_fleetmake_cellOrder_x3_H qn vl6_2 vblockSize s) := by
  unfold slices_stableCmpFunc_api_Cell_o0_f2_fleetmake_cellOrder_x3 at hF
  refine awp_seq ?_
  refine awp_seq ?_
  refine awp_region ?_
  refine aR 3 ?_
  refine aE ?_
  refine cE hF (fun h8 hF => ?_) fun h8 hF => ?_
  · refine awp_true (by kernel_rfl) h8 ?_
    refine awp_skip ?_
    refine awp_block ?_
    refine awp_seq ?_
    exact nE hF
  · refine awp_false (by kernel_rfl) h8 ?_
    refine awp_exit ?_
    exact oO hF [] [] rfl

def slices_stableCmpFunc_api_Cell_o0_f2_fleetmake_cellOrder_x2_k : Unit → AEx
  | _ => .exit 2

def slices_stableCmpFunc_api_Cell_o0_f2_fleetmake_cellOrder_x2_S (qn : Int) (vl6_2 : List api_Cell) : Unit → St
  | _ => Mem.st ⟨[(0, ⟨49, 8, List.map api_Cell.enc vl6_2⟩)], []⟩ (tl []) 1

def slices_stableCmpFunc_api_Cell_o0_f2_fleetmake_cellOrder_x2_H (qn : Int) (vl6_2 : List api_Cell) : Int → St
  | vblockSize => Mem.st ⟨[(0, ⟨49, 8, List.map api_Cell.enc vl6_2⟩)], []⟩ (tl [(0, .v (.one (.own 0 none))), (1, .v (.one (.d (.int .i64 qn)))), (2, .v (.one (.fn 49 []))), (6, .v (.one (.d (.int .i64 vblockSize))))]) 1

theorem slices_stableCmpFunc_api_Cell_o0_f2_fleetmake_cellOrder_x2_ok (qn : Int) (vl6_2 : List api_Cell) (vblockSize : Int) (r : (Int) ⊕ (Unit)) (hF : slices_stableCmpFunc_api_Cell_o0_f2_fleetmake_cellOrder_x2 qn vblockSize = some r) : Awp prog 1 63 (cL (cL (cR (cR (cR (cR (cB f103))))))) (Out 1 (kk slices_stableCmpFunc_api_Cell_o0_f2_fleetmake_cellOrder_x2_k) (SS (slices_stableCmpFunc_api_Cell_o0_f2_fleetmake_cellOrder_x2_H qn vl6_2) (slices_stableCmpFunc_api_Cell_o0_f2_fleetmake_cellOrder_x2_S qn vl6_2)) r) (slices_stableCmpFunc_api_Cell_o0_f2_fleetmake_cellOrder_x2_H qn vl6_2 vblockSize) := by
  unfold slices_stableCmpFunc_api_Cell_o0_f2_fleetmake_cellOrder_x2 at hF
  refine awp_seq ?_
  refine awp_seq ?_
  refine awp_region ?_
  refine aR 3 ?_
  refine aE ?_
  refine cE hF (fun h7 hF => ?_) fun h7 hF => ?_
  · refine awp_true (by kernel_rfl) h7 ?_
    refine awp_skip ?_
    refine awp_block ?_
    refine awp_seq ?_
    refine awp_region ?_
    refine aR 4 ?_
    refine aE ?_
    refine awp_seq ?_
    refine awp_block ?_
    refine awp_to (st' := slices_stableCmpFunc_api_Cell_o0_f2_fleetmake_cellOrder_x3_H qn vl6_2 vblockSize ()) (oT [] []) ?_
    refine bE hF fun _ h10 hF => ?_
    refine awp_sub (awp_loop' (slices_stableCmpFunc_api_Cell_o0_f2_fleetmake_cellOrder_x3_H qn vl6_2 vblockSize) slices_stableCmpFunc_api_Cell_o0_f2_fleetmake_cellOrder_x3_k (slices_stableCmpFunc_api_Cell_o0_f2_fleetmake_cellOrder_x3_S qn vl6_2 vblockSize) (by intro x; exact fun h => nomatch h) h10 (slices_stableCmpFunc_api_Cell_o0_f2_fleetmake_cellOrder_x3_ok qn vl6_2 vblockSize)) ?_
    refine awp_seq ?_
    refine awp_seq ?_
    refine awp_region ?_
    refine aR 4 ?_
    refine aE ?_
    refine awp_seq ?_
    refine awp_region ?_
    refine aR 3 ?_
    refine aE ?_
    refine cE hF (fun h11 hF => ?_) fun h11 hF => ?_
    · refine awp_true (by kernel_rfl) h11 ?_
      exact nE hF
    · refine awp_false (by kernel_rfl) h11 ?_
      refine awp_skip ?_
      refine awp_region ?_
      refine aR 3 ?_
      refine aE ?_
      exact oO hF [] [] rfl
  · refine awp_false (by kernel_rfl) h7 ?_
    refine awp_exit ?_
    exact oO hF [] [] rfl

def slices_stableCmpFunc_api_Cell_o0_f2_fleetmake_cellOrder_R (qdata : List api_Cell) (qn : Int) (r : (List api_Cell)) : TV × Mem := (.tup [], ⟨[(0, ⟨49, 8, List.map api_Cell.enc r⟩)], []⟩)

theorem slices_stableCmpFunc_api_Cell_o0_f2_fleetmake_cellOrder_ok {qdata : List api_Cell} {qn : Int} {r} (hF : slices_stableCmpFunc_api_Cell_o0_f2_fleetmake_cellOrder qdata qn = some r) : Holds prog 103 [.v (.one (.own 0 none)), .v (.one (.d (.int .i64 qn))), .v (.one (.fn 49 []))] ⟨[(0, ⟨49, 8, List.map api_Cell.enc qdata⟩)], []⟩ (Is (slices_stableCmpFunc_api_Cell_o0_f2_fleetmake_cellOrder_R qdata qn r)) := by
  unfold slices_stableCmpFunc_api_Cell_o0_f2_fleetmake_cellOrder at hF
  refine holds_of_awp hΓ (fn := f103) (c := cB f103) (A := 1) (nx := 1) (by kernel_rfl) (by kernel_rfl) (by kernel_rfl) (by kernel_rfl) (by kernel_rfl) (by kernel_rfl) (lowc_of (by kernel_rfl)) ?_
  show Awp prog 1 63 (cB f103) _ _
  refine awp_seq ?_
  refine awp_region ?_
  refine aR 1 ?_
  refine aE ?_
  refine awp_seq ?_
  refine awp_region ?_
  refine aR 3 ?_
  refine aE ?_
  refine awp_seq ?_
  refine awp_block ?_
  refine awp_to (st' := slices_stableCmpFunc_api_Cell_o0_f2_fleetmake_cellOrder_x1_H qn (qdata, 0, 20)) (oT [] []) ?_
  refine bE hF fun x h4 hF => ?_
  obtain ⟨vl1_1, va1_1⟩ := x
  refine awp_sub (awp_loop' (slices_stableCmpFunc_api_Cell_o0_f2_fleetmake_cellOrder_x1_H qn) slices_stableCmpFunc_api_Cell_o0_f2_fleetmake_cellOrder_x1_k (slices_stableCmpFunc_api_Cell_o0_f2_fleetmake_cellOrder_x1_S qn) (by intro x; exact fun h => nomatch h) h4 (slices_stableCmpFunc_api_Cell_o0_f2_fleetmake_cellOrder_x1_ok qn)) ?_
  refine awp_seq ?_
  refine bE hF fun vl6_2 h5 hF => ?_
  refine gE hF fun h6 hF => ?_
  refine awp_region ?_
  refine aR 4 ?_
  refine aCp (slices_insertionSortCmpFunc_api_Cell_o0_f3_fleetmake_cellOrder_ok h5) ⟨⟨rfl, rfl, pin1 h6⟩, trivial⟩ [] [] [] ?_
  refine aE ?_
  refine awp_block ?_
  refine awp_to (st' := slices_stableCmpFunc_api_Cell_o0_f2_fleetmake_cellOrder_x2_H qn vl6_2 20) (oT [] []) ?_
  refine bE hF fun _ h13 hF => ?_
  refine awp_sub (awp_loop' (slices_stableCmpFunc_api_Cell_o0_f2_fleetmake_cellOrder_x2_H qn vl6_2) slices_stableCmpFunc_api_Cell_o0_f2_fleetmake_cellOrder_x2_k (slices_stableCmpFunc_api_Cell_o0_f2_fleetmake_cellOrder_x2_S qn vl6_2) (by intro x; exact fun h => nomatch h) h13 (slices_stableCmpFunc_api_Cell_o0_f2_fleetmake_cellOrder_x2_ok qn vl6_2)) ?_
  exact oF hF [] []

/-! ### slices.SortStableFunc[[]beaconfleet/api.Cell,beaconfleet/api.Cell] -/
def slices_SortStableFunc_api_Cell_api_Cell_o0_f1_fleetmake_cellOrder_R (qx : List api_Cell) (r : (List api_Cell)) : TV × Mem := (.tup [], ⟨[(0, ⟨49, 8, List.map api_Cell.enc r⟩)], []⟩)

theorem slices_SortStableFunc_api_Cell_api_Cell_o0_f1_fleetmake_cellOrder_ok {qx : List api_Cell} {r} (hF : slices_SortStableFunc_api_Cell_api_Cell_o0_f1_fleetmake_cellOrder qx = some r) : Holds prog 48 [.v (.one (.own 0 none)), .v (.one (.fn 49 []))] ⟨[(0, ⟨49, 8, List.map api_Cell.enc qx⟩)], []⟩ (Is (slices_SortStableFunc_api_Cell_api_Cell_o0_f1_fleetmake_cellOrder_R qx r)) := by
  unfold slices_SortStableFunc_api_Cell_api_Cell_o0_f1_fleetmake_cellOrder at hF
  refine holds_of_awp hΓ (fn := f48) (c := cB f48) (A := 1) (nx := 1) (by kernel_rfl) (by kernel_rfl) (by kernel_rfl) (by kernel_rfl) (by kernel_rfl) (by kernel_rfl) (lowc_of (by kernel_rfl)) ?_
  show Awp prog 1 9 (cB f48) _ _
  refine bE hF fun vl2 h1 hF => ?_
  refine gE hF fun h2 hF => ?_
  refine awp_region ?_
  refine aR 2 ?_
  refine aL api_Cell.enc qx ?_
  refine aR 1 ?_
  refine aCp (slices_stableCmpFunc_api_Cell_o0_f2_fleetmake_cellOrder_ok h1) ⟨⟨rfl, rfl, pin1 h2⟩, trivial⟩ [] [] [] ?_
  refine aE ?_
  exact oF hF [] []

/-! ### (*beaconfleet/fleetmake.Stream).RightCells$1 -/
def fleetmake_Stream_RightCells_1_R (qa : api_Cell) (qb : api_Cell) (r : Unit) : TV × Mem := (.v (.one (.d (.bool (decide (qa.Prop_.Name = qb.Prop_.Name))))), ⟨[], []⟩)

theorem fleetmake_Stream_RightCells_1_ok {qa : api_Cell} {qb : api_Cell} {r} (hF : fleetmake_Stream_RightCells_1 qa qb = some r) : Holds prog 102 [.v (.agg [.d (.str qa.Prop_.Name), .d (.int .i64 qa.Prop_.Value.Kind), .d (.bool qa.Prop_.Value.Flag), .d (.int .i64 qa.Prop_.Value.Number), .d (.str qa.Prop_.Value.Words), .d (.int .i64 qa.Stamp.At), .d (.str qa.Stamp.By), .d (.int .i64 qa.Stamp.No)]), .v (.agg [.d (.str qb.Prop_.Name), .d (.int .i64 qb.Prop_.Value.Kind), .d (.bool qb.Prop_.Value.Flag), .d (.int .i64 qb.Prop_.Value.Number), .d (.str qb.Prop_.Value.Words), .d (.int .i64 qb.Stamp.At), .d (.str qb.Stamp.By), .d (.int .i64 qb.Stamp.No)])] ⟨[], []⟩ (Is (fleetmake_Stream_RightCells_1_R qa qb r)) := by
  unfold fleetmake_Stream_RightCells_1 at hF
  refine holds_of_awp hΓ (fn := f102) (c := cB f102) (A := 0) (nx := 0) (by kernel_rfl) (by kernel_rfl) (by kernel_rfl) (by kernel_rfl) (by kernel_rfl) (by kernel_rfl) (lowc_of (by kernel_rfl)) ?_
  show Awp prog 0 12 (cB f102) _ _
  refine awp_seq ?_
  refine awp_region ?_
  refine aR 3 ?_
  refine aE ?_
  refine awp_seq ?_
  refine awp_region ?_
  refine aR 8 ?_
  refine aE ?_
  refine awp_ret ?_
  exact oF hF [] []

/-! ### slices.CompactFunc[[]beaconfleet/api.Cell,beaconfleet/api.Cell] -/
def slices_CompactFunc_api_Cell_api_Cell_o0_f1_fleetmake_Stream_RightCells_1_x3_k : ((List api_Cell) × Int) → AEx
  | _ => .normal

def slices_CompactFunc_api_Cell_api_Cell_o0_f1_fleetmake_Stream_RightCells_1_x3_S (qx : List api_Cell) (vx : Int) (vl4 : List api_Cell) (vx6 : Int) (vx7 : Int) : ((List api_Cell) × Int) → St
  | (vl6, vx9) => Mem.st ⟨[(0, ⟨49, 8, List.map api_Cell.enc vl6⟩)], []⟩ (tl [(0, .v (.one (.own 0 none))), (1, .v (.one (.fn 102 []))), (5, .v (.one (.d (.int .i64 vx9)))), (6, .v (.one (.view 0 vx.toNat ((qx.length : Int).toNat - vx.toNat)))), (7, .v (.one (.d (.int .i64 vx7))))]) 1

def slices_CompactFunc_api_Cell_api_Cell_o0_f1_fleetmake_Stream_RightCells_1_x3_I (qx : List api_Cell) (vx : Int) (vl4 : List api_Cell) (vx6 : Int) (vx7 : Int) : St := Mem.st ⟨[(0, ⟨49, 8, List.map api_Cell.enc vl4⟩)], []⟩ (tl [(0, .v (.one (.own 0 none))), (1, .v (.one (.fn 102 []))), (5, .v (.one (.d (.int .i64 vx6)))), (6, .v (.one (.view 0 vx.toNat ((qx.length : Int).toNat - vx.toNat)))), (7, .v (.one (.d (.int .i64 vx7))))]) 1

theorem slices_CompactFunc_api_Cell_api_Cell_o0_f1_fleetmake_Stream_RightCells_1_x3_ok (qx : List api_Cell) (vx : Int) (vl4 : List api_Cell) (vx6 : Int) (vx7 : Int) {r} (hF : slices_CompactFunc_api_Cell_api_Cell_o0_f1_fleetmake_Stream_RightCells_1_x3 qx vx vl4 vx6 vx7 = some r) : Awp prog 1 66 (cL (cR (cL (cL (cR (cL (cR (cL (cR (cL (cL (cR (cL (cL (cR (cL (cR (cR (cB f101))))))))))))))))))) (Out 1 slices_CompactFunc_api_Cell_api_Cell_o0_f1_fleetmake_Stream_RightCells_1_x3_k (slices_CompactFunc_api_Cell_api_Cell_o0_f1_fleetmake_Stream_RightCells_1_x3_S qx vx vl4 vx6 vx7) r) (slices_CompactFunc_api_Cell_api_Cell_o0_f1_fleetmake_Stream_RightCells_1_x3_I qx vx vl4 vx6 vx7) := by
  unfold slices_CompactFunc_api_Cell_api_Cell_o0_f1_fleetmake_Stream_RightCells_1_x3 at hF
  refine awp_block ?_
  refine awp_seq ?_
  refine gE hF fun h9 hF => ?_
  refine bE hF fun vy13 h10 hF => ?_
  refine gE hF fun h11 hF => ?_
  refine bE hF fun vy14 h12 hF => ?_
  refine bE hF fun _ h13 hF => ?_
  refine aD ?_
  refine dR 3 ?_
  refine dX (x_idxV api_Cell.enc 0 h9 h10) ?_
  refine dX (x_ldE api_Cell.enc h10) ?_
  refine dR 3 ?_
  refine dX (x_idxV api_Cell.enc 0 h11 h12) ?_
  refine dX (x_ldE api_Cell.enc h12) ?_
  refine dC (fleetmake_Stream_RightCells_1_ok h13) [] [] [] ?_
  refine dR 1 ?_
  refine dE ?_
  refine cE hF (fun h14 hF => ?_) fun h14 hF => ?_
  · refine awp_true (by kernel_rfl) h14 ?_
    refine awp_seq ?_
    refine bE hF fun vy15 h15 hF => ?_
    refine awp_region ?_
    refine aR 4 ?_
    refine aX (x_idxV api_Cell.enc 0 h9 h10) ?_
    refine aX (x_ldE api_Cell.enc h10) ?_
    refine aX (x_idxO api_Cell.enc 0 h15) ?_
    refine aX (x_stE api_Cell.enc (api_Cell.mk (api_Prop.mk vy13.Prop_.Name (api_Value.mk vy13.Prop_.Value.Kind vy13.Prop_.Value.Flag vy13.Prop_.Value.Number vy13.Prop_.Value.Words)) (api_Stamp.mk vy13.Stamp.At vy13.Stamp.By vy13.Stamp.No)) h15) ?_
    refine aE ?_
    refine awp_region ?_
    refine aR 3 ?_
    refine aE ?_
    exact oO hF [] [] rfl
  · refine awp_false (by kernel_rfl) h14 ?_
    refine awp_skip ?_
    exact oO hF [] [] rfl

def slices_CompactFunc_api_Cell_api_Cell_o0_f1_fleetmake_Stream_RightCells_1_x2_k : ((List api_Cell) × Int) → AEx
  | _ => .exit 2

def slices_CompactFunc_api_Cell_api_Cell_o0_f1_fleetmake_Stream_RightCells_1_x2_S (qx : List api_Cell) (vx : Int) : ((List api_Cell) × Int) → St
  | (vl7, vx10) => Mem.st ⟨[(0, ⟨49, 8, List.map api_Cell.enc vl7⟩)], []⟩ (tl [(0, .v (.one (.own 0 none))), (5, .v (.one (.d (.int .i64 vx10))))]) 1

def slices_CompactFunc_api_Cell_api_Cell_o0_f1_fleetmake_Stream_RightCells_1_x2_H (qx : List api_Cell) (vx : Int) : (List api_Cell) × Int × Int → St
  | (vl4, vx6, vx7) => Mem.st ⟨[(0, ⟨49, 8, List.map api_Cell.enc vl4⟩)], []⟩ (tl [(0, .v (.one (.own 0 none))), (1, .v (.one (.fn 102 []))), (5, .v (.one (.d (.int .i64 vx6)))), (6, .v (.one (.view 0 vx.toNat ((qx.length : Int).toNat - vx.toNat)))), (7, .v (.one (.d (.int .i64 vx7))))]) 1

theorem slices_CompactFunc_api_Cell_api_Cell_o0_f1_fleetmake_Stream_RightCells_1_x2_ok (qx : List api_Cell) (vx : Int) (s : (List api_Cell) × Int × Int) (r : ((List api_Cell) × Int × Int) ⊕ (((List api_Cell) × Int))) (hF : slices_CompactFunc_api_Cell_api_Cell_o0_f1_fleetmake_Stream_RightCells_1_x2 qx vx s = some r) : Awp prog 1 66 (cL (cL (cR (cL (cR (cL (cR (cL (cL (cR (cL (cL (cR (cL (cR (cR (cB f101))))))))))))))))) (Out 1 (kk slices_CompactFunc_api_Cell_api_Cell_o0_f1_fleetmake_Stream_RightCells_1_x2_k) (SS (slices_CompactFunc_api_Cell_api_Cell_o0_f1_fleetmake_Stream_RightCells_1_x2_H qx vx) (slices_CompactFunc_api_Cell_api_Cell_o0_f1_fleetmake_Stream_RightCells_1_x2_S qx vx)) r) (slices_CompactFunc_api_Cell_api_Cell_o0_f1_fleetmake_Stream_RightCells_1_x2_H qx vx s) := by
  obtain ⟨vl4, vx6, vx7⟩ := s
  unfold slices_CompactFunc_api_Cell_api_Cell_o0_f1_fleetmake_Stream_RightCells_1_x2 at hF
  refine awp_seq ?_
  refine awp_seq ?_
  refine awp_region ?_
  refine aR 4 ?_
  refine aE ?_
  refine cE hF (fun h8 hF => ?_) fun h8 hF => ?_
  · refine awp_true (by kernel_rfl) h8 ?_
    refine awp_skip ?_
    refine awp_seq ?_
    refine awp_to (st' := slices_CompactFunc_api_Cell_api_Cell_o0_f1_fleetmake_Stream_RightCells_1_x3_I qx vx vl4 vx6 vx7) (oT [] []) ?_
    refine bE hF fun x h16 hF => ?_
    obtain ⟨vl6_1, vx9_1⟩ := x
    refine awp_sub (slices_CompactFunc_api_Cell_api_Cell_o0_f1_fleetmake_Stream_RightCells_1_x3_ok qx vx vl4 vx6 vx7 h16) ?_
    refine awp_region ?_
    refine aR 3 ?_
    refine aE ?_
    exact oO hF [] [] rfl
  · refine awp_false (by kernel_rfl) h8 ?_
    refine awp_exit ?_
    exact oO hF [] [] rfl

def slices_CompactFunc_api_Cell_api_Cell_o0_f1_fleetmake_Stream_RightCells_1_x1_k : Unit ⊕ (List api_Cell) → AEx
  | .inl _ => .exit 0
  | .inr _ => .ret

def slices_CompactFunc_api_Cell_api_Cell_o0_f1_fleetmake_Stream_RightCells_1_x1_S (qx : List api_Cell) : Unit ⊕ (List api_Cell) → St
  | .inl _ => Mem.st ⟨[(0, ⟨49, 8, List.map api_Cell.enc qx⟩)], []⟩ (tl [(0, .v (.one (.own 0 none)))]) 1
  | .inr vx11 => Mem.st ⟨[(1, ⟨49, 8, List.map api_Cell.enc vx11⟩)], []⟩ (tl [(4, .v (.one (.own 1 none)))]) 2

def slices_CompactFunc_api_Cell_api_Cell_o0_f1_fleetmake_Stream_RightCells_1_x1_H (qx : List api_Cell) : Int → St
  | vx => Mem.st ⟨[(0, ⟨49, 8, List.map api_Cell.enc qx⟩)], []⟩ (tl [(0, .v (.one (.own 0 none))), (1, .v (.one (.fn 102 []))), (5, .v (.one (.d (.int .i64 vx))))]) 1

theorem slices_CompactFunc_api_Cell_api_Cell_o0_f1_fleetmake_Stream_RightCells_1_x1_ok (qx : List api_Cell) (vx : Int) (r : (Int) ⊕ (Unit ⊕ (List api_Cell))) (hF : slices_CompactFunc_api_Cell_api_Cell_o0_f1_fleetmake_Stream_RightCells_1_x1 qx vx = some r) : Awp prog 1 66 (cL (cL (cR (cL (cR (cR (cB f101))))))) (Out 1 (kk slices_CompactFunc_api_Cell_api_Cell_o0_f1_fleetmake_Stream_RightCells_1_x1_k) (SS (slices_CompactFunc_api_Cell_api_Cell_o0_f1_fleetmake_Stream_RightCells_1_x1_H qx) (slices_CompactFunc_api_Cell_api_Cell_o0_f1_fleetmake_Stream_RightCells_1_x1_S qx)) r) (slices_CompactFunc_api_Cell_api_Cell_o0_f1_fleetmake_Stream_RightCells_1_x1_H qx vx) := by
  unfold slices_CompactFunc_api_Cell_api_Cell_o0_f1_fleetmake_Stream_RightCells_1_x1 at hF
  refine awp_seq ?_
  refine awp_seq ?_
  refine awp_region ?_
  refine aR 2 ?_
  refine aL api_Cell.enc qx ?_
  refine aR 1 ?_
  refine aE ?_
  refine cE hF (fun h2 hF => ?_) fun h2 hF => ?_
  · refine awp_true (by kernel_rfl) h2 ?_
    refine awp_skip ?_
    refine awp_seq ?_
    refine awp_block ?_
    refine awp_seq ?_
    refine bE hF fun vy8 h3 hF => ?_
    refine bE hF fun vy9 h4 hF => ?_
    refine bE hF fun _ h5 hF => ?_
    refine aD ?_
    refine dR 3 ?_
    refine dX (x_idxO api_Cell.enc 0 h3) ?_
    refine dX (x_ldE api_Cell.enc h3) ?_
    refine dR 3 ?_
    refine dX (x_idxO api_Cell.enc 0 h4) ?_
    refine dX (x_ldE api_Cell.enc h4) ?_
    refine dC (fleetmake_Stream_RightCells_1_ok h5) [] [] [] ?_
    refine dE ?_
    refine cE hF (fun h6 hF => ?_) fun h6 hF => ?_
    · refine awp_true (by kernel_rfl) h6 ?_
      refine awp_seq ?_
      refine gE hF fun h7 hF => ?_
      refine awp_region ?_
      refine aR 2 ?_
      refine aX (x_viewN api_Cell.enc 0 h7) ?_
      refine aR 1 ?_
      refine aE ?_
      refine awp_seq ?_
      refine awp_seq ?_
      refine awp_region ?_
      refine aR 1 ?_
      refine aE ?_
      refine awp_block ?_
      refine awp_to (st' := slices_CompactFunc_api_Cell_api_Cell_o0_f1_fleetmake_Stream_RightCells_1_x2_H qx vx (qx, vx, 1)) (oT [] []) ?_
      refine bE hF fun x h17 hF => ?_
      obtain ⟨vl7_1, vx10_1⟩ := x
      refine awp_sub (awp_loop' (slices_CompactFunc_api_Cell_api_Cell_o0_f1_fleetmake_Stream_RightCells_1_x2_H qx vx) slices_CompactFunc_api_Cell_api_Cell_o0_f1_fleetmake_Stream_RightCells_1_x2_k (slices_CompactFunc_api_Cell_api_Cell_o0_f1_fleetmake_Stream_RightCells_1_x2_S qx vx) (by intro x; exact fun h => nomatch h) h17 (slices_CompactFunc_api_Cell_api_Cell_o0_f1_fleetmake_Stream_RightCells_1_x2_ok qx vx)) ?_
      refine awp_seq ?_
      refine gE hF fun h18 hF => ?_
      refine awp_region ?_
      refine aR 2 ?_
      refine aX (x_viewN api_Cell.enc 0 h18) ?_
      refine aCl api_Cell.enc 0 (xs := vl7_1) (y := api_Cell.mk (api_Prop.mk ([] : List UInt8) (api_Value.mk 0 false 0 ([] : List UInt8))) (api_Stamp.mk 0 ([] : List UInt8) 0)) (lo := vx10_1) (hi := (vl7_1.length : Int)) rfl ?_
      refine aE ?_
      refine awp_seq ?_
      refine gE hF fun h19 hF => ?_
      refine awp_region ?_
      refine aR 2 ?_
      refine aT api_Cell.enc 0 h19 rfl ?_
      refine aR 1 ?_
      refine aE ?_
      refine awp_ret ?_
      exact oO hF [(1, 6001)] [] rfl
    · refine awp_false (by kernel_rfl) h6 ?_
      refine awp_skip ?_
      refine awp_region ?_
      refine aR 3 ?_
      refine aE ?_
      exact oO hF [] [] rfl
  · refine awp_false (by kernel_rfl) h2 ?_
    refine awp_exit ?_
    exact oO hF [] [] rfl

def slices_CompactFunc_api_Cell_api_Cell_o0_f1_fleetmake_Stream_RightCells_1_R (qx : List api_Cell) (r : (List api_Cell)) : TV × Mem := (.v (.one (.own 1 none)), ⟨[(1, ⟨49, 8, List.map api_Cell.enc r⟩)], []⟩)

theorem slices_CompactFunc_api_Cell_api_Cell_o0_f1_fleetmake_Stream_RightCells_1_ok {qx : List api_Cell} {r} (hF : slices_CompactFunc_api_Cell_api_Cell_o0_f1_fleetmake_Stream_RightCells_1 qx = some r) : Holds prog 101 [.v (.one (.own 0 none)), .v (.one (.fn 102 []))] ⟨[(0, ⟨49, 8, List.map api_Cell.enc qx⟩)], []⟩ (Is (slices_CompactFunc_api_Cell_api_Cell_o0_f1_fleetmake_Stream_RightCells_1_R qx r)) := by
  unfold slices_CompactFunc_api_Cell_api_Cell_o0_f1_fleetmake_Stream_RightCells_1 at hF
  refine holds_of_awp hΓ (fn := f101) (c := cB f101) (A := 1) (nx := 1) (by kernel_rfl) (by kernel_rfl) (by kernel_rfl) (by kernel_rfl) (by kernel_rfl) (by kernel_rfl) (lowc_of (by kernel_rfl)) ?_
  show Awp prog 1 66 (cB f101) _ _
  refine awp_seq ?_
  refine awp_region ?_
  refine aR 1 ?_
  refine aE ?_
  refine awp_seq ?_
  refine awp_seq ?_
  refine awp_region ?_
  refine aR 1 ?_
  refine aL api_Cell.enc qx ?_
  refine aR 1 ?_
  refine aE ?_
  refine cE hF (fun h1 hF => ?_) fun h1 hF => ?_
  · refine awp_true (by kernel_rfl) h1 ?_
    refine awp_seq ?_
    refine awp_region ?_
    refine aR 2 ?_
    refine aE ?_
    refine awp_ret ?_
    exact oF hF [(1, 0)] []
  · refine awp_false (by kernel_rfl) h1 ?_
    refine awp_skip ?_
    refine awp_seq ?_
    refine awp_seq ?_
    refine awp_region ?_
    refine aR 1 ?_
    refine aE ?_
    refine awp_block ?_
    refine awp_to (st' := slices_CompactFunc_api_Cell_api_Cell_o0_f1_fleetmake_Stream_RightCells_1_x1_H qx 1) (oT [] []) ?_
    refine bE hF fun x h20 hF => ?_
    rcases x with _ | vx11_1
    · refine awp_sub (awp_loop' (slices_CompactFunc_api_Cell_api_Cell_o0_f1_fleetmake_Stream_RightCells_1_x1_H qx) slices_CompactFunc_api_Cell_api_Cell_o0_f1_fleetmake_Stream_RightCells_1_x1_k (slices_CompactFunc_api_Cell_api_Cell_o0_f1_fleetmake_Stream_RightCells_1_x1_S qx) (by intro x; rcases x with x | x <;> exact fun h => nomatch h) h20 (slices_CompactFunc_api_Cell_api_Cell_o0_f1_fleetmake_Stream_RightCells_1_x1_ok qx)) ?_
      refine awp_seq ?_
      refine awp_region ?_
      refine aR 2 ?_
      refine aE ?_
      refine awp_ret ?_
      exact oF hF [(1, 0)] []
    · refine awp_sub (awp_loop' (slices_CompactFunc_api_Cell_api_Cell_o0_f1_fleetmake_Stream_RightCells_1_x1_H qx) slices_CompactFunc_api_Cell_api_Cell_o0_f1_fleetmake_Stream_RightCells_1_x1_k (slices_CompactFunc_api_Cell_api_Cell_o0_f1_fleetmake_Stream_RightCells_1_x1_S qx) (by intro x; rcases x with x | x <;> exact fun h => nomatch h) h20 (slices_CompactFunc_api_Cell_api_Cell_o0_f1_fleetmake_Stream_RightCells_1_x1_ok qx)) ?_
      exact oF hF [] []

/-! ### (*beaconfleet/fleetmake.Stream).RightCells -/
def fleetmake_Stream_RightCells_x2_k : api_Cell → AEx
  | _ => .normal

def fleetmake_Stream_RightCells_x2_S (vr : Int) (vout : List api_Cell) (vx : Int) (vr5 : List UInt8) (vr4_1 : api_Value) (vs1_2 : fleetmake_Stream) (vr3_1 : api_Stamp) : api_Cell → St
  | vc2 => Mem.st ⟨[(2, ⟨49, 8, List.map api_Cell.enc vout⟩)], [(0, [.d (.lst (List.map (encI .i64) vs1_2.L)), .d (.int .i64 (IntKind.wrap .i64 (vs1_2.at_ + 1)))]), (1, [.d (.str vc2.Prop_.Name), .d (.int .i64 vc2.Prop_.Value.Kind), .d (.bool vc2.Prop_.Value.Flag), .d (.int .i64 vc2.Prop_.Value.Number), .d (.str vc2.Prop_.Value.Words), .d (.int .i64 vc2.Stamp.At), .d (.str vc2.Stamp.By), .d (.int .i64 vc2.Stamp.No)])]⟩ (tl [(0, .v (.one (.box 0 0))), (3, .v (.one (.own 2 none))), (4, .v (.one (.box 1 0))), (6, .v (.one (.d (.int .i64 vr)))), (7, .v (.one (.d (.int .i64 vx))))]) 3

def fleetmake_Stream_RightCells_x2_I (vr : Int) (vout : List api_Cell) (vx : Int) (vr5 : List UInt8) (vr4_1 : api_Value) (vs1_2 : fleetmake_Stream) (vr3_1 : api_Stamp) : St := Mem.st ⟨[(2, ⟨49, 8, List.map api_Cell.enc vout⟩)], [(0, [.d (.lst (List.map (encI .i64) vs1_2.L)), .d (.int .i64 vs1_2.at_)]), (1, [.d (.str vr5), .d (.int .i64 vr4_1.Kind), .d (.bool vr4_1.Flag), .d (.int .i64 vr4_1.Number), .d (.str vr4_1.Words), .d (.int .i64 vr3_1.At), .d (.str vr3_1.By), .d (.int .i64 vr3_1.No)])]⟩ (tl [(0, .v (.one (.box 0 0))), (3, .v (.one (.own 2 none))), (4, .v (.one (.box 1 0))), (6, .v (.one (.d (.int .i64 vr)))), (7, .v (.one (.d (.int .i64 vx))))]) 3

theorem fleetmake_Stream_RightCells_x2_ok (vr : Int) (vout : List api_Cell) (vx : Int) (vr5 : List UInt8) (vr4_1 : api_Value) (vs1_2 : fleetmake_Stream) (vr3_1 : api_Stamp) {r} (hF : fleetmake_Stream_RightCells_x2 vr5 vr4_1 vs1_2 vr3_1 = some r) : Awp prog 1 32 (cL (cR (cL (cL (cR (cR (cL (cL (cR (cL (cR (cR (cB f46))))))))))))) (Out 1 fleetmake_Stream_RightCells_x2_k (fleetmake_Stream_RightCells_x2_S vr vout vx vr5 vr4_1 vs1_2 vr3_1) r) (fleetmake_Stream_RightCells_x2_I vr vout vx vr5 vr4_1 vs1_2 vr3_1) := by
  unfold fleetmake_Stream_RightCells_x2 at hF
  refine awp_seq ?_
  refine bE hF fun vr6 h6 hF => ?_
  refine awp_region ?_
  refine aR 1 ?_
  refine aC (fleetmake_Stream_Flip_ok h6) [] [] [] ?_
  refine aE ?_
  refine cE hF (fun h7 hF => ?_) fun h7 hF => ?_
  · refine awp_true (by kernel_rfl) h7 ?_
    refine awp_region ?_
    refine aR 4 ?_
    refine aE ?_
    exact oO hF [] [] rfl
  · refine awp_false (by kernel_rfl) h7 ?_
    refine awp_skip ?_
    exact oO hF [] [] rfl

def fleetmake_Stream_RightCells_x1_k : (fleetmake_Stream × (List api_Cell)) → AEx
  | _ => .exit 0

def fleetmake_Stream_RightCells_x1_S (vr : Int) : (fleetmake_Stream × (List api_Cell)) → St
  | (vs2, vout1) => Mem.st ⟨[(1, ⟨49, 8, List.map api_Cell.enc vout1⟩)], [(0, [.d (.lst (List.map (encI .i64) vs2.L)), .d (.int .i64 vs2.at_)])]⟩ (tl [(3, .v (.one (.own 1 none)))]) 2

def fleetmake_Stream_RightCells_x1_H (vr : Int) : fleetmake_Stream × (List api_Cell) × Int → St
  | (vs1, vout, vx) => Mem.st ⟨[(1, ⟨49, 8, List.map api_Cell.enc vout⟩)], [(0, [.d (.lst (List.map (encI .i64) vs1.L)), .d (.int .i64 vs1.at_)])]⟩ (tl [(0, .v (.one (.box 0 0))), (3, .v (.one (.own 1 none))), (6, .v (.one (.d (.int .i64 vr)))), (7, .v (.one (.d (.int .i64 vx))))]) 2

theorem fleetmake_Stream_RightCells_x1_ok (vr : Int) (s : fleetmake_Stream × (List api_Cell) × Int) (r : (fleetmake_Stream × (List api_Cell) × Int) ⊕ ((fleetmake_Stream × (List api_Cell)))) (hF : fleetmake_Stream_RightCells_x1 vr s = some r) : Awp prog 1 32 (cL (cL (cR (cL (cR (cR (cB f46))))))) (Out 1 (kk fleetmake_Stream_RightCells_x1_k) (SS (fleetmake_Stream_RightCells_x1_H vr) (fleetmake_Stream_RightCells_x1_S vr)) r) (fleetmake_Stream_RightCells_x1_H vr s) := by
  obtain ⟨vs1, vout, vx⟩ := s
  unfold fleetmake_Stream_RightCells_x1 at hF
  refine awp_seq ?_
  refine awp_region ?_
  refine aR 1 ?_
  refine aE ?_
  refine awp_seq ?_
  refine cE hF (fun h2 hF => ?_) fun h2 hF => ?_
  · refine awp_true (by kernel_rfl) h2 ?_
    refine awp_skip ?_
    refine awp_seq ?_
    refine awp_block ?_
    refine awp_seq ?_
    refine bE hF fun vr5 h3 hF => ?_
    refine bE hF fun vr4_1 h4 hF => ?_
    refine bE hF fun x h5 hF => ?_
    obtain ⟨vs1_2, vr3_1⟩ := x
    refine awp_region ?_
    refine aR 2 ?_
    refine aC (fleetmake_Stream_Some_o1_ok h3) [(1, 2002)] [] [] ?_
    refine aR 1 ?_
    refine aC (fleetmake_Stream_RightValue_ok h4) [] [] [] ?_
    refine aR 2 ?_
    refine aC (fleetmake_Stream_RightStamp_ok h5) [] [] [] ?_
    refine aR 3 ?_
    refine aE ?_
    refine awp_seq ?_
    refine awp_to (st' := fleetmake_Stream_RightCells_x2_I vr vout vx vr5 vr4_1 vs1_2 vr3_1) (oT [(1, 10002), (2, 1)] []) ?_
    refine bE hF fun vc2_1 h8 hF => ?_
    refine awp_sub (fleetmake_Stream_RightCells_x2_ok vr vout vx vr5 vr4_1 vs1_2 vr3_1 h8) ?_
    refine gE hF fun h9 hF => ?_
    refine awp_region ?_
    refine aR 3 ?_
    refine aX (x_app api_Cell.enc 2 h9) ?_
    refine aR 1 ?_
    refine aE ?_
    refine awp_region ?_
    refine aR 2 ?_
    refine aE ?_
    exact oO hF [(1, 3003)] [] rfl
  · refine awp_false (by kernel_rfl) h2 ?_
    refine awp_exit ?_
    exact oO hF [] [] rfl

def fleetmake_Stream_RightCells_R (qs : fleetmake_Stream) (r : fleetmake_Stream × (List api_Cell)) : TV × Mem := (.v (.one (.own 1 none)), ⟨[(1, ⟨49, 8, List.map api_Cell.enc r.2⟩)], [(0, [.d (.lst (List.map (encI .i64) r.1.L)), .d (.int .i64 r.1.at_)])]⟩)

theorem fleetmake_Stream_RightCells_ok {qs : fleetmake_Stream} {r} (hF : fleetmake_Stream_RightCells qs = some r) : Holds prog 46 [.v (.one (.box 0 0))] ⟨[], [(0, [.d (.lst (List.map (encI .i64) qs.L)), .d (.int .i64 qs.at_)])]⟩ (Is (fleetmake_Stream_RightCells_R qs r)) := by
  unfold fleetmake_Stream_RightCells at hF
  refine holds_of_awp hΓ (fn := f46) (c := cB f46) (A := 1) (nx := 1) (by kernel_rfl) (by kernel_rfl) (by kernel_rfl) (by kernel_rfl) (by kernel_rfl) (by kernel_rfl) (lowc_of (by kernel_rfl)) ?_
  show Awp prog 1 32 (cB f46) _ _
  refine awp_seq ?_
  refine awp_region ?_
  refine aR 1 ?_
  refine aE ?_
  refine awp_seq ?_
  refine awp_region ?_
  refine aR 1 ?_
  refine aE ?_
  refine awp_seq ?_
  refine awp_seq ?_
  refine bE hF fun x h1 hF => ?_
  obtain ⟨vs, vr⟩ := x
  refine awp_region ?_
  refine aR 1 ?_
  refine aC (fleetmake_Stream_Range_ok h1) [] [] [] ?_
  refine aR 1 ?_
  refine aE ?_
  refine awp_block ?_
  refine awp_to (st' := fleetmake_Stream_RightCells_x1_H vr (vs, [], 0)) (oT [] [1]) ?_
  refine bE hF fun x h10 hF => ?_
  obtain ⟨vs2_1, vout1_1⟩ := x
  refine awp_sub (awp_loop' (fleetmake_Stream_RightCells_x1_H vr) fleetmake_Stream_RightCells_x1_k (fleetmake_Stream_RightCells_x1_S vr) (by intro x; exact fun h => nomatch h) h10 (fleetmake_Stream_RightCells_x1_ok vr)) ?_
  refine awp_seq ?_
  refine bE hF fun vl h11 hF => ?_
  refine gE hF fun h12 hF => ?_
  refine awp_region ?_
  refine aR 1 ?_
  refine aCp (slices_SortStableFunc_api_Cell_api_Cell_o0_f1_fleetmake_cellOrder_ok h11) ⟨⟨rfl, rfl, pin1 h12⟩, trivial⟩ [(0, 1)] [] [] ?_
  refine aE ?_
  refine awp_seq ?_
  refine bE hF fun vr7 h13 hF => ?_
  refine awp_region ?_
  refine aR 1 ?_
  refine aC (slices_CompactFunc_api_Cell_api_Cell_o0_f1_fleetmake_Stream_RightCells_1_ok h13) [(0, 1)] [] [] ?_
  refine aR 1 ?_
  refine aE ?_
  refine awp_ret ?_
  exact oF hF [(1, 3003)] []

/-! ### strings.Repeat -/
def strings_Repeat_R (qx : List UInt8) (qx1 : Int) (r : List UInt8) : TV × Mem := (.v (.one (.d (.str r))), ⟨[], []⟩)

theorem strings_Repeat_ok {qx : List UInt8} {qx1 : Int} {r} (hF : strings_Repeat qx qx1 = some r) : Holds prog 68 [.v (.one (.d (.str qx))), .v (.one (.d (.int .i64 qx1)))] ⟨[], []⟩ (Is (strings_Repeat_R qx qx1 r)) := by
  unfold strings_Repeat at hF
  refine gE hF fun h1 hF => ?_
  obtain rfl := Option.some.inj hF
  have h2 : (0 ≤ qx1 ∧ qx1 ≤ 9223372036854775807) ∧ qx.length * qx1.toNat ≤ 140737488355328 := by simpa using h1
  have h3 : ((qx1.toNat : Nat) : Int) = qx1 := Int.toNat_of_nonneg h2.1.1
  refine holds_lib (args := [.str qx, .int .i64 qx1]) (tv := .c (.d (.str (Lib.repeatL qx qx1.toNat)))) ⟨_, cB Go.Proofs.Tryz.f68, Go.Proofs.Tryz.func68, by kernel_rfl, by kernel_rfl⟩ rfl rfl fun w ht => ?_
  have h4 := Go.Proofs.Any.strings_Repeat Go.Proofs.Tryz.lays105 Go.Proofs.Tryz.Builder_Extra_105 ⟨qx.toArray⟩ qx1.toNat w (by omega) (by simpa [ByteArray.size] using h2.2)
  rw [h3] at h4
  exact h4

/-! ### (*beaconfleet/fleetmake.Stream).PropName -/
def fleetmake_Stream_PropName_R (qs : fleetmake_Stream) (r : (List UInt8)) : TV × Mem := (.v (.one (.d (.str r))), ⟨[], [(0, [.d (.lst (List.map (encI .i64) qs.L)), .d (.int .i64 (IntKind.wrap .i64 ((IntKind.wrap .i64 (qs.at_ + 1)) + 1)))])]⟩)

theorem fleetmake_Stream_PropName_ok {qs : fleetmake_Stream} {r} (hF : fleetmake_Stream_PropName qs = some r) : Holds prog 20 [.v (.one (.box 0 0))] ⟨[], [(0, [.d (.lst (List.map (encI .i64) qs.L)), .d (.int .i64 qs.at_)])]⟩ (Is (fleetmake_Stream_PropName_R qs r)) := by
  unfold fleetmake_Stream_PropName at hF
  refine holds_of_awp hΓ (fn := f20) (c := cB f20) (A := 1) (nx := 1) (by kernel_rfl) (by kernel_rfl) (by kernel_rfl) (by kernel_rfl) (by kernel_rfl) (by kernel_rfl) (lowc_of (by kernel_rfl)) ?_
  show Awp prog 1 12 (cB f20) _ _
  refine awp_seq ?_
  refine awp_region ?_
  refine aR 1 ?_
  refine aE ?_
  refine awp_seq ?_
  refine awp_seq ?_
  refine bE hF fun vr h1 hF => ?_
  refine awp_region ?_
  refine aR 1 ?_
  refine aC (fleetmake_Stream_Flip_ok h1) [] [] [] ?_
  refine aE ?_
  refine cE hF (fun h2 hF => ?_) fun h2 hF => ?_
  · refine awp_true (by kernel_rfl) h2 ?_
    refine awp_seq ?_
    refine bE hF fun vr1 h3 hF => ?_
    refine bE hF fun vr2 h4 hF => ?_
    refine awp_region ?_
    refine aR 1 ?_
    refine aC (strings_Repeat_ok h3) [] [] [] ?_
    refine aR 1 ?_
    refine aC (fleetmake_Stream_Some_o1_ok h4) [(1, 5001)] [] [] ?_
    refine aR 1 ?_
    refine aE ?_
    refine awp_ret ?_
    exact oF hF [] []
  · refine awp_false (by kernel_rfl) h2 ?_
    refine awp_skip ?_
    refine awp_seq ?_
    refine bE hF fun vr3 h5 hF => ?_
    refine awp_region ?_
    refine aR 2 ?_
    refine aC (fleetmake_Stream_Some_o1_ok h5) [(1, 4001)] [] [] ?_
    refine aR 1 ?_
    refine aE ?_
    refine awp_ret ?_
    exact oF hF [] []

/-! ### (*beaconfleet/fleetmake.Stream).Odd -/
def fleetmake_Stream_Odd_R (qs : fleetmake_Stream) (qlow : Int) (qhigh : Int) (r : fleetmake_Stream × Int) : TV × Mem := (.v (.one (.d (.int .i64 r.2))), ⟨[], [(0, [.d (.lst (List.map (encI .i64) r.1.L)), .d (.int .i64 r.1.at_)])]⟩)

theorem fleetmake_Stream_Odd_ok {qs : fleetmake_Stream} {qlow : Int} {qhigh : Int} {r} (hF : fleetmake_Stream_Odd qs qlow qhigh = some r) : Holds prog 91 [.v (.one (.box 0 0)), .v (.one (.d (.int .i64 qlow))), .v (.one (.d (.int .i64 qhigh)))] ⟨[], [(0, [.d (.lst (List.map (encI .i64) qs.L)), .d (.int .i64 qs.at_)])]⟩ (Is (fleetmake_Stream_Odd_R qs qlow qhigh r)) := by
  unfold fleetmake_Stream_Odd at hF
  refine holds_of_awp hΓ (fn := f91) (c := cB f91) (A := 1) (nx := 1) (by kernel_rfl) (by kernel_rfl) (by kernel_rfl) (by kernel_rfl) (by kernel_rfl) (by kernel_rfl) (lowc_of (by kernel_rfl)) ?_
  show Awp prog 1 22 (cB f91) _ _
  refine awp_seq ?_
  refine awp_region ?_
  refine aR 1 ?_
  refine aE ?_
  refine awp_seq ?_
  refine awp_seq ?_
  refine bE hF fun vr h1 hF => ?_
  refine awp_region ?_
  refine aR 1 ?_
  refine aC (fleetmake_Stream_Flip_ok h1) [] [] [] ?_
  refine aE ?_
  refine cE hF (fun h2 hF => ?_) fun h2 hF => ?_
  · refine awp_true (by kernel_rfl) h2 ?_
    refine awp_seq ?_
    refine bE hF fun vr1 h3 hF => ?_
    refine awp_region ?_
    refine aR 8 ?_
    refine aC (fleetmake_Stream_Pick_o1_ok h3) [(1, 10001)] [] [] ?_
    refine aR 1 ?_
    refine aE ?_
    refine awp_ret ?_
    exact oF hF [] []
  · refine awp_false (by kernel_rfl) h2 ?_
    refine awp_skip ?_
    refine awp_seq ?_
    refine bE hF fun x h4 hF => ?_
    obtain ⟨vs, vr2⟩ := x
    refine awp_region ?_
    refine aR 3 ?_
    refine aC (fleetmake_Stream_Range_ok h4) [] [] [] ?_
    refine aR 1 ?_
    refine aE ?_
    refine awp_ret ?_
    exact oF hF [] []

/-! ### (*beaconfleet/fleetmake.Stream).Value -/
def fleetmake_Stream_Value_x1_k : (fleetmake_Stream × api_Value) → AEx
  | _ => .normal

def fleetmake_Stream_Value_x1_S (qs : fleetmake_Stream) (vr4 : api_Value) : (fleetmake_Stream × api_Value) → St
  | (vs, vv) => Mem.st ⟨[], [(0, [.d (.lst (List.map (encI .i64) vs.L)), .d (.int .i64 vs.at_)]), (1, [.d (.int .i64 0), .d (.bool false), .d (.int .i64 0), .d (.str ([] : List UInt8))]), (2, [.d (.int .i64 vv.Kind), .d (.bool vv.Flag), .d (.int .i64 vv.Number), .d (.str vv.Words)])]⟩ (tl [(2, .v (.one (.box 1 0))), (3, .v (.one (.box 2 0)))]) 3

def fleetmake_Stream_Value_x1_I (qs : fleetmake_Stream) (vr4 : api_Value) : St := Mem.st ⟨[], [(0, [.d (.lst (List.map (encI .i64) qs.L)), .d (.int .i64 (IntKind.wrap .i64 ((IntKind.wrap .i64 ((IntKind.wrap .i64 (qs.at_ + 1)) + 1)) + 1)))]), (1, [.d (.int .i64 0), .d (.bool false), .d (.int .i64 0), .d (.str ([] : List UInt8))]), (2, [.d (.int .i64 vr4.Kind), .d (.bool vr4.Flag), .d (.int .i64 vr4.Number), .d (.str vr4.Words)])]⟩ (tl [(0, .v (.one (.box 0 0))), (2, .v (.one (.box 1 0))), (3, .v (.one (.box 2 0)))]) 3

theorem fleetmake_Stream_Value_x1_ok (qs : fleetmake_Stream) (vr4 : api_Value) {r} (hF : fleetmake_Stream_Value_x1 qs vr4 = some r) : Awp prog 1 39 (cL (cR (cR (cR (cB f38))))) (Out 1 fleetmake_Stream_Value_x1_k (fleetmake_Stream_Value_x1_S qs vr4) r) (fleetmake_Stream_Value_x1_I qs vr4) := by
  unfold fleetmake_Stream_Value_x1 at hF
  refine awp_seq ?_
  refine bE hF fun vr1 h4 hF => ?_
  refine awp_region ?_
  refine aR 1 ?_
  refine aC (fleetmake_Stream_Flip_ok h4) [] [] [] ?_
  refine aE ?_
  refine cE hF (fun h5 hF => ?_) fun h5 hF => ?_
  · refine awp_true (by kernel_rfl) h5 ?_
    refine awp_seq ?_
    refine bE hF fun vr3 h6 hF => ?_
    refine awp_region ?_
    refine aR 1 ?_
    refine aC (fleetmake_Stream_Next_ok h6) [] [] [] ?_
    refine aE ?_
    refine awp_block ?_
    refine awp_seq ?_
    refine awp_region ?_
    refine aR 2 ?_
    refine aE ?_
    refine cE hF (fun h7 hF => ?_) fun h7 hF => ?_
    · refine awp_true (by kernel_rfl) h7 ?_
      refine bE hF fun vr2 h8 hF => ?_
      refine awp_region ?_
      refine aR 2 ?_
      refine aC (fleetmake_Stream_Pick_o1_ok h8) [(1, 7003)] [] [] ?_
      refine aR 2 ?_
      refine aE ?_
      exact oO hF [] [] rfl
    · refine awp_false (by kernel_rfl) h7 ?_
      refine awp_seq ?_
      refine awp_region ?_
      refine aR 2 ?_
      refine aE ?_
      refine cE hF (fun h9 hF => ?_) fun h9 hF => ?_
      · refine awp_true (by kernel_rfl) h9 ?_
        refine awp_region ?_
        refine aR 5 ?_
        refine aE ?_
        exact oO hF [] [] rfl
      · refine awp_false (by kernel_rfl) h9 ?_
        refine awp_seq ?_
        refine awp_region ?_
        refine aR 2 ?_
        refine aE ?_
        refine cE hF (fun h10 hF => ?_) fun h10 hF => ?_
        · refine awp_true (by kernel_rfl) h10 ?_
          refine bE hF fun x h11 hF => ?_
          obtain ⟨vs1, vr3_1⟩ := x
          refine awp_region ?_
          refine aR 1 ?_
          refine aC (fleetmake_Stream_Odd_ok h11) [] [] [] ?_
          refine aR 2 ?_
          refine aE ?_
          exact oO hF [] [] rfl
        · refine awp_false (by kernel_rfl) h10 ?_
          refine awp_seq ?_
          refine awp_region ?_
          refine aR 2 ?_
          refine aE ?_
          refine cE hF (fun h12 hF => ?_) fun h12 hF => ?_
          · refine awp_true (by kernel_rfl) h12 ?_
            refine bE hF fun vr5 h13 hF => ?_
            refine bE hF fun vr6 h14 hF => ?_
            refine awp_region ?_
            refine aR 1 ?_
            refine aC (strings_Repeat_ok h13) [] [] [] ?_
            refine aR 1 ?_
            refine aC (fleetmake_Stream_Some_o1_ok h14) [(1, 14003)] [] [] ?_
            refine aR 2 ?_
            refine aE ?_
            exact oO hF [] [] rfl
          · refine awp_false (by kernel_rfl) h12 ?_
            refine awp_region ?_
            refine aR 2 ?_
            refine aE ?_
            exact oO hF [] [] rfl
  · refine awp_false (by kernel_rfl) h5 ?_
    refine awp_skip ?_
    exact oO hF [] [] rfl

def fleetmake_Stream_Value_R (qs : fleetmake_Stream) (r : fleetmake_Stream × api_Value) : TV × Mem := (.v (.agg [.d (.int .i64 r.2.Kind), .d (.bool r.2.Flag), .d (.int .i64 r.2.Number), .d (.str r.2.Words)]), ⟨[], [(0, [.d (.lst (List.map (encI .i64) r.1.L)), .d (.int .i64 r.1.at_)])]⟩)

theorem fleetmake_Stream_Value_ok {qs : fleetmake_Stream} {r} (hF : fleetmake_Stream_Value qs = some r) : Holds prog 38 [.v (.one (.box 0 0))] ⟨[], [(0, [.d (.lst (List.map (encI .i64) qs.L)), .d (.int .i64 qs.at_)])]⟩ (Is (fleetmake_Stream_Value_R qs r)) := by
  unfold fleetmake_Stream_Value at hF
  refine holds_of_awp hΓ (fn := f38) (c := cB f38) (A := 1) (nx := 1) (by kernel_rfl) (by kernel_rfl) (by kernel_rfl) (by kernel_rfl) (by kernel_rfl) (by kernel_rfl) (lowc_of (by kernel_rfl)) ?_
  show Awp prog 1 39 (cB f38) _ _
  refine awp_seq ?_
  refine awp_region ?_
  refine aR 1 ?_
  refine aE ?_
  refine awp_seq ?_
  refine bE hF fun vr4 h1 hF => ?_
  refine awp_region ?_
  refine aR 1 ?_
  refine aC (fleetmake_Stream_RightValue_ok h1) [] [] [] ?_
  refine aR 2 ?_
  refine aE ?_
  refine awp_seq ?_
  refine awp_seq ?_
  refine bE hF fun vr h2 hF => ?_
  refine awp_region ?_
  refine aR 1 ?_
  refine aC (fleetmake_Stream_Flip_ok h2) [] [] [] ?_
  refine aE ?_
  refine cE hF (fun h3 hF => ?_) fun h3 hF => ?_
  · refine awp_true (by kernel_rfl) h3 ?_
    refine awp_seq ?_
    refine awp_region ?_
    refine aR 2 ?_
    refine aE ?_
    refine awp_ret ?_
    exact oF hF [] []
  · refine awp_false (by kernel_rfl) h3 ?_
    refine awp_skip ?_
    refine awp_seq ?_
    refine awp_to (st' := fleetmake_Stream_Value_x1_I qs vr4) (oT [(2, 3001)] []) ?_
    refine bE hF fun x h15 hF => ?_
    obtain ⟨vs2, vv1⟩ := x
    refine awp_sub (fleetmake_Stream_Value_x1_ok qs vr4 h15) ?_
    refine awp_seq ?_
    refine awp_region ?_
    refine aR 2 ?_
    refine aE ?_
    refine awp_ret ?_
    exact oF hF [] []

/-! ### (*beaconfleet/fleetmake.Stream).Stamp -/
def fleetmake_Stream_Stamp_x1_k : (fleetmake_Stream × api_Stamp) → AEx
  | _ => .normal

def fleetmake_Stream_Stamp_x1_S (vs1 : fleetmake_Stream) (vr3 : api_Stamp) : (fleetmake_Stream × api_Stamp) → St
  | (vs, vt) => Mem.st ⟨[], [(0, [.d (.lst (List.map (encI .i64) vs.L)), .d (.int .i64 vs.at_)]), (1, [.d (.int .i64 0), .d (.str ([] : List UInt8)), .d (.int .i64 0)]), (2, [.d (.int .i64 vt.At), .d (.str vt.By), .d (.int .i64 vt.No)])]⟩ (tl [(2, .v (.one (.box 1 0))), (3, .v (.one (.box 2 0)))]) 3

def fleetmake_Stream_Stamp_x1_I (vs1 : fleetmake_Stream) (vr3 : api_Stamp) : St := Mem.st ⟨[], [(0, [.d (.lst (List.map (encI .i64) vs1.L)), .d (.int .i64 vs1.at_)]), (1, [.d (.int .i64 0), .d (.str ([] : List UInt8)), .d (.int .i64 0)]), (2, [.d (.int .i64 vr3.At), .d (.str vr3.By), .d (.int .i64 vr3.No)])]⟩ (tl [(0, .v (.one (.box 0 0))), (2, .v (.one (.box 1 0))), (3, .v (.one (.box 2 0)))]) 3

theorem fleetmake_Stream_Stamp_x1_ok (vs1 : fleetmake_Stream) (vr3 : api_Stamp) {r} (hF : fleetmake_Stream_Stamp_x1 vs1 vr3 = some r) : Awp prog 1 17 (cL (cR (cR (cB f39)))) (Out 1 fleetmake_Stream_Stamp_x1_k (fleetmake_Stream_Stamp_x1_S vs1 vr3) r) (fleetmake_Stream_Stamp_x1_I vs1 vr3) := by
  unfold fleetmake_Stream_Stamp_x1 at hF
  refine awp_seq ?_
  refine bE hF fun vr h2 hF => ?_
  refine awp_region ?_
  refine aR 1 ?_
  refine aC (fleetmake_Stream_Flip_ok h2) [] [] [] ?_
  refine aE ?_
  refine cE hF (fun h3 hF => ?_) fun h3 hF => ?_
  · refine awp_true (by kernel_rfl) h3 ?_
    refine bE hF fun x h4 hF => ?_
    obtain ⟨vs1_1, vr3_1⟩ := x
    refine bE hF fun vr1 h5 hF => ?_
    refine bE hF fun x h6 hF => ?_
    obtain ⟨vs1_2, vr3_2⟩ := x
    refine awp_region ?_
    refine aR 1 ?_
    refine aC (fleetmake_Stream_Odd_ok h4) [] [] [] ?_
    refine aR 2 ?_
    refine aC (fleetmake_Stream_Some_o1_ok h5) [(1, 5003)] [] [] ?_
    refine aR 1 ?_
    refine aC (fleetmake_Stream_Odd_ok h6) [] [] [] ?_
    refine aR 2 ?_
    refine aE ?_
    exact oO hF [] [] rfl
  · refine awp_false (by kernel_rfl) h3 ?_
    refine awp_skip ?_
    exact oO hF [] [] rfl

def fleetmake_Stream_Stamp_R (qs : fleetmake_Stream) (r : fleetmake_Stream × api_Stamp) : TV × Mem := (.v (.agg [.d (.int .i64 r.2.At), .d (.str r.2.By), .d (.int .i64 r.2.No)]), ⟨[], [(0, [.d (.lst (List.map (encI .i64) r.1.L)), .d (.int .i64 r.1.at_)])]⟩)

theorem fleetmake_Stream_Stamp_ok {qs : fleetmake_Stream} {r} (hF : fleetmake_Stream_Stamp qs = some r) : Holds prog 39 [.v (.one (.box 0 0))] ⟨[], [(0, [.d (.lst (List.map (encI .i64) qs.L)), .d (.int .i64 qs.at_)])]⟩ (Is (fleetmake_Stream_Stamp_R qs r)) := by
  unfold fleetmake_Stream_Stamp at hF
  refine holds_of_awp hΓ (fn := f39) (c := cB f39) (A := 1) (nx := 1) (by kernel_rfl) (by kernel_rfl) (by kernel_rfl) (by kernel_rfl) (by kernel_rfl) (by kernel_rfl) (lowc_of (by kernel_rfl)) ?_
  show Awp prog 1 17 (cB f39) _ _
  refine awp_seq ?_
  refine awp_region ?_
  refine aR 1 ?_
  refine aE ?_
  refine awp_seq ?_
  refine bE hF fun x h1 hF => ?_
  obtain ⟨vs1, vr3⟩ := x
  refine awp_region ?_
  refine aR 1 ?_
  refine aC (fleetmake_Stream_RightStamp_ok h1) [] [] [] ?_
  refine aR 2 ?_
  refine aE ?_
  refine awp_seq ?_
  refine awp_to (st' := fleetmake_Stream_Stamp_x1_I vs1 vr3) (oT [(2, 3001)] []) ?_
  refine bE hF fun x h7 hF => ?_
  obtain ⟨vs2, vt1⟩ := x
  refine awp_sub (fleetmake_Stream_Stamp_x1_ok vs1 vr3 h7) ?_
  refine awp_seq ?_
  refine awp_region ?_
  refine aR 2 ?_
  refine aE ?_
  refine awp_ret ?_
  exact oF hF [] []

/-! ### (*beaconfleet/fleetmake.Stream).Cells -/
def fleetmake_Stream_Cells_x1_k : (fleetmake_Stream × (List api_Cell)) → AEx
  | _ => .normal

def fleetmake_Stream_Cells_x1_S (vs3 : fleetmake_Stream) (vr8 : List api_Cell) : (fleetmake_Stream × (List api_Cell)) → St
  | (vs, vout) => Mem.st ⟨[(1, ⟨49, 8, List.map api_Cell.enc vout⟩)], [(0, [.d (.lst (List.map (encI .i64) vs.L)), .d (.int .i64 vs.at_)])]⟩ (tl [(3, .v (.one (.own 1 none)))]) 2

def fleetmake_Stream_Cells_x1_I (vs3 : fleetmake_Stream) (vr8 : List api_Cell) : St := Mem.st ⟨[(1, ⟨49, 8, List.map api_Cell.enc vr8⟩)], [(0, [.d (.lst (List.map (encI .i64) vs3.L)), .d (.int .i64 vs3.at_)])]⟩ (tl [(0, .v (.one (.box 0 0))), (3, .v (.one (.own 1 none)))]) 2

theorem fleetmake_Stream_Cells_x1_ok (vs3 : fleetmake_Stream) (vr8 : List api_Cell) {r} (hF : fleetmake_Stream_Cells_x1 vs3 vr8 = some r) : Awp prog 1 24 (cL (cR (cR (cB f7)))) (Out 1 fleetmake_Stream_Cells_x1_k (fleetmake_Stream_Cells_x1_S vs3 vr8) r) (fleetmake_Stream_Cells_x1_I vs3 vr8) := by
  unfold fleetmake_Stream_Cells_x1 at hF
  refine awp_seq ?_
  refine bE hF fun vr h2 hF => ?_
  refine awp_region ?_
  refine aR 1 ?_
  refine aC (fleetmake_Stream_Flip_ok h2) [] [] [] ?_
  refine aE ?_
  refine cE hF (fun h3 hF => ?_) fun h3 hF => ?_
  · refine awp_true (by kernel_rfl) h3 ?_
    refine awp_seq ?_
    refine bE hF fun vr4 h4 hF => ?_
    refine bE hF fun x h5 hF => ?_
    obtain ⟨vs3_1, vr7⟩ := x
    refine bE hF fun x h6 hF => ?_
    obtain ⟨vs3_2, vr2⟩ := x
    refine gE hF fun h7 hF => ?_
    refine awp_region ?_
    refine aR 2 ?_
    refine aC (fleetmake_Stream_PropName_ok h4) [] [] [] ?_
    refine aR 1 ?_
    refine aC (fleetmake_Stream_Value_ok h5) [] [] [] ?_
    refine aR 2 ?_
    refine aC (fleetmake_Stream_Stamp_ok h6) [] [] [] ?_
    refine aR 2 ?_
    refine aX (x_app api_Cell.enc 1 h7) ?_
    refine aR 1 ?_
    refine aE ?_
    refine awp_seq ?_
    refine bE hF fun vr1 h8 hF => ?_
    refine awp_region ?_
    refine aR 1 ?_
    refine aC (fleetmake_Stream_Flip_ok h8) [] [] [] ?_
    refine aE ?_
    refine cE hF (fun h9 hF => ?_) fun h9 hF => ?_
    · refine awp_true (by kernel_rfl) h9 ?_
      refine bE hF fun vl h10 hF => ?_
      refine gE hF fun h11 hF => ?_
      refine awp_region ?_
      refine aR 1 ?_
      refine aCp (slices_SortStableFunc_api_Cell_api_Cell_o0_f1_fleetmake_cellOrder_ok h10) ⟨⟨rfl, rfl, pin1 h11⟩, trivial⟩ [(0, 12002)] [] [] ?_
      refine aE ?_
      exact oO hF [(1, 12002)] [] rfl
    · refine awp_false (by kernel_rfl) h9 ?_
      refine awp_skip ?_
      exact oO hF [(1, 12002)] [] rfl
  · refine awp_false (by kernel_rfl) h3 ?_
    refine awp_skip ?_
    exact oO hF [] [] rfl

def fleetmake_Stream_Cells_R (qs : fleetmake_Stream) (r : fleetmake_Stream × (List api_Cell)) : TV × Mem := (.v (.one (.own 1 none)), ⟨[(1, ⟨49, 8, List.map api_Cell.enc r.2⟩)], [(0, [.d (.lst (List.map (encI .i64) r.1.L)), .d (.int .i64 r.1.at_)])]⟩)

theorem fleetmake_Stream_Cells_ok {qs : fleetmake_Stream} {r} (hF : fleetmake_Stream_Cells qs = some r) : Holds prog 7 [.v (.one (.box 0 0))] ⟨[], [(0, [.d (.lst (List.map (encI .i64) qs.L)), .d (.int .i64 qs.at_)])]⟩ (Is (fleetmake_Stream_Cells_R qs r)) := by
  unfold fleetmake_Stream_Cells at hF
  refine holds_of_awp hΓ (fn := f7) (c := cB f7) (A := 1) (nx := 1) (by kernel_rfl) (by kernel_rfl) (by kernel_rfl) (by kernel_rfl) (by kernel_rfl) (by kernel_rfl) (lowc_of (by kernel_rfl)) ?_
  show Awp prog 1 24 (cB f7) _ _
  refine awp_seq ?_
  refine awp_region ?_
  refine aR 1 ?_
  refine aE ?_
  refine awp_seq ?_
  refine bE hF fun x h1 hF => ?_
  obtain ⟨vs3, vr8⟩ := x
  refine awp_region ?_
  refine aR 1 ?_
  refine aC (fleetmake_Stream_RightCells_ok h1) [] [] [] ?_
  refine aR 1 ?_
  refine aE ?_
  refine awp_seq ?_
  refine awp_to (st' := fleetmake_Stream_Cells_x1_I vs3 vr8) (oT [(1, 2002)] []) ?_
  refine bE hF fun x h12 hF => ?_
  obtain ⟨vs1, vout1⟩ := x
  refine awp_sub (fleetmake_Stream_Cells_x1_ok vs3 vr8 h12) ?_
  refine awp_seq ?_
  refine awp_region ?_
  refine aR 2 ?_
  refine aE ?_
  refine awp_ret ?_
  exact oF hF [] []

/-! ### internal/stringslite.IndexByte -/
def stringslite_IndexByte_R (qs : List UInt8) (qc : Int) (r : Unit) : TV × Mem := (.v (.one (.d (.int .i64 (Lib.indexByte qs qc.toNat.toUInt8)))), ⟨[], []⟩)

theorem stringslite_IndexByte_ok {qs : List UInt8} {qc : Int} {r} (hF : stringslite_IndexByte qs qc = some r) : Holds prog 192 [.v (.one (.d (.str qs))), .v (.one (.d (.int .u8 qc)))] ⟨[], []⟩ (Is (stringslite_IndexByte_R qs qc r)) := by
  unfold stringslite_IndexByte at hF
  refine holds_of_awp hΓ (fn := f192) (c := cB f192) (A := 0) (nx := 0) (by kernel_rfl) (by kernel_rfl) (by kernel_rfl) (by kernel_rfl) (by kernel_rfl) (by kernel_rfl) (lowc_of (by kernel_rfl)) ?_
  show Awp prog 0 8 (cB f192) _ _
  refine awp_seq ?_
  refine awp_region ?_
  refine aR 1 ?_
  refine aE ?_
  refine awp_seq ?_
  refine awp_region ?_
  refine aR 2 ?_
  refine aS (does_indexByte (g := 213) (fn := f213) (a := qs) (c := qc) rfl (by kernel_rfl) (by kernel_rfl) (by kernel_rfl) (by kernel_rfl) (by kernel_rfl) (by kernel_rfl)) ?_
  refine aR 1 ?_
  refine aE ?_
  refine awp_ret ?_
  exact oF hF [] []

/-! ### internal/stringslite.Index -/
def stringslite_Index_x1_k : Bool → AEx
  | _ => .normal

def stringslite_Index_x1_S (qx : List UInt8) (qx1 : List UInt8) : Bool → St
  | vx => Mem.st ⟨[], []⟩ (tl [(0, .v (.one (.d (.str qx)))), (1, .v (.one (.d (.str qx1)))), (5, .v (.one (.d (.int .i64 (qx1.length : Int))))), (16, .v (.one (.d (.bool vx))))]) 0

def stringslite_Index_x1_I (qx : List UInt8) (qx1 : List UInt8) : St := Mem.st ⟨[], []⟩ (tl [(0, .v (.one (.d (.str qx)))), (1, .v (.one (.d (.str qx1)))), (5, .v (.one (.d (.int .i64 (qx1.length : Int)))))]) 0

theorem stringslite_Index_x1_ok (qx : List UInt8) (qx1 : List UInt8) {r} (hF : stringslite_Index_x1 qx qx1 = some r) : Awp prog 0 143 (cL (cL (cL (cR (cR (cB f191)))))) (Out 0 stringslite_Index_x1_k (stringslite_Index_x1_S qx qx1) r) (stringslite_Index_x1_I qx qx1) := by
  unfold stringslite_Index_x1 at hF
  refine cE hF (fun h1 hF => ?_) fun h1 hF => ?_
  · refine awp_region ?_
    refine aR 1 ?_
    refine aB h1 ?_
    refine aR 6 ?_
    refine aE ?_
    exact oO hF [] [] rfl
  · refine awp_region ?_
    refine aR 1 ?_
    refine aB h1 ?_
    refine aR 6 ?_
    refine aE ?_
    exact oO hF [] [] rfl

def stringslite_Index_R (qx : List UInt8) (qx1 : List UInt8) (r : Int) : TV × Mem := (.v (.one (.d (.int .i64 r))), ⟨[], []⟩)

theorem stringslite_Index_ok {qx : List UInt8} {qx1 : List UInt8} {r} (hF : stringslite_Index qx qx1 = some r) : Holds prog 191 [.v (.one (.d (.str qx))), .v (.one (.d (.str qx1)))] ⟨[], []⟩ (Is (stringslite_Index_R qx qx1 r)) := by
  unfold stringslite_Index at hF
  refine holds_of_awp hΓ (fn := f191) (c := cB f191) (A := 0) (nx := 0) (by kernel_rfl) (by kernel_rfl) (by kernel_rfl) (by kernel_rfl) (by kernel_rfl) (by kernel_rfl) (lowc_of (by kernel_rfl)) ?_
  show Awp prog 0 143 (cB f191) _ _
  refine awp_seq ?_
  refine awp_region ?_
  refine aR 1 ?_
  refine aE ?_
  refine awp_seq ?_
  refine awp_region ?_
  refine aR 3 ?_
  refine aE ?_
  refine awp_seq ?_
  refine awp_block ?_
  refine awp_seq ?_
  refine awp_to (st' := stringslite_Index_x1_I qx qx1) (oT [] []) ?_
  refine bE hF fun vx1 h2 hF => ?_
  refine awp_sub (stringslite_Index_x1_ok qx qx1 h2) ?_
  refine cE hF (fun h3 hF => ?_) fun h3 hF => ?_
  · refine awp_true (by kernel_rfl) h3 ?_
    refine awp_seq ?_
    refine awp_region ?_
    refine aR 1 ?_
    refine aE ?_
    refine awp_ret ?_
    exact oF hF [] []
  · refine awp_false (by kernel_rfl) h3 ?_
    refine awp_seq ?_
    refine awp_region ?_
    refine aR 3 ?_
    refine aE ?_
    refine cE hF (fun h4 hF => ?_) fun h4 hF => ?_
    · refine awp_true (by kernel_rfl) h4 ?_
      refine awp_seq ?_
      refine bE hF fun vc h5 hF => ?_
      refine bE hF fun _ h6 hF => ?_
      refine awp_region ?_
      refine aR 2 ?_
      refine aX (x_idxS h5) ?_
      refine aC (stringslite_IndexByte_ok h6) [] [] [] ?_
      refine aR 1 ?_
      refine aE ?_
      refine awp_ret ?_
      exact oF hF [] []
    · refine awp_false (by kernel_rfl) h4 ?_
      refine awp_seq ?_
      refine awp_region ?_
      refine aR 5 ?_
      refine aE ?_
      refine cE hF (fun h7 hF => ?_) fun h7 hF => ?_
      · refine awp_true (by kernel_rfl) h7 ?_
        refine awp_seq ?_
        refine awp_region ?_
        refine aR 1 ?_
        refine aE ?_
        refine awp_ret ?_
        exact oF hF [] []
      · refine awp_false (by kernel_rfl) h7 ?_
        refine awp_seq ?_
        exact nE hF

/-! ### internal/stringslite.Cut -/
def stringslite_Cut_R (qs : List UInt8) (qsep : List UInt8) (r : (List UInt8) × (List UInt8) × Bool) : TV × Mem := (.tup [.one (.d (.str r.1)), .one (.d (.str r.2.1)), .one (.d (.bool r.2.2))], ⟨[], []⟩)

theorem stringslite_Cut_ok {qs : List UInt8} {qsep : List UInt8} {r} (hF : stringslite_Cut qs qsep = some r) : Holds prog 187 [.v (.one (.d (.str qs))), .v (.one (.d (.str qsep)))] ⟨[], []⟩ (Is (stringslite_Cut_R qs qsep r)) := by
  unfold stringslite_Cut at hF
  refine holds_of_awp hΓ (fn := f187) (c := cB f187) (A := 0) (nx := 0) (by kernel_rfl) (by kernel_rfl) (by kernel_rfl) (by kernel_rfl) (by kernel_rfl) (by kernel_rfl) (lowc_of (by kernel_rfl)) ?_
  show Awp prog 0 23 (cB f187) _ _
  refine awp_seq ?_
  refine awp_region ?_
  refine aR 3 ?_
  refine aE ?_
  refine awp_seq ?_
  refine awp_seq ?_
  refine bE hF fun vr h1 hF => ?_
  refine awp_region ?_
  refine aR 2 ?_
  refine aC (stringslite_Index_ok h1) [] [] [] ?_
  refine aR 1 ?_
  refine aE ?_
  refine awp_seq ?_
  refine awp_region ?_
  refine aR 2 ?_
  refine aE ?_
  refine cE hF (fun h2 hF => ?_) fun h2 hF => ?_
  · refine awp_true (by kernel_rfl) h2 ?_
    refine awp_seq ?_
    refine bE hF fun vs h3 hF => ?_
    refine bE hF fun vs1 h4 hF => ?_
    refine aD ?_
    refine dR 2 ?_
    refine dX (x_sliceS h3) ?_
    refine dR 5 ?_
    refine dX (x_sliceS h4) ?_
    refine dR 3 ?_
    refine dE ?_
    refine awp_ret ?_
    exact oF hF [] []
  · refine awp_false (by kernel_rfl) h2 ?_
    refine awp_skip ?_
    refine awp_seq ?_
    refine awp_region ?_
    refine aR 4 ?_
    refine aE ?_
    refine awp_ret ?_
    exact oF hF [] []

/-! ### strings.Cut -/
def strings_Cut_R (qs : List UInt8) (qsep : List UInt8) (r : (List UInt8) × (List UInt8) × Bool) : TV × Mem := (.tup [.one (.d (.str r.1)), .one (.d (.str r.2.1)), .one (.d (.bool r.2.2))], ⟨[], []⟩)

theorem strings_Cut_ok {qs : List UInt8} {qsep : List UInt8} {r} (hF : strings_Cut qs qsep = some r) : Holds prog 161 [.v (.one (.d (.str qs))), .v (.one (.d (.str qsep)))] ⟨[], []⟩ (Is (strings_Cut_R qs qsep r)) := by
  unfold strings_Cut at hF
  refine holds_of_awp hΓ (fn := f161) (c := cB f161) (A := 0) (nx := 0) (by kernel_rfl) (by kernel_rfl) (by kernel_rfl) (by kernel_rfl) (by kernel_rfl) (by kernel_rfl) (lowc_of (by kernel_rfl)) ?_
  show Awp prog 0 13 (cB f161) _ _
  refine awp_seq ?_
  refine awp_region ?_
  refine aR 3 ?_
  refine aE ?_
  refine awp_seq ?_
  refine bE hF fun x h1 hF => ?_
  obtain ⟨vr1, vr2, vr3⟩ := x
  refine awp_region ?_
  refine aR 2 ?_
  refine aC (stringslite_Cut_ok h1) [] [] [] ?_
  refine aR 6 ?_
  refine aE ?_
  refine awp_ret ?_
  exact oF hF [] []

/-! ### beaconfleet/base.Key -/
def base_Key_x1_k : Bool → AEx
  | _ => .normal

def base_Key_x1_S (qs : List UInt8) : Bool → St
  | vx => Mem.st ⟨[], []⟩ (tl [(0, .v (.one (.d (.str qs)))), (21, .v (.one (.d (.bool vx))))]) 0

def base_Key_x1_I (qs : List UInt8) : St := Mem.st ⟨[], []⟩ (tl [(0, .v (.one (.d (.str qs))))]) 0

theorem base_Key_x1_ok (qs : List UInt8) {r} (hF : base_Key_x1 qs = some r) : Awp prog 0 54 (cL (cL (cR (cB f136)))) (Out 0 base_Key_x1_k (base_Key_x1_S qs) r) (base_Key_x1_I qs) := by
  unfold base_Key_x1 at hF
  refine cE hF (fun h1 hF => ?_) fun h1 hF => ?_
  · refine awp_region ?_
    refine aR 1 ?_
    refine aB h1 ?_
    refine aR 15 ?_
    refine aE ?_
    exact oO hF [] [] rfl
  · refine cE hF (fun h2 hF => ?_) fun h2 hF => ?_
    · refine awp_region ?_
      refine aR 1 ?_
      refine aB h1 ?_
      refine aR 3 ?_
      refine aB h2 ?_
      refine aR 11 ?_
      refine aE ?_
      exact oO hF [] [] rfl
    · refine bE hF fun vc h3 hF => ?_
      refine cE hF (fun h4 hF => ?_) fun h4 hF => ?_
      · refine awp_region ?_
        refine aR 1 ?_
        refine aB h1 ?_
        refine aR 3 ?_
        refine aB h2 ?_
        refine aR 3 ?_
        refine aX (x_idxS h3) ?_
        refine aB h4 ?_
        refine aR 6 ?_
        refine aE ?_
        exact oO hF [] [] rfl
      · refine awp_region ?_
        refine aR 1 ?_
        refine aB h1 ?_
        refine aR 3 ?_
        refine aB h2 ?_
        refine aR 3 ?_
        refine aX (x_idxS h3) ?_
        refine aB h4 ?_
        refine aR 3 ?_
        refine aX (x_idxS h3) ?_
        refine aR 2 ?_
        refine aE ?_
        exact oO hF [] [] rfl

def base_Key_x3_k : Bool → AEx
  | _ => .normal

def base_Key_x3_S (qs : List UInt8) (vx2 : Int) (vc2 : UInt8) : Bool → St
  | vx4 => Mem.st ⟨[], []⟩ (tl [(0, .v (.one (.d (.str qs)))), (23, .v (.one (.d (.int .i64 (qs.length : Int))))), (24, .v (.one (.d (.int .i64 vx2)))), (52, .v (.one (.d (.bool vx4))))]) 0

def base_Key_x3_I (qs : List UInt8) (vx2 : Int) (vc2 : UInt8) : St := Mem.st ⟨[], []⟩ (tl [(0, .v (.one (.d (.str qs)))), (4, .v (.one (.d (.int .u8 (vc2.toNat : Int))))), (23, .v (.one (.d (.int .i64 (qs.length : Int))))), (24, .v (.one (.d (.int .i64 vx2))))]) 0

theorem base_Key_x3_ok (qs : List UInt8) (vx2 : Int) (vc2 : UInt8) {r} (hF : base_Key_x3 vc2 = some r) : Awp prog 0 54 (cL (cR (cR (cL (cL (cR (cR (cL (cL (cR (cL (cR (cR (cB f136)))))))))))))) (Out 0 base_Key_x3_k (base_Key_x3_S qs vx2 vc2) r) (base_Key_x3_I qs vx2 vc2) := by
  unfold base_Key_x3 at hF
  refine cE hF (fun h9 hF => ?_) fun h9 hF => ?_
  · refine cE hF (fun h10 hF => ?_) fun h10 hF => ?_
    · refine awp_region ?_
      refine aR 1 ?_
      refine aB h9 ?_
      refine aR 2 ?_
      refine aB h10 ?_
      refine aR 18 ?_
      refine aE ?_
      exact oO hF [] [] rfl
    · refine cE hF (fun h11 hF => ?_) fun h11 hF => ?_
      · refine cE hF (fun h12 hF => ?_) fun h12 hF => ?_
        · refine awp_region ?_
          refine aR 1 ?_
          refine aB h9 ?_
          refine aR 2 ?_
          refine aB h10 ?_
          refine aR 3 ?_
          refine aB h11 ?_
          refine aR 2 ?_
          refine aB h12 ?_
          refine aR 11 ?_
          refine aE ?_
          exact oO hF [] [] rfl
        · refine cE hF (fun h13 hF => ?_) fun h13 hF => ?_
          · refine awp_region ?_
            refine aR 1 ?_
            refine aB h9 ?_
            refine aR 2 ?_
            refine aB h10 ?_
            refine aR 3 ?_
            refine aB h11 ?_
            refine aR 2 ?_
            refine aB h12 ?_
            refine aR 4 ?_
            refine aB h13 ?_
            refine aR 6 ?_
            refine aE ?_
            exact oO hF [] [] rfl
          · refine awp_region ?_
            refine aR 1 ?_
            refine aB h9 ?_
            refine aR 2 ?_
            refine aB h10 ?_
            refine aR 3 ?_
            refine aB h11 ?_
            refine aR 2 ?_
            refine aB h12 ?_
            refine aR 4 ?_
            refine aB h13 ?_
            refine aR 6 ?_
            refine aE ?_
            exact oO hF [] [] rfl
      · refine cE hF (fun h14 hF => ?_) fun h14 hF => ?_
        · refine awp_region ?_
          refine aR 1 ?_
          refine aB h9 ?_
          refine aR 2 ?_
          refine aB h10 ?_
          refine aR 3 ?_
          refine aB h11 ?_
          refine aR 7 ?_
          refine aB h14 ?_
          refine aR 6 ?_
          refine aE ?_
          exact oO hF [] [] rfl
        · refine awp_region ?_
          refine aR 1 ?_
          refine aB h9 ?_
          refine aR 2 ?_
          refine aB h10 ?_
          refine aR 3 ?_
          refine aB h11 ?_
          refine aR 7 ?_
          refine aB h14 ?_
          refine aR 6 ?_
          refine aE ?_
          exact oO hF [] [] rfl
  · refine cE hF (fun h15 hF => ?_) fun h15 hF => ?_
    · refine cE hF (fun h16 hF => ?_) fun h16 hF => ?_
      · refine awp_region ?_
        refine aR 1 ?_
        refine aB h9 ?_
        refine aR 6 ?_
        refine aB h15 ?_
        refine aR 2 ?_
        refine aB h16 ?_
        refine aR 11 ?_
        refine aE ?_
        exact oO hF [] [] rfl
      · refine cE hF (fun h17 hF => ?_) fun h17 hF => ?_
        · refine awp_region ?_
          refine aR 1 ?_
          refine aB h9 ?_
          refine aR 6 ?_
          refine aB h15 ?_
          refine aR 2 ?_
          refine aB h16 ?_
          refine aR 4 ?_
          refine aB h17 ?_
          refine aR 6 ?_
          refine aE ?_
          exact oO hF [] [] rfl
        · refine awp_region ?_
          refine aR 1 ?_
          refine aB h9 ?_
          refine aR 6 ?_
          refine aB h15 ?_
          refine aR 2 ?_
          refine aB h16 ?_
          refine aR 4 ?_
          refine aB h17 ?_
          refine aR 6 ?_
          refine aE ?_
          exact oO hF [] [] rfl
    · refine cE hF (fun h18 hF => ?_) fun h18 hF => ?_
      · refine awp_region ?_
        refine aR 1 ?_
        refine aB h9 ?_
        refine aR 6 ?_
        refine aB h15 ?_
        refine aR 7 ?_
        refine aB h18 ?_
        refine aR 6 ?_
        refine aE ?_
        exact oO hF [] [] rfl
      · refine awp_region ?_
        refine aR 1 ?_
        refine aB h9 ?_
        refine aR 6 ?_
        refine aB h15 ?_
        refine aR 7 ?_
        refine aB h18 ?_
        refine aR 6 ?_
        refine aE ?_
        exact oO hF [] [] rfl

def base_Key_x2_k : Unit ⊕ Unit → AEx
  | .inl _ => .exit 0
  | .inr _ => .ret

def base_Key_x2_S (qs : List UInt8) : Unit ⊕ Unit → St
  | .inl _ => Mem.st ⟨[], []⟩ (tl []) 0
  | .inr _ => Mem.st ⟨[], []⟩ (tl [(2, .v (.one (.d (.bool false))))]) 0

def base_Key_x2_H (qs : List UInt8) : Int → St
  | vx2 => Mem.st ⟨[], []⟩ (tl [(0, .v (.one (.d (.str qs)))), (23, .v (.one (.d (.int .i64 (qs.length : Int))))), (24, .v (.one (.d (.int .i64 vx2))))]) 0

theorem base_Key_x2_ok (qs : List UInt8) (vx2 : Int) (r : (Int) ⊕ (Unit ⊕ Unit)) (hF : base_Key_x2 qs vx2 = some r) : Awp prog 0 54 (cL (cL (cR (cL (cR (cR (cB f136))))))) (Out 0 (kk base_Key_x2_k) (SS (base_Key_x2_H qs) (base_Key_x2_S qs)) r) (base_Key_x2_H qs vx2) := by
  unfold base_Key_x2 at hF
  refine awp_seq ?_
  refine awp_region ?_
  refine aR 1 ?_
  refine aE ?_
  refine awp_seq ?_
  refine cE hF (fun h7 hF => ?_) fun h7 hF => ?_
  · refine awp_true (by kernel_rfl) h7 ?_
    refine awp_skip ?_
    refine awp_seq ?_
    refine awp_block ?_
    refine awp_seq ?_
    refine awp_region ?_
    refine aR 2 ?_
    refine aE ?_
    refine awp_seq ?_
    refine bE hF fun vc2 h8 hF => ?_
    refine awp_region ?_
    refine aR 2 ?_
    refine aX (x_idxS h8) ?_
    refine aR 1 ?_
    refine aE ?_
    refine awp_seq ?_
    refine awp_to (st' := base_Key_x3_I qs vx2 vc2) (oT [] []) ?_
    refine bE hF fun vx4_1 h19 hF => ?_
    refine awp_sub (base_Key_x3_ok qs vx2 vc2 h19) ?_
    refine cE hF (fun h20 hF => ?_) fun h20 hF => ?_
    · refine awp_true (by kernel_rfl) h20 ?_
      refine awp_seq ?_
      refine awp_region ?_
      refine aR 1 ?_
      refine aE ?_
      refine awp_ret ?_
      exact oO hF [] [] rfl
    · refine awp_false (by kernel_rfl) h20 ?_
      refine awp_skip ?_
      refine awp_region ?_
      refine aR 2 ?_
      refine aE ?_
      exact oO hF [] [] rfl
  · refine awp_false (by kernel_rfl) h7 ?_
    refine awp_exit ?_
    exact oO hF [] [] rfl

def base_Key_R (qs : List UInt8) (r : Bool) : TV × Mem := (.v (.one (.d (.bool r))), ⟨[], []⟩)

theorem base_Key_ok {qs : List UInt8} {r} (hF : base_Key qs = some r) : Holds prog 136 [.v (.one (.d (.str qs)))] ⟨[], []⟩ (Is (base_Key_R qs r)) := by
  unfold base_Key at hF
  refine holds_of_awp hΓ (fn := f136) (c := cB f136) (A := 0) (nx := 0) (by kernel_rfl) (by kernel_rfl) (by kernel_rfl) (by kernel_rfl) (by kernel_rfl) (by kernel_rfl) (lowc_of (by kernel_rfl)) ?_
  show Awp prog 0 54 (cB f136) _ _
  refine awp_seq ?_
  refine awp_region ?_
  refine aR 1 ?_
  refine aE ?_
  refine awp_seq ?_
  refine awp_seq ?_
  refine awp_to (st' := base_Key_x1_I qs) (oT [] []) ?_
  refine bE hF fun vx1 h5 hF => ?_
  refine awp_sub (base_Key_x1_ok qs h5) ?_
  refine cE hF (fun h6 hF => ?_) fun h6 hF => ?_
  · refine awp_true (by kernel_rfl) h6 ?_
    refine awp_seq ?_
    refine awp_region ?_
    refine aR 1 ?_
    refine aE ?_
    refine awp_ret ?_
    exact oF hF [] []
  · refine awp_false (by kernel_rfl) h6 ?_
    refine awp_skip ?_
    refine awp_seq ?_
    refine awp_seq ?_
    refine awp_region ?_
    refine aR 3 ?_
    refine aE ?_
    refine awp_block ?_
    refine awp_to (st' := base_Key_x2_H qs 0) (oT [] []) ?_
    refine bE hF fun x h21 hF => ?_
    rcases x with _ | _
    · refine awp_sub (awp_loop' (base_Key_x2_H qs) base_Key_x2_k (base_Key_x2_S qs) (by intro x; rcases x with x | x <;> exact fun h => nomatch h) h21 (base_Key_x2_ok qs)) ?_
      refine awp_seq ?_
      refine awp_region ?_
      refine aR 1 ?_
      refine aE ?_
      refine awp_ret ?_
      exact oF hF [] []
    · refine awp_sub (awp_loop' (base_Key_x2_H qs) base_Key_x2_k (base_Key_x2_S qs) (by intro x; rcases x with x | x <;> exact fun h => nomatch h) h21 (base_Key_x2_ok qs)) ?_
      exact oF hF [] []

/-! ### beaconfleet/base.Dotted -/
def base_Dotted_x1_k : Unit ⊕ Bool → AEx
  | .inl _ => .exit 0
  | .inr _ => .ret

def base_Dotted_x1_S (qmost : Int) : Unit ⊕ Bool → St
  | .inl _ => Mem.st ⟨[], []⟩ (tl []) 0
  | .inr vx => Mem.st ⟨[], []⟩ (tl [(4, .v (.one (.d (.bool vx))))]) 0

def base_Dotted_x1_H (qmost : Int) : (List UInt8) × Int → St
  | (vs, vn) => Mem.st ⟨[], []⟩ (tl [(0, .v (.one (.d (.str vs)))), (1, .v (.one (.d (.int .i64 qmost)))), (5, .v (.one (.d (.int .i64 vn))))]) 0

theorem base_Dotted_x1_ok (qmost : Int) (s : (List UInt8) × Int) (r : ((List UInt8) × Int) ⊕ (Unit ⊕ Bool)) (hF : base_Dotted_x1 qmost s = some r) : Awp prog 0 26 (cL (cL (cR (cL (cR (cB f122)))))) (Out 0 (kk base_Dotted_x1_k) (SS (base_Dotted_x1_H qmost) (base_Dotted_x1_S qmost)) r) (base_Dotted_x1_H qmost s) := by
  obtain ⟨vs, vn⟩ := s
  unfold base_Dotted_x1 at hF
  refine awp_seq ?_
  refine awp_seq ?_
  refine awp_region ?_
  refine aR 3 ?_
  refine aE ?_
  refine cE hF (fun h1 hF => ?_) fun h1 hF => ?_
  · refine awp_true (by kernel_rfl) h1 ?_
    refine awp_skip ?_
    refine awp_seq ?_
    refine awp_block ?_
    refine awp_seq ?_
    refine bE hF fun x h2 hF => ?_
    obtain ⟨vr2, vr4_1, vr5_1⟩ := x
    refine awp_region ?_
    refine aR 1 ?_
    refine aC (strings_Cut_ok h2) [] [] [] ?_
    refine aR 7 ?_
    refine aE ?_
    refine awp_seq ?_
    refine awp_seq ?_
    refine bE hF fun vr3 h3 hF => ?_
    refine awp_region ?_
    refine aR 1 ?_
    refine aC (base_Key_ok h3) [] [] [] ?_
    refine aR 1 ?_
    refine aE ?_
    refine cE hF (fun h4 hF => ?_) fun h4 hF => ?_
    · refine awp_true (by kernel_rfl) h4 ?_
      refine awp_seq ?_
      refine awp_region ?_
      refine aR 1 ?_
      refine aE ?_
      refine awp_ret ?_
      exact oO hF [] [] rfl
    · refine awp_false (by kernel_rfl) h4 ?_
      refine awp_skip ?_
      refine awp_seq ?_
      refine awp_seq ?_
      refine awp_region ?_
      refine aR 2 ?_
      refine aE ?_
      refine cE hF (fun h5 hF => ?_) fun h5 hF => ?_
      · refine awp_true (by kernel_rfl) h5 ?_
        refine awp_seq ?_
        refine awp_region ?_
        refine aR 1 ?_
        refine aE ?_
        refine awp_ret ?_
        exact oO hF [] [] rfl
      · refine awp_false (by kernel_rfl) h5 ?_
        refine awp_skip ?_
        refine awp_region ?_
        refine aR 2 ?_
        refine aE ?_
        refine awp_region ?_
        refine aR 3 ?_
        refine aE ?_
        exact oO hF [] [] rfl
  · refine awp_false (by kernel_rfl) h1 ?_
    refine awp_exit ?_
    exact oO hF [] [] rfl

def base_Dotted_R (qs : List UInt8) (qmost : Int) (r : Bool) : TV × Mem := (.v (.one (.d (.bool r))), ⟨[], []⟩)

theorem base_Dotted_ok {qs : List UInt8} {qmost : Int} {r} (hF : base_Dotted qs qmost = some r) : Holds prog 122 [.v (.one (.d (.str qs))), .v (.one (.d (.int .i64 qmost)))] ⟨[], []⟩ (Is (base_Dotted_R qs qmost r)) := by
  unfold base_Dotted at hF
  refine holds_of_awp hΓ (fn := f122) (c := cB f122) (A := 0) (nx := 0) (by kernel_rfl) (by kernel_rfl) (by kernel_rfl) (by kernel_rfl) (by kernel_rfl) (by kernel_rfl) (lowc_of (by kernel_rfl)) ?_
  show Awp prog 0 26 (cB f122) _ _
  refine awp_seq ?_
  refine awp_region ?_
  refine aR 1 ?_
  refine aE ?_
  refine awp_seq ?_
  refine awp_seq ?_
  refine awp_region ?_
  refine aR 1 ?_
  refine aE ?_
  refine awp_block ?_
  refine awp_to (st' := base_Dotted_x1_H qmost (qs, 0)) (oT [] []) ?_
  refine bE hF fun x h6 hF => ?_
  rcases x with _ | vx1
  · refine awp_sub (awp_loop' (base_Dotted_x1_H qmost) base_Dotted_x1_k (base_Dotted_x1_S qmost) (by intro x; rcases x with x | x <;> exact fun h => nomatch h) h6 (base_Dotted_x1_ok qmost)) ?_
    refine awp_seq ?_
    refine awp_region ?_
    refine aR 1 ?_
    refine aE ?_
    refine awp_ret ?_
    exact oF hF [] []
  · refine awp_sub (awp_loop' (base_Dotted_x1_H qmost) base_Dotted_x1_k (base_Dotted_x1_S qmost) (by intro x; rcases x with x | x <;> exact fun h => nomatch h) h6 (base_Dotted_x1_ok qmost)) ?_
    exact oF hF [] []

/-! ### beaconfleet/twin.isName -/
def twin_isName_R (qs : List UInt8) (r : Bool) : TV × Mem := (.v (.one (.d (.bool r))), ⟨[], []⟩)

theorem twin_isName_ok {qs : List UInt8} {r} (hF : twin_isName qs = some r) : Holds prog 69 [.v (.one (.d (.str qs)))] ⟨[], []⟩ (Is (twin_isName_R qs r)) := by
  unfold twin_isName at hF
  refine holds_of_awp hΓ (fn := f69) (c := cB f69) (A := 0) (nx := 0) (by kernel_rfl) (by kernel_rfl) (by kernel_rfl) (by kernel_rfl) (by kernel_rfl) (by kernel_rfl) (lowc_of (by kernel_rfl)) ?_
  show Awp prog 0 5 (cB f69) _ _
  refine awp_seq ?_
  refine awp_region ?_
  refine aR 1 ?_
  refine aE ?_
  refine awp_seq ?_
  refine bE hF fun vr6 h1 hF => ?_
  refine awp_region ?_
  refine aR 1 ?_
  refine aC (base_Dotted_ok h1) [] [] [] ?_
  refine aR 1 ?_
  refine aE ?_
  refine awp_ret ?_
  exact oF hF [] []

/-! ### beaconfleet/base.Out -/
def base_Out_x1_k : Bool → AEx
  | _ => .normal

def base_Out_x1_S (qn : Int) (qlow : Int) (qhigh : Int) : Bool → St
  | vx => Mem.st ⟨[], []⟩ (tl [(6, .v (.one (.d (.bool vx))))]) 0

def base_Out_x1_I (qn : Int) (qlow : Int) (qhigh : Int) : St := Mem.st ⟨[], []⟩ (tl [(0, .v (.one (.d (.int .i64 qn)))), (1, .v (.one (.d (.int .i64 qlow)))), (2, .v (.one (.d (.int .i64 qhigh))))]) 0

theorem base_Out_x1_ok (qn : Int) (qlow : Int) (qhigh : Int) {r} (hF : base_Out_x1 qn qlow qhigh = some r) : Awp prog 0 15 (cL (cR (cB f52))) (Out 0 base_Out_x1_k (base_Out_x1_S qn qlow qhigh) r) (base_Out_x1_I qn qlow qhigh) := by
  unfold base_Out_x1 at hF
  refine cE hF (fun h1 hF => ?_) fun h1 hF => ?_
  · refine awp_region ?_
    refine aR 2 ?_
    refine aB h1 ?_
    refine aR 6 ?_
    refine aE ?_
    exact oO hF [] [] rfl
  · refine awp_region ?_
    refine aR 2 ?_
    refine aB h1 ?_
    refine aR 6 ?_
    refine aE ?_
    exact oO hF [] [] rfl

def base_Out_R (qn : Int) (qlow : Int) (qhigh : Int) (r : Bool) : TV × Mem := (.v (.one (.d (.bool r))), ⟨[], []⟩)

theorem base_Out_ok {qn : Int} {qlow : Int} {qhigh : Int} {r} (hF : base_Out qn qlow qhigh = some r) : Holds prog 52 [.v (.one (.d (.int .i64 qn))), .v (.one (.d (.int .i64 qlow))), .v (.one (.d (.int .i64 qhigh)))] ⟨[], []⟩ (Is (base_Out_R qn qlow qhigh r)) := by
  unfold base_Out at hF
  refine holds_of_awp hΓ (fn := f52) (c := cB f52) (A := 0) (nx := 0) (by kernel_rfl) (by kernel_rfl) (by kernel_rfl) (by kernel_rfl) (by kernel_rfl) (by kernel_rfl) (lowc_of (by kernel_rfl)) ?_
  show Awp prog 0 15 (cB f52) _ _
  refine awp_seq ?_
  refine awp_region ?_
  refine aR 1 ?_
  refine aE ?_
  refine awp_seq ?_
  refine awp_to (st' := base_Out_x1_I qn qlow qhigh) (oT [] []) ?_
  refine bE hF fun vx1 h2 hF => ?_
  refine awp_sub (base_Out_x1_ok qn qlow qhigh h2) ?_
  refine awp_ret ?_
  exact oF hF [] []

/-! ### unicode/utf8.ValidString -/
def utf8_ValidString_R (qx : List UInt8) (r : Bool) : TV × Mem := (.v (.one (.d (.bool r))), ⟨[], []⟩)

theorem utf8_ValidString_ok {qx : List UInt8} {r} (hF : utf8_ValidString qx = some r) : Holds prog 143 [.v (.one (.d (.str qx)))] ⟨[], []⟩ (Is (utf8_ValidString_R qx r)) := by
  unfold utf8_ValidString at hF
  refine gE hF fun h1 hF => ?_
  obtain rfl := Option.some.inj hF
  have h2 : qx.length ≤ 9223372036854775807 := by simpa using h1
  refine holds_lib (args := [.str qx]) (tv := .c (.d (.bool (Lib.validD qx)))) ⟨_, cB Go.Proofs.Tryz.f143, Go.Proofs.Tryz.func143, by kernel_rfl, by kernel_rfl⟩ rfl rfl fun w ht => ?_
  refine (Go.Proofs.Any.utf8_ValidString Go.Proofs.Tryz.lays196 ⟨qx.toArray⟩ w (by simpa [ByteArray.size] using h2) (utf8_tabs (ht 1 _ rfl) (ht 2 _ rfl) (by kernel_rfl) (by kernel_rfl))).mono ?_
  rintro e w' ⟨rfl, hb⟩
  exact ⟨rfl, hb⟩

/-! ### beaconfleet/base.Unmarked -/
def base_Unmarked_x2_k : Bool → AEx
  | _ => .normal

def base_Unmarked_x2_S (qs : List UInt8) (vx : Int) : Bool → St
  | vx2 => Mem.st ⟨[], []⟩ (tl [(0, .v (.one (.d (.str qs)))), (5, .v (.one (.d (.int .i64 (qs.length : Int))))), (6, .v (.one (.d (.int .i64 vx)))), (18, .v (.one (.d (.bool vx2))))]) 0

def base_Unmarked_x2_I (qs : List UInt8) (vx : Int) : St := Mem.st ⟨[], []⟩ (tl [(0, .v (.one (.d (.str qs)))), (3, .v (.one (.d (.int .i64 vx)))), (5, .v (.one (.d (.int .i64 (qs.length : Int))))), (6, .v (.one (.d (.int .i64 vx))))]) 0

theorem base_Unmarked_x2_ok (qs : List UInt8) (vx : Int) {r} (hF : base_Unmarked_x2 qs vx = some r) : Awp prog 0 22 (cL (cR (cL (cL (cR (cR (cL (cL (cR (cL (cR (cB f124)))))))))))) (Out 0 base_Unmarked_x2_k (base_Unmarked_x2_S qs vx) r) (base_Unmarked_x2_I qs vx) := by
  unfold base_Unmarked_x2 at hF
  refine bE hF fun vc1 h2 hF => ?_
  refine cE hF (fun h3 hF => ?_) fun h3 hF => ?_
  · refine awp_region ?_
    refine aR 2 ?_
    refine aX (x_idxS h2) ?_
    refine aB h3 ?_
    refine aR 6 ?_
    refine aE ?_
    exact oO hF [] [] rfl
  · refine awp_region ?_
    refine aR 2 ?_
    refine aX (x_idxS h2) ?_
    refine aB h3 ?_
    refine aR 3 ?_
    refine aX (x_idxS h2) ?_
    refine aR 2 ?_
    refine aE ?_
    exact oO hF [] [] rfl

def base_Unmarked_x1_k : Unit ⊕ Unit → AEx
  | .inl _ => .exit 0
  | .inr _ => .ret

def base_Unmarked_x1_S (qs : List UInt8) : Unit ⊕ Unit → St
  | .inl _ => Mem.st ⟨[], []⟩ (tl [(0, .v (.one (.d (.str qs))))]) 0
  | .inr _ => Mem.st ⟨[], []⟩ (tl [(2, .v (.one (.d (.bool false))))]) 0

def base_Unmarked_x1_H (qs : List UInt8) : Int → St
  | vx => Mem.st ⟨[], []⟩ (tl [(0, .v (.one (.d (.str qs)))), (5, .v (.one (.d (.int .i64 (qs.length : Int))))), (6, .v (.one (.d (.int .i64 vx))))]) 0

theorem base_Unmarked_x1_ok (qs : List UInt8) (vx : Int) (r : (Int) ⊕ (Unit ⊕ Unit)) (hF : base_Unmarked_x1 qs vx = some r) : Awp prog 0 22 (cL (cL (cR (cL (cR (cB f124)))))) (Out 0 (kk base_Unmarked_x1_k) (SS (base_Unmarked_x1_H qs) (base_Unmarked_x1_S qs)) r) (base_Unmarked_x1_H qs vx) := by
  unfold base_Unmarked_x1 at hF
  refine awp_seq ?_
  refine awp_region ?_
  refine aR 1 ?_
  refine aE ?_
  refine awp_seq ?_
  refine cE hF (fun h1 hF => ?_) fun h1 hF => ?_
  · refine awp_true (by kernel_rfl) h1 ?_
    refine awp_skip ?_
    refine awp_seq ?_
    refine awp_block ?_
    refine awp_seq ?_
    refine awp_region ?_
    refine aR 2 ?_
    refine aE ?_
    refine awp_seq ?_
    refine awp_to (st' := base_Unmarked_x2_I qs vx) (oT [] []) ?_
    refine bE hF fun vx2_1 h4 hF => ?_
    refine awp_sub (base_Unmarked_x2_ok qs vx h4) ?_
    refine cE hF (fun h5 hF => ?_) fun h5 hF => ?_
    · refine awp_true (by kernel_rfl) h5 ?_
      refine awp_seq ?_
      refine awp_region ?_
      refine aR 1 ?_
      refine aE ?_
      refine awp_ret ?_
      exact oO hF [] [] rfl
    · refine awp_false (by kernel_rfl) h5 ?_
      refine awp_skip ?_
      refine awp_region ?_
      refine aR 2 ?_
      refine aE ?_
      exact oO hF [] [] rfl
  · refine awp_false (by kernel_rfl) h1 ?_
    refine awp_exit ?_
    exact oO hF [] [] rfl

def base_Unmarked_R (qs : List UInt8) (r : Bool) : TV × Mem := (.v (.one (.d (.bool r))), ⟨[], []⟩)

theorem base_Unmarked_ok {qs : List UInt8} {r} (hF : base_Unmarked qs = some r) : Holds prog 124 [.v (.one (.d (.str qs)))] ⟨[], []⟩ (Is (base_Unmarked_R qs r)) := by
  unfold base_Unmarked at hF
  refine holds_of_awp hΓ (fn := f124) (c := cB f124) (A := 0) (nx := 0) (by kernel_rfl) (by kernel_rfl) (by kernel_rfl) (by kernel_rfl) (by kernel_rfl) (by kernel_rfl) (lowc_of (by kernel_rfl)) ?_
  show Awp prog 0 22 (cB f124) _ _
  refine awp_seq ?_
  refine awp_region ?_
  refine aR 1 ?_
  refine aE ?_
  refine awp_seq ?_
  refine awp_seq ?_
  refine awp_region ?_
  refine aR 3 ?_
  refine aE ?_
  refine awp_block ?_
  refine awp_to (st' := base_Unmarked_x1_H qs 0) (oT [] []) ?_
  refine bE hF fun x h6 hF => ?_
  rcases x with _ | _
  · refine awp_sub (awp_loop' (base_Unmarked_x1_H qs) base_Unmarked_x1_k (base_Unmarked_x1_S qs) (by intro x; rcases x with x | x <;> exact fun h => nomatch h) h6 (base_Unmarked_x1_ok qs)) ?_
    refine awp_seq ?_
    refine bE hF fun vr h7 hF => ?_
    refine awp_region ?_
    refine aR 1 ?_
    refine aC (utf8_ValidString_ok h7) [] [] [] ?_
    refine aR 1 ?_
    refine aE ?_
    refine awp_ret ?_
    exact oF hF [] []
  · refine awp_sub (awp_loop' (base_Unmarked_x1_H qs) base_Unmarked_x1_k (base_Unmarked_x1_S qs) (by intro x; rcases x with x | x <;> exact fun h => nomatch h) h6 (base_Unmarked_x1_ok qs)) ?_
    exact oF hF [] []

/-! ### beaconfleet/twin.valueFault -/
def twin_valueFault_x1_k : api_Value ⊕ Unit → AEx
  | .inl _ => .normal
  | .inr _ => .ret

def twin_valueFault_x1_S (qv : api_Value) : api_Value ⊕ Unit → St
  | .inl vused => Mem.st ⟨[], [(0, [.d (.int .i64 qv.Kind), .d (.bool qv.Flag), .d (.int .i64 qv.Number), .d (.str qv.Words)]), (1, [.d (.int .i64 vused.Kind), .d (.bool vused.Flag), .d (.int .i64 vused.Number), .d (.str vused.Words)])]⟩ (tl [(1, .v (.one (.box 0 0))), (3, .v (.one (.box 1 0)))]) 2
  | .inr _ => Mem.st ⟨[], []⟩ (tl [(2, .v (.one (.d (.int .i64 4))))]) 0

def twin_valueFault_x1_I (qv : api_Value) : St := Mem.st ⟨[], [(0, [.d (.int .i64 qv.Kind), .d (.bool qv.Flag), .d (.int .i64 qv.Number), .d (.str qv.Words)]), (1, [.d (.int .i64 qv.Kind), .d (.bool false), .d (.int .i64 0), .d (.str ([] : List UInt8))])]⟩ (tl [(1, .v (.one (.box 0 0))), (3, .v (.one (.box 1 0)))]) 2

theorem twin_valueFault_x1_ok (qv : api_Value) {r} (hF : twin_valueFault_x1 qv = some r) : Awp prog 0 44 (cL (cR (cR (cB f73)))) (Out 0 twin_valueFault_x1_k (twin_valueFault_x1_S qv) r) (twin_valueFault_x1_I qv) := by
  unfold twin_valueFault_x1 at hF
  refine awp_seq ?_
  refine awp_region ?_
  refine aR 2 ?_
  refine aE ?_
  refine awp_block ?_
  refine awp_seq ?_
  refine awp_region ?_
  refine aR 2 ?_
  refine aE ?_
  refine cE hF (fun h1 hF => ?_) fun h1 hF => ?_
  · refine awp_true (by kernel_rfl) h1 ?_
    refine awp_skip ?_
    exact oO hF [] [] rfl
  · refine awp_false (by kernel_rfl) h1 ?_
    refine awp_seq ?_
    refine awp_region ?_
    refine aR 2 ?_
    refine aE ?_
    refine cE hF (fun h2 hF => ?_) fun h2 hF => ?_
    · refine awp_true (by kernel_rfl) h2 ?_
      refine awp_region ?_
      refine aR 4 ?_
      refine aE ?_
      exact oO hF [] [] rfl
    · refine awp_false (by kernel_rfl) h2 ?_
      refine awp_seq ?_
      refine awp_region ?_
      refine aR 2 ?_
      refine aE ?_
      refine cE hF (fun h3 hF => ?_) fun h3 hF => ?_
      · refine awp_true (by kernel_rfl) h3 ?_
        refine awp_region ?_
        refine aR 4 ?_
        refine aE ?_
        exact oO hF [] [] rfl
      · refine awp_false (by kernel_rfl) h3 ?_
        refine awp_seq ?_
        refine awp_region ?_
        refine aR 2 ?_
        refine aE ?_
        refine cE hF (fun h4 hF => ?_) fun h4 hF => ?_
        · refine awp_true (by kernel_rfl) h4 ?_
          refine awp_region ?_
          refine aR 4 ?_
          refine aE ?_
          exact oO hF [] [] rfl
        · refine awp_false (by kernel_rfl) h4 ?_
          refine awp_seq ?_
          refine awp_region ?_
          refine aR 1 ?_
          refine aE ?_
          refine awp_ret ?_
          exact oO hF [] [] rfl

def twin_valueFault_R (qv : api_Value) (r : Int) : TV × Mem := (.v (.one (.d (.int .i64 r))), ⟨[], []⟩)

theorem twin_valueFault_ok {qv : api_Value} {r} (hF : twin_valueFault qv = some r) : Holds prog 73 [.v (.agg [.d (.int .i64 qv.Kind), .d (.bool qv.Flag), .d (.int .i64 qv.Number), .d (.str qv.Words)])] ⟨[], []⟩ (Is (twin_valueFault_R qv r)) := by
  unfold twin_valueFault at hF
  refine holds_of_awp hΓ (fn := f73) (c := cB f73) (A := 0) (nx := 0) (by kernel_rfl) (by kernel_rfl) (by kernel_rfl) (by kernel_rfl) (by kernel_rfl) (by kernel_rfl) (lowc_of (by kernel_rfl)) ?_
  show Awp prog 0 44 (cB f73) _ _
  refine awp_seq ?_
  refine awp_region ?_
  refine aR 2 ?_
  refine aE ?_
  refine awp_seq ?_
  refine awp_region ?_
  refine aR 5 ?_
  refine aE ?_
  refine awp_seq ?_
  refine awp_to (st' := twin_valueFault_x1_I qv) (oT [(1, 5000)] []) ?_
  refine bE hF fun x h5 hF => ?_
  rcases x with vused1 | _
  · refine awp_sub (twin_valueFault_x1_ok qv h5) ?_
    refine awp_seq ?_
    refine awp_block ?_
    refine awp_seq ?_
    refine awp_region ?_
    refine aR 2 ?_
    refine aS (does_eqS (op := .neq) (xs := [.int .i64 qv.Kind, .bool qv.Flag, .int .i64 qv.Number, .str qv.Words]) (ys := [.int .i64 vused1.Kind, .bool vused1.Flag, .int .i64 vused1.Number, .str vused1.Words]) (b := (decide (qv.Kind = vused1.Kind) && ((qv.Flag == vused1.Flag) && (decide (qv.Number = vused1.Number) && (decide (qv.Words = vused1.Words) && true))))) (c := (!(decide (qv.Kind = vused1.Kind) && ((qv.Flag == vused1.Flag) && (decide (qv.Number = vused1.Number) && (decide (qv.Words = vused1.Words) && true)))))) rfl (.inr ⟨rfl, rfl⟩) (by kernel_rfl) (by kernel_rfl) (by kernel_rfl) (by kernel_rfl) (by kernel_rfl) (by kernel_rfl)) ?_
    refine aR 1 ?_
    refine aE ?_
    refine cE hF (fun h6 hF => ?_) fun h6 hF => ?_
    · refine awp_true (by kernel_rfl) h6 ?_
      refine awp_seq ?_
      refine awp_region ?_
      refine aR 1 ?_
      refine aE ?_
      refine awp_ret ?_
      exact oF hF [] []
    · refine awp_false (by kernel_rfl) h6 ?_
      refine awp_seq ?_
      refine bE hF fun vr h7 hF => ?_
      refine awp_region ?_
      refine aR 2 ?_
      refine aC (base_Out_ok h7) [] [] [] ?_
      refine aR 1 ?_
      refine aE ?_
      refine cE hF (fun h8 hF => ?_) fun h8 hF => ?_
      · refine awp_true (by kernel_rfl) h8 ?_
        refine awp_seq ?_
        refine awp_region ?_
        refine aR 1 ?_
        refine aE ?_
        refine awp_ret ?_
        exact oF hF [] []
      · refine awp_false (by kernel_rfl) h8 ?_
        refine awp_seq ?_
        refine awp_region ?_
        refine aR 5 ?_
        refine aE ?_
        refine cE hF (fun h9 hF => ?_) fun h9 hF => ?_
        · refine awp_true (by kernel_rfl) h9 ?_
          refine awp_seq ?_
          refine awp_region ?_
          refine aR 1 ?_
          refine aE ?_
          refine awp_ret ?_
          exact oF hF [] []
        · refine awp_false (by kernel_rfl) h9 ?_
          refine awp_seq ?_
          refine bE hF fun vr1 h10 hF => ?_
          refine awp_region ?_
          refine aR 2 ?_
          refine aC (base_Unmarked_ok h10) [] [] [] ?_
          refine aR 2 ?_
          refine aE ?_
          refine cE hF (fun h11 hF => ?_) fun h11 hF => ?_
          · refine awp_true (by kernel_rfl) h11 ?_
            refine awp_seq ?_
            refine awp_region ?_
            refine aR 1 ?_
            refine aE ?_
            refine awp_ret ?_
            exact oF hF [] []
          · refine awp_false (by kernel_rfl) h11 ?_
            refine awp_skip ?_
            refine awp_seq ?_
            refine awp_region ?_
            refine aR 1 ?_
            refine aE ?_
            refine awp_ret ?_
            exact oF hF [] []
  · refine awp_sub (twin_valueFault_x1_ok qv h5) ?_
    exact oF hF [] []

/-! ### beaconfleet/base.Moment -/
def base_Moment_R (qn : Int) (r : Bool) : TV × Mem := (.v (.one (.d (.bool r))), ⟨[], []⟩)

theorem base_Moment_ok {qn : Int} {r} (hF : base_Moment qn = some r) : Holds prog 135 [.v (.one (.d (.int .i64 qn)))] ⟨[], []⟩ (Is (base_Moment_R qn r)) := by
  unfold base_Moment at hF
  refine holds_of_awp hΓ (fn := f135) (c := cB f135) (A := 0) (nx := 0) (by kernel_rfl) (by kernel_rfl) (by kernel_rfl) (by kernel_rfl) (by kernel_rfl) (by kernel_rfl) (lowc_of (by kernel_rfl)) ?_
  show Awp prog 0 6 (cB f135) _ _
  refine awp_seq ?_
  refine awp_region ?_
  refine aR 1 ?_
  refine aE ?_
  refine awp_seq ?_
  refine bE hF fun vr h1 hF => ?_
  refine awp_region ?_
  refine aR 1 ?_
  refine aC (base_Out_ok h1) [] [] [] ?_
  refine aR 2 ?_
  refine aE ?_
  refine awp_ret ?_
  exact oF hF [] []

/-! ### beaconfleet/twin.stampFault -/
def twin_stampFault_R (qs : api_Stamp) (r : Int) : TV × Mem := (.v (.one (.d (.int .i64 r))), ⟨[], []⟩)

theorem twin_stampFault_ok {qs : api_Stamp} {r} (hF : twin_stampFault qs = some r) : Holds prog 94 [.v (.agg [.d (.int .i64 qs.At), .d (.str qs.By), .d (.int .i64 qs.No)])] ⟨[], []⟩ (Is (twin_stampFault_R qs r)) := by
  unfold twin_stampFault at hF
  refine holds_of_awp hΓ (fn := f94) (c := cB f94) (A := 0) (nx := 0) (by kernel_rfl) (by kernel_rfl) (by kernel_rfl) (by kernel_rfl) (by kernel_rfl) (by kernel_rfl) (lowc_of (by kernel_rfl)) ?_
  show Awp prog 0 17 (cB f94) _ _
  refine awp_seq ?_
  refine awp_region ?_
  refine aR 2 ?_
  refine aE ?_
  refine awp_seq ?_
  refine awp_block ?_
  refine awp_seq ?_
  refine bE hF fun vr1 h1 hF => ?_
  refine awp_region ?_
  refine aR 2 ?_
  refine aC (base_Moment_ok h1) [] [] [] ?_
  refine aR 2 ?_
  refine aE ?_
  refine cE hF (fun h2 hF => ?_) fun h2 hF => ?_
  · refine awp_true (by kernel_rfl) h2 ?_
    refine awp_seq ?_
    refine awp_region ?_
    refine aR 1 ?_
    refine aE ?_
    refine awp_ret ?_
    exact oF hF [] []
  · refine awp_false (by kernel_rfl) h2 ?_
    refine awp_seq ?_
    refine bE hF fun vr h3 hF => ?_
    refine awp_region ?_
    refine aR 2 ?_
    refine aC (base_Key_ok h3) [] [] [] ?_
    refine aR 2 ?_
    refine aE ?_
    refine cE hF (fun h4 hF => ?_) fun h4 hF => ?_
    · refine awp_true (by kernel_rfl) h4 ?_
      refine awp_seq ?_
      refine awp_region ?_
      refine aR 1 ?_
      refine aE ?_
      refine awp_ret ?_
      exact oF hF [] []
    · refine awp_false (by kernel_rfl) h4 ?_
      refine awp_seq ?_
      refine bE hF fun vr2 h5 hF => ?_
      refine awp_region ?_
      refine aR 2 ?_
      refine aC (base_Out_ok h5) [] [] [] ?_
      refine aR 1 ?_
      refine aE ?_
      refine cE hF (fun h6 hF => ?_) fun h6 hF => ?_
      · refine awp_true (by kernel_rfl) h6 ?_
        refine awp_seq ?_
        refine awp_region ?_
        refine aR 1 ?_
        refine aE ?_
        refine awp_ret ?_
        exact oF hF [] []
      · refine awp_false (by kernel_rfl) h6 ?_
        refine awp_skip ?_
        refine awp_seq ?_
        refine awp_region ?_
        refine aR 1 ?_
        refine aE ?_
        refine awp_ret ?_
        exact oF hF [] []

/-! ### beaconfleet/base.First -/
def base_First_x1_k : Unit ⊕ Int → AEx
  | .inl _ => .exit 0
  | .inr _ => .ret

def base_First_x1_S (ql : List Int) : Unit ⊕ Int → St
  | .inl _ => Mem.st ⟨[], []⟩ (tl []) 0
  | .inr vx1 => Mem.st ⟨[], []⟩ (tl [(2, .v (.one (.d (.int .i64 vx1))))]) 0

def base_First_x1_H (ql : List Int) : Int → St
  | vx => Mem.st ⟨[], []⟩ (tl [(5, .v (.one (.d (.lst (List.map (encI .i64) ql))))), (6, .v (.one (.d (.int .i64 (ql.length : Int))))), (7, .v (.one (.d (.int .i64 vx))))]) 0

theorem base_First_x1_ok (ql : List Int) (vx : Int) (r : (Int) ⊕ (Unit ⊕ Int)) (hF : base_First_x1 ql vx = some r) : Awp prog 0 15 (cL (cL (cR (cL (cR (cB f84)))))) (Out 0 (kk base_First_x1_k) (SS (base_First_x1_H ql) (base_First_x1_S ql)) r) (base_First_x1_H ql vx) := by
  unfold base_First_x1 at hF
  refine awp_seq ?_
  refine awp_region ?_
  refine aR 1 ?_
  refine aE ?_
  refine awp_seq ?_
  refine cE hF (fun h1 hF => ?_) fun h1 hF => ?_
  · refine awp_true (by kernel_rfl) h1 ?_
    refine awp_skip ?_
    refine awp_seq ?_
    refine awp_block ?_
    refine awp_seq ?_
    refine bE hF fun vy1 h2 hF => ?_
    refine awp_region ?_
    refine aX (x_idx (encI .i64) h2) ?_
    refine aR 2 ?_
    refine aE ?_
    refine awp_seq ?_
    refine awp_region ?_
    refine aR 2 ?_
    refine aE ?_
    refine cE hF (fun h3 hF => ?_) fun h3 hF => ?_
    · refine awp_true (by kernel_rfl) h3 ?_
      refine awp_seq ?_
      refine awp_region ?_
      refine aR 2 ?_
      refine aE ?_
      refine awp_ret ?_
      exact oO hF [] [] rfl
    · refine awp_false (by kernel_rfl) h3 ?_
      refine awp_skip ?_
      refine awp_region ?_
      refine aR 2 ?_
      refine aE ?_
      exact oO hF [] [] rfl
  · refine awp_false (by kernel_rfl) h1 ?_
    refine awp_exit ?_
    exact oO hF [] [] rfl

def base_First_R (ql : List Int) (r : Int) : TV × Mem := (.v (.one (.d (.int .i64 r))), ⟨[], []⟩)

theorem base_First_ok {ql : List Int} {r} (hF : base_First ql = some r) : Holds prog 84 [.v (.one (.d (.lst (List.map (encI .i64) ql))))] ⟨[], []⟩ (Is (base_First_R ql r)) := by
  unfold base_First at hF
  refine holds_of_awp hΓ (fn := f84) (c := cB f84) (A := 0) (nx := 0) (by kernel_rfl) (by kernel_rfl) (by kernel_rfl) (by kernel_rfl) (by kernel_rfl) (by kernel_rfl) (lowc_of (by kernel_rfl)) ?_
  show Awp prog 0 15 (cB f84) _ _
  refine awp_seq ?_
  refine awp_region ?_
  refine aR 1 ?_
  refine aE ?_
  refine awp_seq ?_
  refine awp_seq ?_
  refine awp_region ?_
  refine aR 1 ?_
  refine aL (encI .i64) ql ?_
  refine aR 1 ?_
  refine aE ?_
  refine awp_block ?_
  refine awp_to (st' := base_First_x1_H ql 0) (oT [] []) ?_
  refine bE hF fun x h4 hF => ?_
  rcases x with _ | vx1_1
  · refine awp_sub (awp_loop' (base_First_x1_H ql) base_First_x1_k (base_First_x1_S ql) (by intro x; rcases x with x | x <;> exact fun h => nomatch h) h4 (base_First_x1_ok ql)) ?_
    refine awp_seq ?_
    refine awp_region ?_
    refine aR 1 ?_
    refine aE ?_
    refine awp_ret ?_
    exact oF hF [] []
  · refine awp_sub (awp_loop' (base_First_x1_H ql) base_First_x1_k (base_First_x1_S ql) (by intro x; rcases x with x | x <;> exact fun h => nomatch h) h4 (base_First_x1_ok ql)) ?_
    exact oF hF [] []

/-! ### beaconfleet/twin.CheckCells -/
def twin_CheckCells_x2_k : Bool → AEx
  | _ => .normal

def twin_CheckCells_x2_S (ql : List api_Cell) (vx : Int) (vy2 : api_Cell) : Bool → St
  | vx2 => Mem.st ⟨[], []⟩ (tl [(0, .v (.one (.d (.lst (List.map api_Cell.enc ql))))), (9, .v (.one (.d (.lst (List.map api_Cell.enc ql))))), (10, .v (.one (.d (.int .i64 (ql.length : Int))))), (11, .v (.one (.d (.int .i64 vx)))), (47, .v (.one (.d (.bool vx2))))]) 0

def twin_CheckCells_x2_I (ql : List api_Cell) (vx : Int) (vy2 : api_Cell) : St := Mem.st ⟨[], [(0, [.d (.str vy2.Prop_.Name), .d (.int .i64 vy2.Prop_.Value.Kind), .d (.bool vy2.Prop_.Value.Flag), .d (.int .i64 vy2.Prop_.Value.Number), .d (.str vy2.Prop_.Value.Words), .d (.int .i64 vy2.Stamp.At), .d (.str vy2.Stamp.By), .d (.int .i64 vy2.Stamp.No)])]⟩ (tl [(0, .v (.one (.d (.lst (List.map api_Cell.enc ql))))), (3, .v (.one (.d (.int .i64 vx)))), (4, .v (.one (.box 0 0))), (9, .v (.one (.d (.lst (List.map api_Cell.enc ql))))), (10, .v (.one (.d (.int .i64 (ql.length : Int))))), (11, .v (.one (.d (.int .i64 vx))))]) 1

theorem twin_CheckCells_x2_ok (ql : List api_Cell) (vx : Int) (vy2 : api_Cell) {r} (hF : twin_CheckCells_x2 ql vx vy2 = some r) : Awp prog 0 49 (cL (cR (cR (cR (cL (cL (cR (cR (cL (cL (cR (cL (cR (cR (cB f43))))))))))))))) (Out 0 twin_CheckCells_x2_k (twin_CheckCells_x2_S ql vx vy2) r) (twin_CheckCells_x2_I ql vx vy2) := by
  unfold twin_CheckCells_x2 at hF
  refine cE hF (fun h10 hF => ?_) fun h10 hF => ?_
  · refine bE hF fun vy3 h11 hF => ?_
    refine aD ?_
    refine dR 1 ?_
    refine dB h10 ?_
    refine dR 7 ?_
    refine dX (x_idx api_Cell.enc h11) ?_
    refine dR 5 ?_
    refine dE ?_
    exact oO hF [] [] rfl
  · refine aD ?_
    refine dR 1 ?_
    refine dB h10 ?_
    refine dR 13 ?_
    refine dE ?_
    exact oO hF [] [] rfl

def twin_CheckCells_x1_k : Unit ⊕ Int → AEx
  | .inl _ => .exit 0
  | .inr _ => .ret

def twin_CheckCells_x1_S (ql : List api_Cell) : Unit ⊕ Int → St
  | .inl _ => Mem.st ⟨[], []⟩ (tl []) 0
  | .inr vx3 => Mem.st ⟨[], []⟩ (tl [(2, .v (.one (.d (.int .i64 vx3))))]) 0

def twin_CheckCells_x1_H (ql : List api_Cell) : Int → St
  | vx => Mem.st ⟨[], []⟩ (tl [(0, .v (.one (.d (.lst (List.map api_Cell.enc ql))))), (9, .v (.one (.d (.lst (List.map api_Cell.enc ql))))), (10, .v (.one (.d (.int .i64 (ql.length : Int))))), (11, .v (.one (.d (.int .i64 vx))))]) 0

theorem twin_CheckCells_x1_ok (ql : List api_Cell) (vx : Int) (r : (Int) ⊕ (Unit ⊕ Int)) (hF : twin_CheckCells_x1 ql vx = some r) : Awp prog 0 49 (cL (cL (cR (cL (cR (cR (cB f43))))))) (Out 0 (kk twin_CheckCells_x1_k) (SS (twin_CheckCells_x1_H ql) (twin_CheckCells_x1_S ql)) r) (twin_CheckCells_x1_H ql vx) := by
  unfold twin_CheckCells_x1 at hF
  refine awp_seq ?_
  refine awp_region ?_
  refine aR 1 ?_
  refine aE ?_
  refine awp_seq ?_
  refine cE hF (fun h2 hF => ?_) fun h2 hF => ?_
  · refine awp_true (by kernel_rfl) h2 ?_
    refine awp_skip ?_
    refine awp_seq ?_
    refine awp_block ?_
    refine awp_seq ?_
    refine bE hF fun vy2 h3 hF => ?_
    refine awp_region ?_
    refine aR 1 ?_
    refine aX (x_idx api_Cell.enc h3) ?_
    refine aR 4 ?_
    refine aE ?_
    refine awp_seq ?_
    refine awp_seq ?_
    refine bE hF fun vr4 h4 hF => ?_
    refine awp_region ?_
    refine aR 3 ?_
    refine aC (twin_isName_ok h4) [] [] [] ?_
    refine aR 1 ?_
    refine aE ?_
    refine cE hF (fun h5 hF => ?_) fun h5 hF => ?_
    · refine awp_true (by kernel_rfl) h5 ?_
      refine awp_seq ?_
      refine awp_region ?_
      refine aR 1 ?_
      refine aE ?_
      refine awp_ret ?_
      exact oO hF [] [] rfl
    · refine awp_false (by kernel_rfl) h5 ?_
      refine awp_skip ?_
      refine awp_seq ?_
      refine awp_seq ?_
      refine bE hF fun vr2_1 h6 hF => ?_
      refine bE hF fun vr3_1 h7 hF => ?_
      refine bE hF fun vr5 h8 hF => ?_
      refine aD ?_
      refine dR 3 ?_
      refine dC (twin_valueFault_ok h6) [] [] [] ?_
      refine dR 2 ?_
      refine dC (twin_stampFault_ok h7) [] [] [] ?_
      refine dR 1 ?_
      refine dC (base_First_ok h8) [] [] [19000] ?_
      refine dR 1 ?_
      refine dE ?_
      refine awp_seq ?_
      refine awp_region ?_
      refine aR 2 ?_
      refine aE ?_
      refine cE hF (fun h9 hF => ?_) fun h9 hF => ?_
      · refine awp_true (by kernel_rfl) h9 ?_
        refine awp_seq ?_
        refine awp_region ?_
        refine aR 2 ?_
        refine aE ?_
        refine awp_ret ?_
        exact oO hF [] [] rfl
      · refine awp_false (by kernel_rfl) h9 ?_
        refine awp_skip ?_
        refine awp_seq ?_
        refine awp_to (st' := twin_CheckCells_x2_I ql vx vy2) (oT [(0, 4000)] []) ?_
        refine bE hF fun vx2_1 h12 hF => ?_
        refine awp_sub (twin_CheckCells_x2_ok ql vx vy2 h12) ?_
        refine cE hF (fun h13 hF => ?_) fun h13 hF => ?_
        · refine awp_true (by kernel_rfl) h13 ?_
          refine awp_seq ?_
          refine awp_region ?_
          refine aR 1 ?_
          refine aE ?_
          refine awp_ret ?_
          exact oO hF [] [] rfl
        · refine awp_false (by kernel_rfl) h13 ?_
          refine awp_skip ?_
          refine awp_region ?_
          refine aR 2 ?_
          refine aE ?_
          exact oO hF [] [] rfl
  · refine awp_false (by kernel_rfl) h2 ?_
    refine awp_exit ?_
    exact oO hF [] [] rfl

def twin_CheckCells_R (ql : List api_Cell) (r : Int) : TV × Mem := (.v (.one (.d (.int .i64 r))), ⟨[], []⟩)

theorem twin_CheckCells_ok {ql : List api_Cell} {r} (hF : twin_CheckCells ql = some r) : Holds prog 43 [.v (.one (.d (.lst (List.map api_Cell.enc ql))))] ⟨[], []⟩ (Is (twin_CheckCells_R ql r)) := by
  unfold twin_CheckCells at hF
  refine holds_of_awp hΓ (fn := f43) (c := cB f43) (A := 0) (nx := 0) (by kernel_rfl) (by kernel_rfl) (by kernel_rfl) (by kernel_rfl) (by kernel_rfl) (by kernel_rfl) (lowc_of (by kernel_rfl)) ?_
  show Awp prog 0 49 (cB f43) _ _
  refine awp_seq ?_
  refine awp_region ?_
  refine aR 1 ?_
  refine aE ?_
  refine awp_seq ?_
  refine awp_seq ?_
  refine awp_region ?_
  refine aR 1 ?_
  refine aL api_Cell.enc ql ?_
  refine aR 1 ?_
  refine aE ?_
  refine cE hF (fun h1 hF => ?_) fun h1 hF => ?_
  · refine awp_true (by kernel_rfl) h1 ?_
    refine awp_seq ?_
    refine awp_region ?_
    refine aR 1 ?_
    refine aE ?_
    refine awp_ret ?_
    exact oF hF [] []
  · refine awp_false (by kernel_rfl) h1 ?_
    refine awp_skip ?_
    refine awp_seq ?_
    refine awp_seq ?_
    refine awp_region ?_
    refine aR 1 ?_
    refine aL api_Cell.enc ql ?_
    refine aR 1 ?_
    refine aE ?_
    refine awp_block ?_
    refine awp_to (st' := twin_CheckCells_x1_H ql 0) (oT [] []) ?_
    refine bE hF fun x h14 hF => ?_
    rcases x with _ | vx3_1
    · refine awp_sub (awp_loop' (twin_CheckCells_x1_H ql) twin_CheckCells_x1_k (twin_CheckCells_x1_S ql) (by intro x; rcases x with x | x <;> exact fun h => nomatch h) h14 (twin_CheckCells_x1_ok ql)) ?_
      refine awp_seq ?_
      refine awp_region ?_
      refine aR 1 ?_
      refine aE ?_
      refine awp_ret ?_
      exact oF hF [] []
    · refine awp_sub (awp_loop' (twin_CheckCells_x1_H ql) twin_CheckCells_x1_k (twin_CheckCells_x1_S ql) (by intro x; rcases x with x | x <;> exact fun h => nomatch h) h14 (twin_CheckCells_x1_ok ql)) ?_
      exact oF hF [] []

/-! ### cmp.isNaN[int] -/
def cmp_isNaN_int_R (qx : Int) (r : Unit) : TV × Mem := (.v (.one (.d (.bool (!decide (qx = qx))))), ⟨[], []⟩)

theorem cmp_isNaN_int_ok {qx : Int} {r} (hF : cmp_isNaN_int qx = some r) : Holds prog 206 [.v (.one (.d (.int .i64 qx)))] ⟨[], []⟩ (Is (cmp_isNaN_int_R qx r)) := by
  unfold cmp_isNaN_int at hF
  refine holds_of_awp hΓ (fn := f206) (c := cB f206) (A := 0) (nx := 0) (by kernel_rfl) (by kernel_rfl) (by kernel_rfl) (by kernel_rfl) (by kernel_rfl) (by kernel_rfl) (lowc_of (by kernel_rfl)) ?_
  show Awp prog 0 6 (cB f206) _ _
  refine awp_seq ?_
  refine awp_region ?_
  refine aR 1 ?_
  refine aE ?_
  refine awp_seq ?_
  refine awp_region ?_
  refine aR 4 ?_
  refine aE ?_
  refine awp_ret ?_
  exact oF hF [] []

/-! ### cmp.Compare[int] -/
def cmp_Compare_int_R (qx : Int) (qy : Int) (r : Int) : TV × Mem := (.v (.one (.d (.int .i64 r))), ⟨[], []⟩)

theorem cmp_Compare_int_ok {qx : Int} {qy : Int} {r} (hF : cmp_Compare_int qx qy = some r) : Holds prog 177 [.v (.one (.d (.int .i64 qx))), .v (.one (.d (.int .i64 qy)))] ⟨[], []⟩ (Is (cmp_Compare_int_R qx qy r)) := by
  unfold cmp_Compare_int at hF
  refine holds_of_awp hΓ (fn := f177) (c := cB f177) (A := 0) (nx := 0) (by kernel_rfl) (by kernel_rfl) (by kernel_rfl) (by kernel_rfl) (by kernel_rfl) (by kernel_rfl) (lowc_of (by kernel_rfl)) ?_
  show Awp prog 0 20 (cB f177) _ _
  refine awp_seq ?_
  refine awp_region ?_
  refine aR 1 ?_
  refine aE ?_
  refine awp_seq ?_
  refine bE hF fun _ h1 hF => ?_
  refine awp_region ?_
  refine aR 1 ?_
  refine aC (cmp_isNaN_int_ok h1) [] [] [] ?_
  refine aR 1 ?_
  refine aE ?_
  refine awp_seq ?_
  refine bE hF fun _ h2 hF => ?_
  refine awp_region ?_
  refine aR 1 ?_
  refine aC (cmp_isNaN_int_ok h2) [] [] [] ?_
  refine aR 1 ?_
  refine aE ?_
  refine awp_seq ?_
  refine awp_seq ?_
  refine awp_region ?_
  refine aR 1 ?_
  refine aE ?_
  refine cE hF (fun h3 hF => ?_) fun h3 hF => ?_
  · refine awp_true (by kernel_rfl) h3 ?_
    refine awp_seq ?_
    refine awp_seq ?_
    refine awp_region ?_
    refine aR 1 ?_
    refine aE ?_
    refine cE hF (fun h4 hF => ?_) fun h4 hF => ?_
    · refine awp_true (by kernel_rfl) h4 ?_
      refine awp_seq ?_
      refine awp_region ?_
      refine aR 1 ?_
      refine aE ?_
      refine awp_ret ?_
      exact oF hF [] []
    · refine awp_false (by kernel_rfl) h4 ?_
      refine awp_skip ?_
      refine awp_seq ?_
      refine awp_region ?_
      refine aR 1 ?_
      refine aE ?_
      refine awp_ret ?_
      exact oF hF [] []
  · refine awp_false (by kernel_rfl) h3 ?_
    refine awp_skip ?_
    refine awp_seq ?_
    refine awp_seq ?_
    refine awp_region ?_
    refine aR 1 ?_
    refine aE ?_
    refine cE hF (fun h5 hF => ?_) fun h5 hF => ?_
    · refine awp_true (by kernel_rfl) h5 ?_
      refine awp_seq ?_
      refine awp_region ?_
      refine aR 1 ?_
      refine aE ?_
      refine awp_ret ?_
      exact oF hF [] []
    · refine awp_false (by kernel_rfl) h5 ?_
      refine awp_skip ?_
      refine awp_seq ?_
      refine awp_seq ?_
      refine awp_region ?_
      refine aR 3 ?_
      refine aE ?_
      refine cE hF (fun h6 hF => ?_) fun h6 hF => ?_
      · refine awp_true (by kernel_rfl) h6 ?_
        refine awp_seq ?_
        refine awp_region ?_
        refine aR 1 ?_
        refine aE ?_
        refine awp_ret ?_
        exact oF hF [] []
      · refine awp_false (by kernel_rfl) h6 ?_
        refine awp_skip ?_
        refine awp_seq ?_
        refine awp_seq ?_
        refine awp_region ?_
        refine aR 3 ?_
        refine aE ?_
        refine cE hF (fun h7 hF => ?_) fun h7 hF => ?_
        · refine awp_true (by kernel_rfl) h7 ?_
          refine awp_seq ?_
          refine awp_region ?_
          refine aR 1 ?_
          refine aE ?_
          refine awp_ret ?_
          exact oF hF [] []
        · refine awp_false (by kernel_rfl) h7 ?_
          refine awp_skip ?_
          refine awp_seq ?_
          refine awp_region ?_
          refine aR 1 ?_
          refine aE ?_
          refine awp_ret ?_
          exact oF hF [] []

/-! ### cmp.Or[int] -/
def cmp_Or_int_x1_k : Unit ⊕ Int → AEx
  | .inl _ => .exit 0
  | .inr _ => .ret

def cmp_Or_int_x1_S (qvals : List Int) : Unit ⊕ Int → St
  | .inl _ => Mem.st ⟨[], []⟩ (tl [(3, .v (.one (.d (.int .i64 0))))]) 0
  | .inr vx1 => Mem.st ⟨[], []⟩ (tl [(2, .v (.one (.d (.int .i64 vx1))))]) 0

def cmp_Or_int_x1_H (qvals : List Int) : Int → St
  | vx => Mem.st ⟨[], []⟩ (tl [(3, .v (.one (.d (.int .i64 0)))), (6, .v (.one (.d (.lst (List.map (encI .i64) qvals))))), (7, .v (.one (.d (.int .i64 (qvals.length : Int))))), (8, .v (.one (.d (.int .i64 vx))))]) 0

theorem cmp_Or_int_x1_ok (qvals : List Int) (vx : Int) (r : (Int) ⊕ (Unit ⊕ Int)) (hF : cmp_Or_int_x1 qvals vx = some r) : Awp prog 0 18 (cL (cL (cR (cL (cR (cR (cB f176))))))) (Out 0 (kk cmp_Or_int_x1_k) (SS (cmp_Or_int_x1_H qvals) (cmp_Or_int_x1_S qvals)) r) (cmp_Or_int_x1_H qvals vx) := by
  unfold cmp_Or_int_x1 at hF
  refine awp_seq ?_
  refine awp_region ?_
  refine aR 1 ?_
  refine aE ?_
  refine awp_seq ?_
  refine cE hF (fun h1 hF => ?_) fun h1 hF => ?_
  · refine awp_true (by kernel_rfl) h1 ?_
    refine awp_skip ?_
    refine awp_seq ?_
    refine awp_block ?_
    refine awp_seq ?_
    refine bE hF fun vy1 h2 hF => ?_
    refine awp_region ?_
    refine aX (x_idx (encI .i64) h2) ?_
    refine aR 2 ?_
    refine aE ?_
    refine awp_seq ?_
    refine awp_region ?_
    refine aR 3 ?_
    refine aE ?_
    refine cE hF (fun h3 hF => ?_) fun h3 hF => ?_
    · refine awp_true (by kernel_rfl) h3 ?_
      refine awp_seq ?_
      refine awp_region ?_
      refine aR 2 ?_
      refine aE ?_
      refine awp_ret ?_
      exact oO hF [] [] rfl
    · refine awp_false (by kernel_rfl) h3 ?_
      refine awp_skip ?_
      refine awp_region ?_
      refine aR 2 ?_
      refine aE ?_
      exact oO hF [] [] rfl
  · refine awp_false (by kernel_rfl) h1 ?_
    refine awp_exit ?_
    exact oO hF [] [] rfl

def cmp_Or_int_R (qvals : List Int) (r : Int) : TV × Mem := (.v (.one (.d (.int .i64 r))), ⟨[], []⟩)

theorem cmp_Or_int_ok {qvals : List Int} {r} (hF : cmp_Or_int qvals = some r) : Holds prog 176 [.v (.one (.d (.lst (List.map (encI .i64) qvals))))] ⟨[], []⟩ (Is (cmp_Or_int_R qvals r)) := by
  unfold cmp_Or_int at hF
  refine holds_of_awp hΓ (fn := f176) (c := cB f176) (A := 0) (nx := 0) (by kernel_rfl) (by kernel_rfl) (by kernel_rfl) (by kernel_rfl) (by kernel_rfl) (by kernel_rfl) (lowc_of (by kernel_rfl)) ?_
  show Awp prog 0 18 (cB f176) _ _
  refine awp_seq ?_
  refine awp_region ?_
  refine aR 1 ?_
  refine aE ?_
  refine awp_seq ?_
  refine awp_region ?_
  refine aR 1 ?_
  refine aE ?_
  refine awp_seq ?_
  refine awp_seq ?_
  refine awp_region ?_
  refine aR 1 ?_
  refine aL (encI .i64) qvals ?_
  refine aR 1 ?_
  refine aE ?_
  refine awp_block ?_
  refine awp_to (st' := cmp_Or_int_x1_H qvals 0) (oT [] []) ?_
  refine bE hF fun x h4 hF => ?_
  rcases x with _ | vx1_1
  · refine awp_sub (awp_loop' (cmp_Or_int_x1_H qvals) cmp_Or_int_x1_k (cmp_Or_int_x1_S qvals) (by intro x; rcases x with x | x <;> exact fun h => nomatch h) h4 (cmp_Or_int_x1_ok qvals)) ?_
    refine awp_seq ?_
    refine awp_region ?_
    refine aR 2 ?_
    refine aE ?_
    refine awp_ret ?_
    exact oF hF [] []
  · refine awp_sub (awp_loop' (cmp_Or_int_x1_H qvals) cmp_Or_int_x1_k (cmp_Or_int_x1_S qvals) (by intro x; rcases x with x | x <;> exact fun h => nomatch h) h4 (cmp_Or_int_x1_ok qvals)) ?_
    exact oF hF [] []

/-! ### beaconfleet/twin.byStamp -/
def twin_byStamp_R (qa : api_Stamp) (qb : api_Stamp) (r : Int) : TV × Mem := (.v (.one (.d (.int .i64 r))), ⟨[], []⟩)

theorem twin_byStamp_ok {qa : api_Stamp} {qb : api_Stamp} {r} (hF : twin_byStamp qa qb = some r) : Holds prog 142 [.v (.agg [.d (.int .i64 qa.At), .d (.str qa.By), .d (.int .i64 qa.No)]), .v (.agg [.d (.int .i64 qb.At), .d (.str qb.By), .d (.int .i64 qb.No)])] ⟨[], []⟩ (Is (twin_byStamp_R qa qb r)) := by
  unfold twin_byStamp at hF
  refine holds_of_awp hΓ (fn := f142) (c := cB f142) (A := 0) (nx := 0) (by kernel_rfl) (by kernel_rfl) (by kernel_rfl) (by kernel_rfl) (by kernel_rfl) (by kernel_rfl) (lowc_of (by kernel_rfl)) ?_
  show Awp prog 0 22 (cB f142) _ _
  refine awp_seq ?_
  refine awp_region ?_
  refine aR 3 ?_
  refine aE ?_
  refine awp_seq ?_
  refine bE hF fun vr h1 hF => ?_
  refine bE hF fun _ h2 hF => ?_
  refine bE hF fun vr1 h3 hF => ?_
  refine bE hF fun vr2 h4 hF => ?_
  refine aD ?_
  refine dR 4 ?_
  refine dC (cmp_Compare_int_ok h1) [] [] [] ?_
  refine dR 4 ?_
  refine dC (strings_Compare_ok h2) [] [] [] ?_
  refine dR 4 ?_
  refine dC (cmp_Compare_int_ok h3) [] [] [] ?_
  refine dR 1 ?_
  refine dC (cmp_Or_int_ok h4) [] [] [18000] ?_
  refine dR 1 ?_
  refine dE ?_
  refine awp_ret ?_
  exact oF hF [] []

/-! ### unicode/utf8.RuneCountInString -/
def utf8_RuneCountInString_x1_k : Int → AEx
  | _ => .exit 0

def utf8_RuneCountInString_x1_S (qs : List UInt8) : Int → St
  | vn1 => Mem.st ⟨[], []⟩ (tl [(2, .v (.one (.d (.int .i64 vn1))))]) 0

def utf8_RuneCountInString_x1_H (qs : List UInt8) : Nat × Int → St
  | (vpos, vn) => Mem.st ⟨[], [(0, [.iters qs vpos])]⟩ (tl [(2, .v (.one (.d (.int .i64 vn)))), (4, .v (.one (.box 0 0)))]) 1

theorem utf8_RuneCountInString_x1_ok (qs : List UInt8) (s : Nat × Int) (r : (Nat × Int) ⊕ (Int)) (hF : utf8_RuneCountInString_x1 qs s = some r) : Awp prog 0 10 (cL (cL (cR (cL (cR (cB f188)))))) (Out 0 (kk utf8_RuneCountInString_x1_k) (SS (utf8_RuneCountInString_x1_H qs) (utf8_RuneCountInString_x1_S qs)) r) (utf8_RuneCountInString_x1_H qs s) := by
  obtain ⟨vpos, vn⟩ := s
  unfold utf8_RuneCountInString_x1 at hF
  refine awp_seq ?_
  refine cE hF (fun h1 hF => ?_) fun h1 hF => ?_
  · refine bE hF fun vd1 h2 hF => ?_
    refine awp_region ?_
    refine aX (x_next 0 qs vpos h1 h2) ?_
    refine aR 1 ?_
    refine aE ?_
    refine awp_seq ?_
    refine awp_true (by kernel_rfl) rfl ?_
    refine awp_skip ?_
    refine awp_block ?_
    refine awp_region ?_
    refine aR 3 ?_
    refine aE ?_
    exact oO hF [] [] rfl
  · refine awp_region ?_
    refine aX (x_nextE 0 qs vpos h1) ?_
    refine aR 1 ?_
    refine aE ?_
    refine awp_seq ?_
    refine awp_false (by kernel_rfl) rfl ?_
    refine awp_exit ?_
    exact oO hF [] [] rfl

def utf8_RuneCountInString_R (qs : List UInt8) (r : Int) : TV × Mem := (.v (.one (.d (.int .i64 r))), ⟨[], []⟩)

theorem utf8_RuneCountInString_ok {qs : List UInt8} {r} (hF : utf8_RuneCountInString qs = some r) : Holds prog 188 [.v (.one (.d (.str qs)))] ⟨[], []⟩ (Is (utf8_RuneCountInString_R qs r)) := by
  unfold utf8_RuneCountInString at hF
  refine holds_of_awp hΓ (fn := f188) (c := cB f188) (A := 0) (nx := 0) (by kernel_rfl) (by kernel_rfl) (by kernel_rfl) (by kernel_rfl) (by kernel_rfl) (by kernel_rfl) (lowc_of (by kernel_rfl)) ?_
  show Awp prog 0 10 (cB f188) _ _
  refine awp_seq ?_
  refine awp_region ?_
  refine aR 1 ?_
  refine aE ?_
  refine awp_seq ?_
  refine awp_seq ?_
  refine awp_region ?_
  refine aR 2 ?_
  refine aE ?_
  refine awp_block ?_
  refine awp_to (st' := utf8_RuneCountInString_x1_H qs ((0 : Nat), 0)) (oT [(0, 2000)] []) ?_
  refine bE hF fun vn1_1 h3 hF => ?_
  refine awp_sub (awp_loop' (utf8_RuneCountInString_x1_H qs) utf8_RuneCountInString_x1_k (utf8_RuneCountInString_x1_S qs) (by intro x; exact fun h => nomatch h) h3 (utf8_RuneCountInString_x1_ok qs)) ?_
  refine awp_seq ?_
  refine awp_region ?_
  refine aR 2 ?_
  refine aE ?_
  refine awp_ret ?_
  exact oF hF [] []

/-! ### unicode/utf8.decodeRuneInStringSlow -/
def utf8_decodeRuneInStringSlow_R (qx : List UInt8) (r : Unit) : TV × Mem := (.tup [.one (.d (.int .i32 65533)), .one (.d (.int .i64 0))], ⟨[], []⟩)

theorem utf8_decodeRuneInStringSlow_ok {qx : List UInt8} {r} (hF : utf8_decodeRuneInStringSlow qx = some r) : Holds prog 209 [.v (.one (.d (.str qx)))] ⟨[], []⟩ (Is (utf8_decodeRuneInStringSlow_R qx r)) := by
  unfold utf8_decodeRuneInStringSlow at hF
  refine holds_of_awp hΓ (fn := f209) (c := cB f209) (A := 0) (nx := 0) (by kernel_rfl) (by kernel_rfl) (by kernel_rfl) (by kernel_rfl) (by kernel_rfl) (by kernel_rfl) (lowc_of (by kernel_rfl)) ?_
  show Awp prog 0 117 (cB f209) _ _
  refine awp_seq ?_
  refine awp_region ?_
  refine aR 2 ?_
  refine aE ?_
  refine awp_seq ?_
  refine awp_region ?_
  refine aR 3 ?_
  refine aE ?_
  refine awp_seq ?_
  refine awp_seq ?_
  refine awp_region ?_
  refine aR 2 ?_
  refine aE ?_
  refine cE hF (fun h1 hF => ?_) fun h1 hF => ?_
  · refine awp_true (by kernel_rfl) h1 ?_
    refine awp_seq ?_
    refine awp_region ?_
    refine aR 2 ?_
    refine aE ?_
    refine awp_ret ?_
    exact oF hF [] []
  · refine awp_false (by kernel_rfl) h1 ?_
    refine awp_skip ?_
    refine awp_seq ?_
    refine bE hF fun vc h2 hF => ?_
    refine awp_region ?_
    refine aR 1 ?_
    refine aX (x_idxS h2) ?_
    refine aR 1 ?_
    refine aE ?_
    refine awp_seq ?_
    exact nE hF

/-! ### unicode/utf8.DecodeRuneInString -/
def utf8_DecodeRuneInString_x1_k : Bool → AEx
  | _ => .normal

def utf8_DecodeRuneInString_x1_S (qs : List UInt8) : Bool → St
  | vx => Mem.st ⟨[], []⟩ (tl [(0, .v (.one (.d (.str qs)))), (10, .v (.one (.d (.bool vx))))]) 0

def utf8_DecodeRuneInString_x1_I (qs : List UInt8) : St := Mem.st ⟨[], []⟩ (tl [(0, .v (.one (.d (.str qs))))]) 0

theorem utf8_DecodeRuneInString_x1_ok (qs : List UInt8) {r} (hF : utf8_DecodeRuneInString_x1 qs = some r) : Awp prog 0 19 (cL (cL (cR (cB f189)))) (Out 0 utf8_DecodeRuneInString_x1_k (utf8_DecodeRuneInString_x1_S qs) r) (utf8_DecodeRuneInString_x1_I qs) := by
  unfold utf8_DecodeRuneInString_x1 at hF
  refine cE hF (fun h1 hF => ?_) fun h1 hF => ?_
  · refine bE hF fun vc h2 hF => ?_
    refine awp_region ?_
    refine aR 1 ?_
    refine aB h1 ?_
    refine aR 2 ?_
    refine aX (x_idxS h2) ?_
    refine aR 2 ?_
    refine aE ?_
    exact oO hF [] [] rfl
  · refine awp_region ?_
    refine aR 1 ?_
    refine aB h1 ?_
    refine aR 5 ?_
    refine aE ?_
    exact oO hF [] [] rfl

def utf8_DecodeRuneInString_R (qs : List UInt8) (r : Int × Int) : TV × Mem := (.tup [.one (.d (.int .i32 r.1)), .one (.d (.int .i64 r.2))], ⟨[], []⟩)

theorem utf8_DecodeRuneInString_ok {qs : List UInt8} {r} (hF : utf8_DecodeRuneInString qs = some r) : Holds prog 189 [.v (.one (.d (.str qs)))] ⟨[], []⟩ (Is (utf8_DecodeRuneInString_R qs r)) := by
  unfold utf8_DecodeRuneInString at hF
  refine holds_of_awp hΓ (fn := f189) (c := cB f189) (A := 0) (nx := 0) (by kernel_rfl) (by kernel_rfl) (by kernel_rfl) (by kernel_rfl) (by kernel_rfl) (by kernel_rfl) (lowc_of (by kernel_rfl)) ?_
  show Awp prog 0 19 (cB f189) _ _
  refine awp_seq ?_
  refine awp_region ?_
  refine aR 2 ?_
  refine aE ?_
  refine awp_seq ?_
  refine awp_seq ?_
  refine awp_to (st' := utf8_DecodeRuneInString_x1_I qs) (oT [] []) ?_
  refine bE hF fun vx1 h3 hF => ?_
  refine awp_sub (utf8_DecodeRuneInString_x1_ok qs h3) ?_
  refine cE hF (fun h4 hF => ?_) fun h4 hF => ?_
  · refine awp_true (by kernel_rfl) h4 ?_
    refine awp_seq ?_
    refine bE hF fun vc1 h5 hF => ?_
    refine awp_region ?_
    refine aR 1 ?_
    refine aX (x_idxS h5) ?_
    refine aR 3 ?_
    refine aE ?_
    refine awp_ret ?_
    exact oF hF [] []
  · refine awp_false (by kernel_rfl) h4 ?_
    refine bE hF fun _ h6 hF => ?_
    refine awp_region ?_
    refine aR 1 ?_
    refine aC (utf8_decodeRuneInStringSlow_ok h6) [] [] [] ?_
    refine aR 5 ?_
    refine aE ?_
    refine awp_ret ?_
    exact oF hF [] []

/-! ### strings.explode -/
def strings_explode_x2_k : Bool → AEx
  | _ => .normal

def strings_explode_x2_S (qs : List UInt8) (qn : Int) (vr : Int) : Bool → St
  | vx => Mem.st ⟨[], []⟩ (tl [(0, .v (.one (.d (.str qs)))), (1, .v (.one (.d (.int .i64 qn)))), (5, .v (.one (.d (.int .i64 vr)))), (18, .v (.one (.d (.bool vx))))]) 0

def strings_explode_x2_I (qs : List UInt8) (qn : Int) (vr : Int) : St := Mem.st ⟨[], []⟩ (tl [(0, .v (.one (.d (.str qs)))), (1, .v (.one (.d (.int .i64 qn)))), (5, .v (.one (.d (.int .i64 vr))))]) 0

theorem strings_explode_x2_ok (qs : List UInt8) (qn : Int) (vr : Int) {r} (hF : strings_explode_x2 qn vr = some r) : Awp prog 0 50 (cL (cL (cR (cR (cB f162))))) (Out 0 strings_explode_x2_k (strings_explode_x2_S qs qn vr) r) (strings_explode_x2_I qs qn vr) := by
  unfold strings_explode_x2 at hF
  refine cE hF (fun h2 hF => ?_) fun h2 hF => ?_
  · refine awp_region ?_
    refine aR 1 ?_
    refine aB h2 ?_
    refine aR 5 ?_
    refine aE ?_
    exact oO hF [] [] rfl
  · refine awp_region ?_
    refine aR 1 ?_
    refine aB h2 ?_
    refine aR 5 ?_
    refine aE ?_
    exact oO hF [] [] rfl

def strings_explode_x1_k : Int → AEx
  | _ => .normal

def strings_explode_x1_S (qs : List UInt8) (qn : Int) (vr : Int) : Int → St
  | vn => Mem.st ⟨[], []⟩ (tl [(0, .v (.one (.d (.str qs)))), (1, .v (.one (.d (.int .i64 vn))))]) 0

def strings_explode_x1_I (qs : List UInt8) (qn : Int) (vr : Int) : St := Mem.st ⟨[], []⟩ (tl [(0, .v (.one (.d (.str qs)))), (1, .v (.one (.d (.int .i64 qn)))), (5, .v (.one (.d (.int .i64 vr))))]) 0

theorem strings_explode_x1_ok (qs : List UInt8) (qn : Int) (vr : Int) {r} (hF : strings_explode_x1 qn vr = some r) : Awp prog 0 50 (cL (cR (cR (cB f162)))) (Out 0 strings_explode_x1_k (strings_explode_x1_S qs qn vr) r) (strings_explode_x1_I qs qn vr) := by
  unfold strings_explode_x1 at hF
  refine awp_seq ?_
  refine awp_to (st' := strings_explode_x2_I qs qn vr) (oT [] []) ?_
  refine bE hF fun vx1 h3 hF => ?_
  refine awp_sub (strings_explode_x2_ok qs qn vr h3) ?_
  refine cE hF (fun h4 hF => ?_) fun h4 hF => ?_
  · refine awp_true (by kernel_rfl) h4 ?_
    refine awp_region ?_
    refine aR 2 ?_
    refine aE ?_
    exact oO hF [] [] rfl
  · refine awp_false (by kernel_rfl) h4 ?_
    refine awp_skip ?_
    exact oO hF [] [] rfl

def strings_explode_x3_k : ((List UInt8) × (List (List UInt8))) → AEx
  | _ => .exit 0

def strings_explode_x3_S (vn1 : Int) : ((List UInt8) × (List (List UInt8))) → St
  | (vs5, va1) => Mem.st ⟨[(0, ⟨9, 1, List.map encS va1⟩)], []⟩ (tl [(0, .v (.one (.d (.str vs5)))), (1, .v (.one (.d (.int .i64 vn1)))), (6, .v (.one (.own 0 none)))]) 1

def strings_explode_x3_H (vn1 : Int) : (List UInt8) × (List (List UInt8)) × Int → St
  | (vs, va, vi) => Mem.st ⟨[(0, ⟨9, 1, List.map encS va⟩)], []⟩ (tl [(0, .v (.one (.d (.str vs)))), (1, .v (.one (.d (.int .i64 vn1)))), (6, .v (.one (.own 0 none))), (7, .v (.one (.d (.int .i64 vi))))]) 1

theorem strings_explode_x3_ok (vn1 : Int) (s : (List UInt8) × (List (List UInt8)) × Int) (r : ((List UInt8) × (List (List UInt8)) × Int) ⊕ (((List UInt8) × (List (List UInt8))))) (hF : strings_explode_x3 vn1 s = some r) : Awp prog 0 50 (cL (cL (cR (cL (cR (cR (cR (cR (cB f162))))))))) (Out 0 (kk strings_explode_x3_k) (SS (strings_explode_x3_H vn1) (strings_explode_x3_S vn1)) r) (strings_explode_x3_H vn1 s) := by
  obtain ⟨vs, va, vi⟩ := s
  unfold strings_explode_x3 at hF
  refine awp_seq ?_
  refine awp_seq ?_
  refine awp_region ?_
  refine aR 4 ?_
  refine aE ?_
  refine cE hF (fun h7 hF => ?_) fun h7 hF => ?_
  · refine awp_true (by kernel_rfl) h7 ?_
    refine awp_skip ?_
    refine awp_seq ?_
    refine awp_block ?_
    refine awp_seq ?_
    refine bE hF fun x h8 hF => ?_
    obtain ⟨vr2, vr1_2⟩ := x
    refine awp_region ?_
    refine aR 1 ?_
    refine aC (utf8_DecodeRuneInString_ok h8) [] [] [] ?_
    refine aR 5 ?_
    refine aE ?_
    refine awp_seq ?_
    refine bE hF fun vs3 h9 hF => ?_
    refine bE hF fun vy1 h10 hF => ?_
    refine awp_region ?_
    refine aR 4 ?_
    refine aX (x_sliceS h9) ?_
    refine aX (x_idxO encS 0 h10) ?_
    refine aX (x_stE encS vs3 h10) ?_
    refine aE ?_
    refine bE hF fun vs4 h11 hF => ?_
    refine awp_region ?_
    refine aR 2 ?_
    refine aX (x_sliceS h11) ?_
    refine aR 1 ?_
    refine aE ?_
    refine awp_region ?_
    refine aR 3 ?_
    refine aE ?_
    exact oO hF [] [] rfl
  · refine awp_false (by kernel_rfl) h7 ?_
    refine awp_exit ?_
    exact oO hF [] [] rfl

def strings_explode_x4_k : (List (List UInt8)) → AEx
  | _ => .normal

def strings_explode_x4_S (vn1 : Int) (vs5_1 : List UInt8) (va1_1 : List (List UInt8)) : (List (List UInt8)) → St
  | va2 => Mem.st ⟨[(0, ⟨9, 1, List.map encS va2⟩)], []⟩ (tl [(6, .v (.one (.own 0 none)))]) 1

def strings_explode_x4_I (vn1 : Int) (vs5_1 : List UInt8) (va1_1 : List (List UInt8)) : St := Mem.st ⟨[(0, ⟨9, 1, List.map encS va1_1⟩)], []⟩ (tl [(0, .v (.one (.d (.str vs5_1)))), (1, .v (.one (.d (.int .i64 vn1)))), (6, .v (.one (.own 0 none)))]) 1

theorem strings_explode_x4_ok (vn1 : Int) (vs5_1 : List UInt8) (va1_1 : List (List UInt8)) {r} (hF : strings_explode_x4 vn1 vs5_1 va1_1 = some r) : Awp prog 0 50 (cL (cR (cR (cR (cR (cR (cB f162))))))) (Out 0 strings_explode_x4_k (strings_explode_x4_S vn1 vs5_1 va1_1) r) (strings_explode_x4_I vn1 vs5_1 va1_1) := by
  unfold strings_explode_x4 at hF
  refine awp_seq ?_
  refine awp_region ?_
  refine aR 2 ?_
  refine aE ?_
  refine cE hF (fun h13 hF => ?_) fun h13 hF => ?_
  · refine awp_true (by kernel_rfl) h13 ?_
    refine bE hF fun vy2 h14 hF => ?_
    refine awp_region ?_
    refine aR 4 ?_
    refine aX (x_idxO encS 0 h14) ?_
    refine aX (x_stE encS vs5_1 h14) ?_
    refine aE ?_
    exact oO hF [] [] rfl
  · refine awp_false (by kernel_rfl) h13 ?_
    refine awp_skip ?_
    exact oO hF [] [] rfl

def strings_explode_R (qs : List UInt8) (qn : Int) (r : (List (List UInt8))) : TV × Mem := (.v (.one (.own 0 none)), ⟨[(0, ⟨9, 1, List.map encS r⟩)], []⟩)

theorem strings_explode_ok {qs : List UInt8} {qn : Int} {r} (hF : strings_explode qs qn = some r) : Holds prog 162 [.v (.one (.d (.str qs))), .v (.one (.d (.int .i64 qn)))] ⟨[], []⟩ (Is (strings_explode_R qs qn r)) := by
  unfold strings_explode at hF
  refine holds_of_awp hΓ (fn := f162) (c := cB f162) (A := 0) (nx := 0) (by kernel_rfl) (by kernel_rfl) (by kernel_rfl) (by kernel_rfl) (by kernel_rfl) (by kernel_rfl) (lowc_of (by kernel_rfl)) ?_
  show Awp prog 0 50 (cB f162) _ _
  refine awp_seq ?_
  refine awp_region ?_
  refine aR 1 ?_
  refine aE ?_
  refine awp_seq ?_
  refine bE hF fun vr h1 hF => ?_
  refine awp_region ?_
  refine aR 1 ?_
  refine aC (utf8_RuneCountInString_ok h1) [] [] [] ?_
  refine aR 1 ?_
  refine aE ?_
  refine awp_seq ?_
  refine awp_to (st' := strings_explode_x1_I qs qn vr) (oT [] []) ?_
  refine bE hF fun vn1 h5 hF => ?_
  refine awp_sub (strings_explode_x1_ok qs qn vr h5) ?_
  refine awp_seq ?_
  refine gE hF fun h6 hF => ?_
  refine awp_region ?_
  refine aR 1 ?_
  refine aX (x_mk encS ([] : List UInt8) h6) ?_
  refine aR 1 ?_
  refine aE ?_
  refine awp_seq ?_
  refine awp_seq ?_
  refine awp_region ?_
  refine aR 1 ?_
  refine aE ?_
  refine awp_block ?_
  refine awp_to (st' := strings_explode_x3_H vn1 (qs, List.replicate vn1.toNat ([] : List UInt8), 0)) (oT [(0, 1000)] []) ?_
  refine bE hF fun x h12 hF => ?_
  obtain ⟨vs5_1, va1_1⟩ := x
  refine awp_sub (awp_loop' (strings_explode_x3_H vn1) strings_explode_x3_k (strings_explode_x3_S vn1) (by intro x; exact fun h => nomatch h) h12 (strings_explode_x3_ok vn1)) ?_
  refine awp_seq ?_
  refine awp_to (st' := strings_explode_x4_I vn1 vs5_1 va1_1) (oT [] []) ?_
  refine bE hF fun va2_1 h15 hF => ?_
  refine awp_sub (strings_explode_x4_ok vn1 vs5_1 va1_1 h15) ?_
  refine awp_seq ?_
  refine awp_region ?_
  refine aR 2 ?_
  refine aE ?_
  refine awp_ret ?_
  exact oF hF [] []

/-! ### strings.Index -/
def strings_Index_R (qs : List UInt8) (qsubstr : List UInt8) (r : Int) : TV × Mem := (.v (.one (.d (.int .i64 r))), ⟨[], []⟩)

theorem strings_Index_ok {qs : List UInt8} {qsubstr : List UInt8} {r} (hF : strings_Index qs qsubstr = some r) : Holds prog 164 [.v (.one (.d (.str qs))), .v (.one (.d (.str qsubstr)))] ⟨[], []⟩ (Is (strings_Index_R qs qsubstr r)) := by
  unfold strings_Index at hF
  refine holds_of_awp hΓ (fn := f164) (c := cB f164) (A := 0) (nx := 0) (by kernel_rfl) (by kernel_rfl) (by kernel_rfl) (by kernel_rfl) (by kernel_rfl) (by kernel_rfl) (lowc_of (by kernel_rfl)) ?_
  show Awp prog 0 8 (cB f164) _ _
  refine awp_seq ?_
  refine awp_region ?_
  refine aR 1 ?_
  refine aE ?_
  refine awp_seq ?_
  refine bE hF fun vr h1 hF => ?_
  refine awp_region ?_
  refine aR 2 ?_
  refine aC (stringslite_Index_ok h1) [] [] [] ?_
  refine aR 1 ?_
  refine aE ?_
  refine awp_ret ?_
  exact oF hF [] []

/-! ### strings.Count -/
def strings_Count_x1_k : Int → AEx
  | _ => .ret

def strings_Count_x1_S (qsubstr : List UInt8) : Int → St
  | vx => Mem.st ⟨[], []⟩ (tl [(4, .v (.one (.d (.int .i64 vx))))]) 0

def strings_Count_x1_H (qsubstr : List UInt8) : (List UInt8) × Int → St
  | (vs, vn) => Mem.st ⟨[], []⟩ (tl [(0, .v (.one (.d (.str vs)))), (1, .v (.one (.d (.str qsubstr)))), (5, .v (.one (.d (.int .i64 vn))))]) 0

theorem strings_Count_x1_ok (qsubstr : List UInt8) (s : (List UInt8) × Int) (r : ((List UInt8) × Int) ⊕ (Int)) (hF : strings_Count_x1 qsubstr s = some r) : Awp prog 0 34 (cL (cL (cR (cR (cR (cR (cB f163))))))) (Out 0 (kk strings_Count_x1_k) (SS (strings_Count_x1_H qsubstr) (strings_Count_x1_S qsubstr)) r) (strings_Count_x1_H qsubstr s) := by
  obtain ⟨vs, vn⟩ := s
  unfold strings_Count_x1 at hF
  refine awp_block ?_
  refine awp_seq ?_
  refine bE hF fun vr1_1 h5 hF => ?_
  refine awp_region ?_
  refine aR 2 ?_
  refine aC (strings_Index_ok h5) [] [] [] ?_
  refine aR 1 ?_
  refine aE ?_
  refine awp_seq ?_
  refine awp_seq ?_
  refine awp_region ?_
  refine aR 2 ?_
  refine aE ?_
  refine cE hF (fun h6 hF => ?_) fun h6 hF => ?_
  · refine awp_true (by kernel_rfl) h6 ?_
    refine awp_seq ?_
    refine awp_region ?_
    refine aR 2 ?_
    refine aE ?_
    refine awp_ret ?_
    exact oO hF [] [] rfl
  · refine awp_false (by kernel_rfl) h6 ?_
    refine awp_skip ?_
    refine awp_seq ?_
    refine awp_region ?_
    refine aR 3 ?_
    refine aE ?_
    refine bE hF fun vs2 h7 hF => ?_
    refine awp_region ?_
    refine aR 5 ?_
    refine aX (x_sliceS h7) ?_
    refine aR 1 ?_
    refine aE ?_
    exact oO hF [] [] rfl

def strings_Count_R (qs : List UInt8) (qsubstr : List UInt8) (r : Int) : TV × Mem := (.v (.one (.d (.int .i64 r))), ⟨[], []⟩)

theorem strings_Count_ok {qs : List UInt8} {qsubstr : List UInt8} {r} (hF : strings_Count qs qsubstr = some r) : Holds prog 163 [.v (.one (.d (.str qs))), .v (.one (.d (.str qsubstr)))] ⟨[], []⟩ (Is (strings_Count_R qs qsubstr r)) := by
  unfold strings_Count at hF
  refine holds_of_awp hΓ (fn := f163) (c := cB f163) (A := 0) (nx := 0) (by kernel_rfl) (by kernel_rfl) (by kernel_rfl) (by kernel_rfl) (by kernel_rfl) (by kernel_rfl) (lowc_of (by kernel_rfl)) ?_
  show Awp prog 0 34 (cB f163) _ _
  refine awp_seq ?_
  refine awp_region ?_
  refine aR 1 ?_
  refine aE ?_
  refine awp_seq ?_
  refine awp_seq ?_
  refine awp_region ?_
  refine aR 3 ?_
  refine aE ?_
  refine cE hF (fun h1 hF => ?_) fun h1 hF => ?_
  · refine awp_true (by kernel_rfl) h1 ?_
    refine awp_seq ?_
    refine bE hF fun vr h2 hF => ?_
    refine awp_region ?_
    refine aR 1 ?_
    refine aC (utf8_RuneCountInString_ok h2) [] [] [] ?_
    refine aR 2 ?_
    refine aE ?_
    refine awp_ret ?_
    exact oF hF [] []
  · refine awp_false (by kernel_rfl) h1 ?_
    refine awp_skip ?_
    refine awp_seq ?_
    refine awp_seq ?_
    refine awp_region ?_
    refine aR 3 ?_
    refine aE ?_
    refine cE hF (fun h3 hF => ?_) fun h3 hF => ?_
    · refine awp_true (by kernel_rfl) h3 ?_
      refine awp_seq ?_
      refine bE hF fun vc h4 hF => ?_
      refine awp_region ?_
      refine aR 2 ?_
      refine aX (x_idxS h4) ?_
      refine aS (does_count (g := 190) (fn := f190) (a := qs) (c := (vc.toNat : Int)) rfl (by kernel_rfl) (by kernel_rfl) (by kernel_rfl) (by kernel_rfl) (by kernel_rfl) (by kernel_rfl)) ?_
      refine aR 1 ?_
      refine aE ?_
      refine awp_ret ?_
      exact oF hF [] []
    · refine awp_false (by kernel_rfl) h3 ?_
      refine awp_skip ?_
      refine awp_seq ?_
      refine awp_region ?_
      refine aR 1 ?_
      refine aE ?_
      refine awp_block ?_
      refine awp_to (st' := strings_Count_x1_H qsubstr (qs, 0)) (oT [] []) ?_
      refine bE hF fun vx1 h8 hF => ?_
      refine awp_sub (awp_loop' (strings_Count_x1_H qsubstr) strings_Count_x1_k (strings_Count_x1_S qsubstr) (by intro x; exact fun h => nomatch h) h8 (strings_Count_x1_ok qsubstr)) ?_
      exact oF hF [] []

/-! ### strings.genSplit -/
def strings_genSplit_x1_k : Int → AEx
  | _ => .normal

def strings_genSplit_x1_S (qx : List UInt8) (qx1 : List UInt8) (qx2 : Int) (qx3 : Int) : Int → St
  | vx => Mem.st ⟨[], []⟩ (tl [(0, .v (.one (.d (.str qx)))), (1, .v (.one (.d (.str qx1)))), (2, .v (.one (.d (.int .i64 qx2)))), (3, .v (.one (.d (.int .i64 vx))))]) 0

def strings_genSplit_x1_I (qx : List UInt8) (qx1 : List UInt8) (qx2 : Int) (qx3 : Int) : St := Mem.st ⟨[], []⟩ (tl [(0, .v (.one (.d (.str qx)))), (1, .v (.one (.d (.str qx1)))), (2, .v (.one (.d (.int .i64 qx2)))), (3, .v (.one (.d (.int .i64 qx3))))]) 0

theorem strings_genSplit_x1_ok (qx : List UInt8) (qx1 : List UInt8) (qx2 : Int) (qx3 : Int) {r} (hF : strings_genSplit_x1 qx qx1 qx3 = some r) : Awp prog 0 66 (cL (cR (cR (cR (cB f127))))) (Out 0 strings_genSplit_x1_k (strings_genSplit_x1_S qx qx1 qx2 qx3) r) (strings_genSplit_x1_I qx qx1 qx2 qx3) := by
  unfold strings_genSplit_x1 at hF
  refine awp_seq ?_
  refine awp_region ?_
  refine aR 2 ?_
  refine aE ?_
  refine cE hF (fun h4 hF => ?_) fun h4 hF => ?_
  · refine awp_true (by kernel_rfl) h4 ?_
    refine bE hF fun vr2 h5 hF => ?_
    refine awp_region ?_
    refine aR 2 ?_
    refine aC (strings_Count_ok h5) [] [] [] ?_
    refine aR 2 ?_
    refine aE ?_
    exact oO hF [] [] rfl
  · refine awp_false (by kernel_rfl) h4 ?_
    refine awp_skip ?_
    exact oO hF [] [] rfl

def strings_genSplit_x2_k : ((List UInt8) × (List (List UInt8)) × Int) → AEx
  | _ => .exit 0

def strings_genSplit_x2_S (qx : List UInt8) (qx1 : List UInt8) (qx2 : Int) (vx1 : Int) : ((List UInt8) × (List (List UInt8)) × Int) → St
  | (vx5, vx6, vx7) => Mem.st ⟨[(0, ⟨9, 1, List.map encS vx6⟩)], []⟩ (tl [(0, .v (.one (.d (.str vx5)))), (9, .v (.one (.own 0 none))), (10, .v (.one (.d (.int .i64 vx7))))]) 1

def strings_genSplit_x2_H (qx : List UInt8) (qx1 : List UInt8) (qx2 : Int) (vx1 : Int) : (List UInt8) × (List (List UInt8)) × Int → St
  | (vx2, vx3, vx4) => Mem.st ⟨[(0, ⟨9, 1, List.map encS vx3⟩)], []⟩ (tl [(0, .v (.one (.d (.str vx2)))), (1, .v (.one (.d (.str qx1)))), (2, .v (.one (.d (.int .i64 qx2)))), (3, .v (.one (.d (.int .i64 (IntKind.wrap .i64 ((imin vx1 (IntKind.wrap .i64 ((qx.length : Int) + 1))) - 1)))))), (9, .v (.one (.own 0 none))), (10, .v (.one (.d (.int .i64 vx4))))]) 1

theorem strings_genSplit_x2_ok (qx : List UInt8) (qx1 : List UInt8) (qx2 : Int) (vx1 : Int) (s : (List UInt8) × (List (List UInt8)) × Int) (r : ((List UInt8) × (List (List UInt8)) × Int) ⊕ (((List UInt8) × (List (List UInt8)) × Int))) (hF : strings_genSplit_x2 qx qx1 qx2 vx1 s = some r) : Awp prog 0 66 (cL (cL (cL (cR (cR (cR (cR (cR (cR (cR (cR (cB f127)))))))))))) (Out 0 (kk strings_genSplit_x2_k) (SS (strings_genSplit_x2_H qx qx1 qx2 vx1) (strings_genSplit_x2_S qx qx1 qx2 vx1)) r) (strings_genSplit_x2_H qx qx1 qx2 vx1 s) := by
  obtain ⟨vx2, vx3, vx4⟩ := s
  unfold strings_genSplit_x2 at hF
  refine awp_seq ?_
  refine awp_seq ?_
  refine awp_region ?_
  refine aR 3 ?_
  refine aE ?_
  refine cE hF (fun h8 hF => ?_) fun h8 hF => ?_
  · refine awp_true (by kernel_rfl) h8 ?_
    refine awp_skip ?_
    refine awp_block ?_
    refine awp_seq ?_
    refine bE hF fun vr1_1 h9 hF => ?_
    refine awp_region ?_
    refine aR 2 ?_
    refine aC (strings_Index_ok h9) [] [] [] ?_
    refine aR 1 ?_
    refine aE ?_
    refine awp_seq ?_
    refine awp_seq ?_
    refine awp_region ?_
    refine aR 2 ?_
    refine aE ?_
    refine cE hF (fun h10 hF => ?_) fun h10 hF => ?_
    · refine awp_true (by kernel_rfl) h10 ?_
      refine awp_exit ?_
      exact oO hF [] [] rfl
    · refine awp_false (by kernel_rfl) h10 ?_
      refine awp_skip ?_
      refine awp_seq ?_
      refine bE hF fun vs2 h11 hF => ?_
      refine bE hF fun vy1 h12 hF => ?_
      refine awp_region ?_
      refine aR 6 ?_
      refine aX (x_sliceS h11) ?_
      refine aX (x_idxO encS 0 h12) ?_
      refine aX (x_stE encS vs2 h12) ?_
      refine aE ?_
      refine awp_seq ?_
      refine bE hF fun vs3 h13 hF => ?_
      refine awp_region ?_
      refine aR 5 ?_
      refine aX (x_sliceS h13) ?_
      refine aR 1 ?_
      refine aE ?_
      refine awp_region ?_
      refine aR 3 ?_
      refine aE ?_
      exact oO hF [] [] rfl
  · refine awp_false (by kernel_rfl) h8 ?_
    refine awp_exit ?_
    exact oO hF [] [] rfl

def strings_genSplit_R (qx : List UInt8) (qx1 : List UInt8) (qx2 : Int) (qx3 : Int) (r : (List (List UInt8))) : TV × Mem := (.v (.one (.own 0 none)), ⟨[(0, ⟨9, 1, List.map encS r⟩)], []⟩)

theorem strings_genSplit_ok {qx : List UInt8} {qx1 : List UInt8} {qx2 : Int} {qx3 : Int} {r} (hF : strings_genSplit qx qx1 qx2 qx3 = some r) : Holds prog 127 [.v (.one (.d (.str qx))), .v (.one (.d (.str qx1))), .v (.one (.d (.int .i64 qx2))), .v (.one (.d (.int .i64 qx3)))] ⟨[], []⟩ (Is (strings_genSplit_R qx qx1 qx2 qx3 r)) := by
  unfold strings_genSplit at hF
  refine holds_of_awp hΓ (fn := f127) (c := cB f127) (A := 0) (nx := 0) (by kernel_rfl) (by kernel_rfl) (by kernel_rfl) (by kernel_rfl) (by kernel_rfl) (by kernel_rfl) (lowc_of (by kernel_rfl)) ?_
  show Awp prog 0 66 (cB f127) _ _
  refine awp_seq ?_
  refine awp_region ?_
  refine aR 1 ?_
  refine aE ?_
  refine awp_seq ?_
  refine awp_seq ?_
  refine awp_region ?_
  refine aR 2 ?_
  refine aE ?_
  refine cE hF (fun h1 hF => ?_) fun h1 hF => ?_
  · refine awp_true (by kernel_rfl) h1 ?_
    refine awp_seq ?_
    refine awp_region ?_
    refine aR 1 ?_
    refine aE ?_
    refine awp_ret ?_
    exact oF hF [] [0]
  · refine awp_false (by kernel_rfl) h1 ?_
    refine awp_skip ?_
    refine awp_seq ?_
    refine awp_seq ?_
    refine awp_region ?_
    refine aR 2 ?_
    refine aE ?_
    refine cE hF (fun h2 hF => ?_) fun h2 hF => ?_
    · refine awp_true (by kernel_rfl) h2 ?_
      refine awp_seq ?_
      refine bE hF fun vr3 h3 hF => ?_
      refine awp_region ?_
      refine aR 2 ?_
      refine aC (strings_explode_ok h3) [] [] [] ?_
      refine aR 1 ?_
      refine aE ?_
      refine awp_ret ?_
      exact oF hF [(0, 7000)] []
    · refine awp_false (by kernel_rfl) h2 ?_
      refine awp_skip ?_
      refine awp_seq ?_
      refine awp_to (st' := strings_genSplit_x1_I qx qx1 qx2 qx3) (oT [] []) ?_
      refine bE hF fun vx1 h6 hF => ?_
      refine awp_sub (strings_genSplit_x1_ok qx qx1 qx2 qx3 h6) ?_
      refine awp_seq ?_
      refine awp_region ?_
      refine aR 6 ?_
      refine aE ?_
      refine awp_seq ?_
      refine gE hF fun h7 hF => ?_
      refine awp_region ?_
      refine aR 1 ?_
      refine aX (x_mk encS ([] : List UInt8) h7) ?_
      refine aR 1 ?_
      refine aE ?_
      refine awp_seq ?_
      refine awp_region ?_
      refine aR 3 ?_
      refine aE ?_
      refine awp_seq ?_
      refine awp_region ?_
      refine aR 1 ?_
      refine aE ?_
      refine awp_seq ?_
      refine awp_block ?_
      refine awp_to (st' := strings_genSplit_x2_H qx qx1 qx2 vx1 (qx, List.replicate (imin vx1 (IntKind.wrap .i64 ((qx.length : Int) + 1))).toNat ([] : List UInt8), 0)) (oT [(0, 7000)] []) ?_
      refine bE hF fun x h14 hF => ?_
      obtain ⟨vx5_1, vx6_1, vx7_1⟩ := x
      refine awp_sub (awp_loop' (strings_genSplit_x2_H qx qx1 qx2 vx1) strings_genSplit_x2_k (strings_genSplit_x2_S qx qx1 qx2 vx1) (by intro x; exact fun h => nomatch h) h14 (strings_genSplit_x2_ok qx qx1 qx2 vx1)) ?_
      refine awp_seq ?_
      refine bE hF fun vy2 h15 hF => ?_
      refine awp_region ?_
      refine aR 3 ?_
      refine aX (x_idxO encS 0 h15) ?_
      refine aX (x_stE encS vx5_1 h15) ?_
      refine aE ?_
      refine awp_seq ?_
      refine gE hF fun h16 hF => ?_
      refine awp_region ?_
      refine aR 3 ?_
      refine aT encS 0 h16 rfl ?_
      refine aR 1 ?_
      refine aE ?_
      refine awp_ret ?_
      exact oF hF [(0, 8001)] []

/-! ### strings.Split -/
def strings_Split_R (qs : List UInt8) (qsep : List UInt8) (r : (List (List UInt8))) : TV × Mem := (.v (.one (.own 0 none)), ⟨[(0, ⟨9, 1, List.map encS r⟩)], []⟩)

theorem strings_Split_ok {qs : List UInt8} {qsep : List UInt8} {r} (hF : strings_Split qs qsep = some r) : Holds prog 77 [.v (.one (.d (.str qs))), .v (.one (.d (.str qsep)))] ⟨[], []⟩ (Is (strings_Split_R qs qsep r)) := by
  unfold strings_Split at hF
  refine holds_of_awp hΓ (fn := f77) (c := cB f77) (A := 0) (nx := 0) (by kernel_rfl) (by kernel_rfl) (by kernel_rfl) (by kernel_rfl) (by kernel_rfl) (by kernel_rfl) (lowc_of (by kernel_rfl)) ?_
  show Awp prog 0 8 (cB f77) _ _
  refine awp_seq ?_
  refine awp_region ?_
  refine aR 1 ?_
  refine aE ?_
  refine awp_seq ?_
  refine bE hF fun vr h1 hF => ?_
  refine awp_region ?_
  refine aR 2 ?_
  refine aC (strings_genSplit_ok h1) [] [] [] ?_
  refine aR 1 ?_
  refine aE ?_
  refine awp_ret ?_
  exact oF hF [(0, 3000)] []

/-! ### beaconfleet/fleetref2.in -/
def fleetref2_in_x1_k : Bool → AEx
  | _ => .normal

def fleetref2_in_x1_S (qn : Int) (qlow : Int) (qhigh : Int) : Bool → St
  | vx => Mem.st ⟨[], []⟩ (tl [(6, .v (.one (.d (.bool vx))))]) 0

def fleetref2_in_x1_I (qn : Int) (qlow : Int) (qhigh : Int) : St := Mem.st ⟨[], []⟩ (tl [(0, .v (.one (.d (.int .i64 qn)))), (1, .v (.one (.d (.int .i64 qlow)))), (2, .v (.one (.d (.int .i64 qhigh))))]) 0

theorem fleetref2_in_x1_ok (qn : Int) (qlow : Int) (qhigh : Int) {r} (hF : fleetref2_in_x1 qn qlow qhigh = some r) : Awp prog 0 15 (cL (cR (cB f109))) (Out 0 fleetref2_in_x1_k (fleetref2_in_x1_S qn qlow qhigh) r) (fleetref2_in_x1_I qn qlow qhigh) := by
  unfold fleetref2_in_x1 at hF
  refine cE hF (fun h1 hF => ?_) fun h1 hF => ?_
  · refine awp_region ?_
    refine aR 2 ?_
    refine aB h1 ?_
    refine aR 6 ?_
    refine aE ?_
    exact oO hF [] [] rfl
  · refine awp_region ?_
    refine aR 2 ?_
    refine aB h1 ?_
    refine aR 6 ?_
    refine aE ?_
    exact oO hF [] [] rfl

def fleetref2_in_R (qn : Int) (qlow : Int) (qhigh : Int) (r : Bool) : TV × Mem := (.v (.one (.d (.bool r))), ⟨[], []⟩)

theorem fleetref2_in_ok {qn : Int} {qlow : Int} {qhigh : Int} {r} (hF : fleetref2_in qn qlow qhigh = some r) : Holds prog 109 [.v (.one (.d (.int .i64 qn))), .v (.one (.d (.int .i64 qlow))), .v (.one (.d (.int .i64 qhigh)))] ⟨[], []⟩ (Is (fleetref2_in_R qn qlow qhigh r)) := by
  unfold fleetref2_in at hF
  refine holds_of_awp hΓ (fn := f109) (c := cB f109) (A := 0) (nx := 0) (by kernel_rfl) (by kernel_rfl) (by kernel_rfl) (by kernel_rfl) (by kernel_rfl) (by kernel_rfl) (lowc_of (by kernel_rfl)) ?_
  show Awp prog 0 15 (cB f109) _ _
  refine awp_seq ?_
  refine awp_region ?_
  refine aR 1 ?_
  refine aE ?_
  refine awp_seq ?_
  refine awp_to (st' := fleetref2_in_x1_I qn qlow qhigh) (oT [] []) ?_
  refine bE hF fun vx1 h2 hF => ?_
  refine awp_sub (fleetref2_in_x1_ok qn qlow qhigh h2) ?_
  refine awp_ret ?_
  exact oF hF [] []

/-! ### strings.IndexByte -/
def strings_IndexByte_R (qs : List UInt8) (qc : Int) (r : Unit) : TV × Mem := (.v (.one (.d (.int .i64 (Lib.indexByte qs qc.toNat.toUInt8)))), ⟨[], []⟩)

theorem strings_IndexByte_ok {qs : List UInt8} {qc : Int} {r} (hF : strings_IndexByte qs qc = some r) : Holds prog 165 [.v (.one (.d (.str qs))), .v (.one (.d (.int .u8 qc)))] ⟨[], []⟩ (Is (strings_IndexByte_R qs qc r)) := by
  unfold strings_IndexByte at hF
  refine holds_of_awp hΓ (fn := f165) (c := cB f165) (A := 0) (nx := 0) (by kernel_rfl) (by kernel_rfl) (by kernel_rfl) (by kernel_rfl) (by kernel_rfl) (by kernel_rfl) (lowc_of (by kernel_rfl)) ?_
  show Awp prog 0 8 (cB f165) _ _
  refine awp_seq ?_
  refine awp_region ?_
  refine aR 1 ?_
  refine aE ?_
  refine awp_seq ?_
  refine bE hF fun _ h1 hF => ?_
  refine awp_region ?_
  refine aR 2 ?_
  refine aC (stringslite_IndexByte_ok h1) [] [] [] ?_
  refine aR 1 ?_
  refine aE ?_
  refine awp_ret ?_
  exact oF hF [] []

/-! ### beaconfleet/fleetref2.only -/
def fleetref2_only_x1_k : Unit ⊕ Unit → AEx
  | .inl _ => .exit 0
  | .inr _ => .ret

def fleetref2_only_x1_S (qs : List UInt8) (qsome : List UInt8) : Unit ⊕ Unit → St
  | .inl _ => Mem.st ⟨[], []⟩ (tl []) 0
  | .inr _ => Mem.st ⟨[], []⟩ (tl [(4, .v (.one (.d (.bool false))))]) 0

def fleetref2_only_x1_H (qs : List UInt8) (qsome : List UInt8) : Int → St
  | vx => Mem.st ⟨[], []⟩ (tl [(0, .v (.one (.d (.str qs)))), (1, .v (.one (.d (.str qsome)))), (7, .v (.one (.d (.int .i64 (qs.length : Int))))), (8, .v (.one (.d (.int .i64 vx))))]) 0

theorem fleetref2_only_x1_ok (qs : List UInt8) (qsome : List UInt8) (vx : Int) (r : (Int) ⊕ (Unit ⊕ Unit)) (hF : fleetref2_only_x1 qs qsome vx = some r) : Awp prog 0 18 (cL (cL (cR (cL (cR (cB f129)))))) (Out 0 (kk fleetref2_only_x1_k) (SS (fleetref2_only_x1_H qs qsome) (fleetref2_only_x1_S qs qsome)) r) (fleetref2_only_x1_H qs qsome vx) := by
  unfold fleetref2_only_x1 at hF
  refine awp_seq ?_
  refine awp_region ?_
  refine aR 1 ?_
  refine aE ?_
  refine awp_seq ?_
  refine cE hF (fun h1 hF => ?_) fun h1 hF => ?_
  · refine awp_true (by kernel_rfl) h1 ?_
    refine awp_skip ?_
    refine awp_seq ?_
    refine awp_block ?_
    refine awp_seq ?_
    refine awp_region ?_
    refine aR 2 ?_
    refine aE ?_
    refine awp_seq ?_
    refine bE hF fun vc1 h2 hF => ?_
    refine bE hF fun _ h3 hF => ?_
    refine awp_region ?_
    refine aR 3 ?_
    refine aX (x_idxS h2) ?_
    refine aC (strings_IndexByte_ok h3) [] [] [] ?_
    refine aR 1 ?_
    refine aE ?_
    refine cE hF (fun h4 hF => ?_) fun h4 hF => ?_
    · refine awp_true (by kernel_rfl) h4 ?_
      refine awp_seq ?_
      refine awp_region ?_
      refine aR 1 ?_
      refine aE ?_
      refine awp_ret ?_
      exact oO hF [] [] rfl
    · refine awp_false (by kernel_rfl) h4 ?_
      refine awp_skip ?_
      refine awp_region ?_
      refine aR 2 ?_
      refine aE ?_
      exact oO hF [] [] rfl
  · refine awp_false (by kernel_rfl) h1 ?_
    refine awp_exit ?_
    exact oO hF [] [] rfl

def fleetref2_only_R (qs : List UInt8) (qsome : List UInt8) (r : Bool) : TV × Mem := (.v (.one (.d (.bool r))), ⟨[], []⟩)

theorem fleetref2_only_ok {qs : List UInt8} {qsome : List UInt8} {r} (hF : fleetref2_only qs qsome = some r) : Holds prog 129 [.v (.one (.d (.str qs))), .v (.one (.d (.str qsome)))] ⟨[], []⟩ (Is (fleetref2_only_R qs qsome r)) := by
  unfold fleetref2_only at hF
  refine holds_of_awp hΓ (fn := f129) (c := cB f129) (A := 0) (nx := 0) (by kernel_rfl) (by kernel_rfl) (by kernel_rfl) (by kernel_rfl) (by kernel_rfl) (by kernel_rfl) (lowc_of (by kernel_rfl)) ?_
  show Awp prog 0 18 (cB f129) _ _
  refine awp_seq ?_
  refine awp_region ?_
  refine aR 1 ?_
  refine aE ?_
  refine awp_seq ?_
  refine awp_seq ?_
  refine awp_region ?_
  refine aR 3 ?_
  refine aE ?_
  refine awp_block ?_
  refine awp_to (st' := fleetref2_only_x1_H qs qsome 0) (oT [] []) ?_
  refine bE hF fun x h5 hF => ?_
  rcases x with _ | _
  · refine awp_sub (awp_loop' (fleetref2_only_x1_H qs qsome) fleetref2_only_x1_k (fleetref2_only_x1_S qs qsome) (by intro x; rcases x with x | x <;> exact fun h => nomatch h) h5 (fleetref2_only_x1_ok qs qsome)) ?_
    refine awp_seq ?_
    refine awp_region ?_
    refine aR 1 ?_
    refine aE ?_
    refine awp_ret ?_
    exact oF hF [] []
  · refine awp_sub (awp_loop' (fleetref2_only_x1_H qs qsome) fleetref2_only_x1_k (fleetref2_only_x1_S qs qsome) (by intro x; rcases x with x | x <;> exact fun h => nomatch h) h5 (fleetref2_only_x1_ok qs qsome)) ?_
    exact oF hF [] []

/-! ### beaconfleet/fleetref2.Key -/
def fleetref2_Key_x1_k : Bool → AEx
  | _ => .normal

def fleetref2_Key_x1_S (qs : List UInt8) : Bool → St
  | vx => Mem.st ⟨[], []⟩ (tl [(2, .v (.one (.d (.bool vx))))]) 0

def fleetref2_Key_x1_I (qs : List UInt8) : St := Mem.st ⟨[], []⟩ (tl [(0, .v (.one (.d (.str qs))))]) 0

theorem fleetref2_Key_x1_ok (qs : List UInt8) {r} (hF : fleetref2_Key_x1 qs = some r) : Awp prog 0 15 (cL (cR (cB f80))) (Out 0 fleetref2_Key_x1_k (fleetref2_Key_x1_S qs) r) (fleetref2_Key_x1_I qs) := by
  unfold fleetref2_Key_x1 at hF
  refine bE hF fun vr h1 hF => ?_
  refine cE hF (fun h2 hF => ?_) fun h2 hF => ?_
  · refine bE hF fun vs h3 hF => ?_
    refine bE hF fun vr1 h4 hF => ?_
    refine cE hF (fun h5 hF => ?_) fun h5 hF => ?_
    · refine bE hF fun vr2 h6 hF => ?_
      refine awp_region ?_
      refine aR 2 ?_
      refine aCb (fleetref2_in_ok h1) [] [] [] h2 ?_
      refine aR 2 ?_
      refine aX (x_sliceS h3) ?_
      refine aCb (fleetref2_only_ok h4) [] [] [] h5 ?_
      refine aR 3 ?_
      refine aC (fleetref2_only_ok h6) [] [] [] ?_
      refine aR 2 ?_
      refine aE ?_
      exact oO hF [] [] rfl
    · refine awp_region ?_
      refine aR 2 ?_
      refine aCb (fleetref2_in_ok h1) [] [] [] h2 ?_
      refine aR 2 ?_
      refine aX (x_sliceS h3) ?_
      refine aCb (fleetref2_only_ok h4) [] [] [] h5 ?_
      refine aR 6 ?_
      refine aE ?_
      exact oO hF [] [] rfl
  · refine awp_region ?_
    refine aR 2 ?_
    refine aCb (fleetref2_in_ok h1) [] [] [] h2 ?_
    refine aR 10 ?_
    refine aE ?_
    exact oO hF [] [] rfl

def fleetref2_Key_R (qs : List UInt8) (r : Bool) : TV × Mem := (.v (.one (.d (.bool r))), ⟨[], []⟩)

theorem fleetref2_Key_ok {qs : List UInt8} {r} (hF : fleetref2_Key qs = some r) : Holds prog 80 [.v (.one (.d (.str qs)))] ⟨[], []⟩ (Is (fleetref2_Key_R qs r)) := by
  unfold fleetref2_Key at hF
  refine holds_of_awp hΓ (fn := f80) (c := cB f80) (A := 0) (nx := 0) (by kernel_rfl) (by kernel_rfl) (by kernel_rfl) (by kernel_rfl) (by kernel_rfl) (by kernel_rfl) (lowc_of (by kernel_rfl)) ?_
  show Awp prog 0 15 (cB f80) _ _
  refine awp_seq ?_
  refine awp_region ?_
  refine aR 1 ?_
  refine aE ?_
  refine awp_seq ?_
  refine awp_to (st' := fleetref2_Key_x1_I qs) (oT [] []) ?_
  refine bE hF fun vx1 h7 hF => ?_
  refine awp_sub (fleetref2_Key_x1_ok qs h7) ?_
  refine awp_ret ?_
  exact oF hF [] []

/-! ### beaconfleet/fleetref2.PropName$1 -/
def fleetref2_PropName_1_R (qk : List UInt8) (r : Bool) : TV × Mem := (.v (.one (.d (.bool r))), ⟨[], []⟩)

theorem fleetref2_PropName_1_ok {qk : List UInt8} {r} (hF : fleetref2_PropName_1 qk = some r) : Holds prog 79 [.v (.one (.d (.str qk)))] ⟨[], []⟩ (Is (fleetref2_PropName_1_R qk r)) := by
  unfold fleetref2_PropName_1 at hF
  refine holds_of_awp hΓ (fn := f79) (c := cB f79) (A := 0) (nx := 0) (by kernel_rfl) (by kernel_rfl) (by kernel_rfl) (by kernel_rfl) (by kernel_rfl) (by kernel_rfl) (lowc_of (by kernel_rfl)) ?_
  show Awp prog 0 6 (cB f79) _ _
  refine awp_seq ?_
  refine awp_region ?_
  refine aR 1 ?_
  refine aE ?_
  refine awp_seq ?_
  refine bE hF fun vr3 h1 hF => ?_
  refine awp_region ?_
  refine aR 1 ?_
  refine aC (fleetref2_Key_ok h1) [] [] [] ?_
  refine aR 2 ?_
  refine aE ?_
  refine awp_ret ?_
  exact oF hF [] []

/-! ### slices.IndexFunc[[]string,string] -/
def slices_IndexFunc_string_string_f1_fleetref2_PropName_1_x1_k : Unit ⊕ Int → AEx
  | .inl _ => .exit 0
  | .inr _ => .ret

def slices_IndexFunc_string_string_f1_fleetref2_PropName_1_x1_S (qs : List (List UInt8)) : Unit ⊕ Int → St
  | .inl _ => Mem.st ⟨[], []⟩ (tl []) 0
  | .inr vx1 => Mem.st ⟨[], []⟩ (tl [(4, .v (.one (.d (.int .i64 vx1))))]) 0

def slices_IndexFunc_string_string_f1_fleetref2_PropName_1_x1_H (qs : List (List UInt8)) : Int → St
  | vx => Mem.st ⟨[], []⟩ (tl [(0, .v (.one (.d (.lst (List.map encS qs))))), (1, .v (.one (.fn 79 []))), (7, .v (.one (.d (.int .i64 (qs.length : Int))))), (8, .v (.one (.d (.int .i64 vx))))]) 0

theorem slices_IndexFunc_string_string_f1_fleetref2_PropName_1_x1_ok (qs : List (List UInt8)) (vx : Int) (r : (Int) ⊕ (Unit ⊕ Int)) (hF : slices_IndexFunc_string_string_f1_fleetref2_PropName_1_x1 qs vx = some r) : Awp prog 0 19 (cL (cL (cR (cL (cR (cB f128)))))) (Out 0 (kk slices_IndexFunc_string_string_f1_fleetref2_PropName_1_x1_k) (SS (slices_IndexFunc_string_string_f1_fleetref2_PropName_1_x1_H qs) (slices_IndexFunc_string_string_f1_fleetref2_PropName_1_x1_S qs)) r) (slices_IndexFunc_string_string_f1_fleetref2_PropName_1_x1_H qs vx) := by
  unfold slices_IndexFunc_string_string_f1_fleetref2_PropName_1_x1 at hF
  refine awp_seq ?_
  refine awp_region ?_
  refine aR 1 ?_
  refine aE ?_
  refine awp_seq ?_
  refine cE hF (fun h1 hF => ?_) fun h1 hF => ?_
  · refine awp_true (by kernel_rfl) h1 ?_
    refine awp_skip ?_
    refine awp_seq ?_
    refine awp_block ?_
    refine awp_seq ?_
    refine awp_region ?_
    refine aR 2 ?_
    refine aE ?_
    refine awp_seq ?_
    refine bE hF fun vy1 h2 hF => ?_
    refine bE hF fun vr1 h3 hF => ?_
    refine awp_region ?_
    refine aR 3 ?_
    refine aX (x_idx encS h2) ?_
    refine aR 1 ?_
    refine aC (fleetref2_PropName_1_ok h3) [] [] [] ?_
    refine aE ?_
    refine cE hF (fun h4 hF => ?_) fun h4 hF => ?_
    · refine awp_true (by kernel_rfl) h4 ?_
      refine awp_seq ?_
      refine awp_region ?_
      refine aR 2 ?_
      refine aE ?_
      refine awp_ret ?_
      exact oO hF [] [] rfl
    · refine awp_false (by kernel_rfl) h4 ?_
      refine awp_skip ?_
      refine awp_region ?_
      refine aR 2 ?_
      refine aE ?_
      exact oO hF [] [] rfl
  · refine awp_false (by kernel_rfl) h1 ?_
    refine awp_exit ?_
    exact oO hF [] [] rfl

def slices_IndexFunc_string_string_f1_fleetref2_PropName_1_R (qs : List (List UInt8)) (r : Int) : TV × Mem := (.v (.one (.d (.int .i64 r))), ⟨[], []⟩)

theorem slices_IndexFunc_string_string_f1_fleetref2_PropName_1_ok {qs : List (List UInt8)} {r} (hF : slices_IndexFunc_string_string_f1_fleetref2_PropName_1 qs = some r) : Holds prog 128 [.v (.one (.d (.lst (List.map encS qs)))), .v (.one (.fn 79 []))] ⟨[], []⟩ (Is (slices_IndexFunc_string_string_f1_fleetref2_PropName_1_R qs r)) := by
  unfold slices_IndexFunc_string_string_f1_fleetref2_PropName_1 at hF
  refine holds_of_awp hΓ (fn := f128) (c := cB f128) (A := 0) (nx := 0) (by kernel_rfl) (by kernel_rfl) (by kernel_rfl) (by kernel_rfl) (by kernel_rfl) (by kernel_rfl) (lowc_of (by kernel_rfl)) ?_
  show Awp prog 0 19 (cB f128) _ _
  refine awp_seq ?_
  refine awp_region ?_
  refine aR 1 ?_
  refine aE ?_
  refine awp_seq ?_
  refine awp_seq ?_
  refine awp_region ?_
  refine aR 1 ?_
  refine aL encS qs ?_
  refine aR 1 ?_
  refine aE ?_
  refine awp_block ?_
  refine awp_to (st' := slices_IndexFunc_string_string_f1_fleetref2_PropName_1_x1_H qs 0) (oT [] []) ?_
  refine bE hF fun x h5 hF => ?_
  rcases x with _ | vx1_1
  · refine awp_sub (awp_loop' (slices_IndexFunc_string_string_f1_fleetref2_PropName_1_x1_H qs) slices_IndexFunc_string_string_f1_fleetref2_PropName_1_x1_k (slices_IndexFunc_string_string_f1_fleetref2_PropName_1_x1_S qs) (by intro x; rcases x with x | x <;> exact fun h => nomatch h) h5 (slices_IndexFunc_string_string_f1_fleetref2_PropName_1_x1_ok qs)) ?_
    refine awp_seq ?_
    refine awp_region ?_
    refine aR 1 ?_
    refine aE ?_
    refine awp_ret ?_
    exact oF hF [] []
  · refine awp_sub (awp_loop' (slices_IndexFunc_string_string_f1_fleetref2_PropName_1_x1_H qs) slices_IndexFunc_string_string_f1_fleetref2_PropName_1_x1_k (slices_IndexFunc_string_string_f1_fleetref2_PropName_1_x1_S qs) (by intro x; rcases x with x | x <;> exact fun h => nomatch h) h5 (slices_IndexFunc_string_string_f1_fleetref2_PropName_1_x1_ok qs)) ?_
    exact oF hF [] []

/-! ### slices.ContainsFunc[[]string,string] -/
def slices_ContainsFunc_string_string_f1_fleetref2_PropName_1_R (qs : List (List UInt8)) (r : Bool) : TV × Mem := (.v (.one (.d (.bool r))), ⟨[], []⟩)

theorem slices_ContainsFunc_string_string_f1_fleetref2_PropName_1_ok {qs : List (List UInt8)} {r} (hF : slices_ContainsFunc_string_string_f1_fleetref2_PropName_1 qs = some r) : Holds prog 78 [.v (.one (.d (.lst (List.map encS qs)))), .v (.one (.fn 79 []))] ⟨[], []⟩ (Is (slices_ContainsFunc_string_string_f1_fleetref2_PropName_1_R qs r)) := by
  unfold slices_ContainsFunc_string_string_f1_fleetref2_PropName_1 at hF
  refine holds_of_awp hΓ (fn := f78) (c := cB f78) (A := 0) (nx := 0) (by kernel_rfl) (by kernel_rfl) (by kernel_rfl) (by kernel_rfl) (by kernel_rfl) (by kernel_rfl) (lowc_of (by kernel_rfl)) ?_
  show Awp prog 0 9 (cB f78) _ _
  refine awp_seq ?_
  refine awp_region ?_
  refine aR 1 ?_
  refine aE ?_
  refine awp_seq ?_
  refine bE hF fun vr2 h1 hF => ?_
  refine awp_region ?_
  refine aR 2 ?_
  refine aC (slices_IndexFunc_string_string_f1_fleetref2_PropName_1_ok h1) [] [] [] ?_
  refine aR 2 ?_
  refine aE ?_
  refine awp_ret ?_
  exact oF hF [] []

/-! ### beaconfleet/fleetref2.PropName -/
def fleetref2_PropName_x1_k : Bool → AEx
  | _ => .normal

def fleetref2_PropName_x1_S (vr1 : List (List UInt8)) : Bool → St
  | vx => Mem.st ⟨[], []⟩ (tl [(2, .v (.one (.d (.bool vx))))]) 0

def fleetref2_PropName_x1_I (vr1 : List (List UInt8)) : St := Mem.st ⟨[], []⟩ (tl [(3, .v (.one (.d (.lst (List.map encS vr1)))))]) 0

theorem fleetref2_PropName_x1_ok (vr1 : List (List UInt8)) {r} (hF : fleetref2_PropName_x1 vr1 = some r) : Awp prog 0 14 (cL (cR (cR (cB f25)))) (Out 0 fleetref2_PropName_x1_k (fleetref2_PropName_x1_S vr1) r) (fleetref2_PropName_x1_I vr1) := by
  unfold fleetref2_PropName_x1 at hF
  refine cE hF (fun h2 hF => ?_) fun h2 hF => ?_
  · refine bE hF fun vr h3 hF => ?_
    refine awp_region ?_
    refine aR 1 ?_
    refine aL encS vr1 ?_
    refine aB h2 ?_
    refine aR 2 ?_
    refine aC (slices_ContainsFunc_string_string_f1_fleetref2_PropName_1_ok h3) [] [] [] ?_
    refine aR 3 ?_
    refine aE ?_
    exact oO hF [] [] rfl
  · refine awp_region ?_
    refine aR 1 ?_
    refine aL encS vr1 ?_
    refine aB h2 ?_
    refine aR 6 ?_
    refine aE ?_
    exact oO hF [] [] rfl

def fleetref2_PropName_R (qs : List UInt8) (r : Bool) : TV × Mem := (.v (.one (.d (.bool r))), ⟨[], []⟩)

theorem fleetref2_PropName_ok {qs : List UInt8} {r} (hF : fleetref2_PropName qs = some r) : Holds prog 25 [.v (.one (.d (.str qs)))] ⟨[], []⟩ (Is (fleetref2_PropName_R qs r)) := by
  unfold fleetref2_PropName at hF
  refine holds_of_awp hΓ (fn := f25) (c := cB f25) (A := 0) (nx := 0) (by kernel_rfl) (by kernel_rfl) (by kernel_rfl) (by kernel_rfl) (by kernel_rfl) (by kernel_rfl) (lowc_of (by kernel_rfl)) ?_
  show Awp prog 0 14 (cB f25) _ _
  refine awp_seq ?_
  refine awp_region ?_
  refine aR 1 ?_
  refine aE ?_
  refine awp_seq ?_
  refine bE hF fun vr1 h1 hF => ?_
  refine awp_region ?_
  refine aR 1 ?_
  refine aC (strings_Split_ok h1) [] [] [] ?_
  refine aR 1 ?_
  refine aE ?_
  refine awp_to (oT (m := ⟨[], []⟩) (ts := [(3, .v (.one (.d (.lst (List.map encS vr1)))))]) (nx := 0) [] []) ?_
  refine awp_seq ?_
  refine awp_to (st' := fleetref2_PropName_x1_I vr1) (oT [] []) ?_
  refine bE hF fun vx1 h4 hF => ?_
  refine awp_sub (fleetref2_PropName_x1_ok vr1 h4) ?_
  refine awp_ret ?_
  exact oF hF [] []

/-! ### beaconfleet/fleetref2.Printed$1 -/
def fleetref2_Printed_1_x1_k : Bool → AEx
  | _ => .normal

def fleetref2_Printed_1_x1_S (qr : Int) : Bool → St
  | vx => Mem.st ⟨[], []⟩ (tl [(2, .v (.one (.d (.bool vx))))]) 0

def fleetref2_Printed_1_x1_I (qr : Int) : St := Mem.st ⟨[], []⟩ (tl [(0, .v (.one (.d (.int .i32 qr))))]) 0

theorem fleetref2_Printed_1_x1_ok (qr : Int) {r} (hF : fleetref2_Printed_1_x1 qr = some r) : Awp prog 0 9 (cL (cR (cB f145))) (Out 0 fleetref2_Printed_1_x1_k (fleetref2_Printed_1_x1_S qr) r) (fleetref2_Printed_1_x1_I qr) := by
  unfold fleetref2_Printed_1_x1 at hF
  refine cE hF (fun h1 hF => ?_) fun h1 hF => ?_
  · refine awp_region ?_
    refine aR 1 ?_
    refine aB h1 ?_
    refine aR 5 ?_
    refine aE ?_
    exact oO hF [] [] rfl
  · refine awp_region ?_
    refine aR 1 ?_
    refine aB h1 ?_
    refine aR 5 ?_
    refine aE ?_
    exact oO hF [] [] rfl

def fleetref2_Printed_1_R (qr : Int) (r : Bool) : TV × Mem := (.v (.one (.d (.bool r))), ⟨[], []⟩)

theorem fleetref2_Printed_1_ok {qr : Int} {r} (hF : fleetref2_Printed_1 qr = some r) : Holds prog 145 [.v (.one (.d (.int .i32 qr)))] ⟨[], []⟩ (Is (fleetref2_Printed_1_R qr r)) := by
  unfold fleetref2_Printed_1 at hF
  refine holds_of_awp hΓ (fn := f145) (c := cB f145) (A := 0) (nx := 0) (by kernel_rfl) (by kernel_rfl) (by kernel_rfl) (by kernel_rfl) (by kernel_rfl) (by kernel_rfl) (lowc_of (by kernel_rfl)) ?_
  show Awp prog 0 9 (cB f145) _ _
  refine awp_seq ?_
  refine awp_region ?_
  refine aR 1 ?_
  refine aE ?_
  refine awp_seq ?_
  refine awp_to (st' := fleetref2_Printed_1_x1_I qr) (oT [] []) ?_
  refine bE hF fun vx1 h2 hF => ?_
  refine awp_sub (fleetref2_Printed_1_x1_ok qr h2) ?_
  refine awp_ret ?_
  exact oF hF [] []

/-! ### strings.indexFunc -/
def strings_indexFunc_f1_fleetref2_Printed_1_x1_k : Unit ⊕ Int → AEx
  | .inl _ => .exit 0
  | .inr _ => .ret

def strings_indexFunc_f1_fleetref2_Printed_1_x1_S (qs : List UInt8) (qtruth : Bool) : Unit ⊕ Int → St
  | .inl _ => Mem.st ⟨[], []⟩ (tl []) 0
  | .inr vx => Mem.st ⟨[], []⟩ (tl [(6, .v (.one (.d (.int .i64 vx))))]) 0

def strings_indexFunc_f1_fleetref2_Printed_1_x1_H (qs : List UInt8) (qtruth : Bool) : Nat → St
  | vpos => Mem.st ⟨[], [(0, [.iters qs vpos])]⟩ (tl [(1, .v (.one (.fn 145 []))), (2, .v (.one (.d (.bool qtruth)))), (10, .v (.one (.box 0 0)))]) 1

theorem strings_indexFunc_f1_fleetref2_Printed_1_x1_ok (qs : List UInt8) (qtruth : Bool) (vpos : Nat) (r : (Nat) ⊕ (Unit ⊕ Int)) (hF : strings_indexFunc_f1_fleetref2_Printed_1_x1 qs qtruth vpos = some r) : Awp prog 0 21 (cL (cL (cR (cL (cR (cB f207)))))) (Out 0 (kk strings_indexFunc_f1_fleetref2_Printed_1_x1_k) (SS (strings_indexFunc_f1_fleetref2_Printed_1_x1_H qs qtruth) (strings_indexFunc_f1_fleetref2_Printed_1_x1_S qs qtruth)) r) (strings_indexFunc_f1_fleetref2_Printed_1_x1_H qs qtruth vpos) := by
  unfold strings_indexFunc_f1_fleetref2_Printed_1_x1 at hF
  refine awp_seq ?_
  refine cE hF (fun h1 hF => ?_) fun h1 hF => ?_
  · refine bE hF fun vd1 h2 hF => ?_
    refine awp_region ?_
    refine aX (x_next 0 qs vpos h1 h2) ?_
    refine aR 1 ?_
    refine aE ?_
    refine awp_seq ?_
    refine awp_true (by kernel_rfl) rfl ?_
    refine awp_skip ?_
    refine awp_block ?_
    refine awp_seq ?_
    refine awp_region ?_
    refine aR 4 ?_
    refine aE ?_
    refine awp_seq ?_
    refine bE hF fun vr1 h3 hF => ?_
    refine awp_region ?_
    refine aR 2 ?_
    refine aC (fleetref2_Printed_1_ok h3) [] [] [] ?_
    refine aR 2 ?_
    refine aE ?_
    refine cE hF (fun h4 hF => ?_) fun h4 hF => ?_
    · refine awp_true (by kernel_rfl) h4 ?_
      refine awp_seq ?_
      refine awp_region ?_
      refine aR 2 ?_
      refine aE ?_
      refine awp_ret ?_
      exact oO hF [] [] rfl
    · refine awp_false (by kernel_rfl) h4 ?_
      refine awp_skip ?_
      exact oO hF [] [] rfl
  · refine awp_region ?_
    refine aX (x_nextE 0 qs vpos h1) ?_
    refine aR 1 ?_
    refine aE ?_
    refine awp_seq ?_
    refine awp_false (by kernel_rfl) rfl ?_
    refine awp_exit ?_
    exact oO hF [] [] rfl

def strings_indexFunc_f1_fleetref2_Printed_1_R (qs : List UInt8) (qtruth : Bool) (r : Int) : TV × Mem := (.v (.one (.d (.int .i64 r))), ⟨[], []⟩)

theorem strings_indexFunc_f1_fleetref2_Printed_1_ok {qs : List UInt8} {qtruth : Bool} {r} (hF : strings_indexFunc_f1_fleetref2_Printed_1 qs qtruth = some r) : Holds prog 207 [.v (.one (.d (.str qs))), .v (.one (.fn 145 [])), .v (.one (.d (.bool qtruth)))] ⟨[], []⟩ (Is (strings_indexFunc_f1_fleetref2_Printed_1_R qs qtruth r)) := by
  unfold strings_indexFunc_f1_fleetref2_Printed_1 at hF
  refine holds_of_awp hΓ (fn := f207) (c := cB f207) (A := 0) (nx := 0) (by kernel_rfl) (by kernel_rfl) (by kernel_rfl) (by kernel_rfl) (by kernel_rfl) (by kernel_rfl) (lowc_of (by kernel_rfl)) ?_
  show Awp prog 0 21 (cB f207) _ _
  refine awp_seq ?_
  refine awp_region ?_
  refine aR 1 ?_
  refine aE ?_
  refine awp_seq ?_
  refine awp_seq ?_
  refine awp_region ?_
  refine aR 2 ?_
  refine aE ?_
  refine awp_block ?_
  refine awp_to (st' := strings_indexFunc_f1_fleetref2_Printed_1_x1_H qs qtruth (0 : Nat)) (oT [(0, 2000)] []) ?_
  refine bE hF fun x h5 hF => ?_
  rcases x with _ | vx1
  · refine awp_sub (awp_loop' (strings_indexFunc_f1_fleetref2_Printed_1_x1_H qs qtruth) strings_indexFunc_f1_fleetref2_Printed_1_x1_k (strings_indexFunc_f1_fleetref2_Printed_1_x1_S qs qtruth) (by intro x; rcases x with x | x <;> exact fun h => nomatch h) h5 (strings_indexFunc_f1_fleetref2_Printed_1_x1_ok qs qtruth)) ?_
    refine awp_seq ?_
    refine awp_region ?_
    refine aR 1 ?_
    refine aE ?_
    refine awp_ret ?_
    exact oF hF [] []
  · refine awp_sub (awp_loop' (strings_indexFunc_f1_fleetref2_Printed_1_x1_H qs qtruth) strings_indexFunc_f1_fleetref2_Printed_1_x1_k (strings_indexFunc_f1_fleetref2_Printed_1_x1_S qs qtruth) (by intro x; rcases x with x | x <;> exact fun h => nomatch h) h5 (strings_indexFunc_f1_fleetref2_Printed_1_x1_ok qs qtruth)) ?_
    exact oF hF [] []

/-! ### strings.IndexFunc -/
def strings_IndexFunc_f1_fleetref2_Printed_1_R (qs : List UInt8) (r : Int) : TV × Mem := (.v (.one (.d (.int .i64 r))), ⟨[], []⟩)

theorem strings_IndexFunc_f1_fleetref2_Printed_1_ok {qs : List UInt8} {r} (hF : strings_IndexFunc_f1_fleetref2_Printed_1 qs = some r) : Holds prog 179 [.v (.one (.d (.str qs))), .v (.one (.fn 145 []))] ⟨[], []⟩ (Is (strings_IndexFunc_f1_fleetref2_Printed_1_R qs r)) := by
  unfold strings_IndexFunc_f1_fleetref2_Printed_1 at hF
  refine holds_of_awp hΓ (fn := f179) (c := cB f179) (A := 0) (nx := 0) (by kernel_rfl) (by kernel_rfl) (by kernel_rfl) (by kernel_rfl) (by kernel_rfl) (by kernel_rfl) (lowc_of (by kernel_rfl)) ?_
  show Awp prog 0 8 (cB f179) _ _
  refine awp_seq ?_
  refine awp_region ?_
  refine aR 1 ?_
  refine aE ?_
  refine awp_seq ?_
  refine bE hF fun vr2 h1 hF => ?_
  refine awp_region ?_
  refine aR 2 ?_
  refine aC (strings_indexFunc_f1_fleetref2_Printed_1_ok h1) [] [] [] ?_
  refine aR 1 ?_
  refine aE ?_
  refine awp_ret ?_
  exact oF hF [] []

/-! ### strings.ContainsFunc -/
def strings_ContainsFunc_f1_fleetref2_Printed_1_R (qs : List UInt8) (r : Bool) : TV × Mem := (.v (.one (.d (.bool r))), ⟨[], []⟩)

theorem strings_ContainsFunc_f1_fleetref2_Printed_1_ok {qs : List UInt8} {r} (hF : strings_ContainsFunc_f1_fleetref2_Printed_1 qs = some r) : Holds prog 144 [.v (.one (.d (.str qs))), .v (.one (.fn 145 []))] ⟨[], []⟩ (Is (strings_ContainsFunc_f1_fleetref2_Printed_1_R qs r)) := by
  unfold strings_ContainsFunc_f1_fleetref2_Printed_1 at hF
  refine holds_of_awp hΓ (fn := f144) (c := cB f144) (A := 0) (nx := 0) (by kernel_rfl) (by kernel_rfl) (by kernel_rfl) (by kernel_rfl) (by kernel_rfl) (by kernel_rfl) (lowc_of (by kernel_rfl)) ?_
  show Awp prog 0 9 (cB f144) _ _
  refine awp_seq ?_
  refine awp_region ?_
  refine aR 1 ?_
  refine aE ?_
  refine awp_seq ?_
  refine bE hF fun vr h1 hF => ?_
  refine awp_region ?_
  refine aR 2 ?_
  refine aC (strings_IndexFunc_f1_fleetref2_Printed_1_ok h1) [] [] [] ?_
  refine aR 2 ?_
  refine aE ?_
  refine awp_ret ?_
  exact oF hF [] []

/-! ### beaconfleet/fleetref2.Printed -/
def fleetref2_Printed_x1_k : Bool → AEx
  | _ => .normal

def fleetref2_Printed_x1_S (qs : List UInt8) : Bool → St
  | vx => Mem.st ⟨[], []⟩ (tl [(2, .v (.one (.d (.bool vx))))]) 0

def fleetref2_Printed_x1_I (qs : List UInt8) : St := Mem.st ⟨[], []⟩ (tl [(0, .v (.one (.d (.str qs))))]) 0

theorem fleetref2_Printed_x1_ok (qs : List UInt8) {r} (hF : fleetref2_Printed_x1 qs = some r) : Awp prog 0 10 (cL (cR (cB f110))) (Out 0 fleetref2_Printed_x1_k (fleetref2_Printed_x1_S qs) r) (fleetref2_Printed_x1_I qs) := by
  unfold fleetref2_Printed_x1 at hF
  refine bE hF fun vr h1 hF => ?_
  refine cE hF (fun h2 hF => ?_) fun h2 hF => ?_
  · refine bE hF fun vr1 h3 hF => ?_
    refine awp_region ?_
    refine aR 1 ?_
    refine aCb (utf8_ValidString_ok h1) [] [] [] h2 ?_
    refine aR 2 ?_
    refine aC (strings_ContainsFunc_f1_fleetref2_Printed_1_ok h3) [] [] [] ?_
    refine aR 3 ?_
    refine aE ?_
    exact oO hF [] [] rfl
  · refine awp_region ?_
    refine aR 1 ?_
    refine aCb (utf8_ValidString_ok h1) [] [] [] h2 ?_
    refine aR 6 ?_
    refine aE ?_
    exact oO hF [] [] rfl

def fleetref2_Printed_R (qs : List UInt8) (r : Bool) : TV × Mem := (.v (.one (.d (.bool r))), ⟨[], []⟩)

theorem fleetref2_Printed_ok {qs : List UInt8} {r} (hF : fleetref2_Printed qs = some r) : Holds prog 110 [.v (.one (.d (.str qs)))] ⟨[], []⟩ (Is (fleetref2_Printed_R qs r)) := by
  unfold fleetref2_Printed at hF
  refine holds_of_awp hΓ (fn := f110) (c := cB f110) (A := 0) (nx := 0) (by kernel_rfl) (by kernel_rfl) (by kernel_rfl) (by kernel_rfl) (by kernel_rfl) (by kernel_rfl) (lowc_of (by kernel_rfl)) ?_
  show Awp prog 0 10 (cB f110) _ _
  refine awp_seq ?_
  refine awp_region ?_
  refine aR 1 ?_
  refine aE ?_
  refine awp_seq ?_
  refine awp_to (st' := fleetref2_Printed_x1_I qs) (oT [] []) ?_
  refine bE hF fun vx1 h4 hF => ?_
  refine awp_sub (fleetref2_Printed_x1_ok qs h4) ?_
  refine awp_ret ?_
  exact oF hF [] []

/-! ### beaconfleet/fleetref2.ValueFault -/
def fleetref2_ValueFault_x1_k : api_Value → AEx
  | _ => .normal

def fleetref2_ValueFault_x1_S (qv : api_Value) : api_Value → St
  | vplain => Mem.st ⟨[], [(0, [.d (.int .i64 qv.Kind), .d (.bool qv.Flag), .d (.int .i64 qv.Number), .d (.str qv.Words)]), (1, [.d (.int .i64 vplain.Kind), .d (.bool vplain.Flag), .d (.int .i64 vplain.Number), .d (.str vplain.Words)])]⟩ (tl [(1, .v (.one (.box 0 0))), (3, .v (.one (.box 1 0)))]) 2

def fleetref2_ValueFault_x1_I (qv : api_Value) : St := Mem.st ⟨[], [(0, [.d (.int .i64 qv.Kind), .d (.bool qv.Flag), .d (.int .i64 qv.Number), .d (.str qv.Words)]), (1, [.d (.int .i64 qv.Kind), .d (.bool false), .d (.int .i64 0), .d (.str ([] : List UInt8))])]⟩ (tl [(1, .v (.one (.box 0 0))), (3, .v (.one (.box 1 0)))]) 2

theorem fleetref2_ValueFault_x1_ok (qv : api_Value) {r} (hF : fleetref2_ValueFault_x1 qv = some r) : Awp prog 0 47 (cL (cR (cR (cR (cB f58))))) (Out 0 fleetref2_ValueFault_x1_k (fleetref2_ValueFault_x1_S qv) r) (fleetref2_ValueFault_x1_I qv) := by
  unfold fleetref2_ValueFault_x1 at hF
  refine awp_seq ?_
  refine awp_region ?_
  refine aR 2 ?_
  refine aE ?_
  refine awp_block ?_
  refine awp_seq ?_
  refine awp_region ?_
  refine aR 2 ?_
  refine aE ?_
  refine cE hF (fun h3 hF => ?_) fun h3 hF => ?_
  · refine awp_true (by kernel_rfl) h3 ?_
    refine awp_region ?_
    refine aR 4 ?_
    refine aE ?_
    exact oO hF [] [] rfl
  · refine awp_false (by kernel_rfl) h3 ?_
    refine awp_seq ?_
    refine awp_region ?_
    refine aR 2 ?_
    refine aE ?_
    refine cE hF (fun h4 hF => ?_) fun h4 hF => ?_
    · refine awp_true (by kernel_rfl) h4 ?_
      refine awp_region ?_
      refine aR 4 ?_
      refine aE ?_
      exact oO hF [] [] rfl
    · refine awp_false (by kernel_rfl) h4 ?_
      refine awp_seq ?_
      refine awp_region ?_
      refine aR 2 ?_
      refine aE ?_
      refine cE hF (fun h5 hF => ?_) fun h5 hF => ?_
      · refine awp_true (by kernel_rfl) h5 ?_
        refine awp_region ?_
        refine aR 4 ?_
        refine aE ?_
        exact oO hF [] [] rfl
      · refine awp_false (by kernel_rfl) h5 ?_
        refine awp_skip ?_
        exact oO hF [] [] rfl

def fleetref2_ValueFault_R (qv : api_Value) (r : Int) : TV × Mem := (.v (.one (.d (.int .i64 r))), ⟨[], []⟩)

theorem fleetref2_ValueFault_ok {qv : api_Value} {r} (hF : fleetref2_ValueFault qv = some r) : Holds prog 58 [.v (.agg [.d (.int .i64 qv.Kind), .d (.bool qv.Flag), .d (.int .i64 qv.Number), .d (.str qv.Words)])] ⟨[], []⟩ (Is (fleetref2_ValueFault_R qv r)) := by
  unfold fleetref2_ValueFault at hF
  refine holds_of_awp hΓ (fn := f58) (c := cB f58) (A := 0) (nx := 0) (by kernel_rfl) (by kernel_rfl) (by kernel_rfl) (by kernel_rfl) (by kernel_rfl) (by kernel_rfl) (lowc_of (by kernel_rfl)) ?_
  show Awp prog 0 47 (cB f58) _ _
  refine awp_seq ?_
  refine awp_region ?_
  refine aR 2 ?_
  refine aE ?_
  refine awp_seq ?_
  refine awp_seq ?_
  refine bE hF fun vr h1 hF => ?_
  refine awp_region ?_
  refine aR 2 ?_
  refine aC (fleetref2_in_ok h1) [] [] [] ?_
  refine aR 1 ?_
  refine aE ?_
  refine cE hF (fun h2 hF => ?_) fun h2 hF => ?_
  · refine awp_true (by kernel_rfl) h2 ?_
    refine awp_seq ?_
    refine awp_region ?_
    refine aR 1 ?_
    refine aE ?_
    refine awp_ret ?_
    exact oF hF [] []
  · refine awp_false (by kernel_rfl) h2 ?_
    refine awp_skip ?_
    refine awp_seq ?_
    refine awp_region ?_
    refine aR 5 ?_
    refine aE ?_
    refine awp_seq ?_
    refine awp_to (st' := fleetref2_ValueFault_x1_I qv) (oT [(1, 9000)] []) ?_
    refine bE hF fun vplain1 h6 hF => ?_
    refine awp_sub (fleetref2_ValueFault_x1_ok qv h6) ?_
    refine awp_seq ?_
    refine awp_block ?_
    refine awp_seq ?_
    refine awp_region ?_
    refine aR 2 ?_
    refine aS (does_eqS (op := .neq) (xs := [.int .i64 vplain1.Kind, .bool vplain1.Flag, .int .i64 vplain1.Number, .str vplain1.Words]) (ys := [.int .i64 qv.Kind, .bool qv.Flag, .int .i64 qv.Number, .str qv.Words]) (b := (decide (vplain1.Kind = qv.Kind) && ((vplain1.Flag == qv.Flag) && (decide (vplain1.Number = qv.Number) && (decide (vplain1.Words = qv.Words) && true))))) (c := (!(decide (vplain1.Kind = qv.Kind) && ((vplain1.Flag == qv.Flag) && (decide (vplain1.Number = qv.Number) && (decide (vplain1.Words = qv.Words) && true)))))) rfl (.inr ⟨rfl, rfl⟩) (by kernel_rfl) (by kernel_rfl) (by kernel_rfl) (by kernel_rfl) (by kernel_rfl) (by kernel_rfl)) ?_
    refine aR 1 ?_
    refine aE ?_
    refine cE hF (fun h7 hF => ?_) fun h7 hF => ?_
    · refine awp_true (by kernel_rfl) h7 ?_
      refine awp_seq ?_
      refine awp_region ?_
      refine aR 1 ?_
      refine aE ?_
      refine awp_ret ?_
      exact oF hF [] []
    · refine awp_false (by kernel_rfl) h7 ?_
      refine awp_seq ?_
      refine bE hF fun vr1 h8 hF => ?_
      refine awp_region ?_
      refine aR 2 ?_
      refine aC (fleetref2_in_ok h8) [] [] [] ?_
      refine aR 2 ?_
      refine aE ?_
      refine cE hF (fun h9 hF => ?_) fun h9 hF => ?_
      · refine awp_true (by kernel_rfl) h9 ?_
        refine awp_seq ?_
        refine awp_region ?_
        refine aR 1 ?_
        refine aE ?_
        refine awp_ret ?_
        exact oF hF [] []
      · refine awp_false (by kernel_rfl) h9 ?_
        refine awp_seq ?_
        refine awp_region ?_
        refine aR 5 ?_
        refine aE ?_
        refine cE hF (fun h10 hF => ?_) fun h10 hF => ?_
        · refine awp_true (by kernel_rfl) h10 ?_
          refine awp_seq ?_
          refine awp_region ?_
          refine aR 1 ?_
          refine aE ?_
          refine awp_ret ?_
          exact oF hF [] []
        · refine awp_false (by kernel_rfl) h10 ?_
          refine awp_seq ?_
          refine bE hF fun vr2 h11 hF => ?_
          refine awp_region ?_
          refine aR 2 ?_
          refine aC (fleetref2_Printed_ok h11) [] [] [] ?_
          refine aR 2 ?_
          refine aE ?_
          refine cE hF (fun h12 hF => ?_) fun h12 hF => ?_
          · refine awp_true (by kernel_rfl) h12 ?_
            refine awp_seq ?_
            refine awp_region ?_
            refine aR 1 ?_
            refine aE ?_
            refine awp_ret ?_
            exact oF hF [] []
          · refine awp_false (by kernel_rfl) h12 ?_
            refine awp_skip ?_
            refine awp_seq ?_
            refine awp_region ?_
            refine aR 1 ?_
            refine aE ?_
            refine awp_ret ?_
            exact oF hF [] []

/-! ### beaconfleet/fleetref2.Moment -/
def fleetref2_Moment_R (qat : Int) (r : Bool) : TV × Mem := (.v (.one (.d (.bool r))), ⟨[], []⟩)

theorem fleetref2_Moment_ok {qat : Int} {r} (hF : fleetref2_Moment qat = some r) : Holds prog 111 [.v (.one (.d (.int .i64 qat)))] ⟨[], []⟩ (Is (fleetref2_Moment_R qat r)) := by
  unfold fleetref2_Moment at hF
  refine holds_of_awp hΓ (fn := f111) (c := cB f111) (A := 0) (nx := 0) (by kernel_rfl) (by kernel_rfl) (by kernel_rfl) (by kernel_rfl) (by kernel_rfl) (by kernel_rfl) (lowc_of (by kernel_rfl)) ?_
  show Awp prog 0 5 (cB f111) _ _
  refine awp_seq ?_
  refine awp_region ?_
  refine aR 1 ?_
  refine aE ?_
  refine awp_seq ?_
  refine bE hF fun vr h1 hF => ?_
  refine awp_region ?_
  refine aR 1 ?_
  refine aC (fleetref2_in_ok h1) [] [] [] ?_
  refine aR 1 ?_
  refine aE ?_
  refine awp_ret ?_
  exact oF hF [] []

/-! ### beaconfleet/fleetref2.StampFault -/
def fleetref2_StampFault_R (qs : api_Stamp) (r : Int) : TV × Mem := (.v (.one (.d (.int .i64 r))), ⟨[], []⟩)

theorem fleetref2_StampFault_ok {qs : api_Stamp} {r} (hF : fleetref2_StampFault qs = some r) : Holds prog 59 [.v (.agg [.d (.int .i64 qs.At), .d (.str qs.By), .d (.int .i64 qs.No)])] ⟨[], []⟩ (Is (fleetref2_StampFault_R qs r)) := by
  unfold fleetref2_StampFault at hF
  refine holds_of_awp hΓ (fn := f59) (c := cB f59) (A := 0) (nx := 0) (by kernel_rfl) (by kernel_rfl) (by kernel_rfl) (by kernel_rfl) (by kernel_rfl) (by kernel_rfl) (lowc_of (by kernel_rfl)) ?_
  show Awp prog 0 18 (cB f59) _ _
  refine awp_seq ?_
  refine awp_region ?_
  refine aR 2 ?_
  refine aE ?_
  refine awp_seq ?_
  refine awp_block ?_
  refine awp_seq ?_
  refine bE hF fun vr1 h1 hF => ?_
  refine awp_region ?_
  refine aR 2 ?_
  refine aC (fleetref2_Moment_ok h1) [] [] [] ?_
  refine aR 2 ?_
  refine aE ?_
  refine cE hF (fun h2 hF => ?_) fun h2 hF => ?_
  · refine awp_true (by kernel_rfl) h2 ?_
    refine awp_seq ?_
    refine awp_region ?_
    refine aR 1 ?_
    refine aE ?_
    refine awp_ret ?_
    exact oF hF [] []
  · refine awp_false (by kernel_rfl) h2 ?_
    refine awp_seq ?_
    refine bE hF fun vr3 h3 hF => ?_
    refine awp_region ?_
    refine aR 2 ?_
    refine aC (fleetref2_Key_ok h3) [] [] [] ?_
    refine aR 2 ?_
    refine aE ?_
    refine cE hF (fun h4 hF => ?_) fun h4 hF => ?_
    · refine awp_true (by kernel_rfl) h4 ?_
      refine awp_seq ?_
      refine awp_region ?_
      refine aR 1 ?_
      refine aE ?_
      refine awp_ret ?_
      exact oF hF [] []
    · refine awp_false (by kernel_rfl) h4 ?_
      refine awp_seq ?_
      refine bE hF fun vr h5 hF => ?_
      refine awp_region ?_
      refine aR 2 ?_
      refine aC (fleetref2_in_ok h5) [] [] [] ?_
      refine aR 2 ?_
      refine aE ?_
      refine cE hF (fun h6 hF => ?_) fun h6 hF => ?_
      · refine awp_true (by kernel_rfl) h6 ?_
        refine awp_seq ?_
        refine awp_region ?_
        refine aR 1 ?_
        refine aE ?_
        refine awp_ret ?_
        exact oF hF [] []
      · refine awp_false (by kernel_rfl) h6 ?_
        refine awp_skip ?_
        refine awp_seq ?_
        refine awp_region ?_
        refine aR 1 ?_
        refine aE ?_
        refine awp_ret ?_
        exact oF hF [] []

/-! ### beaconfleet/fleetref2.CellsFault -/
def fleetref2_CellsFault_x2_k : Unit ⊕ Int → AEx
  | .inl _ => .exit 2
  | .inr _ => .ret

def fleetref2_CellsFault_x2_S (ql : List api_Cell) (vx : Int) (vy4 : api_Cell) (vr3_1 : Int) (vr2_3 : Int) : Unit ⊕ Int → St
  | .inl _ => Mem.st ⟨[], [(0, [.d (.str vy4.Prop_.Name), .d (.int .i64 vy4.Prop_.Value.Kind), .d (.bool vy4.Prop_.Value.Flag), .d (.int .i64 vy4.Prop_.Value.Number), .d (.str vy4.Prop_.Value.Words), .d (.int .i64 vy4.Stamp.At), .d (.str vy4.Stamp.By), .d (.int .i64 vy4.Stamp.No)])]⟩ (tl [(0, .v (.one (.d (.lst (List.map api_Cell.enc ql))))), (3, .v (.one (.d (.int .i64 vx)))), (4, .v (.one (.box 0 0))), (10, .v (.one (.d (.lst (List.map api_Cell.enc ql))))), (11, .v (.one (.d (.int .i64 (ql.length : Int))))), (12, .v (.one (.d (.int .i64 vx))))]) 1
  | .inr vx5 => Mem.st ⟨[], []⟩ (tl [(2, .v (.one (.d (.int .i64 vx5))))]) 0

def fleetref2_CellsFault_x2_H (ql : List api_Cell) (vx : Int) (vy4 : api_Cell) (vr3_1 : Int) (vr2_3 : Int) : Int → St
  | vx4 => Mem.st ⟨[], [(0, [.d (.str vy4.Prop_.Name), .d (.int .i64 vy4.Prop_.Value.Kind), .d (.bool vy4.Prop_.Value.Flag), .d (.int .i64 vy4.Prop_.Value.Number), .d (.str vy4.Prop_.Value.Words), .d (.int .i64 vy4.Stamp.At), .d (.str vy4.Stamp.By), .d (.int .i64 vy4.Stamp.No)])]⟩ (tl [(0, .v (.one (.d (.lst (List.map api_Cell.enc ql))))), (3, .v (.one (.d (.int .i64 vx)))), (4, .v (.one (.box 0 0))), (10, .v (.one (.d (.lst (List.map api_Cell.enc ql))))), (11, .v (.one (.d (.int .i64 (ql.length : Int))))), (12, .v (.one (.d (.int .i64 vx)))), (29, .v (.one (.d (.lst (List.map (encI .i64) ([vr3_1, vr2_3] : List Int)))))), (30, .v (.one (.d (.int .i64 (([vr3_1, vr2_3] : List Int).length : Int))))), (31, .v (.one (.d (.int .i64 vx4))))]) 1

theorem fleetref2_CellsFault_x2_ok (ql : List api_Cell) (vx : Int) (vy4 : api_Cell) (vr3_1 : Int) (vr2_3 : Int) (vx4 : Int) (r : (Int) ⊕ (Unit ⊕ Int)) (hF : fleetref2_CellsFault_x2 vr3_1 vr2_3 vx4 = some r) : Awp prog 0 55 (cL (cL (cR (cL (cR (cR (cL (cL (cR (cR (cL (cL (cR (cL (cR (cR (cB f11))))))))))))))))) (Out 0 (kk fleetref2_CellsFault_x2_k) (SS (fleetref2_CellsFault_x2_H ql vx vy4 vr3_1 vr2_3) (fleetref2_CellsFault_x2_S ql vx vy4 vr3_1 vr2_3)) r) (fleetref2_CellsFault_x2_H ql vx vy4 vr3_1 vr2_3 vx4) := by
  unfold fleetref2_CellsFault_x2 at hF
  refine awp_seq ?_
  refine awp_region ?_
  refine aR 1 ?_
  refine aE ?_
  refine awp_seq ?_
  refine cE hF (fun h8 hF => ?_) fun h8 hF => ?_
  · refine awp_true (by kernel_rfl) h8 ?_
    refine awp_skip ?_
    refine awp_seq ?_
    refine awp_block ?_
    refine awp_seq ?_
    refine bE hF fun vy6 h9 hF => ?_
    refine awp_region ?_
    refine aX (x_idx (encI .i64) h9) ?_
    refine aR 2 ?_
    refine aE ?_
    refine awp_seq ?_
    refine awp_region ?_
    refine aR 2 ?_
    refine aE ?_
    refine cE hF (fun h10 hF => ?_) fun h10 hF => ?_
    · refine awp_true (by kernel_rfl) h10 ?_
      refine awp_seq ?_
      refine awp_region ?_
      refine aR 2 ?_
      refine aE ?_
      refine awp_ret ?_
      exact oO hF [] [] rfl
    · refine awp_false (by kernel_rfl) h10 ?_
      refine awp_skip ?_
      refine awp_region ?_
      refine aR 2 ?_
      refine aE ?_
      exact oO hF [] [] rfl
  · refine awp_false (by kernel_rfl) h8 ?_
    refine awp_exit ?_
    exact oO hF [] [] rfl

def fleetref2_CellsFault_x3_k : Bool → AEx
  | _ => .normal

def fleetref2_CellsFault_x3_S (ql : List api_Cell) (vx : Int) (vy4 : api_Cell) : Bool → St
  | vx6 => Mem.st ⟨[], []⟩ (tl [(0, .v (.one (.d (.lst (List.map api_Cell.enc ql))))), (10, .v (.one (.d (.lst (List.map api_Cell.enc ql))))), (11, .v (.one (.d (.int .i64 (ql.length : Int))))), (12, .v (.one (.d (.int .i64 vx)))), (53, .v (.one (.d (.bool vx6))))]) 0

def fleetref2_CellsFault_x3_I (ql : List api_Cell) (vx : Int) (vy4 : api_Cell) : St := Mem.st ⟨[], [(0, [.d (.str vy4.Prop_.Name), .d (.int .i64 vy4.Prop_.Value.Kind), .d (.bool vy4.Prop_.Value.Flag), .d (.int .i64 vy4.Prop_.Value.Number), .d (.str vy4.Prop_.Value.Words), .d (.int .i64 vy4.Stamp.At), .d (.str vy4.Stamp.By), .d (.int .i64 vy4.Stamp.No)])]⟩ (tl [(0, .v (.one (.d (.lst (List.map api_Cell.enc ql))))), (3, .v (.one (.d (.int .i64 vx)))), (4, .v (.one (.box 0 0))), (10, .v (.one (.d (.lst (List.map api_Cell.enc ql))))), (11, .v (.one (.d (.int .i64 (ql.length : Int))))), (12, .v (.one (.d (.int .i64 vx))))]) 1

theorem fleetref2_CellsFault_x3_ok (ql : List api_Cell) (vx : Int) (vy4 : api_Cell) {r} (hF : fleetref2_CellsFault_x3 ql vx vy4 = some r) : Awp prog 0 55 (cL (cR (cR (cR (cL (cL (cR (cR (cL (cL (cR (cL (cR (cR (cB f11))))))))))))))) (Out 0 fleetref2_CellsFault_x3_k (fleetref2_CellsFault_x3_S ql vx vy4) r) (fleetref2_CellsFault_x3_I ql vx vy4) := by
  unfold fleetref2_CellsFault_x3 at hF
  refine cE hF (fun h12 hF => ?_) fun h12 hF => ?_
  · refine bE hF fun vy7 h13 hF => ?_
    refine aD ?_
    refine dR 1 ?_
    refine dB h12 ?_
    refine dR 7 ?_
    refine dX (x_idx api_Cell.enc h13) ?_
    refine dR 5 ?_
    refine dE ?_
    exact oO hF [] [] rfl
  · refine aD ?_
    refine dR 1 ?_
    refine dB h12 ?_
    refine dR 13 ?_
    refine dE ?_
    exact oO hF [] [] rfl

def fleetref2_CellsFault_x1_k : Unit ⊕ Int → AEx
  | .inl _ => .exit 0
  | .inr _ => .ret

def fleetref2_CellsFault_x1_S (ql : List api_Cell) : Unit ⊕ Int → St
  | .inl _ => Mem.st ⟨[], []⟩ (tl []) 0
  | .inr vx7 => Mem.st ⟨[], []⟩ (tl [(2, .v (.one (.d (.int .i64 vx7))))]) 0

def fleetref2_CellsFault_x1_H (ql : List api_Cell) : Int → St
  | vx => Mem.st ⟨[], []⟩ (tl [(0, .v (.one (.d (.lst (List.map api_Cell.enc ql))))), (10, .v (.one (.d (.lst (List.map api_Cell.enc ql))))), (11, .v (.one (.d (.int .i64 (ql.length : Int))))), (12, .v (.one (.d (.int .i64 vx))))]) 0

theorem fleetref2_CellsFault_x1_ok (ql : List api_Cell) (vx : Int) (r : (Int) ⊕ (Unit ⊕ Int)) (hF : fleetref2_CellsFault_x1 ql vx = some r) : Awp prog 0 55 (cL (cL (cR (cL (cR (cR (cB f11))))))) (Out 0 (kk fleetref2_CellsFault_x1_k) (SS (fleetref2_CellsFault_x1_H ql) (fleetref2_CellsFault_x1_S ql)) r) (fleetref2_CellsFault_x1_H ql vx) := by
  unfold fleetref2_CellsFault_x1 at hF
  refine awp_seq ?_
  refine awp_region ?_
  refine aR 1 ?_
  refine aE ?_
  refine awp_seq ?_
  refine cE hF (fun h2 hF => ?_) fun h2 hF => ?_
  · refine awp_true (by kernel_rfl) h2 ?_
    refine awp_skip ?_
    refine awp_seq ?_
    refine awp_block ?_
    refine awp_seq ?_
    refine bE hF fun vy4 h3 hF => ?_
    refine awp_region ?_
    refine aR 1 ?_
    refine aX (x_idx api_Cell.enc h3) ?_
    refine aR 4 ?_
    refine aE ?_
    refine awp_seq ?_
    refine awp_seq ?_
    refine bE hF fun vr2_2 h4 hF => ?_
    refine awp_region ?_
    refine aR 3 ?_
    refine aC (fleetref2_PropName_ok h4) [] [] [] ?_
    refine aR 1 ?_
    refine aE ?_
    refine cE hF (fun h5 hF => ?_) fun h5 hF => ?_
    · refine awp_true (by kernel_rfl) h5 ?_
      refine awp_seq ?_
      refine awp_region ?_
      refine aR 1 ?_
      refine aE ?_
      refine awp_ret ?_
      exact oO hF [] [] rfl
    · refine awp_false (by kernel_rfl) h5 ?_
      refine awp_skip ?_
      refine awp_seq ?_
      refine awp_seq ?_
      refine bE hF fun vr3_1 h6 hF => ?_
      refine bE hF fun vr2_3 h7 hF => ?_
      refine aD ?_
      refine dR 3 ?_
      refine dC (fleetref2_ValueFault_ok h6) [] [] [] ?_
      refine dR 2 ?_
      refine dC (fleetref2_StampFault_ok h7) [] [] [] ?_
      refine dR 1 ?_
      refine dL (encI .i64) ([vr3_1, vr2_3] : List Int) ?_
      refine dR 1 ?_
      refine dE ?_
      refine awp_to (oT (m := ⟨[], [(0, [.d (.str vy4.Prop_.Name), .d (.int .i64 vy4.Prop_.Value.Kind), .d (.bool vy4.Prop_.Value.Flag), .d (.int .i64 vy4.Prop_.Value.Number), .d (.str vy4.Prop_.Value.Words), .d (.int .i64 vy4.Stamp.At), .d (.str vy4.Stamp.By), .d (.int .i64 vy4.Stamp.No)])]⟩) (ts := [(0, .v (.one (.d (.lst (List.map api_Cell.enc ql))))), (3, .v (.one (.d (.int .i64 vx)))), (4, .v (.one (.box 0 0))), (10, .v (.one (.d (.lst (List.map api_Cell.enc ql))))), (11, .v (.one (.d (.int .i64 (ql.length : Int))))), (12, .v (.one (.d (.int .i64 vx)))), (29, .v (.one (.d (.lst (List.map (encI .i64) ([vr3_1, vr2_3] : List Int)))))), (30, .v (.one (.d (.int .i64 (([vr3_1, vr2_3] : List Int).length : Int))))), (31, .v (.one (.d (.int .i64 0))))]) (nx := 1) [(0, 4000)] []) ?_
      refine awp_block ?_
      refine awp_to (st' := fleetref2_CellsFault_x2_H ql vx vy4 vr3_1 vr2_3 0) (oT [] []) ?_
      refine bE hF fun x h11 hF => ?_
      rcases x with _ | vx5_1
      · refine awp_sub (awp_loop' (fleetref2_CellsFault_x2_H ql vx vy4 vr3_1 vr2_3) fleetref2_CellsFault_x2_k (fleetref2_CellsFault_x2_S ql vx vy4 vr3_1 vr2_3) (by intro x; rcases x with x | x <;> exact fun h => nomatch h) h11 (fleetref2_CellsFault_x2_ok ql vx vy4 vr3_1 vr2_3)) ?_
        refine awp_seq ?_
        refine awp_to (st' := fleetref2_CellsFault_x3_I ql vx vy4) (oT [] []) ?_
        refine bE hF fun vx6_1 h14 hF => ?_
        refine awp_sub (fleetref2_CellsFault_x3_ok ql vx vy4 h14) ?_
        refine cE hF (fun h15 hF => ?_) fun h15 hF => ?_
        · refine awp_true (by kernel_rfl) h15 ?_
          refine awp_seq ?_
          refine awp_region ?_
          refine aR 1 ?_
          refine aE ?_
          refine awp_ret ?_
          exact oO hF [] [] rfl
        · refine awp_false (by kernel_rfl) h15 ?_
          refine awp_skip ?_
          refine awp_region ?_
          refine aR 2 ?_
          refine aE ?_
          exact oO hF [] [] rfl
      · refine awp_sub (awp_loop' (fleetref2_CellsFault_x2_H ql vx vy4 vr3_1 vr2_3) fleetref2_CellsFault_x2_k (fleetref2_CellsFault_x2_S ql vx vy4 vr3_1 vr2_3) (by intro x; rcases x with x | x <;> exact fun h => nomatch h) h11 (fleetref2_CellsFault_x2_ok ql vx vy4 vr3_1 vr2_3)) ?_
        exact oO hF [] [] rfl
  · refine awp_false (by kernel_rfl) h2 ?_
    refine awp_exit ?_
    exact oO hF [] [] rfl

def fleetref2_CellsFault_R (ql : List api_Cell) (r : Int) : TV × Mem := (.v (.one (.d (.int .i64 r))), ⟨[], []⟩)

theorem fleetref2_CellsFault_ok {ql : List api_Cell} {r} (hF : fleetref2_CellsFault ql = some r) : Holds prog 11 [.v (.one (.d (.lst (List.map api_Cell.enc ql))))] ⟨[], []⟩ (Is (fleetref2_CellsFault_R ql r)) := by
  unfold fleetref2_CellsFault at hF
  refine holds_of_awp hΓ (fn := f11) (c := cB f11) (A := 0) (nx := 0) (by kernel_rfl) (by kernel_rfl) (by kernel_rfl) (by kernel_rfl) (by kernel_rfl) (by kernel_rfl) (lowc_of (by kernel_rfl)) ?_
  show Awp prog 0 55 (cB f11) _ _
  refine awp_seq ?_
  refine awp_region ?_
  refine aR 1 ?_
  refine aE ?_
  refine awp_seq ?_
  refine awp_seq ?_
  refine awp_region ?_
  refine aR 1 ?_
  refine aL api_Cell.enc ql ?_
  refine aR 1 ?_
  refine aE ?_
  refine cE hF (fun h1 hF => ?_) fun h1 hF => ?_
  · refine awp_true (by kernel_rfl) h1 ?_
    refine awp_seq ?_
    refine awp_region ?_
    refine aR 1 ?_
    refine aE ?_
    refine awp_ret ?_
    exact oF hF [] []
  · refine awp_false (by kernel_rfl) h1 ?_
    refine awp_skip ?_
    refine awp_seq ?_
    refine awp_seq ?_
    refine awp_region ?_
    refine aR 1 ?_
    refine aL api_Cell.enc ql ?_
    refine aR 1 ?_
    refine aE ?_
    refine awp_block ?_
    refine awp_to (st' := fleetref2_CellsFault_x1_H ql 0) (oT [] []) ?_
    refine bE hF fun x h16 hF => ?_
    rcases x with _ | vx7_1
    · refine awp_sub (awp_loop' (fleetref2_CellsFault_x1_H ql) fleetref2_CellsFault_x1_k (fleetref2_CellsFault_x1_S ql) (by intro x; rcases x with x | x <;> exact fun h => nomatch h) h16 (fleetref2_CellsFault_x1_ok ql)) ?_
      refine awp_seq ?_
      refine awp_region ?_
      refine aR 1 ?_
      refine aE ?_
      refine awp_ret ?_
      exact oF hF [] []
    · refine awp_sub (awp_loop' (fleetref2_CellsFault_x1_H ql) fleetref2_CellsFault_x1_k (fleetref2_CellsFault_x1_S ql) (by intro x; rcases x with x | x <;> exact fun h => nomatch h) h16 (fleetref2_CellsFault_x1_ok ql)) ?_
      exact oF hF [] []

/-! ### beaconfleet/fleetlaw2.when -/
def fleetlaw2_when_R (qis : Bool) (qe : Int) (r : Int) : TV × Mem := (.v (.one (.d (.int .i64 r))), ⟨[], []⟩)

theorem fleetlaw2_when_ok {qis : Bool} {qe : Int} {r} (hF : fleetlaw2_when qis qe = some r) : Holds prog 13 [.v (.one (.d (.bool qis))), .v (.one (.d (.int .i64 qe)))] ⟨[], []⟩ (Is (fleetlaw2_when_R qis qe r)) := by
  unfold fleetlaw2_when at hF
  refine holds_of_awp hΓ (fn := f13) (c := cB f13) (A := 0) (nx := 0) (by kernel_rfl) (by kernel_rfl) (by kernel_rfl) (by kernel_rfl) (by kernel_rfl) (by kernel_rfl) (lowc_of (by kernel_rfl)) ?_
  show Awp prog 0 7 (cB f13) _ _
  refine awp_seq ?_
  refine awp_region ?_
  refine aR 1 ?_
  refine aE ?_
  refine awp_seq ?_
  refine awp_seq ?_
  refine awp_region ?_
  refine aR 1 ?_
  refine aE ?_
  refine cE hF (fun h1 hF => ?_) fun h1 hF => ?_
  · refine awp_true (by kernel_rfl) h1 ?_
    refine awp_seq ?_
    refine awp_region ?_
    refine aR 2 ?_
    refine aE ?_
    refine awp_ret ?_
    exact oF hF [] []
  · refine awp_false (by kernel_rfl) h1 ?_
    refine awp_skip ?_
    refine awp_seq ?_
    refine awp_region ?_
    refine aR 1 ?_
    refine aE ?_
    refine awp_ret ?_
    exact oF hF [] []

/-! ### beaconfleet/fleetlaw2.errs -/
def fleetlaw2_errs_x1_k : Unit ⊕ Int → AEx
  | .inl _ => .exit 0
  | .inr _ => .ret

def fleetlaw2_errs_x1_S (ql : List Int) : Unit ⊕ Int → St
  | .inl _ => Mem.st ⟨[], []⟩ (tl []) 0
  | .inr vx1 => Mem.st ⟨[], []⟩ (tl [(2, .v (.one (.d (.int .i64 vx1))))]) 0

def fleetlaw2_errs_x1_H (ql : List Int) : Int → St
  | vx => Mem.st ⟨[], []⟩ (tl [(5, .v (.one (.d (.lst (List.map (encI .i64) ql))))), (6, .v (.one (.d (.int .i64 (ql.length : Int))))), (7, .v (.one (.d (.int .i64 vx))))]) 0

theorem fleetlaw2_errs_x1_ok (ql : List Int) (vx : Int) (r : (Int) ⊕ (Unit ⊕ Int)) (hF : fleetlaw2_errs_x1 ql vx = some r) : Awp prog 0 15 (cL (cL (cR (cL (cR (cB f12)))))) (Out 0 (kk fleetlaw2_errs_x1_k) (SS (fleetlaw2_errs_x1_H ql) (fleetlaw2_errs_x1_S ql)) r) (fleetlaw2_errs_x1_H ql vx) := by
  unfold fleetlaw2_errs_x1 at hF
  refine awp_seq ?_
  refine awp_region ?_
  refine aR 1 ?_
  refine aE ?_
  refine awp_seq ?_
  refine cE hF (fun h1 hF => ?_) fun h1 hF => ?_
  · refine awp_true (by kernel_rfl) h1 ?_
    refine awp_skip ?_
    refine awp_seq ?_
    refine awp_block ?_
    refine awp_seq ?_
    refine bE hF fun vy1 h2 hF => ?_
    refine awp_region ?_
    refine aX (x_idx (encI .i64) h2) ?_
    refine aR 2 ?_
    refine aE ?_
    refine awp_seq ?_
    refine awp_region ?_
    refine aR 2 ?_
    refine aE ?_
    refine cE hF (fun h3 hF => ?_) fun h3 hF => ?_
    · refine awp_true (by kernel_rfl) h3 ?_
      refine awp_seq ?_
      refine awp_region ?_
      refine aR 2 ?_
      refine aE ?_
      refine awp_ret ?_
      exact oO hF [] [] rfl
    · refine awp_false (by kernel_rfl) h3 ?_
      refine awp_skip ?_
      refine awp_region ?_
      refine aR 2 ?_
      refine aE ?_
      exact oO hF [] [] rfl
  · refine awp_false (by kernel_rfl) h1 ?_
    refine awp_exit ?_
    exact oO hF [] [] rfl

def fleetlaw2_errs_R (ql : List Int) (r : Int) : TV × Mem := (.v (.one (.d (.int .i64 r))), ⟨[], []⟩)

theorem fleetlaw2_errs_ok {ql : List Int} {r} (hF : fleetlaw2_errs ql = some r) : Holds prog 12 [.v (.one (.d (.lst (List.map (encI .i64) ql))))] ⟨[], []⟩ (Is (fleetlaw2_errs_R ql r)) := by
  unfold fleetlaw2_errs at hF
  refine holds_of_awp hΓ (fn := f12) (c := cB f12) (A := 0) (nx := 0) (by kernel_rfl) (by kernel_rfl) (by kernel_rfl) (by kernel_rfl) (by kernel_rfl) (by kernel_rfl) (lowc_of (by kernel_rfl)) ?_
  show Awp prog 0 15 (cB f12) _ _
  refine awp_seq ?_
  refine awp_region ?_
  refine aR 1 ?_
  refine aE ?_
  refine awp_seq ?_
  refine awp_seq ?_
  refine awp_region ?_
  refine aR 1 ?_
  refine aL (encI .i64) ql ?_
  refine aR 1 ?_
  refine aE ?_
  refine awp_block ?_
  refine awp_to (st' := fleetlaw2_errs_x1_H ql 0) (oT [] []) ?_
  refine bE hF fun x h4 hF => ?_
  rcases x with _ | vx1_1
  · refine awp_sub (awp_loop' (fleetlaw2_errs_x1_H ql) fleetlaw2_errs_x1_k (fleetlaw2_errs_x1_S ql) (by intro x; rcases x with x | x <;> exact fun h => nomatch h) h4 (fleetlaw2_errs_x1_ok ql)) ?_
    refine awp_seq ?_
    refine awp_region ?_
    refine aR 1 ?_
    refine aE ?_
    refine awp_ret ?_
    exact oF hF [] []
  · refine awp_sub (awp_loop' (fleetlaw2_errs_x1_H ql) fleetlaw2_errs_x1_k (fleetlaw2_errs_x1_S ql) (by intro x; rcases x with x | x <;> exact fun h => nomatch h) h4 (fleetlaw2_errs_x1_ok ql)) ?_
    exact oF hF [] []

/-! ### beaconfleet/fleetref2.sign -/
def fleetref2_sign_R (qn : Int) (r : Int) : TV × Mem := (.v (.one (.d (.int .i64 r))), ⟨[], []⟩)

theorem fleetref2_sign_ok {qn : Int} {r} (hF : fleetref2_sign qn = some r) : Holds prog 138 [.v (.one (.d (.int .i64 qn)))] ⟨[], []⟩ (Is (fleetref2_sign_R qn r)) := by
  unfold fleetref2_sign at hF
  refine holds_of_awp hΓ (fn := f138) (c := cB f138) (A := 0) (nx := 0) (by kernel_rfl) (by kernel_rfl) (by kernel_rfl) (by kernel_rfl) (by kernel_rfl) (by kernel_rfl) (lowc_of (by kernel_rfl)) ?_
  show Awp prog 0 9 (cB f138) _ _
  refine awp_seq ?_
  refine awp_region ?_
  refine aR 1 ?_
  refine aE ?_
  refine awp_seq ?_
  refine awp_block ?_
  refine awp_seq ?_
  refine awp_region ?_
  refine aR 3 ?_
  refine aE ?_
  refine cE hF (fun h1 hF => ?_) fun h1 hF => ?_
  · refine awp_true (by kernel_rfl) h1 ?_
    refine awp_seq ?_
    refine awp_region ?_
    refine aR 1 ?_
    refine aE ?_
    refine awp_ret ?_
    exact oF hF [] []
  · refine awp_false (by kernel_rfl) h1 ?_
    refine awp_seq ?_
    refine awp_region ?_
    refine aR 3 ?_
    refine aE ?_
    refine cE hF (fun h2 hF => ?_) fun h2 hF => ?_
    · refine awp_true (by kernel_rfl) h2 ?_
      refine awp_seq ?_
      refine awp_region ?_
      refine aR 1 ?_
      refine aE ?_
      refine awp_ret ?_
      exact oF hF [] []
    · refine awp_false (by kernel_rfl) h2 ?_
      refine awp_skip ?_
      refine awp_seq ?_
      refine awp_region ?_
      refine aR 1 ?_
      refine aE ?_
      refine awp_ret ?_
      exact oF hF [] []

/-! ### beaconfleet/fleetref2.StampOrder -/
def fleetref2_StampOrder_R (qa : api_Stamp) (qb : api_Stamp) (r : Int) : TV × Mem := (.v (.one (.d (.int .i64 r))), ⟨[], []⟩)

theorem fleetref2_StampOrder_ok {qa : api_Stamp} {qb : api_Stamp} {r} (hF : fleetref2_StampOrder qa qb = some r) : Holds prog 97 [.v (.agg [.d (.int .i64 qa.At), .d (.str qa.By), .d (.int .i64 qa.No)]), .v (.agg [.d (.int .i64 qb.At), .d (.str qb.By), .d (.int .i64 qb.No)])] ⟨[], []⟩ (Is (fleetref2_StampOrder_R qa qb r)) := by
  unfold fleetref2_StampOrder at hF
  refine holds_of_awp hΓ (fn := f97) (c := cB f97) (A := 0) (nx := 0) (by kernel_rfl) (by kernel_rfl) (by kernel_rfl) (by kernel_rfl) (by kernel_rfl) (by kernel_rfl) (lowc_of (by kernel_rfl)) ?_
  show Awp prog 0 34 (cB f97) _ _
  refine awp_seq ?_
  refine awp_region ?_
  refine aR 3 ?_
  refine aE ?_
  refine awp_seq ?_
  refine awp_block ?_
  refine awp_seq ?_
  refine awp_region ?_
  refine aR 6 ?_
  refine aE ?_
  refine cE hF (fun h1 hF => ?_) fun h1 hF => ?_
  · refine awp_true (by kernel_rfl) h1 ?_
    refine awp_seq ?_
    refine bE hF fun vr h2 hF => ?_
    refine awp_region ?_
    refine aR 5 ?_
    refine aC (fleetref2_sign_ok h2) [] [] [] ?_
    refine aR 1 ?_
    refine aE ?_
    refine awp_ret ?_
    exact oF hF [] []
  · refine awp_false (by kernel_rfl) h1 ?_
    refine awp_seq ?_
    refine awp_region ?_
    refine aR 6 ?_
    refine aE ?_
    refine cE hF (fun h3 hF => ?_) fun h3 hF => ?_
    · refine awp_true (by kernel_rfl) h3 ?_
      refine awp_seq ?_
      refine bE hF fun _ h4 hF => ?_
      refine awp_region ?_
      refine aR 4 ?_
      refine aC (strings_Compare_ok h4) [] [] [] ?_
      refine aR 1 ?_
      refine aE ?_
      refine awp_ret ?_
      exact oF hF [] []
    · refine awp_false (by kernel_rfl) h3 ?_
      refine awp_skip ?_
      refine awp_seq ?_
      refine bE hF fun vr1 h5 hF => ?_
      refine awp_region ?_
      refine aR 5 ?_
      refine aC (fleetref2_sign_ok h5) [] [] [] ?_
      refine aR 1 ?_
      refine aE ?_
      refine awp_ret ?_
      exact oF hF [] []

/-! ### slices.Equal[[]beaconfleet/api.Cell,beaconfleet/api.Cell] -/
def slices_Equal_api_Cell_api_Cell_x1_k : Unit ⊕ Unit → AEx
  | .inl _ => .exit 0
  | .inr _ => .ret

def slices_Equal_api_Cell_api_Cell_x1_S (qs1 : List api_Cell) (qs2 : List api_Cell) : Unit ⊕ Unit → St
  | .inl _ => Mem.st ⟨[], []⟩ (tl []) 0
  | .inr _ => Mem.st ⟨[], []⟩ (tl [(4, .v (.one (.d (.bool false))))]) 0

def slices_Equal_api_Cell_api_Cell_x1_H (qs1 : List api_Cell) (qs2 : List api_Cell) : Int → St
  | vx => Mem.st ⟨[], []⟩ (tl [(0, .v (.one (.d (.lst (List.map api_Cell.enc qs1))))), (1, .v (.one (.d (.lst (List.map api_Cell.enc qs2))))), (12, .v (.one (.d (.int .i64 (qs1.length : Int))))), (13, .v (.one (.d (.int .i64 vx))))]) 0

theorem slices_Equal_api_Cell_api_Cell_x1_ok (qs1 : List api_Cell) (qs2 : List api_Cell) (vx : Int) (r : (Int) ⊕ (Unit ⊕ Unit)) (hF : slices_Equal_api_Cell_api_Cell_x1 qs1 qs2 vx = some r) : Awp prog 0 26 (cL (cL (cR (cL (cR (cR (cB f17))))))) (Out 0 (kk slices_Equal_api_Cell_api_Cell_x1_k) (SS (slices_Equal_api_Cell_api_Cell_x1_H qs1 qs2) (slices_Equal_api_Cell_api_Cell_x1_S qs1 qs2)) r) (slices_Equal_api_Cell_api_Cell_x1_H qs1 qs2 vx) := by
  unfold slices_Equal_api_Cell_api_Cell_x1 at hF
  refine awp_seq ?_
  refine awp_region ?_
  refine aR 1 ?_
  refine aE ?_
  refine awp_seq ?_
  refine cE hF (fun h2 hF => ?_) fun h2 hF => ?_
  · refine awp_true (by kernel_rfl) h2 ?_
    refine awp_skip ?_
    refine awp_seq ?_
    refine awp_block ?_
    refine awp_seq ?_
    refine awp_region ?_
    refine aR 2 ?_
    refine aE ?_
    refine awp_seq ?_
    refine bE hF fun vy2 h3 hF => ?_
    refine bE hF fun vy3 h4 hF => ?_
    refine aD ?_
    refine dR 2 ?_
    refine dX (x_idx api_Cell.enc h3) ?_
    refine dR 3 ?_
    refine dX (x_idx api_Cell.enc h4) ?_
    refine dR 1 ?_
    refine dS (U := []) (stable_eqS (op := .neq) (xs := [.str vy2.Prop_.Name, .int .i64 vy2.Prop_.Value.Kind, .bool vy2.Prop_.Value.Flag, .int .i64 vy2.Prop_.Value.Number, .str vy2.Prop_.Value.Words, .int .i64 vy2.Stamp.At, .str vy2.Stamp.By, .int .i64 vy2.Stamp.No]) (ys := [.str vy3.Prop_.Name, .int .i64 vy3.Prop_.Value.Kind, .bool vy3.Prop_.Value.Flag, .int .i64 vy3.Prop_.Value.Number, .str vy3.Prop_.Value.Words, .int .i64 vy3.Stamp.At, .str vy3.Stamp.By, .int .i64 vy3.Stamp.No]) (b := ((decide (vy2.Prop_.Name = vy3.Prop_.Name) && ((decide (vy2.Prop_.Value.Kind = vy3.Prop_.Value.Kind) && ((vy2.Prop_.Value.Flag == vy3.Prop_.Value.Flag) && (decide (vy2.Prop_.Value.Number = vy3.Prop_.Value.Number) && (decide (vy2.Prop_.Value.Words = vy3.Prop_.Value.Words) && true)))) && true)) && ((decide (vy2.Stamp.At = vy3.Stamp.At) && (decide (vy2.Stamp.By = vy3.Stamp.By) && (decide (vy2.Stamp.No = vy3.Stamp.No) && true))) && true))) (c := (!((decide (vy2.Prop_.Name = vy3.Prop_.Name) && ((decide (vy2.Prop_.Value.Kind = vy3.Prop_.Value.Kind) && ((vy2.Prop_.Value.Flag == vy3.Prop_.Value.Flag) && (decide (vy2.Prop_.Value.Number = vy3.Prop_.Value.Number) && (decide (vy2.Prop_.Value.Words = vy3.Prop_.Value.Words) && true)))) && true)) && ((decide (vy2.Stamp.At = vy3.Stamp.At) && (decide (vy2.Stamp.By = vy3.Stamp.By) && (decide (vy2.Stamp.No = vy3.Stamp.No) && true))) && true)))) rfl (.inr ⟨rfl, rfl⟩) (by kernel_rfl) (by kernel_rfl) (by kernel_rfl) (by kernel_rfl) (by kernel_rfl) (by kernel_rfl)) ?_
    refine dE ?_
    refine cE hF (fun h5 hF => ?_) fun h5 hF => ?_
    · refine awp_true (by kernel_rfl) h5 ?_
      refine awp_seq ?_
      refine awp_region ?_
      refine aR 1 ?_
      refine aE ?_
      refine awp_ret ?_
      exact oO hF [] [] rfl
    · refine awp_false (by kernel_rfl) h5 ?_
      refine awp_skip ?_
      refine awp_region ?_
      refine aR 2 ?_
      refine aE ?_
      exact oO hF [] [] rfl
  · refine awp_false (by kernel_rfl) h2 ?_
    refine awp_exit ?_
    exact oO hF [] [] rfl

def slices_Equal_api_Cell_api_Cell_R (qs1 : List api_Cell) (qs2 : List api_Cell) (r : Bool) : TV × Mem := (.v (.one (.d (.bool r))), ⟨[], []⟩)

theorem slices_Equal_api_Cell_api_Cell_ok {qs1 : List api_Cell} {qs2 : List api_Cell} {r} (hF : slices_Equal_api_Cell_api_Cell qs1 qs2 = some r) : Holds prog 17 [.v (.one (.d (.lst (List.map api_Cell.enc qs1)))), .v (.one (.d (.lst (List.map api_Cell.enc qs2))))] ⟨[], []⟩ (Is (slices_Equal_api_Cell_api_Cell_R qs1 qs2 r)) := by
  unfold slices_Equal_api_Cell_api_Cell at hF
  refine holds_of_awp hΓ (fn := f17) (c := cB f17) (A := 0) (nx := 0) (by kernel_rfl) (by kernel_rfl) (by kernel_rfl) (by kernel_rfl) (by kernel_rfl) (by kernel_rfl) (lowc_of (by kernel_rfl)) ?_
  show Awp prog 0 26 (cB f17) _ _
  refine awp_seq ?_
  refine awp_region ?_
  refine aR 1 ?_
  refine aE ?_
  refine awp_seq ?_
  refine awp_seq ?_
  refine awp_region ?_
  refine aR 1 ?_
  refine aL api_Cell.enc qs1 ?_
  refine aR 1 ?_
  refine aL api_Cell.enc qs2 ?_
  refine aR 1 ?_
  refine aE ?_
  refine cE hF (fun h1 hF => ?_) fun h1 hF => ?_
  · refine awp_true (by kernel_rfl) h1 ?_
    refine awp_seq ?_
    refine awp_region ?_
    refine aR 1 ?_
    refine aE ?_
    refine awp_ret ?_
    exact oF hF [] []
  · refine awp_false (by kernel_rfl) h1 ?_
    refine awp_skip ?_
    refine awp_seq ?_
    refine awp_seq ?_
    refine awp_region ?_
    refine aR 1 ?_
    refine aL api_Cell.enc qs1 ?_
    refine aR 1 ?_
    refine aE ?_
    refine awp_block ?_
    refine awp_to (st' := slices_Equal_api_Cell_api_Cell_x1_H qs1 qs2 0) (oT [] []) ?_
    refine bE hF fun x h6 hF => ?_
    rcases x with _ | _
    · refine awp_sub (awp_loop' (slices_Equal_api_Cell_api_Cell_x1_H qs1 qs2) slices_Equal_api_Cell_api_Cell_x1_k (slices_Equal_api_Cell_api_Cell_x1_S qs1 qs2) (by intro x; rcases x with x | x <;> exact fun h => nomatch h) h6 (slices_Equal_api_Cell_api_Cell_x1_ok qs1 qs2)) ?_
      refine awp_seq ?_
      refine awp_region ?_
      refine aR 1 ?_
      refine aE ?_
      refine awp_ret ?_
      exact oF hF [] []
    · refine awp_sub (awp_loop' (slices_Equal_api_Cell_api_Cell_x1_H qs1 qs2) slices_Equal_api_Cell_api_Cell_x1_k (slices_Equal_api_Cell_api_Cell_x1_S qs1 qs2) (by intro x; rcases x with x | x <;> exact fun h => nomatch h) h6 (slices_Equal_api_Cell_api_Cell_x1_ok qs1 qs2)) ?_
      exact oF hF [] []

/-! ### beaconfleet/twin.CheckProps -/
def twin_CheckProps_n0_x1_k : Unit → AEx
  | _ => .exit 0

def twin_CheckProps_n0_x1_S : Unit → St
  | _ => Mem.st ⟨[], [(0, [.nil])]⟩ (tl [(1, .v (.one (.box 0 0)))]) 1

def twin_CheckProps_n0_x1_H : Unit → St
  | _ => Mem.st ⟨[], [(0, [.nil])]⟩ (tl [(1, .v (.one (.box 0 0))), (11, .v (.one (.nil))), (12, .v (.one (.d (.int .i64 0)))), (13, .v (.one (.d (.int .i64 0))))]) 1

theorem twin_CheckProps_n0_x1_ok (s : Unit) (r : (Unit) ⊕ (Unit)) (hF : twin_CheckProps_n0_x1  s = some r) : Awp prog 0 57 (cL (cL (cR (cL (cR (cR (cB f24))))))) (Out 0 (kk twin_CheckProps_n0_x1_k) (SS (twin_CheckProps_n0_x1_H ) (twin_CheckProps_n0_x1_S )) r) (twin_CheckProps_n0_x1_H  s) := by
  unfold twin_CheckProps_n0_x1 at hF
  refine awp_seq ?_
  refine awp_region ?_
  refine aR 1 ?_
  refine aE ?_
  refine awp_seq ?_
  refine cE hF (fun h2 hF => ?_) fun h2 hF => ?_
  · refine awp_true (by kernel_rfl) h2 ?_
    refine awp_skip ?_
    refine awp_seq ?_
    refine awp_block ?_
    refine awp_seq ?_
    exact nE hF
  · refine awp_false (by kernel_rfl) h2 ?_
    refine awp_exit ?_
    exact oO hF [] [] rfl

def twin_CheckProps_n0_x2_k : Unit → AEx
  | _ => .exit 2

def twin_CheckProps_n0_x2_S : Unit → St
  | _ => Mem.st ⟨[], []⟩ (tl []) 0

def twin_CheckProps_n0_x2_H : Unit → St
  | _ => Mem.st ⟨[], [(0, [.nil])]⟩ (tl [(1, .v (.one (.box 0 0))), (46, .v (.one (.nil))), (47, .v (.one (.d (.int .i64 0)))), (48, .v (.one (.d (.int .i64 0))))]) 1

theorem twin_CheckProps_n0_x2_ok (s : Unit) (r : (Unit) ⊕ (Unit)) (hF : twin_CheckProps_n0_x2  s = some r) : Awp prog 0 57 (cL (cL (cR (cL (cR (cR (cR (cB f24)))))))) (Out 0 (kk twin_CheckProps_n0_x2_k) (SS (twin_CheckProps_n0_x2_H ) (twin_CheckProps_n0_x2_S )) r) (twin_CheckProps_n0_x2_H  s) := by
  unfold twin_CheckProps_n0_x2 at hF
  refine awp_seq ?_
  refine awp_region ?_
  refine aR 1 ?_
  refine aE ?_
  refine awp_seq ?_
  refine cE hF (fun h5 hF => ?_) fun h5 hF => ?_
  · refine awp_true (by kernel_rfl) h5 ?_
    refine awp_skip ?_
    refine awp_seq ?_
    refine awp_block ?_
    refine awp_seq ?_
    exact nE hF
  · refine awp_false (by kernel_rfl) h5 ?_
    refine awp_exit ?_
    exact oO hF [] [] rfl

def twin_CheckProps_n0_R (r : Int) : TV × Mem := (.v (.one (.d (.int .i64 r))), ⟨[], []⟩)

theorem twin_CheckProps_n0_ok {r} (hF : twin_CheckProps_n0 = some r) : Holds prog 24 [.v (.one (.nil))] ⟨[], []⟩ (Is (twin_CheckProps_n0_R  r)) := by
  unfold twin_CheckProps_n0 at hF
  refine holds_of_awp hΓ (fn := f24) (c := cB f24) (A := 0) (nx := 0) (by kernel_rfl) (by kernel_rfl) (by kernel_rfl) (by kernel_rfl) (by kernel_rfl) (by kernel_rfl) (lowc_of (by kernel_rfl)) ?_
  show Awp prog 0 57 (cB f24) _ _
  refine awp_seq ?_
  refine awp_region ?_
  refine aR 2 ?_
  refine aE ?_
  refine awp_seq ?_
  refine awp_seq ?_
  refine awp_region ?_
  refine aR 3 ?_
  refine aE ?_
  refine cE hF (fun h1 hF => ?_) fun h1 hF => ?_
  · refine awp_true (by kernel_rfl) h1 ?_
    refine awp_seq ?_
    refine awp_region ?_
    refine aR 1 ?_
    refine aE ?_
    refine awp_ret ?_
    exact oF hF [] []
  · refine awp_false (by kernel_rfl) h1 ?_
    refine awp_skip ?_
    refine awp_seq ?_
    refine awp_seq ?_
    refine awp_region ?_
    refine aR 3 ?_
    refine aE ?_
    refine awp_block ?_
    refine awp_to (st' := twin_CheckProps_n0_x1_H  ()) (oT [] []) ?_
    refine bE hF fun _ h4 hF => ?_
    refine awp_sub (awp_loop' (twin_CheckProps_n0_x1_H ) twin_CheckProps_n0_x1_k (twin_CheckProps_n0_x1_S ) (by intro x; exact fun h => nomatch h) h4 (twin_CheckProps_n0_x1_ok )) ?_
    refine awp_seq ?_
    refine awp_seq ?_
    refine awp_region ?_
    refine aR 3 ?_
    refine aE ?_
    refine awp_block ?_
    refine awp_to (st' := twin_CheckProps_n0_x2_H  ()) (oT [] []) ?_
    refine bE hF fun _ h7 hF => ?_
    refine awp_sub (awp_loop' (twin_CheckProps_n0_x2_H ) twin_CheckProps_n0_x2_k (twin_CheckProps_n0_x2_S ) (by intro x; exact fun h => nomatch h) h7 (twin_CheckProps_n0_x2_ok )) ?_
    refine awp_seq ?_
    refine awp_region ?_
    refine aR 1 ?_
    refine aE ?_
    refine awp_ret ?_
    exact oF hF [] []

/-! ### beaconfleet/twin.find$1 -/
def twin_find_1_R (qp : api_Prop) (qname : List UInt8) (r : Unit) : TV × Mem := (.v (.one (.d (.int .i64 (Lib.compareBytes qp.Name qname)))), ⟨[], []⟩)

theorem twin_find_1_ok {qp : api_Prop} {qname : List UInt8} {r} (hF : twin_find_1 qp qname = some r) : Holds prog 126 [.v (.agg [.d (.str qp.Name), .d (.int .i64 qp.Value.Kind), .d (.bool qp.Value.Flag), .d (.int .i64 qp.Value.Number), .d (.str qp.Value.Words)]), .v (.one (.d (.str qname)))] ⟨[], []⟩ (Is (twin_find_1_R qp qname r)) := by
  unfold twin_find_1 at hF
  refine holds_of_awp hΓ (fn := f126) (c := cB f126) (A := 0) (nx := 0) (by kernel_rfl) (by kernel_rfl) (by kernel_rfl) (by kernel_rfl) (by kernel_rfl) (by kernel_rfl) (lowc_of (by kernel_rfl)) ?_
  show Awp prog 0 9 (cB f126) _ _
  refine awp_seq ?_
  refine awp_region ?_
  refine aR 2 ?_
  refine aE ?_
  refine awp_seq ?_
  refine bE hF fun _ h1 hF => ?_
  refine awp_region ?_
  refine aR 3 ?_
  refine aC (strings_Compare_ok h1) [] [] [] ?_
  refine aR 1 ?_
  refine aE ?_
  refine awp_ret ?_
  exact oF hF [] []

/-! ### slices.BinarySearchFunc[[]beaconfleet/api.Prop,beaconfleet/api.Prop,string] -/
def slices_BinarySearchFunc_api_Prop_api_Prop_string_f2_twin_find_1_x1_k : Int → AEx
  | _ => .exit 0

def slices_BinarySearchFunc_api_Prop_api_Prop_string_f2_twin_find_1_x1_S (qx : List api_Prop) (qtarget : List UInt8) : Int → St
  | vi1 => Mem.st ⟨[], []⟩ (tl [(0, .v (.one (.d (.lst (List.map api_Prop.enc qx))))), (1, .v (.one (.d (.str qtarget)))), (2, .v (.one (.fn 126 []))), (8, .v (.one (.d (.int .i64 (qx.length : Int))))), (9, .v (.one (.d (.int .i64 vi1))))]) 0

def slices_BinarySearchFunc_api_Prop_api_Prop_string_f2_twin_find_1_x1_H (qx : List api_Prop) (qtarget : List UInt8) : Int × Int → St
  | (vi, vj) => Mem.st ⟨[], []⟩ (tl [(0, .v (.one (.d (.lst (List.map api_Prop.enc qx))))), (1, .v (.one (.d (.str qtarget)))), (2, .v (.one (.fn 126 []))), (8, .v (.one (.d (.int .i64 (qx.length : Int))))), (9, .v (.one (.d (.int .i64 vi)))), (10, .v (.one (.d (.int .i64 vj))))]) 0

theorem slices_BinarySearchFunc_api_Prop_api_Prop_string_f2_twin_find_1_x1_ok (qx : List api_Prop) (qtarget : List UInt8) (s : Int × Int) (r : (Int × Int) ⊕ (Int)) (hF : slices_BinarySearchFunc_api_Prop_api_Prop_string_f2_twin_find_1_x1 qx qtarget s = some r) : Awp prog 0 49 (cL (cL (cL (cR (cR (cR (cB f125))))))) (Out 0 (kk slices_BinarySearchFunc_api_Prop_api_Prop_string_f2_twin_find_1_x1_k) (SS (slices_BinarySearchFunc_api_Prop_api_Prop_string_f2_twin_find_1_x1_H qx qtarget) (slices_BinarySearchFunc_api_Prop_api_Prop_string_f2_twin_find_1_x1_S qx qtarget)) r) (slices_BinarySearchFunc_api_Prop_api_Prop_string_f2_twin_find_1_x1_H qx qtarget s) := by
  obtain ⟨vi, vj⟩ := s
  unfold slices_BinarySearchFunc_api_Prop_api_Prop_string_f2_twin_find_1_x1 at hF
  refine awp_seq ?_
  refine awp_seq ?_
  refine awp_region ?_
  refine aR 3 ?_
  refine aE ?_
  refine cE hF (fun h1 hF => ?_) fun h1 hF => ?_
  · refine awp_true (by kernel_rfl) h1 ?_
    refine awp_skip ?_
    refine awp_block ?_
    refine awp_seq ?_
    refine awp_region ?_
    refine aR 7 ?_
    refine aE ?_
    refine awp_seq ?_
    refine bE hF fun vy1 h2 hF => ?_
    refine bE hF fun _ h3 hF => ?_
    refine awp_region ?_
    refine aR 3 ?_
    refine aX (x_idx api_Prop.enc h2) ?_
    refine aR 2 ?_
    refine aC (twin_find_1_ok h3) [] [] [] ?_
    refine aR 1 ?_
    refine aE ?_
    refine cE hF (fun h4 hF => ?_) fun h4 hF => ?_
    · refine awp_true (by kernel_rfl) h4 ?_
      refine awp_region ?_
      refine aR 3 ?_
      refine aE ?_
      exact oO hF [] [] rfl
    · refine awp_false (by kernel_rfl) h4 ?_
      refine awp_region ?_
      refine aR 2 ?_
      refine aE ?_
      exact oO hF [] [] rfl
  · refine awp_false (by kernel_rfl) h1 ?_
    refine awp_exit ?_
    exact oO hF [] [] rfl

def slices_BinarySearchFunc_api_Prop_api_Prop_string_f2_twin_find_1_x2_k : Bool → AEx
  | _ => .normal

def slices_BinarySearchFunc_api_Prop_api_Prop_string_f2_twin_find_1_x2_S (qx : List api_Prop) (qtarget : List UInt8) (vi1_1 : Int) : Bool → St
  | vx => Mem.st ⟨[], []⟩ (tl [(6, .v (.one (.d (.int .i64 vi1_1)))), (7, .v (.one (.d (.bool vx))))]) 0

def slices_BinarySearchFunc_api_Prop_api_Prop_string_f2_twin_find_1_x2_I (qx : List api_Prop) (qtarget : List UInt8) (vi1_1 : Int) : St := Mem.st ⟨[], []⟩ (tl [(0, .v (.one (.d (.lst (List.map api_Prop.enc qx))))), (1, .v (.one (.d (.str qtarget)))), (2, .v (.one (.fn 126 []))), (8, .v (.one (.d (.int .i64 (qx.length : Int))))), (9, .v (.one (.d (.int .i64 vi1_1))))]) 0

theorem slices_BinarySearchFunc_api_Prop_api_Prop_string_f2_twin_find_1_x2_ok (qx : List api_Prop) (qtarget : List UInt8) (vi1_1 : Int) {r} (hF : slices_BinarySearchFunc_api_Prop_api_Prop_string_f2_twin_find_1_x2 qx qtarget vi1_1 = some r) : Awp prog 0 49 (cL (cR (cR (cR (cR (cB f125)))))) (Out 0 slices_BinarySearchFunc_api_Prop_api_Prop_string_f2_twin_find_1_x2_k (slices_BinarySearchFunc_api_Prop_api_Prop_string_f2_twin_find_1_x2_S qx qtarget vi1_1) r) (slices_BinarySearchFunc_api_Prop_api_Prop_string_f2_twin_find_1_x2_I qx qtarget vi1_1) := by
  unfold slices_BinarySearchFunc_api_Prop_api_Prop_string_f2_twin_find_1_x2 at hF
  refine cE hF (fun h6 hF => ?_) fun h6 hF => ?_
  · refine bE hF fun vy2 h7 hF => ?_
    refine bE hF fun _ h8 hF => ?_
    refine awp_region ?_
    refine aR 3 ?_
    refine aB h6 ?_
    refine aR 4 ?_
    refine aX (x_idx api_Prop.enc h7) ?_
    refine aR 2 ?_
    refine aC (twin_find_1_ok h8) [] [] [] ?_
    refine aR 4 ?_
    refine aE ?_
    exact oO hF [] [] rfl
  · refine awp_region ?_
    refine aR 3 ?_
    refine aB h6 ?_
    refine aR 12 ?_
    refine aE ?_
    exact oO hF [] [] rfl

def slices_BinarySearchFunc_api_Prop_api_Prop_string_f2_twin_find_1_R (qx : List api_Prop) (qtarget : List UInt8) (r : Int × Bool) : TV × Mem := (.tup [.one (.d (.int .i64 r.1)), .one (.d (.bool r.2))], ⟨[], []⟩)

theorem slices_BinarySearchFunc_api_Prop_api_Prop_string_f2_twin_find_1_ok {qx : List api_Prop} {qtarget : List UInt8} {r} (hF : slices_BinarySearchFunc_api_Prop_api_Prop_string_f2_twin_find_1 qx qtarget = some r) : Holds prog 125 [.v (.one (.d (.lst (List.map api_Prop.enc qx)))), .v (.one (.d (.str qtarget))), .v (.one (.fn 126 []))] ⟨[], []⟩ (Is (slices_BinarySearchFunc_api_Prop_api_Prop_string_f2_twin_find_1_R qx qtarget r)) := by
  unfold slices_BinarySearchFunc_api_Prop_api_Prop_string_f2_twin_find_1 at hF
  refine holds_of_awp hΓ (fn := f125) (c := cB f125) (A := 0) (nx := 0) (by kernel_rfl) (by kernel_rfl) (by kernel_rfl) (by kernel_rfl) (by kernel_rfl) (by kernel_rfl) (lowc_of (by kernel_rfl)) ?_
  show Awp prog 0 49 (cB f125) _ _
  refine awp_seq ?_
  refine awp_region ?_
  refine aR 2 ?_
  refine aE ?_
  refine awp_seq ?_
  refine awp_region ?_
  refine aR 1 ?_
  refine aL api_Prop.enc qx ?_
  refine aR 1 ?_
  refine aE ?_
  refine awp_seq ?_
  refine awp_region ?_
  refine aR 3 ?_
  refine aE ?_
  refine awp_seq ?_
  refine awp_block ?_
  refine awp_to (st' := slices_BinarySearchFunc_api_Prop_api_Prop_string_f2_twin_find_1_x1_H qx qtarget (0, (qx.length : Int))) (oT [] []) ?_
  refine bE hF fun vi1_1 h5 hF => ?_
  refine awp_sub (awp_loop' (slices_BinarySearchFunc_api_Prop_api_Prop_string_f2_twin_find_1_x1_H qx qtarget) slices_BinarySearchFunc_api_Prop_api_Prop_string_f2_twin_find_1_x1_k (slices_BinarySearchFunc_api_Prop_api_Prop_string_f2_twin_find_1_x1_S qx qtarget) (by intro x; exact fun h => nomatch h) h5 (slices_BinarySearchFunc_api_Prop_api_Prop_string_f2_twin_find_1_x1_ok qx qtarget)) ?_
  refine awp_seq ?_
  refine awp_to (st' := slices_BinarySearchFunc_api_Prop_api_Prop_string_f2_twin_find_1_x2_I qx qtarget vi1_1) (oT [] []) ?_
  refine bE hF fun vx1 h9 hF => ?_
  refine awp_sub (slices_BinarySearchFunc_api_Prop_api_Prop_string_f2_twin_find_1_x2_ok qx qtarget vi1_1 h9) ?_
  refine awp_ret ?_
  exact oF hF [] []

/-! ### beaconfleet/twin.find -/
def twin_find_R (ql : List api_Prop) (qname : List UInt8) (r : Int) : TV × Mem := (.v (.one (.d (.int .i64 r))), ⟨[], []⟩)

theorem twin_find_ok {ql : List api_Prop} {qname : List UInt8} {r} (hF : twin_find ql qname = some r) : Holds prog 76 [.v (.one (.d (.lst (List.map api_Prop.enc ql)))), .v (.one (.d (.str qname)))] ⟨[], []⟩ (Is (twin_find_R ql qname r)) := by
  unfold twin_find at hF
  refine holds_of_awp hΓ (fn := f76) (c := cB f76) (A := 0) (nx := 0) (by kernel_rfl) (by kernel_rfl) (by kernel_rfl) (by kernel_rfl) (by kernel_rfl) (by kernel_rfl) (lowc_of (by kernel_rfl)) ?_
  show Awp prog 0 16 (cB f76) _ _
  refine awp_seq ?_
  refine awp_region ?_
  refine aR 1 ?_
  refine aE ?_
  refine awp_seq ?_
  refine bE hF fun x h1 hF => ?_
  obtain ⟨vr, vr1⟩ := x
  refine awp_region ?_
  refine aR 2 ?_
  refine aC (slices_BinarySearchFunc_api_Prop_api_Prop_string_f2_twin_find_1_ok h1) [] [] [] ?_
  refine aR 5 ?_
  refine aE ?_
  refine awp_seq ?_
  refine awp_seq ?_
  refine awp_region ?_
  refine aR 2 ?_
  refine aE ?_
  refine cE hF (fun h2 hF => ?_) fun h2 hF => ?_
  · refine awp_true (by kernel_rfl) h2 ?_
    refine awp_seq ?_
    refine awp_region ?_
    refine aR 1 ?_
    refine aE ?_
    refine awp_ret ?_
    exact oF hF [] []
  · refine awp_false (by kernel_rfl) h2 ?_
    refine awp_skip ?_
    refine awp_seq ?_
    refine awp_region ?_
    refine aR 2 ?_
    refine aE ?_
    refine awp_ret ?_
    exact oF hF [] []

/-! ### beaconfleet/twin.CheckProps$1 -/
def twin_CheckProps_1_R (qs : List UInt8) (qx : List api_Prop) (r : Bool) : TV × Mem := (.v (.one (.d (.bool r))), ⟨[], [(0, [.d (.lst (List.map api_Prop.enc qx))])]⟩)

theorem twin_CheckProps_1_ok {qs : List UInt8} {qx : List api_Prop} {r} (hF : twin_CheckProps_1 qs qx = some r) : Holds prog 75 [.v (.one (.d (.str qs))), .v (.one (.box 0 0))] ⟨[], [(0, [.d (.lst (List.map api_Prop.enc qx))])]⟩ (Is (twin_CheckProps_1_R qs qx r)) := by
  unfold twin_CheckProps_1 at hF
  refine holds_of_awp hΓ (fn := f75) (c := cB f75) (A := 1) (nx := 1) (by kernel_rfl) (by kernel_rfl) (by kernel_rfl) (by kernel_rfl) (by kernel_rfl) (by kernel_rfl) (lowc_of (by kernel_rfl)) ?_
  show Awp prog 1 8 (cB f75) _ _
  refine awp_seq ?_
  refine awp_region ?_
  refine aR 1 ?_
  refine aE ?_
  refine awp_seq ?_
  refine bE hF fun vr2 h1 hF => ?_
  refine awp_region ?_
  refine aR 2 ?_
  refine aC (twin_find_ok h1) [] [] [] ?_
  refine aR 2 ?_
  refine aE ?_
  refine awp_ret ?_
  exact oF hF [] []

/-! ### beaconfleet/twin.above -/
def twin_above_f1_twin_CheckProps_1_x2_k : Bool → AEx
  | _ => .normal

def twin_above_f1_twin_CheckProps_1_x2_S (qname : List UInt8) (qf : List api_Prop) (vx : Int) : Bool → St
  | vx2 => Mem.st ⟨[], [(0, [.d (.lst (List.map api_Prop.enc qf))])]⟩ (tl [(0, .v (.one (.d (.str qname)))), (1, .v (.one (.fn 75 [0]))), (7, .v (.one (.d (.int .i64 (qname.length : Int))))), (8, .v (.one (.d (.int .i64 vx)))), (21, .v (.one (.d (.bool vx2))))]) 1

def twin_above_f1_twin_CheckProps_1_x2_I (qname : List UInt8) (qf : List api_Prop) (vx : Int) : St := Mem.st ⟨[], [(0, [.d (.lst (List.map api_Prop.enc qf))])]⟩ (tl [(0, .v (.one (.d (.str qname)))), (1, .v (.one (.fn 75 [0]))), (5, .v (.one (.d (.int .i64 vx)))), (7, .v (.one (.d (.int .i64 (qname.length : Int))))), (8, .v (.one (.d (.int .i64 vx))))]) 1

theorem twin_above_f1_twin_CheckProps_1_x2_ok (qname : List UInt8) (qf : List api_Prop) (vx : Int) {r} (hF : twin_above_f1_twin_CheckProps_1_x2 qname qf vx = some r) : Awp prog 1 23 (cL (cR (cL (cL (cR (cR (cL (cL (cR (cL (cR (cB f74)))))))))))) (Out 1 twin_above_f1_twin_CheckProps_1_x2_k (twin_above_f1_twin_CheckProps_1_x2_S qname qf vx) r) (twin_above_f1_twin_CheckProps_1_x2_I qname qf vx) := by
  unfold twin_above_f1_twin_CheckProps_1_x2 at hF
  refine bE hF fun vc1 h2 hF => ?_
  refine cE hF (fun h3 hF => ?_) fun h3 hF => ?_
  · refine bE hF fun vs1 h4 hF => ?_
    refine bE hF fun vr1 h5 hF => ?_
    refine awp_region ?_
    refine aR 2 ?_
    refine aX (x_idxS h2) ?_
    refine aB h3 ?_
    refine aR 4 ?_
    refine aX (x_sliceS h4) ?_
    refine aC (twin_CheckProps_1_ok h5) [] [] [] ?_
    refine aR 1 ?_
    refine aE ?_
    exact oO hF [] [] rfl
  · refine awp_region ?_
    refine aR 2 ?_
    refine aX (x_idxS h2) ?_
    refine aB h3 ?_
    refine aR 7 ?_
    refine aE ?_
    exact oO hF [] [] rfl

def twin_above_f1_twin_CheckProps_1_x1_k : Unit ⊕ Unit → AEx
  | .inl _ => .exit 0
  | .inr _ => .ret

def twin_above_f1_twin_CheckProps_1_x1_S (qname : List UInt8) (qf : List api_Prop) : Unit ⊕ Unit → St
  | .inl _ => Mem.st ⟨[], [(0, [.d (.lst (List.map api_Prop.enc qf))])]⟩ (tl []) 1
  | .inr _ => Mem.st ⟨[], [(0, [.d (.lst (List.map api_Prop.enc qf))])]⟩ (tl [(4, .v (.one (.d (.bool true))))]) 1

def twin_above_f1_twin_CheckProps_1_x1_H (qname : List UInt8) (qf : List api_Prop) : Int → St
  | vx => Mem.st ⟨[], [(0, [.d (.lst (List.map api_Prop.enc qf))])]⟩ (tl [(0, .v (.one (.d (.str qname)))), (1, .v (.one (.fn 75 [0]))), (7, .v (.one (.d (.int .i64 (qname.length : Int))))), (8, .v (.one (.d (.int .i64 vx))))]) 1

theorem twin_above_f1_twin_CheckProps_1_x1_ok (qname : List UInt8) (qf : List api_Prop) (vx : Int) (r : (Int) ⊕ (Unit ⊕ Unit)) (hF : twin_above_f1_twin_CheckProps_1_x1 qname qf vx = some r) : Awp prog 1 23 (cL (cL (cR (cL (cR (cB f74)))))) (Out 1 (kk twin_above_f1_twin_CheckProps_1_x1_k) (SS (twin_above_f1_twin_CheckProps_1_x1_H qname qf) (twin_above_f1_twin_CheckProps_1_x1_S qname qf)) r) (twin_above_f1_twin_CheckProps_1_x1_H qname qf vx) := by
  unfold twin_above_f1_twin_CheckProps_1_x1 at hF
  refine awp_seq ?_
  refine awp_region ?_
  refine aR 1 ?_
  refine aE ?_
  refine awp_seq ?_
  refine cE hF (fun h1 hF => ?_) fun h1 hF => ?_
  · refine awp_true (by kernel_rfl) h1 ?_
    refine awp_skip ?_
    refine awp_seq ?_
    refine awp_block ?_
    refine awp_seq ?_
    refine awp_region ?_
    refine aR 2 ?_
    refine aE ?_
    refine awp_seq ?_
    refine awp_to (st' := twin_above_f1_twin_CheckProps_1_x2_I qname qf vx) (oT [] []) ?_
    refine bE hF fun vx2_1 h6 hF => ?_
    refine awp_sub (twin_above_f1_twin_CheckProps_1_x2_ok qname qf vx h6) ?_
    refine cE hF (fun h7 hF => ?_) fun h7 hF => ?_
    · refine awp_true (by kernel_rfl) h7 ?_
      refine awp_seq ?_
      refine awp_region ?_
      refine aR 1 ?_
      refine aE ?_
      refine awp_ret ?_
      exact oO hF [] [] rfl
    · refine awp_false (by kernel_rfl) h7 ?_
      refine awp_skip ?_
      refine awp_region ?_
      refine aR 2 ?_
      refine aE ?_
      exact oO hF [] [] rfl
  · refine awp_false (by kernel_rfl) h1 ?_
    refine awp_exit ?_
    exact oO hF [] [] rfl

def twin_above_f1_twin_CheckProps_1_R (qname : List UInt8) (qf : List api_Prop) (r : Bool) : TV × Mem := (.v (.one (.d (.bool r))), ⟨[], [(0, [.d (.lst (List.map api_Prop.enc qf))])]⟩)

theorem twin_above_f1_twin_CheckProps_1_ok {qname : List UInt8} {qf : List api_Prop} {r} (hF : twin_above_f1_twin_CheckProps_1 qname qf = some r) : Holds prog 74 [.v (.one (.d (.str qname))), .v (.one (.fn 75 [0]))] ⟨[], [(0, [.d (.lst (List.map api_Prop.enc qf))])]⟩ (Is (twin_above_f1_twin_CheckProps_1_R qname qf r)) := by
  unfold twin_above_f1_twin_CheckProps_1 at hF
  refine holds_of_awp hΓ (fn := f74) (c := cB f74) (A := 1) (nx := 1) (by kernel_rfl) (by kernel_rfl) (by kernel_rfl) (by kernel_rfl) (by kernel_rfl) (by kernel_rfl) (lowc_of (by kernel_rfl)) ?_
  show Awp prog 1 23 (cB f74) _ _
  refine awp_seq ?_
  refine awp_region ?_
  refine aR 1 ?_
  refine aE ?_
  refine awp_seq ?_
  refine awp_seq ?_
  refine awp_region ?_
  refine aR 3 ?_
  refine aE ?_
  refine awp_block ?_
  refine awp_to (st' := twin_above_f1_twin_CheckProps_1_x1_H qname qf 0) (oT [] []) ?_
  refine bE hF fun x h8 hF => ?_
  rcases x with _ | _
  · refine awp_sub (awp_loop' (twin_above_f1_twin_CheckProps_1_x1_H qname qf) twin_above_f1_twin_CheckProps_1_x1_k (twin_above_f1_twin_CheckProps_1_x1_S qname qf) (by intro x; rcases x with x | x <;> exact fun h => nomatch h) h8 (twin_above_f1_twin_CheckProps_1_x1_ok qname qf)) ?_
    refine awp_seq ?_
    refine awp_region ?_
    refine aR 1 ?_
    refine aE ?_
    refine awp_ret ?_
    exact oF hF [] []
  · refine awp_sub (awp_loop' (twin_above_f1_twin_CheckProps_1_x1_H qname qf) twin_above_f1_twin_CheckProps_1_x1_k (twin_above_f1_twin_CheckProps_1_x1_S qname qf) (by intro x; rcases x with x | x <;> exact fun h => nomatch h) h8 (twin_above_f1_twin_CheckProps_1_x1_ok qname qf)) ?_
    exact oF hF [] []

end Go.Eng
