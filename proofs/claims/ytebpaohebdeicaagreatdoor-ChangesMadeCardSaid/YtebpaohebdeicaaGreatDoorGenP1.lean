/-
The code of the Go functions that the law ChangesMade reaches does what the plain functions say, part 1.
-/
import Derived.Test.YtebpaohebdeicaaGreatDoorGenF

import Derived.Test.YtebpaohebdeicaaGreatDoorEng8

import Derived.Test.YtebpaohebdeicaaGreatDoorGenS

import Derived.Test.YtebpaohebdeicaaGreatDoorProg

import Derived.KernelRfl

namespace Go.Eng

open Go Go.Proofs.Tryz

set_option linter.unusedVariables false

set_option maxRecDepth 20000

set_option maxHeartbeats 0

def ti3 : TI := ⟨1, 8, [.d (.int .i64 0)], false, .int .i64⟩

def ti4 : TI := ⟨1, 1, [.d (.bool false)], false, .bool⟩

def ti5 : TI := ⟨1, 1, [.d (.int .u8 0)], false, .int .u8⟩

def ti9 : TI := ⟨1, 16, [.d (.str [])], false, .str⟩

def ti21 : TI := ⟨1, 4, [.d (.int .i32 0)], false, .int .i32⟩

def ti22 : TI := ⟨1, 24, [.nil], false, .slice 3⟩

def ti25 : TI := ⟨2, 32, [.nil, .d (.int .i64 0)], true, .struct [(0, 22), (1, 3)]⟩

def ti26 : TI := ⟨1, 24, [.nil], false, .slice 49⟩

def ti29 : TI := ⟨1, 24, [.nil], false, .slice 44⟩

def ti30 : TI := ⟨1, 8, [.d (.int .i64 0)], false, .int .i64⟩

def ti42 : TI := ⟨4, 40, [.d (.int .i64 0), .d (.bool false), .d (.int .i64 0), .d (.str [])], true, .struct [(0, 3), (1, 4), (2, 3), (3, 9)]⟩

def ti44 : TI := ⟨5, 56, [.d (.str []), .d (.int .i64 0), .d (.bool false), .d (.int .i64 0), .d (.str [])], true, .struct [(0, 9), (1, 42)]⟩

def ti47 : TI := ⟨3, 32, [.d (.int .i64 0), .d (.str []), .d (.int .i64 0)], true, .struct [(0, 3), (1, 9), (2, 3)]⟩

def ti49 : TI := ⟨8, 88, [.d (.str []), .d (.int .i64 0), .d (.bool false), .d (.int .i64 0), .d (.str []), .d (.int .i64 0), .d (.str []), .d (.int .i64 0)], true, .struct [(0, 44), (5, 47)]⟩

def ti61 : TI := ⟨1, 24, [.nil], false, .slice 72⟩

def ti72 : TI := ⟨9, 96, [.d (.str []), .d (.int .i64 0), .d (.bool false), .d (.int .i64 0), .d (.str []), .d (.int .i64 0), .d (.bool false), .d (.int .i64 0), .d (.str [])], true, .struct [(0, 9), (1, 42), (5, 42)]⟩

def ti84 : TI := ⟨1, 8, [.undef], false, .other⟩

def ti90 : TI := ⟨1, 24, [.nil], false, .slice 30⟩

def ti100 : TI := ⟨1, 24, [.nil], false, .slice 9⟩

def ti107 : TI := ⟨1, 8, [.nilm], false, .map 9 42⟩

def ti114 : TI := ⟨1, 8, [.nilm], false, .map 9 49⟩

def ti122 : TI := ⟨1, 8, [.d (.int .u64 0)], false, .int .u64⟩

def ti142 : TI := ⟨1, 24, [.nil], false, .slice 29⟩

def ti145 : TI := ⟨1, 24, [.nil], false, .slice 26⟩

def ti160 : TI := ⟨1, 8, [.d (.int .u64 0)], false, .int .u64⟩

def Γ : Types := [(3, ti3), (4, ti4), (5, ti5), (9, ti9), (21, ti21), (22, ti22), (25, ti25), (26, ti26), (29, ti29), (30, ti30), (42, ti42), (44, ti44), (47, ti47), (49, ti49), (61, ti61), (72, ti72), (84, ti84), (90, ti90), (100, ti100), (107, ti107), (114, ti114), (122, ti122), (142, ti142), (145, ti145), (160, ti160)]

theorem hΓ : TypesOk prog Γ := typesOk_of (by kernel_rfl)

instance : TOk prog Γ := ⟨hΓ⟩

theorem hm : prog.follows .mixedOrders = true := by kernel_rfl

instance : Mixed prog := ⟨hm⟩

/-! ### beaconfleet/fleetmake.Below -/
def fleetmake_Below_x1_k : Int → AEx
  | _ => .normal

def fleetmake_Below_x1_S (qx : Int) (qn : Int) : Int → St
  | vx => Mem.st ⟨[], []⟩ (tl [(0, .v (.one (.d (.int .i64 vx))))]) 0

def fleetmake_Below_x1_I (qx : Int) (qn : Int) : St := Mem.st ⟨[], []⟩ (tl [(0, .v (.one (.d (.int .i64 (qx.tmod qn))))), (1, .v (.one (.d (.int .i64 qn))))]) 0

theorem fleetmake_Below_x1_ok (qx : Int) (qn : Int) {r} (hF : fleetmake_Below_x1 qx qn = some r) : Awp prog 0 16 (cL (cR (cR (cR (cB f104))))) (Out 0 fleetmake_Below_x1_k (fleetmake_Below_x1_S qx qn) r) (fleetmake_Below_x1_I qx qn) := by
  unfold fleetmake_Below_x1 at hF
  refine awp_seq ?_
  refine awp_region ?_
  refine aR 2 ?_
  refine aE ?_
  refine cE hF (fun h3 hF => ?_) fun h3 hF => ?_
  · refine awp_true (by kernel_rfl) h3 ?_
    refine awp_region ?_
    refine aR 4 ?_
    refine aE ?_
    exact oO hF [] [] rfl
  · refine awp_false (by kernel_rfl) h3 ?_
    refine awp_skip ?_
    exact oO hF [] [] rfl

def fleetmake_Below_R (qx : Int) (qn : Int) (r : Int) : TV × Mem := (.v (.one (.d (.int .i64 r))), ⟨[], []⟩)

theorem fleetmake_Below_ok {qx : Int} {qn : Int} {r} (hF : fleetmake_Below qx qn = some r) : Holds prog 104 [.v (.one (.d (.int .i64 qx))), .v (.one (.d (.int .i64 qn)))] ⟨[], []⟩ (Is (fleetmake_Below_R qx qn r)) := by
  unfold fleetmake_Below at hF
  refine holds_of_awp hΓ (fn := f104) (c := cB f104) (A := 0) (nx := 0) (by kernel_rfl) (by kernel_rfl) (by kernel_rfl) (by kernel_rfl) (by kernel_rfl) (by kernel_rfl) (lowc_of (by kernel_rfl)) ?_
  show Awp prog 0 16 (cB f104) _ _
  refine awp_seq ?_
  refine awp_region ?_
  refine aR 1 ?_
  refine aE ?_
  refine awp_seq ?_
  refine awp_seq ?_
  refine awp_region ?_
  refine aR 2 ?_
  refine aE ?_
  refine cE hF (fun h1 hF => ?_) fun h1 hF => ?_
  · refine awp_true (by kernel_rfl) h1 ?_
    refine awp_seq ?_
    refine awp_region ?_
    refine aR 1 ?_
    refine aE ?_
    refine awp_ret ?_
    exact oF hF [] []
  · refine awp_false (by kernel_rfl) h1 ?_
    refine awp_skip ?_
    refine awp_seq ?_
    refine gE hF fun h2 hF => ?_
    refine awp_region ?_
    refine aR 2 ?_
    refine aX (x_rem h2) ?_
    refine aR 1 ?_
    refine aE ?_
    refine awp_seq ?_
    refine awp_to (st' := fleetmake_Below_x1_I qx qn) (oT [] []) ?_
    refine bE hF fun vx1 h4 hF => ?_
    refine awp_sub (fleetmake_Below_x1_ok qx qn h4) ?_
    refine awp_seq ?_
    refine awp_region ?_
    refine aR 2 ?_
    refine aE ?_
    refine awp_ret ?_
    exact oF hF [] []

/-! ### (*beaconfleet/fleetmake.Stream).Next -/
def fleetmake_Stream_Next_R (qs : fleetmake_Stream) (qn : Int) (r : Int) : TV × Mem := (.v (.one (.d (.int .i64 r))), ⟨[], [(0, [.d (.lst (List.map (encI .i64) qs.L)), .d (.int .i64 (IntKind.wrap .i64 (qs.at_ + 1)))])]⟩)

theorem fleetmake_Stream_Next_ok {qs : fleetmake_Stream} {qn : Int} {r} (hF : fleetmake_Stream_Next qs qn = some r) : Holds prog 50 [.v (.one (.box 0 0)), .v (.one (.d (.int .i64 qn)))] ⟨[], [(0, [.d (.lst (List.map (encI .i64) qs.L)), .d (.int .i64 qs.at_)])]⟩ (Is (fleetmake_Stream_Next_R qs qn r)) := by
  unfold fleetmake_Stream_Next at hF
  refine holds_of_awp hΓ (fn := f50) (c := cB f50) (A := 1) (nx := 1) (by kernel_rfl) (by kernel_rfl) (by kernel_rfl) (by kernel_rfl) (by kernel_rfl) (by kernel_rfl) (lowc_of (by kernel_rfl)) ?_
  show Awp prog 1 64 (cB f50) _ _
  refine awp_seq ?_
  refine awp_region ?_
  refine aR 1 ?_
  refine aE ?_
  refine awp_seq ?_
  refine awp_region ?_
  refine aR 8 ?_
  refine aE ?_
  refine awp_seq ?_
  refine awp_seq ?_
  refine awp_region ?_
  refine aR 4 ?_
  refine aL (encI .i64) qs.L ?_
  refine aR 1 ?_
  refine aE ?_
  refine cE hF (fun h1 hF => ?_) fun h1 hF => ?_
  · refine awp_true (by kernel_rfl) h1 ?_
    refine awp_seq ?_
    refine bE hF fun vr h2 hF => ?_
    refine awp_region ?_
    refine aR 6 ?_
    refine aC (fleetmake_Below_ok h2) [] [] [] ?_
    refine aR 1 ?_
    refine aE ?_
    refine awp_ret ?_
    exact oF hF [] []
  · refine awp_false (by kernel_rfl) h1 ?_
    refine awp_skip ?_
    refine awp_seq ?_
    refine gE hF fun h3 hF => ?_
    refine aD ?_
    refine dR 9 ?_
    refine dL (encI .i64) qs.L ?_
    refine dX (x_rem h3) ?_
    refine dR 1 ?_
    refine dE ?_
    refine awp_seq ?_
    refine aD ?_
    refine dR 9 ?_
    refine dL (encI .i64) qs.L ?_
    refine dX (x_quo h3) ?_
    refine dR 1 ?_
    refine dE ?_
    refine awp_seq ?_
    refine bE hF fun vy h4 hF => ?_
    refine bE hF fun vr1 h5 hF => ?_
    refine bE hF fun vr2 h6 hF => ?_
    refine awp_region ?_
    refine aR 5 ?_
    refine aX (x_idx (encI .i64) h4) ?_
    refine aR 1 ?_
    refine aC (fleetmake_Below_ok h5) [] [] [] ?_
    refine aR 6 ?_
    refine aC (fleetmake_Below_ok h6) [] [] [] ?_
    refine aR 1 ?_
    refine aE ?_
    refine awp_ret ?_
    exact oF hF [] []

/-! ### (*beaconfleet/fleetmake.Stream).Range -/
def fleetmake_Stream_Range_R (qs : fleetmake_Stream) (qlow : Int) (qhigh : Int) (r : fleetmake_Stream × Int) : TV × Mem := (.v (.one (.d (.int .i64 r.2))), ⟨[], [(0, [.d (.lst (List.map (encI .i64) r.1.L)), .d (.int .i64 r.1.at_)])]⟩)

theorem fleetmake_Stream_Range_ok {qs : fleetmake_Stream} {qlow : Int} {qhigh : Int} {r} (hF : fleetmake_Stream_Range qs qlow qhigh = some r) : Holds prog 100 [.v (.one (.box 0 0)), .v (.one (.d (.int .i64 qlow))), .v (.one (.d (.int .i64 qhigh)))] ⟨[], [(0, [.d (.lst (List.map (encI .i64) qs.L)), .d (.int .i64 qs.at_)])]⟩ (Is (fleetmake_Stream_Range_R qs qlow qhigh r)) := by
  unfold fleetmake_Stream_Range at hF
  refine holds_of_awp hΓ (fn := f100) (c := cB f100) (A := 1) (nx := 1) (by kernel_rfl) (by kernel_rfl) (by kernel_rfl) (by kernel_rfl) (by kernel_rfl) (by kernel_rfl) (lowc_of (by kernel_rfl)) ?_
  show Awp prog 1 19 (cB f100) _ _
  refine awp_seq ?_
  refine awp_region ?_
  refine aR 1 ?_
  refine aE ?_
  refine awp_seq ?_
  refine awp_seq ?_
  refine awp_region ?_
  refine aR 3 ?_
  refine aE ?_
  refine cE hF (fun h1 hF => ?_) fun h1 hF => ?_
  · refine awp_true (by kernel_rfl) h1 ?_
    refine awp_seq ?_
    refine awp_region ?_
    refine aR 2 ?_
    refine aE ?_
    refine awp_ret ?_
    exact oF hF [] []
  · refine awp_false (by kernel_rfl) h1 ?_
    refine awp_skip ?_
    refine awp_seq ?_
    refine bE hF fun vr3 h2 hF => ?_
    refine awp_region ?_
    refine aR 6 ?_
    refine aC (fleetmake_Stream_Next_ok h2) [] [] [] ?_
    refine aR 2 ?_
    refine aE ?_
    refine awp_ret ?_
    exact oF hF [] []

/-! ### (*beaconfleet/fleetmake.Stream).Some -/
def fleetmake_Stream_Some_o1_R (qs : fleetmake_Stream) (ql : List (List UInt8)) (r : (List UInt8)) : TV × Mem := (.v (.one (.d (.str r))), ⟨[], [(0, [.d (.lst (List.map (encI .i64) qs.L)), .d (.int .i64 (IntKind.wrap .i64 (qs.at_ + 1)))])]⟩)

theorem fleetmake_Stream_Some_o1_ok {qs : fleetmake_Stream} {ql : List (List UInt8)} {r} (hF : fleetmake_Stream_Some_o1 qs ql = some r) : Holds prog 67 [.v (.one (.box 0 0)), .v (.one (.own 1 none))] ⟨[(1, ⟨9, 1, List.map encS ql⟩)], [(0, [.d (.lst (List.map (encI .i64) qs.L)), .d (.int .i64 qs.at_)])]⟩ (Is (fleetmake_Stream_Some_o1_R qs ql r)) := by
  unfold fleetmake_Stream_Some_o1 at hF
  refine holds_of_awp hΓ (fn := f67) (c := cB f67) (A := 2) (nx := 2) (by kernel_rfl) (by kernel_rfl) (by kernel_rfl) (by kernel_rfl) (by kernel_rfl) (by kernel_rfl) (lowc_of (by kernel_rfl)) ?_
  show Awp prog 2 12 (cB f67) _ _
  refine awp_seq ?_
  refine awp_region ?_
  refine aR 1 ?_
  refine aE ?_
  refine awp_to (oT (m := ⟨[], [(0, [.d (.lst (List.map (encI .i64) qs.L)), .d (.int .i64 qs.at_)])]⟩) (ts := [(0, .v (.one (.box 0 0))), (1, .v (.one (.d (.lst (List.map encS ql)))))]) (nx := 2) [] []) ?_
  refine awp_seq ?_
  refine bE hF fun vr3 h1 hF => ?_
  refine bE hF fun vy h2 hF => ?_
  refine awp_region ?_
  refine aR 3 ?_
  refine aL encS ql ?_
  refine aC (fleetmake_Stream_Next_ok h1) [] [] [] ?_
  refine aX (x_idx encS h2) ?_
  refine aR 2 ?_
  refine aE ?_
  refine awp_ret ?_
  exact oF hF [] []

/-! ### (*beaconfleet/fleetmake.Stream).Flip -/
def fleetmake_Stream_Flip_R (qs : fleetmake_Stream) (qn : Int) (r : Bool) : TV × Mem := (.v (.one (.d (.bool r))), ⟨[], [(0, [.d (.lst (List.map (encI .i64) qs.L)), .d (.int .i64 (IntKind.wrap .i64 (qs.at_ + 1)))])]⟩)

theorem fleetmake_Stream_Flip_ok {qs : fleetmake_Stream} {qn : Int} {r} (hF : fleetmake_Stream_Flip qs qn = some r) : Holds prog 47 [.v (.one (.box 0 0)), .v (.one (.d (.int .i64 qn)))] ⟨[], [(0, [.d (.lst (List.map (encI .i64) qs.L)), .d (.int .i64 qs.at_)])]⟩ (Is (fleetmake_Stream_Flip_R qs qn r)) := by
  unfold fleetmake_Stream_Flip at hF
  refine holds_of_awp hΓ (fn := f47) (c := cB f47) (A := 1) (nx := 1) (by kernel_rfl) (by kernel_rfl) (by kernel_rfl) (by kernel_rfl) (by kernel_rfl) (by kernel_rfl) (lowc_of (by kernel_rfl)) ?_
  show Awp prog 1 9 (cB f47) _ _
  refine awp_seq ?_
  refine awp_region ?_
  refine aR 1 ?_
  refine aE ?_
  refine awp_seq ?_
  refine bE hF fun vr3 h1 hF => ?_
  refine awp_region ?_
  refine aR 2 ?_
  refine aC (fleetmake_Stream_Next_ok h1) [] [] [] ?_
  refine aR 2 ?_
  refine aE ?_
  refine awp_ret ?_
  exact oF hF [] []

/-! ### (*beaconfleet/fleetmake.Stream).Pick -/
def fleetmake_Stream_Pick_o1_R (qs : fleetmake_Stream) (ql : List Int) (r : Int) : TV × Mem := (.v (.one (.d (.int .i64 r))), ⟨[], [(0, [.d (.lst (List.map (encI .i64) qs.L)), .d (.int .i64 (IntKind.wrap .i64 (qs.at_ + 1)))])]⟩)

theorem fleetmake_Stream_Pick_o1_ok {qs : fleetmake_Stream} {ql : List Int} {r} (hF : fleetmake_Stream_Pick_o1 qs ql = some r) : Holds prog 8 [.v (.one (.box 0 0)), .v (.one (.own 1 none))] ⟨[(1, ⟨3, 1, List.map (encI .i64) ql⟩)], [(0, [.d (.lst (List.map (encI .i64) qs.L)), .d (.int .i64 qs.at_)])]⟩ (Is (fleetmake_Stream_Pick_o1_R qs ql r)) := by
  unfold fleetmake_Stream_Pick_o1 at hF
  refine holds_of_awp hΓ (fn := f8) (c := cB f8) (A := 2) (nx := 2) (by kernel_rfl) (by kernel_rfl) (by kernel_rfl) (by kernel_rfl) (by kernel_rfl) (by kernel_rfl) (lowc_of (by kernel_rfl)) ?_
  show Awp prog 2 12 (cB f8) _ _
  refine awp_seq ?_
  refine awp_region ?_
  refine aR 1 ?_
  refine aE ?_
  refine awp_to (oT (m := ⟨[], [(0, [.d (.lst (List.map (encI .i64) qs.L)), .d (.int .i64 qs.at_)])]⟩) (ts := [(0, .v (.one (.box 0 0))), (1, .v (.one (.d (.lst (List.map (encI .i64) ql)))))]) (nx := 2) [] []) ?_
  refine awp_seq ?_
  refine bE hF fun vr3 h1 hF => ?_
  refine bE hF fun vy h2 hF => ?_
  refine awp_region ?_
  refine aR 3 ?_
  refine aL (encI .i64) ql ?_
  refine aC (fleetmake_Stream_Next_ok h1) [] [] [] ?_
  refine aX (x_idx (encI .i64) h2) ?_
  refine aR 2 ?_
  refine aE ?_
  refine awp_ret ?_
  exact oF hF [] []

/-! ### (*beaconfleet/fleetmake.Stream).RightValue -/
def fleetmake_Stream_RightValue_R (qs : fleetmake_Stream) (r : api_Value) : TV × Mem := (.v (.agg [.d (.int .i64 r.Kind), .d (.bool r.Flag), .d (.int .i64 r.Number), .d (.str r.Words)]), ⟨[], [(0, [.d (.lst (List.map (encI .i64) qs.L)), .d (.int .i64 (IntKind.wrap .i64 ((IntKind.wrap .i64 (qs.at_ + 1)) + 1)))])]⟩)

theorem fleetmake_Stream_RightValue_ok {qs : fleetmake_Stream} {r} (hF : fleetmake_Stream_RightValue qs = some r) : Holds prog 90 [.v (.one (.box 0 0))] ⟨[], [(0, [.d (.lst (List.map (encI .i64) qs.L)), .d (.int .i64 qs.at_)])]⟩ (Is (fleetmake_Stream_RightValue_R qs r)) := by
  unfold fleetmake_Stream_RightValue at hF
  refine holds_of_awp hΓ (fn := f90) (c := cB f90) (A := 1) (nx := 1) (by kernel_rfl) (by kernel_rfl) (by kernel_rfl) (by kernel_rfl) (by kernel_rfl) (by kernel_rfl) (lowc_of (by kernel_rfl)) ?_
  show Awp prog 1 20 (cB f90) _ _
  refine awp_seq ?_
  refine awp_region ?_
  refine aR 1 ?_
  refine aE ?_
  refine awp_seq ?_
  refine awp_seq ?_
  refine bE hF fun vr3 h1 hF => ?_
  refine awp_region ?_
  refine aR 1 ?_
  refine aC (fleetmake_Stream_Next_ok h1) [] [] [] ?_
  refine aE ?_
  refine awp_block ?_
  refine awp_seq ?_
  refine awp_region ?_
  refine aR 2 ?_
  refine aE ?_
  refine cE hF (fun h2 hF => ?_) fun h2 hF => ?_
  · refine awp_true (by kernel_rfl) h2 ?_
    refine awp_seq ?_
    refine bE hF fun vr h3 hF => ?_
    refine awp_region ?_
    refine aR 1 ?_
    refine aC (fleetmake_Stream_Flip_ok h3) [] [] [] ?_
    refine aR 2 ?_
    refine aE ?_
    refine awp_ret ?_
    exact oF hF [] []
  · refine awp_false (by kernel_rfl) h2 ?_
    refine awp_seq ?_
    refine awp_region ?_
    refine aR 2 ?_
    refine aE ?_
    refine cE hF (fun h4 hF => ?_) fun h4 hF => ?_
    · refine awp_true (by kernel_rfl) h4 ?_
      refine awp_seq ?_
      refine bE hF fun vr1 h5 hF => ?_
      refine awp_region ?_
      refine aR 2 ?_
      refine aC (fleetmake_Stream_Some_o1_ok h5) [(1, 8001)] [] [] ?_
      refine aR 2 ?_
      refine aE ?_
      refine awp_ret ?_
      exact oF hF [] []
    · refine awp_false (by kernel_rfl) h4 ?_
      refine awp_skip ?_
      refine awp_seq ?_
      refine bE hF fun vr2 h6 hF => ?_
      refine awp_region ?_
      refine aR 2 ?_
      refine aC (fleetmake_Stream_Pick_o1_ok h6) [(1, 8001)] [] [] ?_
      refine aR 2 ?_
      refine aE ?_
      refine awp_ret ?_
      exact oF hF [] []

/-! ### internal/bytealg.CompareString -/
def bytealg_CompareString_R (qa : List UInt8) (qb : List UInt8) (r : Unit) : TV × Mem := (.v (.one (.d (.int .i64 (Lib.compareBytes qa qb)))), ⟨[], []⟩)

theorem bytealg_CompareString_ok {qa : List UInt8} {qb : List UInt8} {r} (hF : bytealg_CompareString qa qb = some r) : Holds prog 132 [.v (.one (.d (.str qa))), .v (.one (.d (.str qb)))] ⟨[], []⟩ (Is (bytealg_CompareString_R qa qb r)) := by
  unfold bytealg_CompareString at hF
  refine holds_of_awp hΓ (fn := f132) (c := cB f132) (A := 0) (nx := 0) (by kernel_rfl) (by kernel_rfl) (by kernel_rfl) (by kernel_rfl) (by kernel_rfl) (by kernel_rfl) (lowc_of (by kernel_rfl)) ?_
  show Awp prog 0 8 (cB f132) _ _
  refine awp_seq ?_
  refine awp_region ?_
  refine aR 1 ?_
  refine aE ?_
  refine awp_seq ?_
  refine awp_region ?_
  refine aR 2 ?_
  refine aS (does_cmpstring (g := 167) (fn := f167) (a := qa) (b := qb) rfl (by kernel_rfl) (by kernel_rfl) (by kernel_rfl) (by kernel_rfl) (by kernel_rfl) (by kernel_rfl)) ?_
  refine aR 1 ?_
  refine aE ?_
  refine awp_ret ?_
  exact oF hF [] []

/-! ### strings.Compare -/
def strings_Compare_R (qa : List UInt8) (qb : List UInt8) (r : Unit) : TV × Mem := (.v (.one (.d (.int .i64 (Lib.compareBytes qa qb)))), ⟨[], []⟩)

theorem strings_Compare_ok {qa : List UInt8} {qb : List UInt8} {r} (hF : strings_Compare qa qb = some r) : Holds prog 87 [.v (.one (.d (.str qa))), .v (.one (.d (.str qb)))] ⟨[], []⟩ (Is (strings_Compare_R qa qb r)) := by
  unfold strings_Compare at hF
  refine holds_of_awp hΓ (fn := f87) (c := cB f87) (A := 0) (nx := 0) (by kernel_rfl) (by kernel_rfl) (by kernel_rfl) (by kernel_rfl) (by kernel_rfl) (by kernel_rfl) (lowc_of (by kernel_rfl)) ?_
  show Awp prog 0 8 (cB f87) _ _
  refine awp_seq ?_
  refine awp_region ?_
  refine aR 1 ?_
  refine aE ?_
  refine awp_seq ?_
  refine bE hF fun _ h1 hF => ?_
  refine awp_region ?_
  refine aR 2 ?_
  refine aC (bytealg_CompareString_ok h1) [] [] [] ?_
  refine aR 1 ?_
  refine aE ?_
  refine awp_ret ?_
  exact oF hF [] []

/-! ### strings.Repeat -/
def strings_Repeat_R (qx : List UInt8) (qx1 : Int) (r : List UInt8) : TV × Mem := (.v (.one (.d (.str r))), ⟨[], []⟩)

theorem strings_Repeat_ok {qx : List UInt8} {qx1 : Int} {r} (hF : strings_Repeat qx qx1 = some r) : Holds prog 68 [.v (.one (.d (.str qx))), .v (.one (.d (.int .i64 qx1)))] ⟨[], []⟩ (Is (strings_Repeat_R qx qx1 r)) := by
  unfold strings_Repeat at hF
  refine gE hF fun h1 hF => ?_
  obtain rfl := Option.some.inj hF
  have h2 : (0 ≤ qx1 ∧ qx1 ≤ 9223372036854775807) ∧ qx.length * qx1.toNat ≤ 140737488355328 := by simpa using h1
  have h3 : ((qx1.toNat : Nat) : Int) = qx1 := Int.toNat_of_nonneg h2.1.1
  refine holds_lib (args := [.str qx, .int .i64 qx1]) (tv := .c (.d (.str (Lib.repeatL qx qx1.toNat)))) ⟨_, cB Go.Proofs.Tryz.f68, Go.Proofs.Tryz.func68, by kernel_rfl, by kernel_rfl⟩ rfl rfl fun w ht => ?_
  have h4 := Go.Proofs.Any.strings_Repeat Go.Proofs.Tryz.lays105 Go.Proofs.Tryz.Builder_Extra_105 ⟨qx.toArray⟩ qx1.toNat w (by omega) (by simpa [ByteArray.size] using h2.2)
  rw [h3] at h4
  exact h4

/-! ### (*beaconfleet/fleetmake.Stream).PropName -/
def fleetmake_Stream_PropName_R (qs : fleetmake_Stream) (r : (List UInt8)) : TV × Mem := (.v (.one (.d (.str r))), ⟨[], [(0, [.d (.lst (List.map (encI .i64) qs.L)), .d (.int .i64 (IntKind.wrap .i64 ((IntKind.wrap .i64 (qs.at_ + 1)) + 1)))])]⟩)

theorem fleetmake_Stream_PropName_ok {qs : fleetmake_Stream} {r} (hF : fleetmake_Stream_PropName qs = some r) : Holds prog 20 [.v (.one (.box 0 0))] ⟨[], [(0, [.d (.lst (List.map (encI .i64) qs.L)), .d (.int .i64 qs.at_)])]⟩ (Is (fleetmake_Stream_PropName_R qs r)) := by
  unfold fleetmake_Stream_PropName at hF
  refine holds_of_awp hΓ (fn := f20) (c := cB f20) (A := 1) (nx := 1) (by kernel_rfl) (by kernel_rfl) (by kernel_rfl) (by kernel_rfl) (by kernel_rfl) (by kernel_rfl) (lowc_of (by kernel_rfl)) ?_
  show Awp prog 1 12 (cB f20) _ _
  refine awp_seq ?_
  refine awp_region ?_
  refine aR 1 ?_
  refine aE ?_
  refine awp_seq ?_
  refine awp_seq ?_
  refine bE hF fun vr h1 hF => ?_
  refine awp_region ?_
  refine aR 1 ?_
  refine aC (fleetmake_Stream_Flip_ok h1) [] [] [] ?_
  refine aE ?_
  refine cE hF (fun h2 hF => ?_) fun h2 hF => ?_
  · refine awp_true (by kernel_rfl) h2 ?_
    refine awp_seq ?_
    refine bE hF fun vr1 h3 hF => ?_
    refine bE hF fun vr2 h4 hF => ?_
    refine awp_region ?_
    refine aR 1 ?_
    refine aC (strings_Repeat_ok h3) [] [] [] ?_
    refine aR 1 ?_
    refine aC (fleetmake_Stream_Some_o1_ok h4) [(1, 5001)] [] [] ?_
    refine aR 1 ?_
    refine aE ?_
    refine awp_ret ?_
    exact oF hF [] []
  · refine awp_false (by kernel_rfl) h2 ?_
    refine awp_skip ?_
    refine awp_seq ?_
    refine bE hF fun vr3 h5 hF => ?_
    refine awp_region ?_
    refine aR 2 ?_
    refine aC (fleetmake_Stream_Some_o1_ok h5) [(1, 4001)] [] [] ?_
    refine aR 1 ?_
    refine aE ?_
    refine awp_ret ?_
    exact oF hF [] []

/-! ### (*beaconfleet/fleetmake.Stream).Odd -/
def fleetmake_Stream_Odd_R (qs : fleetmake_Stream) (qlow : Int) (qhigh : Int) (r : fleetmake_Stream × Int) : TV × Mem := (.v (.one (.d (.int .i64 r.2))), ⟨[], [(0, [.d (.lst (List.map (encI .i64) r.1.L)), .d (.int .i64 r.1.at_)])]⟩)

theorem fleetmake_Stream_Odd_ok {qs : fleetmake_Stream} {qlow : Int} {qhigh : Int} {r} (hF : fleetmake_Stream_Odd qs qlow qhigh = some r) : Holds prog 91 [.v (.one (.box 0 0)), .v (.one (.d (.int .i64 qlow))), .v (.one (.d (.int .i64 qhigh)))] ⟨[], [(0, [.d (.lst (List.map (encI .i64) qs.L)), .d (.int .i64 qs.at_)])]⟩ (Is (fleetmake_Stream_Odd_R qs qlow qhigh r)) := by
  unfold fleetmake_Stream_Odd at hF
  refine holds_of_awp hΓ (fn := f91) (c := cB f91) (A := 1) (nx := 1) (by kernel_rfl) (by kernel_rfl) (by kernel_rfl) (by kernel_rfl) (by kernel_rfl) (by kernel_rfl) (lowc_of (by kernel_rfl)) ?_
  show Awp prog 1 22 (cB f91) _ _
  refine awp_seq ?_
  refine awp_region ?_
  refine aR 1 ?_
  refine aE ?_
  refine awp_seq ?_
  refine awp_seq ?_
  refine bE hF fun vr h1 hF => ?_
  refine awp_region ?_
  refine aR 1 ?_
  refine aC (fleetmake_Stream_Flip_ok h1) [] [] [] ?_
  refine aE ?_
  refine cE hF (fun h2 hF => ?_) fun h2 hF => ?_
  · refine awp_true (by kernel_rfl) h2 ?_
    refine awp_seq ?_
    refine bE hF fun vr1 h3 hF => ?_
    refine awp_region ?_
    refine aR 8 ?_
    refine aC (fleetmake_Stream_Pick_o1_ok h3) [(1, 10001)] [] [] ?_
    refine aR 1 ?_
    refine aE ?_
    refine awp_ret ?_
    exact oF hF [] []
  · refine awp_false (by kernel_rfl) h2 ?_
    refine awp_skip ?_
    refine awp_seq ?_
    refine bE hF fun x h4 hF => ?_
    obtain ⟨vs, vr2⟩ := x
    refine awp_region ?_
    refine aR 3 ?_
    refine aC (fleetmake_Stream_Range_ok h4) [] [] [] ?_
    refine aR 1 ?_
    refine aE ?_
    refine awp_ret ?_
    exact oF hF [] []

/-! ### (*beaconfleet/fleetmake.Stream).Value -/
def fleetmake_Stream_Value_x1_k : (fleetmake_Stream × api_Value) → AEx
  | _ => .normal

def fleetmake_Stream_Value_x1_S (qs : fleetmake_Stream) (vr4 : api_Value) : (fleetmake_Stream × api_Value) → St
  | (vs, vv) => Mem.st ⟨[], [(0, [.d (.lst (List.map (encI .i64) vs.L)), .d (.int .i64 vs.at_)]), (1, [.d (.int .i64 0), .d (.bool false), .d (.int .i64 0), .d (.str ([] : List UInt8))]), (2, [.d (.int .i64 vv.Kind), .d (.bool vv.Flag), .d (.int .i64 vv.Number), .d (.str vv.Words)])]⟩ (tl [(2, .v (.one (.box 1 0))), (3, .v (.one (.box 2 0)))]) 3

def fleetmake_Stream_Value_x1_I (qs : fleetmake_Stream) (vr4 : api_Value) : St := Mem.st ⟨[], [(0, [.d (.lst (List.map (encI .i64) qs.L)), .d (.int .i64 (IntKind.wrap .i64 ((IntKind.wrap .i64 ((IntKind.wrap .i64 (qs.at_ + 1)) + 1)) + 1)))]), (1, [.d (.int .i64 0), .d (.bool false), .d (.int .i64 0), .d (.str ([] : List UInt8))]), (2, [.d (.int .i64 vr4.Kind), .d (.bool vr4.Flag), .d (.int .i64 vr4.Number), .d (.str vr4.Words)])]⟩ (tl [(0, .v (.one (.box 0 0))), (2, .v (.one (.box 1 0))), (3, .v (.one (.box 2 0)))]) 3

theorem fleetmake_Stream_Value_x1_ok (qs : fleetmake_Stream) (vr4 : api_Value) {r} (hF : fleetmake_Stream_Value_x1 qs vr4 = some r) : Awp prog 1 39 (cL (cR (cR (cR (cB f38))))) (Out 1 fleetmake_Stream_Value_x1_k (fleetmake_Stream_Value_x1_S qs vr4) r) (fleetmake_Stream_Value_x1_I qs vr4) := by
  unfold fleetmake_Stream_Value_x1 at hF
  refine awp_seq ?_
  refine bE hF fun vr1 h4 hF => ?_
  refine awp_region ?_
  refine aR 1 ?_
  refine aC (fleetmake_Stream_Flip_ok h4) [] [] [] ?_
  refine aE ?_
  refine cE hF (fun h5 hF => ?_) fun h5 hF => ?_
  · refine awp_true (by kernel_rfl) h5 ?_
    refine awp_seq ?_
    refine bE hF fun vr3 h6 hF => ?_
    refine awp_region ?_
    refine aR 1 ?_
    refine aC (fleetmake_Stream_Next_ok h6) [] [] [] ?_
    refine aE ?_
    refine awp_block ?_
    refine awp_seq ?_
    refine awp_region ?_
    refine aR 2 ?_
    refine aE ?_
    refine cE hF (fun h7 hF => ?_) fun h7 hF => ?_
    · refine awp_true (by kernel_rfl) h7 ?_
      refine bE hF fun vr2 h8 hF => ?_
      refine awp_region ?_
      refine aR 2 ?_
      refine aC (fleetmake_Stream_Pick_o1_ok h8) [(1, 7003)] [] [] ?_
      refine aR 2 ?_
      refine aE ?_
      exact oO hF [] [] rfl
    · refine awp_false (by kernel_rfl) h7 ?_
      refine awp_seq ?_
      refine awp_region ?_
      refine aR 2 ?_
      refine aE ?_
      refine cE hF (fun h9 hF => ?_) fun h9 hF => ?_
      · refine awp_true (by kernel_rfl) h9 ?_
        refine awp_region ?_
        refine aR 5 ?_
        refine aE ?_
        exact oO hF [] [] rfl
      · refine awp_false (by kernel_rfl) h9 ?_
        refine awp_seq ?_
        refine awp_region ?_
        refine aR 2 ?_
        refine aE ?_
        refine cE hF (fun h10 hF => ?_) fun h10 hF => ?_
        · refine awp_true (by kernel_rfl) h10 ?_
          refine bE hF fun x h11 hF => ?_
          obtain ⟨vs1, vr3_1⟩ := x
          refine awp_region ?_
          refine aR 1 ?_
          refine aC (fleetmake_Stream_Odd_ok h11) [] [] [] ?_
          refine aR 2 ?_
          refine aE ?_
          exact oO hF [] [] rfl
        · refine awp_false (by kernel_rfl) h10 ?_
          refine awp_seq ?_
          refine awp_region ?_
          refine aR 2 ?_
          refine aE ?_
          refine cE hF (fun h12 hF => ?_) fun h12 hF => ?_
          · refine awp_true (by kernel_rfl) h12 ?_
            refine bE hF fun vr5 h13 hF => ?_
            refine bE hF fun vr6 h14 hF => ?_
            refine awp_region ?_
            refine aR 1 ?_
            refine aC (strings_Repeat_ok h13) [] [] [] ?_
            refine aR 1 ?_
            refine aC (fleetmake_Stream_Some_o1_ok h14) [(1, 14003)] [] [] ?_
            refine aR 2 ?_
            refine aE ?_
            exact oO hF [] [] rfl
          · refine awp_false (by kernel_rfl) h12 ?_
            refine awp_region ?_
            refine aR 2 ?_
            refine aE ?_
            exact oO hF [] [] rfl
  · refine awp_false (by kernel_rfl) h5 ?_
    refine awp_skip ?_
    exact oO hF [] [] rfl

def fleetmake_Stream_Value_R (qs : fleetmake_Stream) (r : fleetmake_Stream × api_Value) : TV × Mem := (.v (.agg [.d (.int .i64 r.2.Kind), .d (.bool r.2.Flag), .d (.int .i64 r.2.Number), .d (.str r.2.Words)]), ⟨[], [(0, [.d (.lst (List.map (encI .i64) r.1.L)), .d (.int .i64 r.1.at_)])]⟩)

theorem fleetmake_Stream_Value_ok {qs : fleetmake_Stream} {r} (hF : fleetmake_Stream_Value qs = some r) : Holds prog 38 [.v (.one (.box 0 0))] ⟨[], [(0, [.d (.lst (List.map (encI .i64) qs.L)), .d (.int .i64 qs.at_)])]⟩ (Is (fleetmake_Stream_Value_R qs r)) := by
  unfold fleetmake_Stream_Value at hF
  refine holds_of_awp hΓ (fn := f38) (c := cB f38) (A := 1) (nx := 1) (by kernel_rfl) (by kernel_rfl) (by kernel_rfl) (by kernel_rfl) (by kernel_rfl) (by kernel_rfl) (lowc_of (by kernel_rfl)) ?_
  show Awp prog 1 39 (cB f38) _ _
  refine awp_seq ?_
  refine awp_region ?_
  refine aR 1 ?_
  refine aE ?_
  refine awp_seq ?_
  refine bE hF fun vr4 h1 hF => ?_
  refine awp_region ?_
  refine aR 1 ?_
  refine aC (fleetmake_Stream_RightValue_ok h1) [] [] [] ?_
  refine aR 2 ?_
  refine aE ?_
  refine awp_seq ?_
  refine awp_seq ?_
  refine bE hF fun vr h2 hF => ?_
  refine awp_region ?_
  refine aR 1 ?_
  refine aC (fleetmake_Stream_Flip_ok h2) [] [] [] ?_
  refine aE ?_
  refine cE hF (fun h3 hF => ?_) fun h3 hF => ?_
  · refine awp_true (by kernel_rfl) h3 ?_
    refine awp_seq ?_
    refine awp_region ?_
    refine aR 2 ?_
    refine aE ?_
    refine awp_ret ?_
    exact oF hF [] []
  · refine awp_false (by kernel_rfl) h3 ?_
    refine awp_skip ?_
    refine awp_seq ?_
    refine awp_to (st' := fleetmake_Stream_Value_x1_I qs vr4) (oT [(2, 3001)] []) ?_
    refine bE hF fun x h15 hF => ?_
    obtain ⟨vs2, vv1⟩ := x
    refine awp_sub (fleetmake_Stream_Value_x1_ok qs vr4 h15) ?_
    refine awp_seq ?_
    refine awp_region ?_
    refine aR 2 ?_
    refine aE ?_
    refine awp_ret ?_
    exact oF hF [] []

/-! ### internal/stringslite.IndexByte -/
def stringslite_IndexByte_R (qs : List UInt8) (qc : Int) (r : Unit) : TV × Mem := (.v (.one (.d (.int .i64 (Lib.indexByte qs qc.toNat.toUInt8)))), ⟨[], []⟩)

theorem stringslite_IndexByte_ok {qs : List UInt8} {qc : Int} {r} (hF : stringslite_IndexByte qs qc = some r) : Holds prog 192 [.v (.one (.d (.str qs))), .v (.one (.d (.int .u8 qc)))] ⟨[], []⟩ (Is (stringslite_IndexByte_R qs qc r)) := by
  unfold stringslite_IndexByte at hF
  refine holds_of_awp hΓ (fn := f192) (c := cB f192) (A := 0) (nx := 0) (by kernel_rfl) (by kernel_rfl) (by kernel_rfl) (by kernel_rfl) (by kernel_rfl) (by kernel_rfl) (lowc_of (by kernel_rfl)) ?_
  show Awp prog 0 8 (cB f192) _ _
  refine awp_seq ?_
  refine awp_region ?_
  refine aR 1 ?_
  refine aE ?_
  refine awp_seq ?_
  refine awp_region ?_
  refine aR 2 ?_
  refine aS (does_indexByte (g := 213) (fn := f213) (a := qs) (c := qc) rfl (by kernel_rfl) (by kernel_rfl) (by kernel_rfl) (by kernel_rfl) (by kernel_rfl) (by kernel_rfl)) ?_
  refine aR 1 ?_
  refine aE ?_
  refine awp_ret ?_
  exact oF hF [] []

/-! ### internal/stringslite.Index -/
def stringslite_Index_x1_k : Bool → AEx
  | _ => .normal

def stringslite_Index_x1_S (qx : List UInt8) (qx1 : List UInt8) : Bool → St
  | vx => Mem.st ⟨[], []⟩ (tl [(0, .v (.one (.d (.str qx)))), (1, .v (.one (.d (.str qx1)))), (5, .v (.one (.d (.int .i64 (qx1.length : Int))))), (16, .v (.one (.d (.bool vx))))]) 0

def stringslite_Index_x1_I (qx : List UInt8) (qx1 : List UInt8) : St := Mem.st ⟨[], []⟩ (tl [(0, .v (.one (.d (.str qx)))), (1, .v (.one (.d (.str qx1)))), (5, .v (.one (.d (.int .i64 (qx1.length : Int)))))]) 0

theorem stringslite_Index_x1_ok (qx : List UInt8) (qx1 : List UInt8) {r} (hF : stringslite_Index_x1 qx qx1 = some r) : Awp prog 0 143 (cL (cL (cL (cR (cR (cB f191)))))) (Out 0 stringslite_Index_x1_k (stringslite_Index_x1_S qx qx1) r) (stringslite_Index_x1_I qx qx1) := by
  unfold stringslite_Index_x1 at hF
  refine cE hF (fun h1 hF => ?_) fun h1 hF => ?_
  · refine awp_region ?_
    refine aR 1 ?_
    refine aB h1 ?_
    refine aR 6 ?_
    refine aE ?_
    exact oO hF [] [] rfl
  · refine awp_region ?_
    refine aR 1 ?_
    refine aB h1 ?_
    refine aR 6 ?_
    refine aE ?_
    exact oO hF [] [] rfl

def stringslite_Index_R (qx : List UInt8) (qx1 : List UInt8) (r : Int) : TV × Mem := (.v (.one (.d (.int .i64 r))), ⟨[], []⟩)

theorem stringslite_Index_ok {qx : List UInt8} {qx1 : List UInt8} {r} (hF : stringslite_Index qx qx1 = some r) : Holds prog 191 [.v (.one (.d (.str qx))), .v (.one (.d (.str qx1)))] ⟨[], []⟩ (Is (stringslite_Index_R qx qx1 r)) := by
  unfold stringslite_Index at hF
  refine holds_of_awp hΓ (fn := f191) (c := cB f191) (A := 0) (nx := 0) (by kernel_rfl) (by kernel_rfl) (by kernel_rfl) (by kernel_rfl) (by kernel_rfl) (by kernel_rfl) (lowc_of (by kernel_rfl)) ?_
  show Awp prog 0 143 (cB f191) _ _
  refine awp_seq ?_
  refine awp_region ?_
  refine aR 1 ?_
  refine aE ?_
  refine awp_seq ?_
  refine awp_region ?_
  refine aR 3 ?_
  refine aE ?_
  refine awp_seq ?_
  refine awp_block ?_
  refine awp_seq ?_
  refine awp_to (st' := stringslite_Index_x1_I qx qx1) (oT [] []) ?_
  refine bE hF fun vx1 h2 hF => ?_
  refine awp_sub (stringslite_Index_x1_ok qx qx1 h2) ?_
  refine cE hF (fun h3 hF => ?_) fun h3 hF => ?_
  · refine awp_true (by kernel_rfl) h3 ?_
    refine awp_seq ?_
    refine awp_region ?_
    refine aR 1 ?_
    refine aE ?_
    refine awp_ret ?_
    exact oF hF [] []
  · refine awp_false (by kernel_rfl) h3 ?_
    refine awp_seq ?_
    refine awp_region ?_
    refine aR 3 ?_
    refine aE ?_
    refine cE hF (fun h4 hF => ?_) fun h4 hF => ?_
    · refine awp_true (by kernel_rfl) h4 ?_
      refine awp_seq ?_
      refine bE hF fun vc h5 hF => ?_
      refine bE hF fun _ h6 hF => ?_
      refine awp_region ?_
      refine aR 2 ?_
      refine aX (x_idxS h5) ?_
      refine aC (stringslite_IndexByte_ok h6) [] [] [] ?_
      refine aR 1 ?_
      refine aE ?_
      refine awp_ret ?_
      exact oF hF [] []
    · refine awp_false (by kernel_rfl) h4 ?_
      refine awp_seq ?_
      refine awp_region ?_
      refine aR 5 ?_
      refine aE ?_
      refine cE hF (fun h7 hF => ?_) fun h7 hF => ?_
      · refine awp_true (by kernel_rfl) h7 ?_
        refine awp_seq ?_
        refine awp_region ?_
        refine aR 1 ?_
        refine aE ?_
        refine awp_ret ?_
        exact oF hF [] []
      · refine awp_false (by kernel_rfl) h7 ?_
        refine awp_seq ?_
        exact nE hF

/-! ### internal/stringslite.Cut -/
def stringslite_Cut_R (qs : List UInt8) (qsep : List UInt8) (r : (List UInt8) × (List UInt8) × Bool) : TV × Mem := (.tup [.one (.d (.str r.1)), .one (.d (.str r.2.1)), .one (.d (.bool r.2.2))], ⟨[], []⟩)

theorem stringslite_Cut_ok {qs : List UInt8} {qsep : List UInt8} {r} (hF : stringslite_Cut qs qsep = some r) : Holds prog 187 [.v (.one (.d (.str qs))), .v (.one (.d (.str qsep)))] ⟨[], []⟩ (Is (stringslite_Cut_R qs qsep r)) := by
  unfold stringslite_Cut at hF
  refine holds_of_awp hΓ (fn := f187) (c := cB f187) (A := 0) (nx := 0) (by kernel_rfl) (by kernel_rfl) (by kernel_rfl) (by kernel_rfl) (by kernel_rfl) (by kernel_rfl) (lowc_of (by kernel_rfl)) ?_
  show Awp prog 0 23 (cB f187) _ _
  refine awp_seq ?_
  refine awp_region ?_
  refine aR 3 ?_
  refine aE ?_
  refine awp_seq ?_
  refine awp_seq ?_
  refine bE hF fun vr h1 hF => ?_
  refine awp_region ?_
  refine aR 2 ?_
  refine aC (stringslite_Index_ok h1) [] [] [] ?_
  refine aR 1 ?_
  refine aE ?_
  refine awp_seq ?_
  refine awp_region ?_
  refine aR 2 ?_
  refine aE ?_
  refine cE hF (fun h2 hF => ?_) fun h2 hF => ?_
  · refine awp_true (by kernel_rfl) h2 ?_
    refine awp_seq ?_
    refine bE hF fun vs h3 hF => ?_
    refine bE hF fun vs1 h4 hF => ?_
    refine aD ?_
    refine dR 2 ?_
    refine dX (x_sliceS h3) ?_
    refine dR 5 ?_
    refine dX (x_sliceS h4) ?_
    refine dR 3 ?_
    refine dE ?_
    refine awp_ret ?_
    exact oF hF [] []
  · refine awp_false (by kernel_rfl) h2 ?_
    refine awp_skip ?_
    refine awp_seq ?_
    refine awp_region ?_
    refine aR 4 ?_
    refine aE ?_
    refine awp_ret ?_
    exact oF hF [] []

/-! ### strings.Cut -/
def strings_Cut_R (qs : List UInt8) (qsep : List UInt8) (r : (List UInt8) × (List UInt8) × Bool) : TV × Mem := (.tup [.one (.d (.str r.1)), .one (.d (.str r.2.1)), .one (.d (.bool r.2.2))], ⟨[], []⟩)

theorem strings_Cut_ok {qs : List UInt8} {qsep : List UInt8} {r} (hF : strings_Cut qs qsep = some r) : Holds prog 161 [.v (.one (.d (.str qs))), .v (.one (.d (.str qsep)))] ⟨[], []⟩ (Is (strings_Cut_R qs qsep r)) := by
  unfold strings_Cut at hF
  refine holds_of_awp hΓ (fn := f161) (c := cB f161) (A := 0) (nx := 0) (by kernel_rfl) (by kernel_rfl) (by kernel_rfl) (by kernel_rfl) (by kernel_rfl) (by kernel_rfl) (lowc_of (by kernel_rfl)) ?_
  show Awp prog 0 13 (cB f161) _ _
  refine awp_seq ?_
  refine awp_region ?_
  refine aR 3 ?_
  refine aE ?_
  refine awp_seq ?_
  refine bE hF fun x h1 hF => ?_
  obtain ⟨vr1, vr2, vr3⟩ := x
  refine awp_region ?_
  refine aR 2 ?_
  refine aC (stringslite_Cut_ok h1) [] [] [] ?_
  refine aR 6 ?_
  refine aE ?_
  refine awp_ret ?_
  exact oF hF [] []

/-! ### beaconfleet/base.Key -/
def base_Key_x1_k : Bool → AEx
  | _ => .normal

def base_Key_x1_S (qs : List UInt8) : Bool → St
  | vx => Mem.st ⟨[], []⟩ (tl [(0, .v (.one (.d (.str qs)))), (21, .v (.one (.d (.bool vx))))]) 0

def base_Key_x1_I (qs : List UInt8) : St := Mem.st ⟨[], []⟩ (tl [(0, .v (.one (.d (.str qs))))]) 0

theorem base_Key_x1_ok (qs : List UInt8) {r} (hF : base_Key_x1 qs = some r) : Awp prog 0 54 (cL (cL (cR (cB f136)))) (Out 0 base_Key_x1_k (base_Key_x1_S qs) r) (base_Key_x1_I qs) := by
  unfold base_Key_x1 at hF
  refine cE hF (fun h1 hF => ?_) fun h1 hF => ?_
  · refine awp_region ?_
    refine aR 1 ?_
    refine aB h1 ?_
    refine aR 15 ?_
    refine aE ?_
    exact oO hF [] [] rfl
  · refine cE hF (fun h2 hF => ?_) fun h2 hF => ?_
    · refine awp_region ?_
      refine aR 1 ?_
      refine aB h1 ?_
      refine aR 3 ?_
      refine aB h2 ?_
      refine aR 11 ?_
      refine aE ?_
      exact oO hF [] [] rfl
    · refine bE hF fun vc h3 hF => ?_
      refine cE hF (fun h4 hF => ?_) fun h4 hF => ?_
      · refine awp_region ?_
        refine aR 1 ?_
        refine aB h1 ?_
        refine aR 3 ?_
        refine aB h2 ?_
        refine aR 3 ?_
        refine aX (x_idxS h3) ?_
        refine aB h4 ?_
        refine aR 6 ?_
        refine aE ?_
        exact oO hF [] [] rfl
      · refine awp_region ?_
        refine aR 1 ?_
        refine aB h1 ?_
        refine aR 3 ?_
        refine aB h2 ?_
        refine aR 3 ?_
        refine aX (x_idxS h3) ?_
        refine aB h4 ?_
        refine aR 3 ?_
        refine aX (x_idxS h3) ?_
        refine aR 2 ?_
        refine aE ?_
        exact oO hF [] [] rfl

def base_Key_x3_k : Bool → AEx
  | _ => .normal

def base_Key_x3_S (qs : List UInt8) (vx2 : Int) (vc2 : UInt8) : Bool → St
  | vx4 => Mem.st ⟨[], []⟩ (tl [(0, .v (.one (.d (.str qs)))), (23, .v (.one (.d (.int .i64 (qs.length : Int))))), (24, .v (.one (.d (.int .i64 vx2)))), (52, .v (.one (.d (.bool vx4))))]) 0

def base_Key_x3_I (qs : List UInt8) (vx2 : Int) (vc2 : UInt8) : St := Mem.st ⟨[], []⟩ (tl [(0, .v (.one (.d (.str qs)))), (4, .v (.one (.d (.int .u8 (vc2.toNat : Int))))), (23, .v (.one (.d (.int .i64 (qs.length : Int))))), (24, .v (.one (.d (.int .i64 vx2))))]) 0

theorem base_Key_x3_ok (qs : List UInt8) (vx2 : Int) (vc2 : UInt8) {r} (hF : base_Key_x3 vc2 = some r) : Awp prog 0 54 (cL (cR (cR (cL (cL (cR (cR (cL (cL (cR (cL (cR (cR (cB f136)))))))))))))) (Out 0 base_Key_x3_k (base_Key_x3_S qs vx2 vc2) r) (base_Key_x3_I qs vx2 vc2) := by
  unfold base_Key_x3 at hF
  refine cE hF (fun h9 hF => ?_) fun h9 hF => ?_
  · refine cE hF (fun h10 hF => ?_) fun h10 hF => ?_
    · refine awp_region ?_
      refine aR 1 ?_
      refine aB h9 ?_
      refine aR 2 ?_
      refine aB h10 ?_
      refine aR 18 ?_
      refine aE ?_
      exact oO hF [] [] rfl
    · refine cE hF (fun h11 hF => ?_) fun h11 hF => ?_
      · refine cE hF (fun h12 hF => ?_) fun h12 hF => ?_
        · refine awp_region ?_
          refine aR 1 ?_
          refine aB h9 ?_
          refine aR 2 ?_
          refine aB h10 ?_
          refine aR 3 ?_
          refine aB h11 ?_
          refine aR 2 ?_
          refine aB h12 ?_
          refine aR 11 ?_
          refine aE ?_
          exact oO hF [] [] rfl
        · refine cE hF (fun h13 hF => ?_) fun h13 hF => ?_
          · refine awp_region ?_
            refine aR 1 ?_
            refine aB h9 ?_
            refine aR 2 ?_
            refine aB h10 ?_
            refine aR 3 ?_
            refine aB h11 ?_
            refine aR 2 ?_
            refine aB h12 ?_
            refine aR 4 ?_
            refine aB h13 ?_
            refine aR 6 ?_
            refine aE ?_
            exact oO hF [] [] rfl
          · refine awp_region ?_
            refine aR 1 ?_
            refine aB h9 ?_
            refine aR 2 ?_
            refine aB h10 ?_
            refine aR 3 ?_
            refine aB h11 ?_
            refine aR 2 ?_
            refine aB h12 ?_
            refine aR 4 ?_
            refine aB h13 ?_
            refine aR 6 ?_
            refine aE ?_
            exact oO hF [] [] rfl
      · refine cE hF (fun h14 hF => ?_) fun h14 hF => ?_
        · refine awp_region ?_
          refine aR 1 ?_
          refine aB h9 ?_
          refine aR 2 ?_
          refine aB h10 ?_
          refine aR 3 ?_
          refine aB h11 ?_
          refine aR 7 ?_
          refine aB h14 ?_
          refine aR 6 ?_
          refine aE ?_
          exact oO hF [] [] rfl
        · refine awp_region ?_
          refine aR 1 ?_
          refine aB h9 ?_
          refine aR 2 ?_
          refine aB h10 ?_
          refine aR 3 ?_
          refine aB h11 ?_
          refine aR 7 ?_
          refine aB h14 ?_
          refine aR 6 ?_
          refine aE ?_
          exact oO hF [] [] rfl
  · refine cE hF (fun h15 hF => ?_) fun h15 hF => ?_
    · refine cE hF (fun h16 hF => ?_) fun h16 hF => ?_
      · refine awp_region ?_
        refine aR 1 ?_
        refine aB h9 ?_
        refine aR 6 ?_
        refine aB h15 ?_
        refine aR 2 ?_
        refine aB h16 ?_
        refine aR 11 ?_
        refine aE ?_
        exact oO hF [] [] rfl
      · refine cE hF (fun h17 hF => ?_) fun h17 hF => ?_
        · refine awp_region ?_
          refine aR 1 ?_
          refine aB h9 ?_
          refine aR 6 ?_
          refine aB h15 ?_
          refine aR 2 ?_
          refine aB h16 ?_
          refine aR 4 ?_
          refine aB h17 ?_
          refine aR 6 ?_
          refine aE ?_
          exact oO hF [] [] rfl
        · refine awp_region ?_
          refine aR 1 ?_
          refine aB h9 ?_
          refine aR 6 ?_
          refine aB h15 ?_
          refine aR 2 ?_
          refine aB h16 ?_
          refine aR 4 ?_
          refine aB h17 ?_
          refine aR 6 ?_
          refine aE ?_
          exact oO hF [] [] rfl
    · refine cE hF (fun h18 hF => ?_) fun h18 hF => ?_
      · refine awp_region ?_
        refine aR 1 ?_
        refine aB h9 ?_
        refine aR 6 ?_
        refine aB h15 ?_
        refine aR 7 ?_
        refine aB h18 ?_
        refine aR 6 ?_
        refine aE ?_
        exact oO hF [] [] rfl
      · refine awp_region ?_
        refine aR 1 ?_
        refine aB h9 ?_
        refine aR 6 ?_
        refine aB h15 ?_
        refine aR 7 ?_
        refine aB h18 ?_
        refine aR 6 ?_
        refine aE ?_
        exact oO hF [] [] rfl

def base_Key_x2_k : Unit ⊕ Unit → AEx
  | .inl _ => .exit 0
  | .inr _ => .ret

def base_Key_x2_S (qs : List UInt8) : Unit ⊕ Unit → St
  | .inl _ => Mem.st ⟨[], []⟩ (tl []) 0
  | .inr _ => Mem.st ⟨[], []⟩ (tl [(2, .v (.one (.d (.bool false))))]) 0

def base_Key_x2_H (qs : List UInt8) : Int → St
  | vx2 => Mem.st ⟨[], []⟩ (tl [(0, .v (.one (.d (.str qs)))), (23, .v (.one (.d (.int .i64 (qs.length : Int))))), (24, .v (.one (.d (.int .i64 vx2))))]) 0

theorem base_Key_x2_ok (qs : List UInt8) (vx2 : Int) (r : (Int) ⊕ (Unit ⊕ Unit)) (hF : base_Key_x2 qs vx2 = some r) : Awp prog 0 54 (cL (cL (cR (cL (cR (cR (cB f136))))))) (Out 0 (kk base_Key_x2_k) (SS (base_Key_x2_H qs) (base_Key_x2_S qs)) r) (base_Key_x2_H qs vx2) := by
  unfold base_Key_x2 at hF
  refine awp_seq ?_
  refine awp_region ?_
  refine aR 1 ?_
  refine aE ?_
  refine awp_seq ?_
  refine cE hF (fun h7 hF => ?_) fun h7 hF => ?_
  · refine awp_true (by kernel_rfl) h7 ?_
    refine awp_skip ?_
    refine awp_seq ?_
    refine awp_block ?_
    refine awp_seq ?_
    refine awp_region ?_
    refine aR 2 ?_
    refine aE ?_
    refine awp_seq ?_
    refine bE hF fun vc2 h8 hF => ?_
    refine awp_region ?_
    refine aR 2 ?_
    refine aX (x_idxS h8) ?_
    refine aR 1 ?_
    refine aE ?_
    refine awp_seq ?_
    refine awp_to (st' := base_Key_x3_I qs vx2 vc2) (oT [] []) ?_
    refine bE hF fun vx4_1 h19 hF => ?_
    refine awp_sub (base_Key_x3_ok qs vx2 vc2 h19) ?_
    refine cE hF (fun h20 hF => ?_) fun h20 hF => ?_
    · refine awp_true (by kernel_rfl) h20 ?_
      refine awp_seq ?_
      refine awp_region ?_
      refine aR 1 ?_
      refine aE ?_
      refine awp_ret ?_
      exact oO hF [] [] rfl
    · refine awp_false (by kernel_rfl) h20 ?_
      refine awp_skip ?_
      refine awp_region ?_
      refine aR 2 ?_
      refine aE ?_
      exact oO hF [] [] rfl
  · refine awp_false (by kernel_rfl) h7 ?_
    refine awp_exit ?_
    exact oO hF [] [] rfl

def base_Key_R (qs : List UInt8) (r : Bool) : TV × Mem := (.v (.one (.d (.bool r))), ⟨[], []⟩)

theorem base_Key_ok {qs : List UInt8} {r} (hF : base_Key qs = some r) : Holds prog 136 [.v (.one (.d (.str qs)))] ⟨[], []⟩ (Is (base_Key_R qs r)) := by
  unfold base_Key at hF
  refine holds_of_awp hΓ (fn := f136) (c := cB f136) (A := 0) (nx := 0) (by kernel_rfl) (by kernel_rfl) (by kernel_rfl) (by kernel_rfl) (by kernel_rfl) (by kernel_rfl) (lowc_of (by kernel_rfl)) ?_
  show Awp prog 0 54 (cB f136) _ _
  refine awp_seq ?_
  refine awp_region ?_
  refine aR 1 ?_
  refine aE ?_
  refine awp_seq ?_
  refine awp_seq ?_
  refine awp_to (st' := base_Key_x1_I qs) (oT [] []) ?_
  refine bE hF fun vx1 h5 hF => ?_
  refine awp_sub (base_Key_x1_ok qs h5) ?_
  refine cE hF (fun h6 hF => ?_) fun h6 hF => ?_
  · refine awp_true (by kernel_rfl) h6 ?_
    refine awp_seq ?_
    refine awp_region ?_
    refine aR 1 ?_
    refine aE ?_
    refine awp_ret ?_
    exact oF hF [] []
  · refine awp_false (by kernel_rfl) h6 ?_
    refine awp_skip ?_
    refine awp_seq ?_
    refine awp_seq ?_
    refine awp_region ?_
    refine aR 3 ?_
    refine aE ?_
    refine awp_block ?_
    refine awp_to (st' := base_Key_x2_H qs 0) (oT [] []) ?_
    refine bE hF fun x h21 hF => ?_
    rcases x with _ | _
    · refine awp_sub (awp_loop' (base_Key_x2_H qs) base_Key_x2_k (base_Key_x2_S qs) (by intro x; rcases x with x | x <;> exact fun h => nomatch h) h21 (base_Key_x2_ok qs)) ?_
      refine awp_seq ?_
      refine awp_region ?_
      refine aR 1 ?_
      refine aE ?_
      refine awp_ret ?_
      exact oF hF [] []
    · refine awp_sub (awp_loop' (base_Key_x2_H qs) base_Key_x2_k (base_Key_x2_S qs) (by intro x; rcases x with x | x <;> exact fun h => nomatch h) h21 (base_Key_x2_ok qs)) ?_
      exact oF hF [] []

/-! ### beaconfleet/base.Dotted -/
def base_Dotted_x1_k : Unit ⊕ Bool → AEx
  | .inl _ => .exit 0
  | .inr _ => .ret

def base_Dotted_x1_S (qmost : Int) : Unit ⊕ Bool → St
  | .inl _ => Mem.st ⟨[], []⟩ (tl []) 0
  | .inr vx => Mem.st ⟨[], []⟩ (tl [(4, .v (.one (.d (.bool vx))))]) 0

def base_Dotted_x1_H (qmost : Int) : (List UInt8) × Int → St
  | (vs, vn) => Mem.st ⟨[], []⟩ (tl [(0, .v (.one (.d (.str vs)))), (1, .v (.one (.d (.int .i64 qmost)))), (5, .v (.one (.d (.int .i64 vn))))]) 0

theorem base_Dotted_x1_ok (qmost : Int) (s : (List UInt8) × Int) (r : ((List UInt8) × Int) ⊕ (Unit ⊕ Bool)) (hF : base_Dotted_x1 qmost s = some r) : Awp prog 0 26 (cL (cL (cR (cL (cR (cB f122)))))) (Out 0 (kk base_Dotted_x1_k) (SS (base_Dotted_x1_H qmost) (base_Dotted_x1_S qmost)) r) (base_Dotted_x1_H qmost s) := by
  obtain ⟨vs, vn⟩ := s
  unfold base_Dotted_x1 at hF
  refine awp_seq ?_
  refine awp_seq ?_
  refine awp_region ?_
  refine aR 3 ?_
  refine aE ?_
  refine cE hF (fun h1 hF => ?_) fun h1 hF => ?_
  · refine awp_true (by kernel_rfl) h1 ?_
    refine awp_skip ?_
    refine awp_seq ?_
    refine awp_block ?_
    refine awp_seq ?_
    refine bE hF fun x h2 hF => ?_
    obtain ⟨vr2, vr4_1, vr5_1⟩ := x
    refine awp_region ?_
    refine aR 1 ?_
    refine aC (strings_Cut_ok h2) [] [] [] ?_
    refine aR 7 ?_
    refine aE ?_
    refine awp_seq ?_
    refine awp_seq ?_
    refine bE hF fun vr3 h3 hF => ?_
    refine awp_region ?_
    refine aR 1 ?_
    refine aC (base_Key_ok h3) [] [] [] ?_
    refine aR 1 ?_
    refine aE ?_
    refine cE hF (fun h4 hF => ?_) fun h4 hF => ?_
    · refine awp_true (by kernel_rfl) h4 ?_
      refine awp_seq ?_
      refine awp_region ?_
      refine aR 1 ?_
      refine aE ?_
      refine awp_ret ?_
      exact oO hF [] [] rfl
    · refine awp_false (by kernel_rfl) h4 ?_
      refine awp_skip ?_
      refine awp_seq ?_
      refine awp_seq ?_
      refine awp_region ?_
      refine aR 2 ?_
      refine aE ?_
      refine cE hF (fun h5 hF => ?_) fun h5 hF => ?_
      · refine awp_true (by kernel_rfl) h5 ?_
        refine awp_seq ?_
        refine awp_region ?_
        refine aR 1 ?_
        refine aE ?_
        refine awp_ret ?_
        exact oO hF [] [] rfl
      · refine awp_false (by kernel_rfl) h5 ?_
        refine awp_skip ?_
        refine awp_region ?_
        refine aR 2 ?_
        refine aE ?_
        refine awp_region ?_
        refine aR 3 ?_
        refine aE ?_
        exact oO hF [] [] rfl
  · refine awp_false (by kernel_rfl) h1 ?_
    refine awp_exit ?_
    exact oO hF [] [] rfl

def base_Dotted_R (qs : List UInt8) (qmost : Int) (r : Bool) : TV × Mem := (.v (.one (.d (.bool r))), ⟨[], []⟩)

theorem base_Dotted_ok {qs : List UInt8} {qmost : Int} {r} (hF : base_Dotted qs qmost = some r) : Holds prog 122 [.v (.one (.d (.str qs))), .v (.one (.d (.int .i64 qmost)))] ⟨[], []⟩ (Is (base_Dotted_R qs qmost r)) := by
  unfold base_Dotted at hF
  refine holds_of_awp hΓ (fn := f122) (c := cB f122) (A := 0) (nx := 0) (by kernel_rfl) (by kernel_rfl) (by kernel_rfl) (by kernel_rfl) (by kernel_rfl) (by kernel_rfl) (lowc_of (by kernel_rfl)) ?_
  show Awp prog 0 26 (cB f122) _ _
  refine awp_seq ?_
  refine awp_region ?_
  refine aR 1 ?_
  refine aE ?_
  refine awp_seq ?_
  refine awp_seq ?_
  refine awp_region ?_
  refine aR 1 ?_
  refine aE ?_
  refine awp_block ?_
  refine awp_to (st' := base_Dotted_x1_H qmost (qs, 0)) (oT [] []) ?_
  refine bE hF fun x h6 hF => ?_
  rcases x with _ | vx1
  · refine awp_sub (awp_loop' (base_Dotted_x1_H qmost) base_Dotted_x1_k (base_Dotted_x1_S qmost) (by intro x; rcases x with x | x <;> exact fun h => nomatch h) h6 (base_Dotted_x1_ok qmost)) ?_
    refine awp_seq ?_
    refine awp_region ?_
    refine aR 1 ?_
    refine aE ?_
    refine awp_ret ?_
    exact oF hF [] []
  · refine awp_sub (awp_loop' (base_Dotted_x1_H qmost) base_Dotted_x1_k (base_Dotted_x1_S qmost) (by intro x; rcases x with x | x <;> exact fun h => nomatch h) h6 (base_Dotted_x1_ok qmost)) ?_
    exact oF hF [] []

/-! ### beaconfleet/twin.isName -/
def twin_isName_R (qs : List UInt8) (r : Bool) : TV × Mem := (.v (.one (.d (.bool r))), ⟨[], []⟩)

theorem twin_isName_ok {qs : List UInt8} {r} (hF : twin_isName qs = some r) : Holds prog 69 [.v (.one (.d (.str qs)))] ⟨[], []⟩ (Is (twin_isName_R qs r)) := by
  unfold twin_isName at hF
  refine holds_of_awp hΓ (fn := f69) (c := cB f69) (A := 0) (nx := 0) (by kernel_rfl) (by kernel_rfl) (by kernel_rfl) (by kernel_rfl) (by kernel_rfl) (by kernel_rfl) (lowc_of (by kernel_rfl)) ?_
  show Awp prog 0 5 (cB f69) _ _
  refine awp_seq ?_
  refine awp_region ?_
  refine aR 1 ?_
  refine aE ?_
  refine awp_seq ?_
  refine bE hF fun vr6 h1 hF => ?_
  refine awp_region ?_
  refine aR 1 ?_
  refine aC (base_Dotted_ok h1) [] [] [] ?_
  refine aR 1 ?_
  refine aE ?_
  refine awp_ret ?_
  exact oF hF [] []

/-! ### beaconfleet/base.Out -/
def base_Out_x1_k : Bool → AEx
  | _ => .normal

def base_Out_x1_S (qn : Int) (qlow : Int) (qhigh : Int) : Bool → St
  | vx => Mem.st ⟨[], []⟩ (tl [(6, .v (.one (.d (.bool vx))))]) 0

def base_Out_x1_I (qn : Int) (qlow : Int) (qhigh : Int) : St := Mem.st ⟨[], []⟩ (tl [(0, .v (.one (.d (.int .i64 qn)))), (1, .v (.one (.d (.int .i64 qlow)))), (2, .v (.one (.d (.int .i64 qhigh))))]) 0

theorem base_Out_x1_ok (qn : Int) (qlow : Int) (qhigh : Int) {r} (hF : base_Out_x1 qn qlow qhigh = some r) : Awp prog 0 15 (cL (cR (cB f52))) (Out 0 base_Out_x1_k (base_Out_x1_S qn qlow qhigh) r) (base_Out_x1_I qn qlow qhigh) := by
  unfold base_Out_x1 at hF
  refine cE hF (fun h1 hF => ?_) fun h1 hF => ?_
  · refine awp_region ?_
    refine aR 2 ?_
    refine aB h1 ?_
    refine aR 6 ?_
    refine aE ?_
    exact oO hF [] [] rfl
  · refine awp_region ?_
    refine aR 2 ?_
    refine aB h1 ?_
    refine aR 6 ?_
    refine aE ?_
    exact oO hF [] [] rfl

def base_Out_R (qn : Int) (qlow : Int) (qhigh : Int) (r : Bool) : TV × Mem := (.v (.one (.d (.bool r))), ⟨[], []⟩)

theorem base_Out_ok {qn : Int} {qlow : Int} {qhigh : Int} {r} (hF : base_Out qn qlow qhigh = some r) : Holds prog 52 [.v (.one (.d (.int .i64 qn))), .v (.one (.d (.int .i64 qlow))), .v (.one (.d (.int .i64 qhigh)))] ⟨[], []⟩ (Is (base_Out_R qn qlow qhigh r)) := by
  unfold base_Out at hF
  refine holds_of_awp hΓ (fn := f52) (c := cB f52) (A := 0) (nx := 0) (by kernel_rfl) (by kernel_rfl) (by kernel_rfl) (by kernel_rfl) (by kernel_rfl) (by kernel_rfl) (lowc_of (by kernel_rfl)) ?_
  show Awp prog 0 15 (cB f52) _ _
  refine awp_seq ?_
  refine awp_region ?_
  refine aR 1 ?_
  refine aE ?_
  refine awp_seq ?_
  refine awp_to (st' := base_Out_x1_I qn qlow qhigh) (oT [] []) ?_
  refine bE hF fun vx1 h2 hF => ?_
  refine awp_sub (base_Out_x1_ok qn qlow qhigh h2) ?_
  refine awp_ret ?_
  exact oF hF [] []

/-! ### unicode/utf8.ValidString -/
def utf8_ValidString_R (qx : List UInt8) (r : Bool) : TV × Mem := (.v (.one (.d (.bool r))), ⟨[], []⟩)

theorem utf8_ValidString_ok {qx : List UInt8} {r} (hF : utf8_ValidString qx = some r) : Holds prog 143 [.v (.one (.d (.str qx)))] ⟨[], []⟩ (Is (utf8_ValidString_R qx r)) := by
  unfold utf8_ValidString at hF
  refine gE hF fun h1 hF => ?_
  obtain rfl := Option.some.inj hF
  have h2 : qx.length ≤ 9223372036854775807 := by simpa using h1
  refine holds_lib (args := [.str qx]) (tv := .c (.d (.bool (Lib.validD qx)))) ⟨_, cB Go.Proofs.Tryz.f143, Go.Proofs.Tryz.func143, by kernel_rfl, by kernel_rfl⟩ rfl rfl fun w ht => ?_
  refine (Go.Proofs.Any.utf8_ValidString Go.Proofs.Tryz.lays196 ⟨qx.toArray⟩ w (by simpa [ByteArray.size] using h2) (utf8_tabs (ht 1 _ rfl) (ht 2 _ rfl) (by kernel_rfl) (by kernel_rfl))).mono ?_
  rintro e w' ⟨rfl, hb⟩
  exact ⟨rfl, hb⟩

/-! ### beaconfleet/base.Unmarked -/
def base_Unmarked_x2_k : Bool → AEx
  | _ => .normal

def base_Unmarked_x2_S (qs : List UInt8) (vx : Int) : Bool → St
  | vx2 => Mem.st ⟨[], []⟩ (tl [(0, .v (.one (.d (.str qs)))), (5, .v (.one (.d (.int .i64 (qs.length : Int))))), (6, .v (.one (.d (.int .i64 vx)))), (18, .v (.one (.d (.bool vx2))))]) 0

def base_Unmarked_x2_I (qs : List UInt8) (vx : Int) : St := Mem.st ⟨[], []⟩ (tl [(0, .v (.one (.d (.str qs)))), (3, .v (.one (.d (.int .i64 vx)))), (5, .v (.one (.d (.int .i64 (qs.length : Int))))), (6, .v (.one (.d (.int .i64 vx))))]) 0

theorem base_Unmarked_x2_ok (qs : List UInt8) (vx : Int) {r} (hF : base_Unmarked_x2 qs vx = some r) : Awp prog 0 22 (cL (cR (cL (cL (cR (cR (cL (cL (cR (cL (cR (cB f124)))))))))))) (Out 0 base_Unmarked_x2_k (base_Unmarked_x2_S qs vx) r) (base_Unmarked_x2_I qs vx) := by
  unfold base_Unmarked_x2 at hF
  refine bE hF fun vc1 h2 hF => ?_
  refine cE hF (fun h3 hF => ?_) fun h3 hF => ?_
  · refine awp_region ?_
    refine aR 2 ?_
    refine aX (x_idxS h2) ?_
    refine aB h3 ?_
    refine aR 6 ?_
    refine aE ?_
    exact oO hF [] [] rfl
  · refine awp_region ?_
    refine aR 2 ?_
    refine aX (x_idxS h2) ?_
    refine aB h3 ?_
    refine aR 3 ?_
    refine aX (x_idxS h2) ?_
    refine aR 2 ?_
    refine aE ?_
    exact oO hF [] [] rfl

def base_Unmarked_x1_k : Unit ⊕ Unit → AEx
  | .inl _ => .exit 0
  | .inr _ => .ret

def base_Unmarked_x1_S (qs : List UInt8) : Unit ⊕ Unit → St
  | .inl _ => Mem.st ⟨[], []⟩ (tl [(0, .v (.one (.d (.str qs))))]) 0
  | .inr _ => Mem.st ⟨[], []⟩ (tl [(2, .v (.one (.d (.bool false))))]) 0

def base_Unmarked_x1_H (qs : List UInt8) : Int → St
  | vx => Mem.st ⟨[], []⟩ (tl [(0, .v (.one (.d (.str qs)))), (5, .v (.one (.d (.int .i64 (qs.length : Int))))), (6, .v (.one (.d (.int .i64 vx))))]) 0

theorem base_Unmarked_x1_ok (qs : List UInt8) (vx : Int) (r : (Int) ⊕ (Unit ⊕ Unit)) (hF : base_Unmarked_x1 qs vx = some r) : Awp prog 0 22 (cL (cL (cR (cL (cR (cB f124)))))) (Out 0 (kk base_Unmarked_x1_k) (SS (base_Unmarked_x1_H qs) (base_Unmarked_x1_S qs)) r) (base_Unmarked_x1_H qs vx) := by
  unfold base_Unmarked_x1 at hF
  refine awp_seq ?_
  refine awp_region ?_
  refine aR 1 ?_
  refine aE ?_
  refine awp_seq ?_
  refine cE hF (fun h1 hF => ?_) fun h1 hF => ?_
  · refine awp_true (by kernel_rfl) h1 ?_
    refine awp_skip ?_
    refine awp_seq ?_
    refine awp_block ?_
    refine awp_seq ?_
    refine awp_region ?_
    refine aR 2 ?_
    refine aE ?_
    refine awp_seq ?_
    refine awp_to (st' := base_Unmarked_x2_I qs vx) (oT [] []) ?_
    refine bE hF fun vx2_1 h4 hF => ?_
    refine awp_sub (base_Unmarked_x2_ok qs vx h4) ?_
    refine cE hF (fun h5 hF => ?_) fun h5 hF => ?_
    · refine awp_true (by kernel_rfl) h5 ?_
      refine awp_seq ?_
      refine awp_region ?_
      refine aR 1 ?_
      refine aE ?_
      refine awp_ret ?_
      exact oO hF [] [] rfl
    · refine awp_false (by kernel_rfl) h5 ?_
      refine awp_skip ?_
      refine awp_region ?_
      refine aR 2 ?_
      refine aE ?_
      exact oO hF [] [] rfl
  · refine awp_false (by kernel_rfl) h1 ?_
    refine awp_exit ?_
    exact oO hF [] [] rfl

def base_Unmarked_R (qs : List UInt8) (r : Bool) : TV × Mem := (.v (.one (.d (.bool r))), ⟨[], []⟩)

theorem base_Unmarked_ok {qs : List UInt8} {r} (hF : base_Unmarked qs = some r) : Holds prog 124 [.v (.one (.d (.str qs)))] ⟨[], []⟩ (Is (base_Unmarked_R qs r)) := by
  unfold base_Unmarked at hF
  refine holds_of_awp hΓ (fn := f124) (c := cB f124) (A := 0) (nx := 0) (by kernel_rfl) (by kernel_rfl) (by kernel_rfl) (by kernel_rfl) (by kernel_rfl) (by kernel_rfl) (lowc_of (by kernel_rfl)) ?_
  show Awp prog 0 22 (cB f124) _ _
  refine awp_seq ?_
  refine awp_region ?_
  refine aR 1 ?_
  refine aE ?_
  refine awp_seq ?_
  refine awp_seq ?_
  refine awp_region ?_
  refine aR 3 ?_
  refine aE ?_
  refine awp_block ?_
  refine awp_to (st' := base_Unmarked_x1_H qs 0) (oT [] []) ?_
  refine bE hF fun x h6 hF => ?_
  rcases x with _ | _
  · refine awp_sub (awp_loop' (base_Unmarked_x1_H qs) base_Unmarked_x1_k (base_Unmarked_x1_S qs) (by intro x; rcases x with x | x <;> exact fun h => nomatch h) h6 (base_Unmarked_x1_ok qs)) ?_
    refine awp_seq ?_
    refine bE hF fun vr h7 hF => ?_
    refine awp_region ?_
    refine aR 1 ?_
    refine aC (utf8_ValidString_ok h7) [] [] [] ?_
    refine aR 1 ?_
    refine aE ?_
    refine awp_ret ?_
    exact oF hF [] []
  · refine awp_sub (awp_loop' (base_Unmarked_x1_H qs) base_Unmarked_x1_k (base_Unmarked_x1_S qs) (by intro x; rcases x with x | x <;> exact fun h => nomatch h) h6 (base_Unmarked_x1_ok qs)) ?_
    exact oF hF [] []

/-! ### beaconfleet/twin.valueFault -/
def twin_valueFault_x1_k : api_Value ⊕ Unit → AEx
  | .inl _ => .normal
  | .inr _ => .ret

def twin_valueFault_x1_S (qv : api_Value) : api_Value ⊕ Unit → St
  | .inl vused => Mem.st ⟨[], [(0, [.d (.int .i64 qv.Kind), .d (.bool qv.Flag), .d (.int .i64 qv.Number), .d (.str qv.Words)]), (1, [.d (.int .i64 vused.Kind), .d (.bool vused.Flag), .d (.int .i64 vused.Number), .d (.str vused.Words)])]⟩ (tl [(1, .v (.one (.box 0 0))), (3, .v (.one (.box 1 0)))]) 2
  | .inr _ => Mem.st ⟨[], []⟩ (tl [(2, .v (.one (.d (.int .i64 4))))]) 0

def twin_valueFault_x1_I (qv : api_Value) : St := Mem.st ⟨[], [(0, [.d (.int .i64 qv.Kind), .d (.bool qv.Flag), .d (.int .i64 qv.Number), .d (.str qv.Words)]), (1, [.d (.int .i64 qv.Kind), .d (.bool false), .d (.int .i64 0), .d (.str ([] : List UInt8))])]⟩ (tl [(1, .v (.one (.box 0 0))), (3, .v (.one (.box 1 0)))]) 2

theorem twin_valueFault_x1_ok (qv : api_Value) {r} (hF : twin_valueFault_x1 qv = some r) : Awp prog 0 44 (cL (cR (cR (cB f73)))) (Out 0 twin_valueFault_x1_k (twin_valueFault_x1_S qv) r) (twin_valueFault_x1_I qv) := by
  unfold twin_valueFault_x1 at hF
  refine awp_seq ?_
  refine awp_region ?_
  refine aR 2 ?_
  refine aE ?_
  refine awp_block ?_
  refine awp_seq ?_
  refine awp_region ?_
  refine aR 2 ?_
  refine aE ?_
  refine cE hF (fun h1 hF => ?_) fun h1 hF => ?_
  · refine awp_true (by kernel_rfl) h1 ?_
    refine awp_skip ?_
    exact oO hF [] [] rfl
  · refine awp_false (by kernel_rfl) h1 ?_
    refine awp_seq ?_
    refine awp_region ?_
    refine aR 2 ?_
    refine aE ?_
    refine cE hF (fun h2 hF => ?_) fun h2 hF => ?_
    · refine awp_true (by kernel_rfl) h2 ?_
      refine awp_region ?_
      refine aR 4 ?_
      refine aE ?_
      exact oO hF [] [] rfl
    · refine awp_false (by kernel_rfl) h2 ?_
      refine awp_seq ?_
      refine awp_region ?_
      refine aR 2 ?_
      refine aE ?_
      refine cE hF (fun h3 hF => ?_) fun h3 hF => ?_
      · refine awp_true (by kernel_rfl) h3 ?_
        refine awp_region ?_
        refine aR 4 ?_
        refine aE ?_
        exact oO hF [] [] rfl
      · refine awp_false (by kernel_rfl) h3 ?_
        refine awp_seq ?_
        refine awp_region ?_
        refine aR 2 ?_
        refine aE ?_
        refine cE hF (fun h4 hF => ?_) fun h4 hF => ?_
        · refine awp_true (by kernel_rfl) h4 ?_
          refine awp_region ?_
          refine aR 4 ?_
          refine aE ?_
          exact oO hF [] [] rfl
        · refine awp_false (by kernel_rfl) h4 ?_
          refine awp_seq ?_
          refine awp_region ?_
          refine aR 1 ?_
          refine aE ?_
          refine awp_ret ?_
          exact oO hF [] [] rfl

def twin_valueFault_R (qv : api_Value) (r : Int) : TV × Mem := (.v (.one (.d (.int .i64 r))), ⟨[], []⟩)

theorem twin_valueFault_ok {qv : api_Value} {r} (hF : twin_valueFault qv = some r) : Holds prog 73 [.v (.agg [.d (.int .i64 qv.Kind), .d (.bool qv.Flag), .d (.int .i64 qv.Number), .d (.str qv.Words)])] ⟨[], []⟩ (Is (twin_valueFault_R qv r)) := by
  unfold twin_valueFault at hF
  refine holds_of_awp hΓ (fn := f73) (c := cB f73) (A := 0) (nx := 0) (by kernel_rfl) (by kernel_rfl) (by kernel_rfl) (by kernel_rfl) (by kernel_rfl) (by kernel_rfl) (lowc_of (by kernel_rfl)) ?_
  show Awp prog 0 44 (cB f73) _ _
  refine awp_seq ?_
  refine awp_region ?_
  refine aR 2 ?_
  refine aE ?_
  refine awp_seq ?_
  refine awp_region ?_
  refine aR 5 ?_
  refine aE ?_
  refine awp_seq ?_
  refine awp_to (st' := twin_valueFault_x1_I qv) (oT [(1, 5000)] []) ?_
  refine bE hF fun x h5 hF => ?_
  rcases x with vused1 | _
  · refine awp_sub (twin_valueFault_x1_ok qv h5) ?_
    refine awp_seq ?_
    refine awp_block ?_
    refine awp_seq ?_
    refine awp_region ?_
    refine aR 2 ?_
    refine aS (does_eqS (op := .neq) (xs := [.int .i64 qv.Kind, .bool qv.Flag, .int .i64 qv.Number, .str qv.Words]) (ys := [.int .i64 vused1.Kind, .bool vused1.Flag, .int .i64 vused1.Number, .str vused1.Words]) (b := (decide (qv.Kind = vused1.Kind) && ((qv.Flag == vused1.Flag) && (decide (qv.Number = vused1.Number) && (decide (qv.Words = vused1.Words) && true))))) (c := (!(decide (qv.Kind = vused1.Kind) && ((qv.Flag == vused1.Flag) && (decide (qv.Number = vused1.Number) && (decide (qv.Words = vused1.Words) && true)))))) rfl (.inr ⟨rfl, rfl⟩) (by kernel_rfl) (by kernel_rfl) (by kernel_rfl) (by kernel_rfl) (by kernel_rfl) (by kernel_rfl)) ?_
    refine aR 1 ?_
    refine aE ?_
    refine cE hF (fun h6 hF => ?_) fun h6 hF => ?_
    · refine awp_true (by kernel_rfl) h6 ?_
      refine awp_seq ?_
      refine awp_region ?_
      refine aR 1 ?_
      refine aE ?_
      refine awp_ret ?_
      exact oF hF [] []
    · refine awp_false (by kernel_rfl) h6 ?_
      refine awp_seq ?_
      refine bE hF fun vr h7 hF => ?_
      refine awp_region ?_
      refine aR 2 ?_
      refine aC (base_Out_ok h7) [] [] [] ?_
      refine aR 1 ?_
      refine aE ?_
      refine cE hF (fun h8 hF => ?_) fun h8 hF => ?_
      · refine awp_true (by kernel_rfl) h8 ?_
        refine awp_seq ?_
        refine awp_region ?_
        refine aR 1 ?_
        refine aE ?_
        refine awp_ret ?_
        exact oF hF [] []
      · refine awp_false (by kernel_rfl) h8 ?_
        refine awp_seq ?_
        refine awp_region ?_
        refine aR 5 ?_
        refine aE ?_
        refine cE hF (fun h9 hF => ?_) fun h9 hF => ?_
        · refine awp_true (by kernel_rfl) h9 ?_
          refine awp_seq ?_
          refine awp_region ?_
          refine aR 1 ?_
          refine aE ?_
          refine awp_ret ?_
          exact oF hF [] []
        · refine awp_false (by kernel_rfl) h9 ?_
          refine awp_seq ?_
          refine bE hF fun vr1 h10 hF => ?_
          refine awp_region ?_
          refine aR 2 ?_
          refine aC (base_Unmarked_ok h10) [] [] [] ?_
          refine aR 2 ?_
          refine aE ?_
          refine cE hF (fun h11 hF => ?_) fun h11 hF => ?_
          · refine awp_true (by kernel_rfl) h11 ?_
            refine awp_seq ?_
            refine awp_region ?_
            refine aR 1 ?_
            refine aE ?_
            refine awp_ret ?_
            exact oF hF [] []
          · refine awp_false (by kernel_rfl) h11 ?_
            refine awp_skip ?_
            refine awp_seq ?_
            refine awp_region ?_
            refine aR 1 ?_
            refine aE ?_
            refine awp_ret ?_
            exact oF hF [] []
  · refine awp_sub (twin_valueFault_x1_ok qv h5) ?_
    exact oF hF [] []

/-! ### beaconfleet/base.First -/
def base_First_x1_k : Unit ⊕ Int → AEx
  | .inl _ => .exit 0
  | .inr _ => .ret

def base_First_x1_S (ql : List Int) : Unit ⊕ Int → St
  | .inl _ => Mem.st ⟨[], []⟩ (tl []) 0
  | .inr vx1 => Mem.st ⟨[], []⟩ (tl [(2, .v (.one (.d (.int .i64 vx1))))]) 0

def base_First_x1_H (ql : List Int) : Int → St
  | vx => Mem.st ⟨[], []⟩ (tl [(5, .v (.one (.d (.lst (List.map (encI .i64) ql))))), (6, .v (.one (.d (.int .i64 (ql.length : Int))))), (7, .v (.one (.d (.int .i64 vx))))]) 0

theorem base_First_x1_ok (ql : List Int) (vx : Int) (r : (Int) ⊕ (Unit ⊕ Int)) (hF : base_First_x1 ql vx = some r) : Awp prog 0 15 (cL (cL (cR (cL (cR (cB f84)))))) (Out 0 (kk base_First_x1_k) (SS (base_First_x1_H ql) (base_First_x1_S ql)) r) (base_First_x1_H ql vx) := by
  unfold base_First_x1 at hF
  refine awp_seq ?_
  refine awp_region ?_
  refine aR 1 ?_
  refine aE ?_
  refine awp_seq ?_
  refine cE hF (fun h1 hF => ?_) fun h1 hF => ?_
  · refine awp_true (by kernel_rfl) h1 ?_
    refine awp_skip ?_
    refine awp_seq ?_
    refine awp_block ?_
    refine awp_seq ?_
    refine bE hF fun vy1 h2 hF => ?_
    refine awp_region ?_
    refine aX (x_idx (encI .i64) h2) ?_
    refine aR 2 ?_
    refine aE ?_
    refine awp_seq ?_
    refine awp_region ?_
    refine aR 2 ?_
    refine aE ?_
    refine cE hF (fun h3 hF => ?_) fun h3 hF => ?_
    · refine awp_true (by kernel_rfl) h3 ?_
      refine awp_seq ?_
      refine awp_region ?_
      refine aR 2 ?_
      refine aE ?_
      refine awp_ret ?_
      exact oO hF [] [] rfl
    · refine awp_false (by kernel_rfl) h3 ?_
      refine awp_skip ?_
      refine awp_region ?_
      refine aR 2 ?_
      refine aE ?_
      exact oO hF [] [] rfl
  · refine awp_false (by kernel_rfl) h1 ?_
    refine awp_exit ?_
    exact oO hF [] [] rfl

def base_First_R (ql : List Int) (r : Int) : TV × Mem := (.v (.one (.d (.int .i64 r))), ⟨[], []⟩)

theorem base_First_ok {ql : List Int} {r} (hF : base_First ql = some r) : Holds prog 84 [.v (.one (.d (.lst (List.map (encI .i64) ql))))] ⟨[], []⟩ (Is (base_First_R ql r)) := by
  unfold base_First at hF
  refine holds_of_awp hΓ (fn := f84) (c := cB f84) (A := 0) (nx := 0) (by kernel_rfl) (by kernel_rfl) (by kernel_rfl) (by kernel_rfl) (by kernel_rfl) (by kernel_rfl) (lowc_of (by kernel_rfl)) ?_
  show Awp prog 0 15 (cB f84) _ _
  refine awp_seq ?_
  refine awp_region ?_
  refine aR 1 ?_
  refine aE ?_
  refine awp_seq ?_
  refine awp_seq ?_
  refine awp_region ?_
  refine aR 1 ?_
  refine aL (encI .i64) ql ?_
  refine aR 1 ?_
  refine aE ?_
  refine awp_block ?_
  refine awp_to (st' := base_First_x1_H ql 0) (oT [] []) ?_
  refine bE hF fun x h4 hF => ?_
  rcases x with _ | vx1_1
  · refine awp_sub (awp_loop' (base_First_x1_H ql) base_First_x1_k (base_First_x1_S ql) (by intro x; rcases x with x | x <;> exact fun h => nomatch h) h4 (base_First_x1_ok ql)) ?_
    refine awp_seq ?_
    refine awp_region ?_
    refine aR 1 ?_
    refine aE ?_
    refine awp_ret ?_
    exact oF hF [] []
  · refine awp_sub (awp_loop' (base_First_x1_H ql) base_First_x1_k (base_First_x1_S ql) (by intro x; rcases x with x | x <;> exact fun h => nomatch h) h4 (base_First_x1_ok ql)) ?_
    exact oF hF [] []

/-! ### unicode/utf8.RuneCountInString -/
def utf8_RuneCountInString_x1_k : Int → AEx
  | _ => .exit 0

def utf8_RuneCountInString_x1_S (qs : List UInt8) : Int → St
  | vn1 => Mem.st ⟨[], []⟩ (tl [(2, .v (.one (.d (.int .i64 vn1))))]) 0

def utf8_RuneCountInString_x1_H (qs : List UInt8) : Nat × Int → St
  | (vpos, vn) => Mem.st ⟨[], [(0, [.iters qs vpos])]⟩ (tl [(2, .v (.one (.d (.int .i64 vn)))), (4, .v (.one (.box 0 0)))]) 1

theorem utf8_RuneCountInString_x1_ok (qs : List UInt8) (s : Nat × Int) (r : (Nat × Int) ⊕ (Int)) (hF : utf8_RuneCountInString_x1 qs s = some r) : Awp prog 0 10 (cL (cL (cR (cL (cR (cB f188)))))) (Out 0 (kk utf8_RuneCountInString_x1_k) (SS (utf8_RuneCountInString_x1_H qs) (utf8_RuneCountInString_x1_S qs)) r) (utf8_RuneCountInString_x1_H qs s) := by
  obtain ⟨vpos, vn⟩ := s
  unfold utf8_RuneCountInString_x1 at hF
  refine awp_seq ?_
  refine cE hF (fun h1 hF => ?_) fun h1 hF => ?_
  · refine bE hF fun vd1 h2 hF => ?_
    refine awp_region ?_
    refine aX (x_next 0 qs vpos h1 h2) ?_
    refine aR 1 ?_
    refine aE ?_
    refine awp_seq ?_
    refine awp_true (by kernel_rfl) rfl ?_
    refine awp_skip ?_
    refine awp_block ?_
    refine awp_region ?_
    refine aR 3 ?_
    refine aE ?_
    exact oO hF [] [] rfl
  · refine awp_region ?_
    refine aX (x_nextE 0 qs vpos h1) ?_
    refine aR 1 ?_
    refine aE ?_
    refine awp_seq ?_
    refine awp_false (by kernel_rfl) rfl ?_
    refine awp_exit ?_
    exact oO hF [] [] rfl

def utf8_RuneCountInString_R (qs : List UInt8) (r : Int) : TV × Mem := (.v (.one (.d (.int .i64 r))), ⟨[], []⟩)

theorem utf8_RuneCountInString_ok {qs : List UInt8} {r} (hF : utf8_RuneCountInString qs = some r) : Holds prog 188 [.v (.one (.d (.str qs)))] ⟨[], []⟩ (Is (utf8_RuneCountInString_R qs r)) := by
  unfold utf8_RuneCountInString at hF
  refine holds_of_awp hΓ (fn := f188) (c := cB f188) (A := 0) (nx := 0) (by kernel_rfl) (by kernel_rfl) (by kernel_rfl) (by kernel_rfl) (by kernel_rfl) (by kernel_rfl) (lowc_of (by kernel_rfl)) ?_
  show Awp prog 0 10 (cB f188) _ _
  refine awp_seq ?_
  refine awp_region ?_
  refine aR 1 ?_
  refine aE ?_
  refine awp_seq ?_
  refine awp_seq ?_
  refine awp_region ?_
  refine aR 2 ?_
  refine aE ?_
  refine awp_block ?_
  refine awp_to (st' := utf8_RuneCountInString_x1_H qs ((0 : Nat), 0)) (oT [(0, 2000)] []) ?_
  refine bE hF fun vn1_1 h3 hF => ?_
  refine awp_sub (awp_loop' (utf8_RuneCountInString_x1_H qs) utf8_RuneCountInString_x1_k (utf8_RuneCountInString_x1_S qs) (by intro x; exact fun h => nomatch h) h3 (utf8_RuneCountInString_x1_ok qs)) ?_
  refine awp_seq ?_
  refine awp_region ?_
  refine aR 2 ?_
  refine aE ?_
  refine awp_ret ?_
  exact oF hF [] []

/-! ### unicode/utf8.decodeRuneInStringSlow -/
def utf8_decodeRuneInStringSlow_R (qx : List UInt8) (r : Unit) : TV × Mem := (.tup [.one (.d (.int .i32 65533)), .one (.d (.int .i64 0))], ⟨[], []⟩)

theorem utf8_decodeRuneInStringSlow_ok {qx : List UInt8} {r} (hF : utf8_decodeRuneInStringSlow qx = some r) : Holds prog 209 [.v (.one (.d (.str qx)))] ⟨[], []⟩ (Is (utf8_decodeRuneInStringSlow_R qx r)) := by
  unfold utf8_decodeRuneInStringSlow at hF
  refine holds_of_awp hΓ (fn := f209) (c := cB f209) (A := 0) (nx := 0) (by kernel_rfl) (by kernel_rfl) (by kernel_rfl) (by kernel_rfl) (by kernel_rfl) (by kernel_rfl) (lowc_of (by kernel_rfl)) ?_
  show Awp prog 0 117 (cB f209) _ _
  refine awp_seq ?_
  refine awp_region ?_
  refine aR 2 ?_
  refine aE ?_
  refine awp_seq ?_
  refine awp_region ?_
  refine aR 3 ?_
  refine aE ?_
  refine awp_seq ?_
  refine awp_seq ?_
  refine awp_region ?_
  refine aR 2 ?_
  refine aE ?_
  refine cE hF (fun h1 hF => ?_) fun h1 hF => ?_
  · refine awp_true (by kernel_rfl) h1 ?_
    refine awp_seq ?_
    refine awp_region ?_
    refine aR 2 ?_
    refine aE ?_
    refine awp_ret ?_
    exact oF hF [] []
  · refine awp_false (by kernel_rfl) h1 ?_
    refine awp_skip ?_
    refine awp_seq ?_
    refine bE hF fun vc h2 hF => ?_
    refine awp_region ?_
    refine aR 1 ?_
    refine aX (x_idxS h2) ?_
    refine aR 1 ?_
    refine aE ?_
    refine awp_seq ?_
    exact nE hF

/-! ### unicode/utf8.DecodeRuneInString -/
def utf8_DecodeRuneInString_x1_k : Bool → AEx
  | _ => .normal

def utf8_DecodeRuneInString_x1_S (qs : List UInt8) : Bool → St
  | vx => Mem.st ⟨[], []⟩ (tl [(0, .v (.one (.d (.str qs)))), (10, .v (.one (.d (.bool vx))))]) 0

def utf8_DecodeRuneInString_x1_I (qs : List UInt8) : St := Mem.st ⟨[], []⟩ (tl [(0, .v (.one (.d (.str qs))))]) 0

theorem utf8_DecodeRuneInString_x1_ok (qs : List UInt8) {r} (hF : utf8_DecodeRuneInString_x1 qs = some r) : Awp prog 0 19 (cL (cL (cR (cB f189)))) (Out 0 utf8_DecodeRuneInString_x1_k (utf8_DecodeRuneInString_x1_S qs) r) (utf8_DecodeRuneInString_x1_I qs) := by
  unfold utf8_DecodeRuneInString_x1 at hF
  refine cE hF (fun h1 hF => ?_) fun h1 hF => ?_
  · refine bE hF fun vc h2 hF => ?_
    refine awp_region ?_
    refine aR 1 ?_
    refine aB h1 ?_
    refine aR 2 ?_
    refine aX (x_idxS h2) ?_
    refine aR 2 ?_
    refine aE ?_
    exact oO hF [] [] rfl
  · refine awp_region ?_
    refine aR 1 ?_
    refine aB h1 ?_
    refine aR 5 ?_
    refine aE ?_
    exact oO hF [] [] rfl

def utf8_DecodeRuneInString_R (qs : List UInt8) (r : Int × Int) : TV × Mem := (.tup [.one (.d (.int .i32 r.1)), .one (.d (.int .i64 r.2))], ⟨[], []⟩)

theorem utf8_DecodeRuneInString_ok {qs : List UInt8} {r} (hF : utf8_DecodeRuneInString qs = some r) : Holds prog 189 [.v (.one (.d (.str qs)))] ⟨[], []⟩ (Is (utf8_DecodeRuneInString_R qs r)) := by
  unfold utf8_DecodeRuneInString at hF
  refine holds_of_awp hΓ (fn := f189) (c := cB f189) (A := 0) (nx := 0) (by kernel_rfl) (by kernel_rfl) (by kernel_rfl) (by kernel_rfl) (by kernel_rfl) (by kernel_rfl) (lowc_of (by kernel_rfl)) ?_
  show Awp prog 0 19 (cB f189) _ _
  refine awp_seq ?_
  refine awp_region ?_
  refine aR 2 ?_
  refine aE ?_
  refine awp_seq ?_
  refine awp_seq ?_
  refine awp_to (st' := utf8_DecodeRuneInString_x1_I qs) (oT [] []) ?_
  refine bE hF fun vx1 h3 hF => ?_
  refine awp_sub (utf8_DecodeRuneInString_x1_ok qs h3) ?_
  refine cE hF (fun h4 hF => ?_) fun h4 hF => ?_
  · refine awp_true (by kernel_rfl) h4 ?_
    refine awp_seq ?_
    refine bE hF fun vc1 h5 hF => ?_
    refine awp_region ?_
    refine aR 1 ?_
    refine aX (x_idxS h5) ?_
    refine aR 3 ?_
    refine aE ?_
    refine awp_ret ?_
    exact oF hF [] []
  · refine awp_false (by kernel_rfl) h4 ?_
    refine bE hF fun _ h6 hF => ?_
    refine awp_region ?_
    refine aR 1 ?_
    refine aC (utf8_decodeRuneInStringSlow_ok h6) [] [] [] ?_
    refine aR 5 ?_
    refine aE ?_
    refine awp_ret ?_
    exact oF hF [] []

/-! ### strings.explode -/
def strings_explode_x2_k : Bool → AEx
  | _ => .normal

def strings_explode_x2_S (qs : List UInt8) (qn : Int) (vr : Int) : Bool → St
  | vx => Mem.st ⟨[], []⟩ (tl [(0, .v (.one (.d (.str qs)))), (1, .v (.one (.d (.int .i64 qn)))), (5, .v (.one (.d (.int .i64 vr)))), (18, .v (.one (.d (.bool vx))))]) 0

def strings_explode_x2_I (qs : List UInt8) (qn : Int) (vr : Int) : St := Mem.st ⟨[], []⟩ (tl [(0, .v (.one (.d (.str qs)))), (1, .v (.one (.d (.int .i64 qn)))), (5, .v (.one (.d (.int .i64 vr))))]) 0

theorem strings_explode_x2_ok (qs : List UInt8) (qn : Int) (vr : Int) {r} (hF : strings_explode_x2 qn vr = some r) : Awp prog 0 50 (cL (cL (cR (cR (cB f162))))) (Out 0 strings_explode_x2_k (strings_explode_x2_S qs qn vr) r) (strings_explode_x2_I qs qn vr) := by
  unfold strings_explode_x2 at hF
  refine cE hF (fun h2 hF => ?_) fun h2 hF => ?_
  · refine awp_region ?_
    refine aR 1 ?_
    refine aB h2 ?_
    refine aR 5 ?_
    refine aE ?_
    exact oO hF [] [] rfl
  · refine awp_region ?_
    refine aR 1 ?_
    refine aB h2 ?_
    refine aR 5 ?_
    refine aE ?_
    exact oO hF [] [] rfl

def strings_explode_x1_k : Int → AEx
  | _ => .normal

def strings_explode_x1_S (qs : List UInt8) (qn : Int) (vr : Int) : Int → St
  | vn => Mem.st ⟨[], []⟩ (tl [(0, .v (.one (.d (.str qs)))), (1, .v (.one (.d (.int .i64 vn))))]) 0

def strings_explode_x1_I (qs : List UInt8) (qn : Int) (vr : Int) : St := Mem.st ⟨[], []⟩ (tl [(0, .v (.one (.d (.str qs)))), (1, .v (.one (.d (.int .i64 qn)))), (5, .v (.one (.d (.int .i64 vr))))]) 0

theorem strings_explode_x1_ok (qs : List UInt8) (qn : Int) (vr : Int) {r} (hF : strings_explode_x1 qn vr = some r) : Awp prog 0 50 (cL (cR (cR (cB f162)))) (Out 0 strings_explode_x1_k (strings_explode_x1_S qs qn vr) r) (strings_explode_x1_I qs qn vr) := by
  unfold strings_explode_x1 at hF
  refine awp_seq ?_
  refine awp_to (st' := strings_explode_x2_I qs qn vr) (oT [] []) ?_
  refine bE hF fun vx1 h3 hF => ?_
  refine awp_sub (strings_explode_x2_ok qs qn vr h3) ?_
  refine cE hF (fun h4 hF => ?_) fun h4 hF => ?_
  · refine awp_true (by kernel_rfl) h4 ?_
    refine awp_region ?_
    refine aR 2 ?_
    refine aE ?_
    exact oO hF [] [] rfl
  · refine awp_false (by kernel_rfl) h4 ?_
    refine awp_skip ?_
    exact oO hF [] [] rfl

def strings_explode_x3_k : ((List UInt8) × (List (List UInt8))) → AEx
  | _ => .exit 0

def strings_explode_x3_S (vn1 : Int) : ((List UInt8) × (List (List UInt8))) → St
  | (vs5, va1) => Mem.st ⟨[(0, ⟨9, 1, List.map encS va1⟩)], []⟩ (tl [(0, .v (.one (.d (.str vs5)))), (1, .v (.one (.d (.int .i64 vn1)))), (6, .v (.one (.own 0 none)))]) 1

def strings_explode_x3_H (vn1 : Int) : (List UInt8) × (List (List UInt8)) × Int → St
  | (vs, va, vi) => Mem.st ⟨[(0, ⟨9, 1, List.map encS va⟩)], []⟩ (tl [(0, .v (.one (.d (.str vs)))), (1, .v (.one (.d (.int .i64 vn1)))), (6, .v (.one (.own 0 none))), (7, .v (.one (.d (.int .i64 vi))))]) 1

theorem strings_explode_x3_ok (vn1 : Int) (s : (List UInt8) × (List (List UInt8)) × Int) (r : ((List UInt8) × (List (List UInt8)) × Int) ⊕ (((List UInt8) × (List (List UInt8))))) (hF : strings_explode_x3 vn1 s = some r) : Awp prog 0 50 (cL (cL (cR (cL (cR (cR (cR (cR (cB f162))))))))) (Out 0 (kk strings_explode_x3_k) (SS (strings_explode_x3_H vn1) (strings_explode_x3_S vn1)) r) (strings_explode_x3_H vn1 s) := by
  obtain ⟨vs, va, vi⟩ := s
  unfold strings_explode_x3 at hF
  refine awp_seq ?_
  refine awp_seq ?_
  refine awp_region ?_
  refine aR 4 ?_
  refine aE ?_
  refine cE hF (fun h7 hF => ?_) fun h7 hF => ?_
  · refine awp_true (by kernel_rfl) h7 ?_
    refine awp_skip ?_
    refine awp_seq ?_
    refine awp_block ?_
    refine awp_seq ?_
    refine bE hF fun x h8 hF => ?_
    obtain ⟨vr2, vr1_2⟩ := x
    refine awp_region ?_
    refine aR 1 ?_
    refine aC (utf8_DecodeRuneInString_ok h8) [] [] [] ?_
    refine aR 5 ?_
    refine aE ?_
    refine awp_seq ?_
    refine bE hF fun vs3 h9 hF => ?_
    refine bE hF fun vy1 h10 hF => ?_
    refine awp_region ?_
    refine aR 4 ?_
    refine aX (x_sliceS h9) ?_
    refine aX (x_idxO encS 0 h10) ?_
    refine aX (x_stE encS vs3 h10) ?_
    refine aE ?_
    refine bE hF fun vs4 h11 hF => ?_
    refine awp_region ?_
    refine aR 2 ?_
    refine aX (x_sliceS h11) ?_
    refine aR 1 ?_
    refine aE ?_
    refine awp_region ?_
    refine aR 3 ?_
    refine aE ?_
    exact oO hF [] [] rfl
  · refine awp_false (by kernel_rfl) h7 ?_
    refine awp_exit ?_
    exact oO hF [] [] rfl

def strings_explode_x4_k : (List (List UInt8)) → AEx
  | _ => .normal

def strings_explode_x4_S (vn1 : Int) (vs5_1 : List UInt8) (va1_1 : List (List UInt8)) : (List (List UInt8)) → St
  | va2 => Mem.st ⟨[(0, ⟨9, 1, List.map encS va2⟩)], []⟩ (tl [(6, .v (.one (.own 0 none)))]) 1

def strings_explode_x4_I (vn1 : Int) (vs5_1 : List UInt8) (va1_1 : List (List UInt8)) : St := Mem.st ⟨[(0, ⟨9, 1, List.map encS va1_1⟩)], []⟩ (tl [(0, .v (.one (.d (.str vs5_1)))), (1, .v (.one (.d (.int .i64 vn1)))), (6, .v (.one (.own 0 none)))]) 1

theorem strings_explode_x4_ok (vn1 : Int) (vs5_1 : List UInt8) (va1_1 : List (List UInt8)) {r} (hF : strings_explode_x4 vn1 vs5_1 va1_1 = some r) : Awp prog 0 50 (cL (cR (cR (cR (cR (cR (cB f162))))))) (Out 0 strings_explode_x4_k (strings_explode_x4_S vn1 vs5_1 va1_1) r) (strings_explode_x4_I vn1 vs5_1 va1_1) := by
  unfold strings_explode_x4 at hF
  refine awp_seq ?_
  refine awp_region ?_
  refine aR 2 ?_
  refine aE ?_
  refine cE hF (fun h13 hF => ?_) fun h13 hF => ?_
  · refine awp_true (by kernel_rfl) h13 ?_
    refine bE hF fun vy2 h14 hF => ?_
    refine awp_region ?_
    refine aR 4 ?_
    refine aX (x_idxO encS 0 h14) ?_
    refine aX (x_stE encS vs5_1 h14) ?_
    refine aE ?_
    exact oO hF [] [] rfl
  · refine awp_false (by kernel_rfl) h13 ?_
    refine awp_skip ?_
    exact oO hF [] [] rfl

def strings_explode_R (qs : List UInt8) (qn : Int) (r : (List (List UInt8))) : TV × Mem := (.v (.one (.own 0 none)), ⟨[(0, ⟨9, 1, List.map encS r⟩)], []⟩)

theorem strings_explode_ok {qs : List UInt8} {qn : Int} {r} (hF : strings_explode qs qn = some r) : Holds prog 162 [.v (.one (.d (.str qs))), .v (.one (.d (.int .i64 qn)))] ⟨[], []⟩ (Is (strings_explode_R qs qn r)) := by
  unfold strings_explode at hF
  refine holds_of_awp hΓ (fn := f162) (c := cB f162) (A := 0) (nx := 0) (by kernel_rfl) (by kernel_rfl) (by kernel_rfl) (by kernel_rfl) (by kernel_rfl) (by kernel_rfl) (lowc_of (by kernel_rfl)) ?_
  show Awp prog 0 50 (cB f162) _ _
  refine awp_seq ?_
  refine awp_region ?_
  refine aR 1 ?_
  refine aE ?_
  refine awp_seq ?_
  refine bE hF fun vr h1 hF => ?_
  refine awp_region ?_
  refine aR 1 ?_
  refine aC (utf8_RuneCountInString_ok h1) [] [] [] ?_
  refine aR 1 ?_
  refine aE ?_
  refine awp_seq ?_
  refine awp_to (st' := strings_explode_x1_I qs qn vr) (oT [] []) ?_
  refine bE hF fun vn1 h5 hF => ?_
  refine awp_sub (strings_explode_x1_ok qs qn vr h5) ?_
  refine awp_seq ?_
  refine gE hF fun h6 hF => ?_
  refine awp_region ?_
  refine aR 1 ?_
  refine aX (x_mk encS ([] : List UInt8) h6) ?_
  refine aR 1 ?_
  refine aE ?_
  refine awp_seq ?_
  refine awp_seq ?_
  refine awp_region ?_
  refine aR 1 ?_
  refine aE ?_
  refine awp_block ?_
  refine awp_to (st' := strings_explode_x3_H vn1 (qs, List.replicate vn1.toNat ([] : List UInt8), 0)) (oT [(0, 1000)] []) ?_
  refine bE hF fun x h12 hF => ?_
  obtain ⟨vs5_1, va1_1⟩ := x
  refine awp_sub (awp_loop' (strings_explode_x3_H vn1) strings_explode_x3_k (strings_explode_x3_S vn1) (by intro x; exact fun h => nomatch h) h12 (strings_explode_x3_ok vn1)) ?_
  refine awp_seq ?_
  refine awp_to (st' := strings_explode_x4_I vn1 vs5_1 va1_1) (oT [] []) ?_
  refine bE hF fun va2_1 h15 hF => ?_
  refine awp_sub (strings_explode_x4_ok vn1 vs5_1 va1_1 h15) ?_
  refine awp_seq ?_
  refine awp_region ?_
  refine aR 2 ?_
  refine aE ?_
  refine awp_ret ?_
  exact oF hF [] []

/-! ### strings.Index -/
def strings_Index_R (qs : List UInt8) (qsubstr : List UInt8) (r : Int) : TV × Mem := (.v (.one (.d (.int .i64 r))), ⟨[], []⟩)

theorem strings_Index_ok {qs : List UInt8} {qsubstr : List UInt8} {r} (hF : strings_Index qs qsubstr = some r) : Holds prog 164 [.v (.one (.d (.str qs))), .v (.one (.d (.str qsubstr)))] ⟨[], []⟩ (Is (strings_Index_R qs qsubstr r)) := by
  unfold strings_Index at hF
  refine holds_of_awp hΓ (fn := f164) (c := cB f164) (A := 0) (nx := 0) (by kernel_rfl) (by kernel_rfl) (by kernel_rfl) (by kernel_rfl) (by kernel_rfl) (by kernel_rfl) (lowc_of (by kernel_rfl)) ?_
  show Awp prog 0 8 (cB f164) _ _
  refine awp_seq ?_
  refine awp_region ?_
  refine aR 1 ?_
  refine aE ?_
  refine awp_seq ?_
  refine bE hF fun vr h1 hF => ?_
  refine awp_region ?_
  refine aR 2 ?_
  refine aC (stringslite_Index_ok h1) [] [] [] ?_
  refine aR 1 ?_
  refine aE ?_
  refine awp_ret ?_
  exact oF hF [] []

/-! ### strings.Count -/
def strings_Count_x1_k : Int → AEx
  | _ => .ret

def strings_Count_x1_S (qsubstr : List UInt8) : Int → St
  | vx => Mem.st ⟨[], []⟩ (tl [(4, .v (.one (.d (.int .i64 vx))))]) 0

def strings_Count_x1_H (qsubstr : List UInt8) : (List UInt8) × Int → St
  | (vs, vn) => Mem.st ⟨[], []⟩ (tl [(0, .v (.one (.d (.str vs)))), (1, .v (.one (.d (.str qsubstr)))), (5, .v (.one (.d (.int .i64 vn))))]) 0

theorem strings_Count_x1_ok (qsubstr : List UInt8) (s : (List UInt8) × Int) (r : ((List UInt8) × Int) ⊕ (Int)) (hF : strings_Count_x1 qsubstr s = some r) : Awp prog 0 34 (cL (cL (cR (cR (cR (cR (cB f163))))))) (Out 0 (kk strings_Count_x1_k) (SS (strings_Count_x1_H qsubstr) (strings_Count_x1_S qsubstr)) r) (strings_Count_x1_H qsubstr s) := by
  obtain ⟨vs, vn⟩ := s
  unfold strings_Count_x1 at hF
  refine awp_block ?_
  refine awp_seq ?_
  refine bE hF fun vr1_1 h5 hF => ?_
  refine awp_region ?_
  refine aR 2 ?_
  refine aC (strings_Index_ok h5) [] [] [] ?_
  refine aR 1 ?_
  refine aE ?_
  refine awp_seq ?_
  refine awp_seq ?_
  refine awp_region ?_
  refine aR 2 ?_
  refine aE ?_
  refine cE hF (fun h6 hF => ?_) fun h6 hF => ?_
  · refine awp_true (by kernel_rfl) h6 ?_
    refine awp_seq ?_
    refine awp_region ?_
    refine aR 2 ?_
    refine aE ?_
    refine awp_ret ?_
    exact oO hF [] [] rfl
  · refine awp_false (by kernel_rfl) h6 ?_
    refine awp_skip ?_
    refine awp_seq ?_
    refine awp_region ?_
    refine aR 3 ?_
    refine aE ?_
    refine bE hF fun vs2 h7 hF => ?_
    refine awp_region ?_
    refine aR 5 ?_
    refine aX (x_sliceS h7) ?_
    refine aR 1 ?_
    refine aE ?_
    exact oO hF [] [] rfl

def strings_Count_R (qs : List UInt8) (qsubstr : List UInt8) (r : Int) : TV × Mem := (.v (.one (.d (.int .i64 r))), ⟨[], []⟩)

theorem strings_Count_ok {qs : List UInt8} {qsubstr : List UInt8} {r} (hF : strings_Count qs qsubstr = some r) : Holds prog 163 [.v (.one (.d (.str qs))), .v (.one (.d (.str qsubstr)))] ⟨[], []⟩ (Is (strings_Count_R qs qsubstr r)) := by
  unfold strings_Count at hF
  refine holds_of_awp hΓ (fn := f163) (c := cB f163) (A := 0) (nx := 0) (by kernel_rfl) (by kernel_rfl) (by kernel_rfl) (by kernel_rfl) (by kernel_rfl) (by kernel_rfl) (lowc_of (by kernel_rfl)) ?_
  show Awp prog 0 34 (cB f163) _ _
  refine awp_seq ?_
  refine awp_region ?_
  refine aR 1 ?_
  refine aE ?_
  refine awp_seq ?_
  refine awp_seq ?_
  refine awp_region ?_
  refine aR 3 ?_
  refine aE ?_
  refine cE hF (fun h1 hF => ?_) fun h1 hF => ?_
  · refine awp_true (by kernel_rfl) h1 ?_
    refine awp_seq ?_
    refine bE hF fun vr h2 hF => ?_
    refine awp_region ?_
    refine aR 1 ?_
    refine aC (utf8_RuneCountInString_ok h2) [] [] [] ?_
    refine aR 2 ?_
    refine aE ?_
    refine awp_ret ?_
    exact oF hF [] []
  · refine awp_false (by kernel_rfl) h1 ?_
    refine awp_skip ?_
    refine awp_seq ?_
    refine awp_seq ?_
    refine awp_region ?_
    refine aR 3 ?_
    refine aE ?_
    refine cE hF (fun h3 hF => ?_) fun h3 hF => ?_
    · refine awp_true (by kernel_rfl) h3 ?_
      refine awp_seq ?_
      refine bE hF fun vc h4 hF => ?_
      refine awp_region ?_
      refine aR 2 ?_
      refine aX (x_idxS h4) ?_
      refine aS (does_count (g := 190) (fn := f190) (a := qs) (c := (vc.toNat : Int)) rfl (by kernel_rfl) (by kernel_rfl) (by kernel_rfl) (by kernel_rfl) (by kernel_rfl) (by kernel_rfl)) ?_
      refine aR 1 ?_
      refine aE ?_
      refine awp_ret ?_
      exact oF hF [] []
    · refine awp_false (by kernel_rfl) h3 ?_
      refine awp_skip ?_
      refine awp_seq ?_
      refine awp_region ?_
      refine aR 1 ?_
      refine aE ?_
      refine awp_block ?_
      refine awp_to (st' := strings_Count_x1_H qsubstr (qs, 0)) (oT [] []) ?_
      refine bE hF fun vx1 h8 hF => ?_
      refine awp_sub (awp_loop' (strings_Count_x1_H qsubstr) strings_Count_x1_k (strings_Count_x1_S qsubstr) (by intro x; exact fun h => nomatch h) h8 (strings_Count_x1_ok qsubstr)) ?_
      exact oF hF [] []

/-! ### strings.genSplit -/
def strings_genSplit_x1_k : Int → AEx
  | _ => .normal

def strings_genSplit_x1_S (qx : List UInt8) (qx1 : List UInt8) (qx2 : Int) (qx3 : Int) : Int → St
  | vx => Mem.st ⟨[], []⟩ (tl [(0, .v (.one (.d (.str qx)))), (1, .v (.one (.d (.str qx1)))), (2, .v (.one (.d (.int .i64 qx2)))), (3, .v (.one (.d (.int .i64 vx))))]) 0

def strings_genSplit_x1_I (qx : List UInt8) (qx1 : List UInt8) (qx2 : Int) (qx3 : Int) : St := Mem.st ⟨[], []⟩ (tl [(0, .v (.one (.d (.str qx)))), (1, .v (.one (.d (.str qx1)))), (2, .v (.one (.d (.int .i64 qx2)))), (3, .v (.one (.d (.int .i64 qx3))))]) 0

theorem strings_genSplit_x1_ok (qx : List UInt8) (qx1 : List UInt8) (qx2 : Int) (qx3 : Int) {r} (hF : strings_genSplit_x1 qx qx1 qx3 = some r) : Awp prog 0 66 (cL (cR (cR (cR (cB f127))))) (Out 0 strings_genSplit_x1_k (strings_genSplit_x1_S qx qx1 qx2 qx3) r) (strings_genSplit_x1_I qx qx1 qx2 qx3) := by
  unfold strings_genSplit_x1 at hF
  refine awp_seq ?_
  refine awp_region ?_
  refine aR 2 ?_
  refine aE ?_
  refine cE hF (fun h4 hF => ?_) fun h4 hF => ?_
  · refine awp_true (by kernel_rfl) h4 ?_
    refine bE hF fun vr2 h5 hF => ?_
    refine awp_region ?_
    refine aR 2 ?_
    refine aC (strings_Count_ok h5) [] [] [] ?_
    refine aR 2 ?_
    refine aE ?_
    exact oO hF [] [] rfl
  · refine awp_false (by kernel_rfl) h4 ?_
    refine awp_skip ?_
    exact oO hF [] [] rfl

def strings_genSplit_x2_k : ((List UInt8) × (List (List UInt8)) × Int) → AEx
  | _ => .exit 0

def strings_genSplit_x2_S (qx : List UInt8) (qx1 : List UInt8) (qx2 : Int) (vx1 : Int) : ((List UInt8) × (List (List UInt8)) × Int) → St
  | (vx5, vx6, vx7) => Mem.st ⟨[(0, ⟨9, 1, List.map encS vx6⟩)], []⟩ (tl [(0, .v (.one (.d (.str vx5)))), (9, .v (.one (.own 0 none))), (10, .v (.one (.d (.int .i64 vx7))))]) 1

def strings_genSplit_x2_H (qx : List UInt8) (qx1 : List UInt8) (qx2 : Int) (vx1 : Int) : (List UInt8) × (List (List UInt8)) × Int → St
  | (vx2, vx3, vx4) => Mem.st ⟨[(0, ⟨9, 1, List.map encS vx3⟩)], []⟩ (tl [(0, .v (.one (.d (.str vx2)))), (1, .v (.one (.d (.str qx1)))), (2, .v (.one (.d (.int .i64 qx2)))), (3, .v (.one (.d (.int .i64 (IntKind.wrap .i64 ((imin vx1 (IntKind.wrap .i64 ((qx.length : Int) + 1))) - 1)))))), (9, .v (.one (.own 0 none))), (10, .v (.one (.d (.int .i64 vx4))))]) 1

theorem strings_genSplit_x2_ok (qx : List UInt8) (qx1 : List UInt8) (qx2 : Int) (vx1 : Int) (s : (List UInt8) × (List (List UInt8)) × Int) (r : ((List UInt8) × (List (List UInt8)) × Int) ⊕ (((List UInt8) × (List (List UInt8)) × Int))) (hF : strings_genSplit_x2 qx qx1 qx2 vx1 s = some r) : Awp prog 0 66 (cL (cL (cL (cR (cR (cR (cR (cR (cR (cR (cR (cB f127)))))))))))) (Out 0 (kk strings_genSplit_x2_k) (SS (strings_genSplit_x2_H qx qx1 qx2 vx1) (strings_genSplit_x2_S qx qx1 qx2 vx1)) r) (strings_genSplit_x2_H qx qx1 qx2 vx1 s) := by
  obtain ⟨vx2, vx3, vx4⟩ := s
  unfold strings_genSplit_x2 at hF
  refine awp_seq ?_
  refine awp_seq ?_
  refine awp_region ?_
  refine aR 3 ?_
  refine aE ?_
  refine cE hF (fun h8 hF => ?_) fun h8 hF => ?_
  · refine awp_true (by kernel_rfl) h8 ?_
    refine awp_skip ?_
    refine awp_block ?_
    refine awp_seq ?_
    refine bE hF fun vr1_1 h9 hF => ?_
    refine awp_region ?_
    refine aR 2 ?_
    refine aC (strings_Index_ok h9) [] [] [] ?_
    refine aR 1 ?_
    refine aE ?_
    refine awp_seq ?_
    refine awp_seq ?_
    refine awp_region ?_
    refine aR 2 ?_
    refine aE ?_
    refine cE hF (fun h10 hF => ?_) fun h10 hF => ?_
    · refine awp_true (by kernel_rfl) h10 ?_
      refine awp_exit ?_
      exact oO hF [] [] rfl
    · refine awp_false (by kernel_rfl) h10 ?_
      refine awp_skip ?_
      refine awp_seq ?_
      refine bE hF fun vs2 h11 hF => ?_
      refine bE hF fun vy1 h12 hF => ?_
      refine awp_region ?_
      refine aR 6 ?_
      refine aX (x_sliceS h11) ?_
      refine aX (x_idxO encS 0 h12) ?_
      refine aX (x_stE encS vs2 h12) ?_
      refine aE ?_
      refine awp_seq ?_
      refine bE hF fun vs3 h13 hF => ?_
      refine awp_region ?_
      refine aR 5 ?_
      refine aX (x_sliceS h13) ?_
      refine aR 1 ?_
      refine aE ?_
      refine awp_region ?_
      refine aR 3 ?_
      refine aE ?_
      exact oO hF [] [] rfl
  · refine awp_false (by kernel_rfl) h8 ?_
    refine awp_exit ?_
    exact oO hF [] [] rfl

def strings_genSplit_R (qx : List UInt8) (qx1 : List UInt8) (qx2 : Int) (qx3 : Int) (r : (List (List UInt8))) : TV × Mem := (.v (.one (.own 0 none)), ⟨[(0, ⟨9, 1, List.map encS r⟩)], []⟩)

theorem strings_genSplit_ok {qx : List UInt8} {qx1 : List UInt8} {qx2 : Int} {qx3 : Int} {r} (hF : strings_genSplit qx qx1 qx2 qx3 = some r) : Holds prog 127 [.v (.one (.d (.str qx))), .v (.one (.d (.str qx1))), .v (.one (.d (.int .i64 qx2))), .v (.one (.d (.int .i64 qx3)))] ⟨[], []⟩ (Is (strings_genSplit_R qx qx1 qx2 qx3 r)) := by
  unfold strings_genSplit at hF
  refine holds_of_awp hΓ (fn := f127) (c := cB f127) (A := 0) (nx := 0) (by kernel_rfl) (by kernel_rfl) (by kernel_rfl) (by kernel_rfl) (by kernel_rfl) (by kernel_rfl) (lowc_of (by kernel_rfl)) ?_
  show Awp prog 0 66 (cB f127) _ _
  refine awp_seq ?_
  refine awp_region ?_
  refine aR 1 ?_
  refine aE ?_
  refine awp_seq ?_
  refine awp_seq ?_
  refine awp_region ?_
  refine aR 2 ?_
  refine aE ?_
  refine cE hF (fun h1 hF => ?_) fun h1 hF => ?_
  · refine awp_true (by kernel_rfl) h1 ?_
    refine awp_seq ?_
    refine awp_region ?_
    refine aR 1 ?_
    refine aE ?_
    refine awp_ret ?_
    exact oF hF [] [0]
  · refine awp_false (by kernel_rfl) h1 ?_
    refine awp_skip ?_
    refine awp_seq ?_
    refine awp_seq ?_
    refine awp_region ?_
    refine aR 2 ?_
    refine aE ?_
    refine cE hF (fun h2 hF => ?_) fun h2 hF => ?_
    · refine awp_true (by kernel_rfl) h2 ?_
      refine awp_seq ?_
      refine bE hF fun vr3 h3 hF => ?_
      refine awp_region ?_
      refine aR 2 ?_
      refine aC (strings_explode_ok h3) [] [] [] ?_
      refine aR 1 ?_
      refine aE ?_
      refine awp_ret ?_
      exact oF hF [(0, 7000)] []
    · refine awp_false (by kernel_rfl) h2 ?_
      refine awp_skip ?_
      refine awp_seq ?_
      refine awp_to (st' := strings_genSplit_x1_I qx qx1 qx2 qx3) (oT [] []) ?_
      refine bE hF fun vx1 h6 hF => ?_
      refine awp_sub (strings_genSplit_x1_ok qx qx1 qx2 qx3 h6) ?_
      refine awp_seq ?_
      refine awp_region ?_
      refine aR 6 ?_
      refine aE ?_
      refine awp_seq ?_
      refine gE hF fun h7 hF => ?_
      refine awp_region ?_
      refine aR 1 ?_
      refine aX (x_mk encS ([] : List UInt8) h7) ?_
      refine aR 1 ?_
      refine aE ?_
      refine awp_seq ?_
      refine awp_region ?_
      refine aR 3 ?_
      refine aE ?_
      refine awp_seq ?_
      refine awp_region ?_
      refine aR 1 ?_
      refine aE ?_
      refine awp_seq ?_
      refine awp_block ?_
      refine awp_to (st' := strings_genSplit_x2_H qx qx1 qx2 vx1 (qx, List.replicate (imin vx1 (IntKind.wrap .i64 ((qx.length : Int) + 1))).toNat ([] : List UInt8), 0)) (oT [(0, 7000)] []) ?_
      refine bE hF fun x h14 hF => ?_
      obtain ⟨vx5_1, vx6_1, vx7_1⟩ := x
      refine awp_sub (awp_loop' (strings_genSplit_x2_H qx qx1 qx2 vx1) strings_genSplit_x2_k (strings_genSplit_x2_S qx qx1 qx2 vx1) (by intro x; exact fun h => nomatch h) h14 (strings_genSplit_x2_ok qx qx1 qx2 vx1)) ?_
      refine awp_seq ?_
      refine bE hF fun vy2 h15 hF => ?_
      refine awp_region ?_
      refine aR 3 ?_
      refine aX (x_idxO encS 0 h15) ?_
      refine aX (x_stE encS vx5_1 h15) ?_
      refine aE ?_
      refine awp_seq ?_
      refine gE hF fun h16 hF => ?_
      refine awp_region ?_
      refine aR 3 ?_
      refine aT encS 0 h16 rfl ?_
      refine aR 1 ?_
      refine aE ?_
      refine awp_ret ?_
      exact oF hF [(0, 8001)] []

/-! ### strings.Split -/
def strings_Split_R (qs : List UInt8) (qsep : List UInt8) (r : (List (List UInt8))) : TV × Mem := (.v (.one (.own 0 none)), ⟨[(0, ⟨9, 1, List.map encS r⟩)], []⟩)

theorem strings_Split_ok {qs : List UInt8} {qsep : List UInt8} {r} (hF : strings_Split qs qsep = some r) : Holds prog 77 [.v (.one (.d (.str qs))), .v (.one (.d (.str qsep)))] ⟨[], []⟩ (Is (strings_Split_R qs qsep r)) := by
  unfold strings_Split at hF
  refine holds_of_awp hΓ (fn := f77) (c := cB f77) (A := 0) (nx := 0) (by kernel_rfl) (by kernel_rfl) (by kernel_rfl) (by kernel_rfl) (by kernel_rfl) (by kernel_rfl) (lowc_of (by kernel_rfl)) ?_
  show Awp prog 0 8 (cB f77) _ _
  refine awp_seq ?_
  refine awp_region ?_
  refine aR 1 ?_
  refine aE ?_
  refine awp_seq ?_
  refine bE hF fun vr h1 hF => ?_
  refine awp_region ?_
  refine aR 2 ?_
  refine aC (strings_genSplit_ok h1) [] [] [] ?_
  refine aR 1 ?_
  refine aE ?_
  refine awp_ret ?_
  exact oF hF [(0, 3000)] []

/-! ### beaconfleet/fleetref2.in -/
def fleetref2_in_x1_k : Bool → AEx
  | _ => .normal

def fleetref2_in_x1_S (qn : Int) (qlow : Int) (qhigh : Int) : Bool → St
  | vx => Mem.st ⟨[], []⟩ (tl [(6, .v (.one (.d (.bool vx))))]) 0

def fleetref2_in_x1_I (qn : Int) (qlow : Int) (qhigh : Int) : St := Mem.st ⟨[], []⟩ (tl [(0, .v (.one (.d (.int .i64 qn)))), (1, .v (.one (.d (.int .i64 qlow)))), (2, .v (.one (.d (.int .i64 qhigh))))]) 0

theorem fleetref2_in_x1_ok (qn : Int) (qlow : Int) (qhigh : Int) {r} (hF : fleetref2_in_x1 qn qlow qhigh = some r) : Awp prog 0 15 (cL (cR (cB f109))) (Out 0 fleetref2_in_x1_k (fleetref2_in_x1_S qn qlow qhigh) r) (fleetref2_in_x1_I qn qlow qhigh) := by
  unfold fleetref2_in_x1 at hF
  refine cE hF (fun h1 hF => ?_) fun h1 hF => ?_
  · refine awp_region ?_
    refine aR 2 ?_
    refine aB h1 ?_
    refine aR 6 ?_
    refine aE ?_
    exact oO hF [] [] rfl
  · refine awp_region ?_
    refine aR 2 ?_
    refine aB h1 ?_
    refine aR 6 ?_
    refine aE ?_
    exact oO hF [] [] rfl

def fleetref2_in_R (qn : Int) (qlow : Int) (qhigh : Int) (r : Bool) : TV × Mem := (.v (.one (.d (.bool r))), ⟨[], []⟩)

theorem fleetref2_in_ok {qn : Int} {qlow : Int} {qhigh : Int} {r} (hF : fleetref2_in qn qlow qhigh = some r) : Holds prog 109 [.v (.one (.d (.int .i64 qn))), .v (.one (.d (.int .i64 qlow))), .v (.one (.d (.int .i64 qhigh)))] ⟨[], []⟩ (Is (fleetref2_in_R qn qlow qhigh r)) := by
  unfold fleetref2_in at hF
  refine holds_of_awp hΓ (fn := f109) (c := cB f109) (A := 0) (nx := 0) (by kernel_rfl) (by kernel_rfl) (by kernel_rfl) (by kernel_rfl) (by kernel_rfl) (by kernel_rfl) (lowc_of (by kernel_rfl)) ?_
  show Awp prog 0 15 (cB f109) _ _
  refine awp_seq ?_
  refine awp_region ?_
  refine aR 1 ?_
  refine aE ?_
  refine awp_seq ?_
  refine awp_to (st' := fleetref2_in_x1_I qn qlow qhigh) (oT [] []) ?_
  refine bE hF fun vx1 h2 hF => ?_
  refine awp_sub (fleetref2_in_x1_ok qn qlow qhigh h2) ?_
  refine awp_ret ?_
  exact oF hF [] []

/-! ### strings.IndexByte -/
def strings_IndexByte_R (qs : List UInt8) (qc : Int) (r : Unit) : TV × Mem := (.v (.one (.d (.int .i64 (Lib.indexByte qs qc.toNat.toUInt8)))), ⟨[], []⟩)

theorem strings_IndexByte_ok {qs : List UInt8} {qc : Int} {r} (hF : strings_IndexByte qs qc = some r) : Holds prog 165 [.v (.one (.d (.str qs))), .v (.one (.d (.int .u8 qc)))] ⟨[], []⟩ (Is (strings_IndexByte_R qs qc r)) := by
  unfold strings_IndexByte at hF
  refine holds_of_awp hΓ (fn := f165) (c := cB f165) (A := 0) (nx := 0) (by kernel_rfl) (by kernel_rfl) (by kernel_rfl) (by kernel_rfl) (by kernel_rfl) (by kernel_rfl) (lowc_of (by kernel_rfl)) ?_
  show Awp prog 0 8 (cB f165) _ _
  refine awp_seq ?_
  refine awp_region ?_
  refine aR 1 ?_
  refine aE ?_
  refine awp_seq ?_
  refine bE hF fun _ h1 hF => ?_
  refine awp_region ?_
  refine aR 2 ?_
  refine aC (stringslite_IndexByte_ok h1) [] [] [] ?_
  refine aR 1 ?_
  refine aE ?_
  refine awp_ret ?_
  exact oF hF [] []

/-! ### beaconfleet/fleetref2.only -/
def fleetref2_only_x1_k : Unit ⊕ Unit → AEx
  | .inl _ => .exit 0
  | .inr _ => .ret

def fleetref2_only_x1_S (qs : List UInt8) (qsome : List UInt8) : Unit ⊕ Unit → St
  | .inl _ => Mem.st ⟨[], []⟩ (tl []) 0
  | .inr _ => Mem.st ⟨[], []⟩ (tl [(4, .v (.one (.d (.bool false))))]) 0

def fleetref2_only_x1_H (qs : List UInt8) (qsome : List UInt8) : Int → St
  | vx => Mem.st ⟨[], []⟩ (tl [(0, .v (.one (.d (.str qs)))), (1, .v (.one (.d (.str qsome)))), (7, .v (.one (.d (.int .i64 (qs.length : Int))))), (8, .v (.one (.d (.int .i64 vx))))]) 0

theorem fleetref2_only_x1_ok (qs : List UInt8) (qsome : List UInt8) (vx : Int) (r : (Int) ⊕ (Unit ⊕ Unit)) (hF : fleetref2_only_x1 qs qsome vx = some r) : Awp prog 0 18 (cL (cL (cR (cL (cR (cB f129)))))) (Out 0 (kk fleetref2_only_x1_k) (SS (fleetref2_only_x1_H qs qsome) (fleetref2_only_x1_S qs qsome)) r) (fleetref2_only_x1_H qs qsome vx) := by
  unfold fleetref2_only_x1 at hF
  refine awp_seq ?_
  refine awp_region ?_
  refine aR 1 ?_
  refine aE ?_
  refine awp_seq ?_
  refine cE hF (fun h1 hF => ?_) fun h1 hF => ?_
  · refine awp_true (by kernel_rfl) h1 ?_
    refine awp_skip ?_
    refine awp_seq ?_
    refine awp_block ?_
    refine awp_seq ?_
    refine awp_region ?_
    refine aR 2 ?_
    refine aE ?_
    refine awp_seq ?_
    refine bE hF fun vc1 h2 hF => ?_
    refine bE hF fun _ h3 hF => ?_
    refine awp_region ?_
    refine aR 3 ?_
    refine aX (x_idxS h2) ?_
    refine aC (strings_IndexByte_ok h3) [] [] [] ?_
    refine aR 1 ?_
    refine aE ?_
    refine cE hF (fun h4 hF => ?_) fun h4 hF => ?_
    · refine awp_true (by kernel_rfl) h4 ?_
      refine awp_seq ?_
      refine awp_region ?_
      refine aR 1 ?_
      refine aE ?_
      refine awp_ret ?_
      exact oO hF [] [] rfl
    · refine awp_false (by kernel_rfl) h4 ?_
      refine awp_skip ?_
      refine awp_region ?_
      refine aR 2 ?_
      refine aE ?_
      exact oO hF [] [] rfl
  · refine awp_false (by kernel_rfl) h1 ?_
    refine awp_exit ?_
    exact oO hF [] [] rfl

def fleetref2_only_R (qs : List UInt8) (qsome : List UInt8) (r : Bool) : TV × Mem := (.v (.one (.d (.bool r))), ⟨[], []⟩)

theorem fleetref2_only_ok {qs : List UInt8} {qsome : List UInt8} {r} (hF : fleetref2_only qs qsome = some r) : Holds prog 129 [.v (.one (.d (.str qs))), .v (.one (.d (.str qsome)))] ⟨[], []⟩ (Is (fleetref2_only_R qs qsome r)) := by
  unfold fleetref2_only at hF
  refine holds_of_awp hΓ (fn := f129) (c := cB f129) (A := 0) (nx := 0) (by kernel_rfl) (by kernel_rfl) (by kernel_rfl) (by kernel_rfl) (by kernel_rfl) (by kernel_rfl) (lowc_of (by kernel_rfl)) ?_
  show Awp prog 0 18 (cB f129) _ _
  refine awp_seq ?_
  refine awp_region ?_
  refine aR 1 ?_
  refine aE ?_
  refine awp_seq ?_
  refine awp_seq ?_
  refine awp_region ?_
  refine aR 3 ?_
  refine aE ?_
  refine awp_block ?_
  refine awp_to (st' := fleetref2_only_x1_H qs qsome 0) (oT [] []) ?_
  refine bE hF fun x h5 hF => ?_
  rcases x with _ | _
  · refine awp_sub (awp_loop' (fleetref2_only_x1_H qs qsome) fleetref2_only_x1_k (fleetref2_only_x1_S qs qsome) (by intro x; rcases x with x | x <;> exact fun h => nomatch h) h5 (fleetref2_only_x1_ok qs qsome)) ?_
    refine awp_seq ?_
    refine awp_region ?_
    refine aR 1 ?_
    refine aE ?_
    refine awp_ret ?_
    exact oF hF [] []
  · refine awp_sub (awp_loop' (fleetref2_only_x1_H qs qsome) fleetref2_only_x1_k (fleetref2_only_x1_S qs qsome) (by intro x; rcases x with x | x <;> exact fun h => nomatch h) h5 (fleetref2_only_x1_ok qs qsome)) ?_
    exact oF hF [] []

/-! ### beaconfleet/fleetref2.Key -/
def fleetref2_Key_x1_k : Bool → AEx
  | _ => .normal

def fleetref2_Key_x1_S (qs : List UInt8) : Bool → St
  | vx => Mem.st ⟨[], []⟩ (tl [(2, .v (.one (.d (.bool vx))))]) 0

def fleetref2_Key_x1_I (qs : List UInt8) : St := Mem.st ⟨[], []⟩ (tl [(0, .v (.one (.d (.str qs))))]) 0

theorem fleetref2_Key_x1_ok (qs : List UInt8) {r} (hF : fleetref2_Key_x1 qs = some r) : Awp prog 0 15 (cL (cR (cB f80))) (Out 0 fleetref2_Key_x1_k (fleetref2_Key_x1_S qs) r) (fleetref2_Key_x1_I qs) := by
  unfold fleetref2_Key_x1 at hF
  refine bE hF fun vr h1 hF => ?_
  refine cE hF (fun h2 hF => ?_) fun h2 hF => ?_
  · refine bE hF fun vs h3 hF => ?_
    refine bE hF fun vr1 h4 hF => ?_
    refine cE hF (fun h5 hF => ?_) fun h5 hF => ?_
    · refine bE hF fun vr2 h6 hF => ?_
      refine awp_region ?_
      refine aR 2 ?_
      refine aCb (fleetref2_in_ok h1) [] [] [] h2 ?_
      refine aR 2 ?_
      refine aX (x_sliceS h3) ?_
      refine aCb (fleetref2_only_ok h4) [] [] [] h5 ?_
      refine aR 3 ?_
      refine aC (fleetref2_only_ok h6) [] [] [] ?_
      refine aR 2 ?_
      refine aE ?_
      exact oO hF [] [] rfl
    · refine awp_region ?_
      refine aR 2 ?_
      refine aCb (fleetref2_in_ok h1) [] [] [] h2 ?_
      refine aR 2 ?_
      refine aX (x_sliceS h3) ?_
      refine aCb (fleetref2_only_ok h4) [] [] [] h5 ?_
      refine aR 6 ?_
      refine aE ?_
      exact oO hF [] [] rfl
  · refine awp_region ?_
    refine aR 2 ?_
    refine aCb (fleetref2_in_ok h1) [] [] [] h2 ?_
    refine aR 10 ?_
    refine aE ?_
    exact oO hF [] [] rfl

def fleetref2_Key_R (qs : List UInt8) (r : Bool) : TV × Mem := (.v (.one (.d (.bool r))), ⟨[], []⟩)

theorem fleetref2_Key_ok {qs : List UInt8} {r} (hF : fleetref2_Key qs = some r) : Holds prog 80 [.v (.one (.d (.str qs)))] ⟨[], []⟩ (Is (fleetref2_Key_R qs r)) := by
  unfold fleetref2_Key at hF
  refine holds_of_awp hΓ (fn := f80) (c := cB f80) (A := 0) (nx := 0) (by kernel_rfl) (by kernel_rfl) (by kernel_rfl) (by kernel_rfl) (by kernel_rfl) (by kernel_rfl) (lowc_of (by kernel_rfl)) ?_
  show Awp prog 0 15 (cB f80) _ _
  refine awp_seq ?_
  refine awp_region ?_
  refine aR 1 ?_
  refine aE ?_
  refine awp_seq ?_
  refine awp_to (st' := fleetref2_Key_x1_I qs) (oT [] []) ?_
  refine bE hF fun vx1 h7 hF => ?_
  refine awp_sub (fleetref2_Key_x1_ok qs h7) ?_
  refine awp_ret ?_
  exact oF hF [] []

/-! ### beaconfleet/fleetref2.PropName$1 -/
def fleetref2_PropName_1_R (qk : List UInt8) (r : Bool) : TV × Mem := (.v (.one (.d (.bool r))), ⟨[], []⟩)

theorem fleetref2_PropName_1_ok {qk : List UInt8} {r} (hF : fleetref2_PropName_1 qk = some r) : Holds prog 79 [.v (.one (.d (.str qk)))] ⟨[], []⟩ (Is (fleetref2_PropName_1_R qk r)) := by
  unfold fleetref2_PropName_1 at hF
  refine holds_of_awp hΓ (fn := f79) (c := cB f79) (A := 0) (nx := 0) (by kernel_rfl) (by kernel_rfl) (by kernel_rfl) (by kernel_rfl) (by kernel_rfl) (by kernel_rfl) (lowc_of (by kernel_rfl)) ?_
  show Awp prog 0 6 (cB f79) _ _
  refine awp_seq ?_
  refine awp_region ?_
  refine aR 1 ?_
  refine aE ?_
  refine awp_seq ?_
  refine bE hF fun vr3 h1 hF => ?_
  refine awp_region ?_
  refine aR 1 ?_
  refine aC (fleetref2_Key_ok h1) [] [] [] ?_
  refine aR 2 ?_
  refine aE ?_
  refine awp_ret ?_
  exact oF hF [] []

/-! ### slices.IndexFunc[[]string,string] -/
def slices_IndexFunc_string_string_f1_fleetref2_PropName_1_x1_k : Unit ⊕ Int → AEx
  | .inl _ => .exit 0
  | .inr _ => .ret

def slices_IndexFunc_string_string_f1_fleetref2_PropName_1_x1_S (qs : List (List UInt8)) : Unit ⊕ Int → St
  | .inl _ => Mem.st ⟨[], []⟩ (tl []) 0
  | .inr vx1 => Mem.st ⟨[], []⟩ (tl [(4, .v (.one (.d (.int .i64 vx1))))]) 0

def slices_IndexFunc_string_string_f1_fleetref2_PropName_1_x1_H (qs : List (List UInt8)) : Int → St
  | vx => Mem.st ⟨[], []⟩ (tl [(0, .v (.one (.d (.lst (List.map encS qs))))), (1, .v (.one (.fn 79 []))), (7, .v (.one (.d (.int .i64 (qs.length : Int))))), (8, .v (.one (.d (.int .i64 vx))))]) 0

theorem slices_IndexFunc_string_string_f1_fleetref2_PropName_1_x1_ok (qs : List (List UInt8)) (vx : Int) (r : (Int) ⊕ (Unit ⊕ Int)) (hF : slices_IndexFunc_string_string_f1_fleetref2_PropName_1_x1 qs vx = some r) : Awp prog 0 19 (cL (cL (cR (cL (cR (cB f128)))))) (Out 0 (kk slices_IndexFunc_string_string_f1_fleetref2_PropName_1_x1_k) (SS (slices_IndexFunc_string_string_f1_fleetref2_PropName_1_x1_H qs) (slices_IndexFunc_string_string_f1_fleetref2_PropName_1_x1_S qs)) r) (slices_IndexFunc_string_string_f1_fleetref2_PropName_1_x1_H qs vx) := by
  unfold slices_IndexFunc_string_string_f1_fleetref2_PropName_1_x1 at hF
  refine awp_seq ?_
  refine awp_region ?_
  refine aR 1 ?_
  refine aE ?_
  refine awp_seq ?_
  refine cE hF (fun h1 hF => ?_) fun h1 hF => ?_
  · refine awp_true (by kernel_rfl) h1 ?_
    refine awp_skip ?_
    refine awp_seq ?_
    refine awp_block ?_
    refine awp_seq ?_
    refine awp_region ?_
    refine aR 2 ?_
    refine aE ?_
    refine awp_seq ?_
    refine bE hF fun vy1 h2 hF => ?_
    refine bE hF fun vr1 h3 hF => ?_
    refine awp_region ?_
    refine aR 3 ?_
    refine aX (x_idx encS h2) ?_
    refine aR 1 ?_
    refine aC (fleetref2_PropName_1_ok h3) [] [] [] ?_
    refine aE ?_
    refine cE hF (fun h4 hF => ?_) fun h4 hF => ?_
    · refine awp_true (by kernel_rfl) h4 ?_
      refine awp_seq ?_
      refine awp_region ?_
      refine aR 2 ?_
      refine aE ?_
      refine awp_ret ?_
      exact oO hF [] [] rfl
    · refine awp_false (by kernel_rfl) h4 ?_
      refine awp_skip ?_
      refine awp_region ?_
      refine aR 2 ?_
      refine aE ?_
      exact oO hF [] [] rfl
  · refine awp_false (by kernel_rfl) h1 ?_
    refine awp_exit ?_
    exact oO hF [] [] rfl

def slices_IndexFunc_string_string_f1_fleetref2_PropName_1_R (qs : List (List UInt8)) (r : Int) : TV × Mem := (.v (.one (.d (.int .i64 r))), ⟨[], []⟩)

theorem slices_IndexFunc_string_string_f1_fleetref2_PropName_1_ok {qs : List (List UInt8)} {r} (hF : slices_IndexFunc_string_string_f1_fleetref2_PropName_1 qs = some r) : Holds prog 128 [.v (.one (.d (.lst (List.map encS qs)))), .v (.one (.fn 79 []))] ⟨[], []⟩ (Is (slices_IndexFunc_string_string_f1_fleetref2_PropName_1_R qs r)) := by
  unfold slices_IndexFunc_string_string_f1_fleetref2_PropName_1 at hF
  refine holds_of_awp hΓ (fn := f128) (c := cB f128) (A := 0) (nx := 0) (by kernel_rfl) (by kernel_rfl) (by kernel_rfl) (by kernel_rfl) (by kernel_rfl) (by kernel_rfl) (lowc_of (by kernel_rfl)) ?_
  show Awp prog 0 19 (cB f128) _ _
  refine awp_seq ?_
  refine awp_region ?_
  refine aR 1 ?_
  refine aE ?_
  refine awp_seq ?_
  refine awp_seq ?_
  refine awp_region ?_
  refine aR 1 ?_
  refine aL encS qs ?_
  refine aR 1 ?_
  refine aE ?_
  refine awp_block ?_
  refine awp_to (st' := slices_IndexFunc_string_string_f1_fleetref2_PropName_1_x1_H qs 0) (oT [] []) ?_
  refine bE hF fun x h5 hF => ?_
  rcases x with _ | vx1_1
  · refine awp_sub (awp_loop' (slices_IndexFunc_string_string_f1_fleetref2_PropName_1_x1_H qs) slices_IndexFunc_string_string_f1_fleetref2_PropName_1_x1_k (slices_IndexFunc_string_string_f1_fleetref2_PropName_1_x1_S qs) (by intro x; rcases x with x | x <;> exact fun h => nomatch h) h5 (slices_IndexFunc_string_string_f1_fleetref2_PropName_1_x1_ok qs)) ?_
    refine awp_seq ?_
    refine awp_region ?_
    refine aR 1 ?_
    refine aE ?_
    refine awp_ret ?_
    exact oF hF [] []
  · refine awp_sub (awp_loop' (slices_IndexFunc_string_string_f1_fleetref2_PropName_1_x1_H qs) slices_IndexFunc_string_string_f1_fleetref2_PropName_1_x1_k (slices_IndexFunc_string_string_f1_fleetref2_PropName_1_x1_S qs) (by intro x; rcases x with x | x <;> exact fun h => nomatch h) h5 (slices_IndexFunc_string_string_f1_fleetref2_PropName_1_x1_ok qs)) ?_
    exact oF hF [] []

/-! ### slices.ContainsFunc[[]string,string] -/
def slices_ContainsFunc_string_string_f1_fleetref2_PropName_1_R (qs : List (List UInt8)) (r : Bool) : TV × Mem := (.v (.one (.d (.bool r))), ⟨[], []⟩)

theorem slices_ContainsFunc_string_string_f1_fleetref2_PropName_1_ok {qs : List (List UInt8)} {r} (hF : slices_ContainsFunc_string_string_f1_fleetref2_PropName_1 qs = some r) : Holds prog 78 [.v (.one (.d (.lst (List.map encS qs)))), .v (.one (.fn 79 []))] ⟨[], []⟩ (Is (slices_ContainsFunc_string_string_f1_fleetref2_PropName_1_R qs r)) := by
  unfold slices_ContainsFunc_string_string_f1_fleetref2_PropName_1 at hF
  refine holds_of_awp hΓ (fn := f78) (c := cB f78) (A := 0) (nx := 0) (by kernel_rfl) (by kernel_rfl) (by kernel_rfl) (by kernel_rfl) (by kernel_rfl) (by kernel_rfl) (lowc_of (by kernel_rfl)) ?_
  show Awp prog 0 9 (cB f78) _ _
  refine awp_seq ?_
  refine awp_region ?_
  refine aR 1 ?_
  refine aE ?_
  refine awp_seq ?_
  refine bE hF fun vr2 h1 hF => ?_
  refine awp_region ?_
  refine aR 2 ?_
  refine aC (slices_IndexFunc_string_string_f1_fleetref2_PropName_1_ok h1) [] [] [] ?_
  refine aR 2 ?_
  refine aE ?_
  refine awp_ret ?_
  exact oF hF [] []

/-! ### beaconfleet/fleetref2.PropName -/
def fleetref2_PropName_x1_k : Bool → AEx
  | _ => .normal

def fleetref2_PropName_x1_S (vr1 : List (List UInt8)) : Bool → St
  | vx => Mem.st ⟨[], []⟩ (tl [(2, .v (.one (.d (.bool vx))))]) 0

def fleetref2_PropName_x1_I (vr1 : List (List UInt8)) : St := Mem.st ⟨[], []⟩ (tl [(3, .v (.one (.d (.lst (List.map encS vr1)))))]) 0

theorem fleetref2_PropName_x1_ok (vr1 : List (List UInt8)) {r} (hF : fleetref2_PropName_x1 vr1 = some r) : Awp prog 0 14 (cL (cR (cR (cB f25)))) (Out 0 fleetref2_PropName_x1_k (fleetref2_PropName_x1_S vr1) r) (fleetref2_PropName_x1_I vr1) := by
  unfold fleetref2_PropName_x1 at hF
  refine cE hF (fun h2 hF => ?_) fun h2 hF => ?_
  · refine bE hF fun vr h3 hF => ?_
    refine awp_region ?_
    refine aR 1 ?_
    refine aL encS vr1 ?_
    refine aB h2 ?_
    refine aR 2 ?_
    refine aC (slices_ContainsFunc_string_string_f1_fleetref2_PropName_1_ok h3) [] [] [] ?_
    refine aR 3 ?_
    refine aE ?_
    exact oO hF [] [] rfl
  · refine awp_region ?_
    refine aR 1 ?_
    refine aL encS vr1 ?_
    refine aB h2 ?_
    refine aR 6 ?_
    refine aE ?_
    exact oO hF [] [] rfl

def fleetref2_PropName_R (qs : List UInt8) (r : Bool) : TV × Mem := (.v (.one (.d (.bool r))), ⟨[], []⟩)

theorem fleetref2_PropName_ok {qs : List UInt8} {r} (hF : fleetref2_PropName qs = some r) : Holds prog 25 [.v (.one (.d (.str qs)))] ⟨[], []⟩ (Is (fleetref2_PropName_R qs r)) := by
  unfold fleetref2_PropName at hF
  refine holds_of_awp hΓ (fn := f25) (c := cB f25) (A := 0) (nx := 0) (by kernel_rfl) (by kernel_rfl) (by kernel_rfl) (by kernel_rfl) (by kernel_rfl) (by kernel_rfl) (lowc_of (by kernel_rfl)) ?_
  show Awp prog 0 14 (cB f25) _ _
  refine awp_seq ?_
  refine awp_region ?_
  refine aR 1 ?_
  refine aE ?_
  refine awp_seq ?_
  refine bE hF fun vr1 h1 hF => ?_
  refine awp_region ?_
  refine aR 1 ?_
  refine aC (strings_Split_ok h1) [] [] [] ?_
  refine aR 1 ?_
  refine aE ?_
  refine awp_to (oT (m := ⟨[], []⟩) (ts := [(3, .v (.one (.d (.lst (List.map encS vr1)))))]) (nx := 0) [] []) ?_
  refine awp_seq ?_
  refine awp_to (st' := fleetref2_PropName_x1_I vr1) (oT [] []) ?_
  refine bE hF fun vx1 h4 hF => ?_
  refine awp_sub (fleetref2_PropName_x1_ok vr1 h4) ?_
  refine awp_ret ?_
  exact oF hF [] []

/-! ### beaconfleet/fleetref2.Printed$1 -/
def fleetref2_Printed_1_x1_k : Bool → AEx
  | _ => .normal

def fleetref2_Printed_1_x1_S (qr : Int) : Bool → St
  | vx => Mem.st ⟨[], []⟩ (tl [(2, .v (.one (.d (.bool vx))))]) 0

def fleetref2_Printed_1_x1_I (qr : Int) : St := Mem.st ⟨[], []⟩ (tl [(0, .v (.one (.d (.int .i32 qr))))]) 0

theorem fleetref2_Printed_1_x1_ok (qr : Int) {r} (hF : fleetref2_Printed_1_x1 qr = some r) : Awp prog 0 9 (cL (cR (cB f145))) (Out 0 fleetref2_Printed_1_x1_k (fleetref2_Printed_1_x1_S qr) r) (fleetref2_Printed_1_x1_I qr) := by
  unfold fleetref2_Printed_1_x1 at hF
  refine cE hF (fun h1 hF => ?_) fun h1 hF => ?_
  · refine awp_region ?_
    refine aR 1 ?_
    refine aB h1 ?_
    refine aR 5 ?_
    refine aE ?_
    exact oO hF [] [] rfl
  · refine awp_region ?_
    refine aR 1 ?_
    refine aB h1 ?_
    refine aR 5 ?_
    refine aE ?_
    exact oO hF [] [] rfl

def fleetref2_Printed_1_R (qr : Int) (r : Bool) : TV × Mem := (.v (.one (.d (.bool r))), ⟨[], []⟩)

theorem fleetref2_Printed_1_ok {qr : Int} {r} (hF : fleetref2_Printed_1 qr = some r) : Holds prog 145 [.v (.one (.d (.int .i32 qr)))] ⟨[], []⟩ (Is (fleetref2_Printed_1_R qr r)) := by
  unfold fleetref2_Printed_1 at hF
  refine holds_of_awp hΓ (fn := f145) (c := cB f145) (A := 0) (nx := 0) (by kernel_rfl) (by kernel_rfl) (by kernel_rfl) (by kernel_rfl) (by kernel_rfl) (by kernel_rfl) (lowc_of (by kernel_rfl)) ?_
  show Awp prog 0 9 (cB f145) _ _
  refine awp_seq ?_
  refine awp_region ?_
  refine aR 1 ?_
  refine aE ?_
  refine awp_seq ?_
  refine awp_to (st' := fleetref2_Printed_1_x1_I qr) (oT [] []) ?_
  refine bE hF fun vx1 h2 hF => ?_
  refine awp_sub (fleetref2_Printed_1_x1_ok qr h2) ?_
  refine awp_ret ?_
  exact oF hF [] []

/-! ### strings.indexFunc -/
def strings_indexFunc_f1_fleetref2_Printed_1_x1_k : Unit ⊕ Int → AEx
  | .inl _ => .exit 0
  | .inr _ => .ret

def strings_indexFunc_f1_fleetref2_Printed_1_x1_S (qs : List UInt8) (qtruth : Bool) : Unit ⊕ Int → St
  | .inl _ => Mem.st ⟨[], []⟩ (tl []) 0
  | .inr vx => Mem.st ⟨[], []⟩ (tl [(6, .v (.one (.d (.int .i64 vx))))]) 0

def strings_indexFunc_f1_fleetref2_Printed_1_x1_H (qs : List UInt8) (qtruth : Bool) : Nat → St
  | vpos => Mem.st ⟨[], [(0, [.iters qs vpos])]⟩ (tl [(1, .v (.one (.fn 145 []))), (2, .v (.one (.d (.bool qtruth)))), (10, .v (.one (.box 0 0)))]) 1

theorem strings_indexFunc_f1_fleetref2_Printed_1_x1_ok (qs : List UInt8) (qtruth : Bool) (vpos : Nat) (r : (Nat) ⊕ (Unit ⊕ Int)) (hF : strings_indexFunc_f1_fleetref2_Printed_1_x1 qs qtruth vpos = some r) : Awp prog 0 21 (cL (cL (cR (cL (cR (cB f207)))))) (Out 0 (kk strings_indexFunc_f1_fleetref2_Printed_1_x1_k) (SS (strings_indexFunc_f1_fleetref2_Printed_1_x1_H qs qtruth) (strings_indexFunc_f1_fleetref2_Printed_1_x1_S qs qtruth)) r) (strings_indexFunc_f1_fleetref2_Printed_1_x1_H qs qtruth vpos) := by
  unfold strings_indexFunc_f1_fleetref2_Printed_1_x1 at hF
  refine awp_seq ?_
  refine cE hF (fun h1 hF => ?_) fun h1 hF => ?_
  · refine bE hF fun vd1 h2 hF => ?_
    refine awp_region ?_
    refine aX (x_next 0 qs vpos h1 h2) ?_
    refine aR 1 ?_
    refine aE ?_
    refine awp_seq ?_
    refine awp_true (by kernel_rfl) rfl ?_
    refine awp_skip ?_
    refine awp_block ?_
    refine awp_seq ?_
    refine awp_region ?_
    refine aR 4 ?_
    refine aE ?_
    refine awp_seq ?_
    refine bE hF fun vr1 h3 hF => ?_
    refine awp_region ?_
    refine aR 2 ?_
    refine aC (fleetref2_Printed_1_ok h3) [] [] [] ?_
    refine aR 2 ?_
    refine aE ?_
    refine cE hF (fun h4 hF => ?_) fun h4 hF => ?_
    · refine awp_true (by kernel_rfl) h4 ?_
      refine awp_seq ?_
      refine awp_region ?_
      refine aR 2 ?_
      refine aE ?_
      refine awp_ret ?_
      exact oO hF [] [] rfl
    · refine awp_false (by kernel_rfl) h4 ?_
      refine awp_skip ?_
      exact oO hF [] [] rfl
  · refine awp_region ?_
    refine aX (x_nextE 0 qs vpos h1) ?_
    refine aR 1 ?_
    refine aE ?_
    refine awp_seq ?_
    refine awp_false (by kernel_rfl) rfl ?_
    refine awp_exit ?_
    exact oO hF [] [] rfl

def strings_indexFunc_f1_fleetref2_Printed_1_R (qs : List UInt8) (qtruth : Bool) (r : Int) : TV × Mem := (.v (.one (.d (.int .i64 r))), ⟨[], []⟩)

theorem strings_indexFunc_f1_fleetref2_Printed_1_ok {qs : List UInt8} {qtruth : Bool} {r} (hF : strings_indexFunc_f1_fleetref2_Printed_1 qs qtruth = some r) : Holds prog 207 [.v (.one (.d (.str qs))), .v (.one (.fn 145 [])), .v (.one (.d (.bool qtruth)))] ⟨[], []⟩ (Is (strings_indexFunc_f1_fleetref2_Printed_1_R qs qtruth r)) := by
  unfold strings_indexFunc_f1_fleetref2_Printed_1 at hF
  refine holds_of_awp hΓ (fn := f207) (c := cB f207) (A := 0) (nx := 0) (by kernel_rfl) (by kernel_rfl) (by kernel_rfl) (by kernel_rfl) (by kernel_rfl) (by kernel_rfl) (lowc_of (by kernel_rfl)) ?_
  show Awp prog 0 21 (cB f207) _ _
  refine awp_seq ?_
  refine awp_region ?_
  refine aR 1 ?_
  refine aE ?_
  refine awp_seq ?_
  refine awp_seq ?_
  refine awp_region ?_
  refine aR 2 ?_
  refine aE ?_
  refine awp_block ?_
  refine awp_to (st' := strings_indexFunc_f1_fleetref2_Printed_1_x1_H qs qtruth (0 : Nat)) (oT [(0, 2000)] []) ?_
  refine bE hF fun x h5 hF => ?_
  rcases x with _ | vx1
  · refine awp_sub (awp_loop' (strings_indexFunc_f1_fleetref2_Printed_1_x1_H qs qtruth) strings_indexFunc_f1_fleetref2_Printed_1_x1_k (strings_indexFunc_f1_fleetref2_Printed_1_x1_S qs qtruth) (by intro x; rcases x with x | x <;> exact fun h => nomatch h) h5 (strings_indexFunc_f1_fleetref2_Printed_1_x1_ok qs qtruth)) ?_
    refine awp_seq ?_
    refine awp_region ?_
    refine aR 1 ?_
    refine aE ?_
    refine awp_ret ?_
    exact oF hF [] []
  · refine awp_sub (awp_loop' (strings_indexFunc_f1_fleetref2_Printed_1_x1_H qs qtruth) strings_indexFunc_f1_fleetref2_Printed_1_x1_k (strings_indexFunc_f1_fleetref2_Printed_1_x1_S qs qtruth) (by intro x; rcases x with x | x <;> exact fun h => nomatch h) h5 (strings_indexFunc_f1_fleetref2_Printed_1_x1_ok qs qtruth)) ?_
    exact oF hF [] []

/-! ### strings.IndexFunc -/
def strings_IndexFunc_f1_fleetref2_Printed_1_R (qs : List UInt8) (r : Int) : TV × Mem := (.v (.one (.d (.int .i64 r))), ⟨[], []⟩)

theorem strings_IndexFunc_f1_fleetref2_Printed_1_ok {qs : List UInt8} {r} (hF : strings_IndexFunc_f1_fleetref2_Printed_1 qs = some r) : Holds prog 179 [.v (.one (.d (.str qs))), .v (.one (.fn 145 []))] ⟨[], []⟩ (Is (strings_IndexFunc_f1_fleetref2_Printed_1_R qs r)) := by
  unfold strings_IndexFunc_f1_fleetref2_Printed_1 at hF
  refine holds_of_awp hΓ (fn := f179) (c := cB f179) (A := 0) (nx := 0) (by kernel_rfl) (by kernel_rfl) (by kernel_rfl) (by kernel_rfl) (by kernel_rfl) (by kernel_rfl) (lowc_of (by kernel_rfl)) ?_
  show Awp prog 0 8 (cB f179) _ _
  refine awp_seq ?_
  refine awp_region ?_
  refine aR 1 ?_
  refine aE ?_
  refine awp_seq ?_
  refine bE hF fun vr2 h1 hF => ?_
  refine awp_region ?_
  refine aR 2 ?_
  refine aC (strings_indexFunc_f1_fleetref2_Printed_1_ok h1) [] [] [] ?_
  refine aR 1 ?_
  refine aE ?_
  refine awp_ret ?_
  exact oF hF [] []

/-! ### strings.ContainsFunc -/
def strings_ContainsFunc_f1_fleetref2_Printed_1_R (qs : List UInt8) (r : Bool) : TV × Mem := (.v (.one (.d (.bool r))), ⟨[], []⟩)

theorem strings_ContainsFunc_f1_fleetref2_Printed_1_ok {qs : List UInt8} {r} (hF : strings_ContainsFunc_f1_fleetref2_Printed_1 qs = some r) : Holds prog 144 [.v (.one (.d (.str qs))), .v (.one (.fn 145 []))] ⟨[], []⟩ (Is (strings_ContainsFunc_f1_fleetref2_Printed_1_R qs r)) := by
  unfold strings_ContainsFunc_f1_fleetref2_Printed_1 at hF
  refine holds_of_awp hΓ (fn := f144) (c := cB f144) (A := 0) (nx := 0) (by kernel_rfl) (by kernel_rfl) (by kernel_rfl) (by kernel_rfl) (by kernel_rfl) (by kernel_rfl) (lowc_of (by kernel_rfl)) ?_
  show Awp prog 0 9 (cB f144) _ _
  refine awp_seq ?_
  refine awp_region ?_
  refine aR 1 ?_
  refine aE ?_
  refine awp_seq ?_
  refine bE hF fun vr h1 hF => ?_
  refine awp_region ?_
  refine aR 2 ?_
  refine aC (strings_IndexFunc_f1_fleetref2_Printed_1_ok h1) [] [] [] ?_
  refine aR 2 ?_
  refine aE ?_
  refine awp_ret ?_
  exact oF hF [] []

/-! ### beaconfleet/fleetref2.Printed -/
def fleetref2_Printed_x1_k : Bool → AEx
  | _ => .normal

def fleetref2_Printed_x1_S (qs : List UInt8) : Bool → St
  | vx => Mem.st ⟨[], []⟩ (tl [(2, .v (.one (.d (.bool vx))))]) 0

def fleetref2_Printed_x1_I (qs : List UInt8) : St := Mem.st ⟨[], []⟩ (tl [(0, .v (.one (.d (.str qs))))]) 0

theorem fleetref2_Printed_x1_ok (qs : List UInt8) {r} (hF : fleetref2_Printed_x1 qs = some r) : Awp prog 0 10 (cL (cR (cB f110))) (Out 0 fleetref2_Printed_x1_k (fleetref2_Printed_x1_S qs) r) (fleetref2_Printed_x1_I qs) := by
  unfold fleetref2_Printed_x1 at hF
  refine bE hF fun vr h1 hF => ?_
  refine cE hF (fun h2 hF => ?_) fun h2 hF => ?_
  · refine bE hF fun vr1 h3 hF => ?_
    refine awp_region ?_
    refine aR 1 ?_
    refine aCb (utf8_ValidString_ok h1) [] [] [] h2 ?_
    refine aR 2 ?_
    refine aC (strings_ContainsFunc_f1_fleetref2_Printed_1_ok h3) [] [] [] ?_
    refine aR 3 ?_
    refine aE ?_
    exact oO hF [] [] rfl
  · refine awp_region ?_
    refine aR 1 ?_
    refine aCb (utf8_ValidString_ok h1) [] [] [] h2 ?_
    refine aR 6 ?_
    refine aE ?_
    exact oO hF [] [] rfl

def fleetref2_Printed_R (qs : List UInt8) (r : Bool) : TV × Mem := (.v (.one (.d (.bool r))), ⟨[], []⟩)

theorem fleetref2_Printed_ok {qs : List UInt8} {r} (hF : fleetref2_Printed qs = some r) : Holds prog 110 [.v (.one (.d (.str qs)))] ⟨[], []⟩ (Is (fleetref2_Printed_R qs r)) := by
  unfold fleetref2_Printed at hF
  refine holds_of_awp hΓ (fn := f110) (c := cB f110) (A := 0) (nx := 0) (by kernel_rfl) (by kernel_rfl) (by kernel_rfl) (by kernel_rfl) (by kernel_rfl) (by kernel_rfl) (lowc_of (by kernel_rfl)) ?_
  show Awp prog 0 10 (cB f110) _ _
  refine awp_seq ?_
  refine awp_region ?_
  refine aR 1 ?_
  refine aE ?_
  refine awp_seq ?_
  refine awp_to (st' := fleetref2_Printed_x1_I qs) (oT [] []) ?_
  refine bE hF fun vx1 h4 hF => ?_
  refine awp_sub (fleetref2_Printed_x1_ok qs h4) ?_
  refine awp_ret ?_
  exact oF hF [] []

/-! ### beaconfleet/fleetref2.ValueFault -/
def fleetref2_ValueFault_x1_k : api_Value → AEx
  | _ => .normal

def fleetref2_ValueFault_x1_S (qv : api_Value) : api_Value → St
  | vplain => Mem.st ⟨[], [(0, [.d (.int .i64 qv.Kind), .d (.bool qv.Flag), .d (.int .i64 qv.Number), .d (.str qv.Words)]), (1, [.d (.int .i64 vplain.Kind), .d (.bool vplain.Flag), .d (.int .i64 vplain.Number), .d (.str vplain.Words)])]⟩ (tl [(1, .v (.one (.box 0 0))), (3, .v (.one (.box 1 0)))]) 2

def fleetref2_ValueFault_x1_I (qv : api_Value) : St := Mem.st ⟨[], [(0, [.d (.int .i64 qv.Kind), .d (.bool qv.Flag), .d (.int .i64 qv.Number), .d (.str qv.Words)]), (1, [.d (.int .i64 qv.Kind), .d (.bool false), .d (.int .i64 0), .d (.str ([] : List UInt8))])]⟩ (tl [(1, .v (.one (.box 0 0))), (3, .v (.one (.box 1 0)))]) 2

theorem fleetref2_ValueFault_x1_ok (qv : api_Value) {r} (hF : fleetref2_ValueFault_x1 qv = some r) : Awp prog 0 47 (cL (cR (cR (cR (cB f58))))) (Out 0 fleetref2_ValueFault_x1_k (fleetref2_ValueFault_x1_S qv) r) (fleetref2_ValueFault_x1_I qv) := by
  unfold fleetref2_ValueFault_x1 at hF
  refine awp_seq ?_
  refine awp_region ?_
  refine aR 2 ?_
  refine aE ?_
  refine awp_block ?_
  refine awp_seq ?_
  refine awp_region ?_
  refine aR 2 ?_
  refine aE ?_
  refine cE hF (fun h3 hF => ?_) fun h3 hF => ?_
  · refine awp_true (by kernel_rfl) h3 ?_
    refine awp_region ?_
    refine aR 4 ?_
    refine aE ?_
    exact oO hF [] [] rfl
  · refine awp_false (by kernel_rfl) h3 ?_
    refine awp_seq ?_
    refine awp_region ?_
    refine aR 2 ?_
    refine aE ?_
    refine cE hF (fun h4 hF => ?_) fun h4 hF => ?_
    · refine awp_true (by kernel_rfl) h4 ?_
      refine awp_region ?_
      refine aR 4 ?_
      refine aE ?_
      exact oO hF [] [] rfl
    · refine awp_false (by kernel_rfl) h4 ?_
      refine awp_seq ?_
      refine awp_region ?_
      refine aR 2 ?_
      refine aE ?_
      refine cE hF (fun h5 hF => ?_) fun h5 hF => ?_
      · refine awp_true (by kernel_rfl) h5 ?_
        refine awp_region ?_
        refine aR 4 ?_
        refine aE ?_
        exact oO hF [] [] rfl
      · refine awp_false (by kernel_rfl) h5 ?_
        refine awp_skip ?_
        exact oO hF [] [] rfl

def fleetref2_ValueFault_R (qv : api_Value) (r : Int) : TV × Mem := (.v (.one (.d (.int .i64 r))), ⟨[], []⟩)

theorem fleetref2_ValueFault_ok {qv : api_Value} {r} (hF : fleetref2_ValueFault qv = some r) : Holds prog 58 [.v (.agg [.d (.int .i64 qv.Kind), .d (.bool qv.Flag), .d (.int .i64 qv.Number), .d (.str qv.Words)])] ⟨[], []⟩ (Is (fleetref2_ValueFault_R qv r)) := by
  unfold fleetref2_ValueFault at hF
  refine holds_of_awp hΓ (fn := f58) (c := cB f58) (A := 0) (nx := 0) (by kernel_rfl) (by kernel_rfl) (by kernel_rfl) (by kernel_rfl) (by kernel_rfl) (by kernel_rfl) (lowc_of (by kernel_rfl)) ?_
  show Awp prog 0 47 (cB f58) _ _
  refine awp_seq ?_
  refine awp_region ?_
  refine aR 2 ?_
  refine aE ?_
  refine awp_seq ?_
  refine awp_seq ?_
  refine bE hF fun vr h1 hF => ?_
  refine awp_region ?_
  refine aR 2 ?_
  refine aC (fleetref2_in_ok h1) [] [] [] ?_
  refine aR 1 ?_
  refine aE ?_
  refine cE hF (fun h2 hF => ?_) fun h2 hF => ?_
  · refine awp_true (by kernel_rfl) h2 ?_
    refine awp_seq ?_
    refine awp_region ?_
    refine aR 1 ?_
    refine aE ?_
    refine awp_ret ?_
    exact oF hF [] []
  · refine awp_false (by kernel_rfl) h2 ?_
    refine awp_skip ?_
    refine awp_seq ?_
    refine awp_region ?_
    refine aR 5 ?_
    refine aE ?_
    refine awp_seq ?_
    refine awp_to (st' := fleetref2_ValueFault_x1_I qv) (oT [(1, 9000)] []) ?_
    refine bE hF fun vplain1 h6 hF => ?_
    refine awp_sub (fleetref2_ValueFault_x1_ok qv h6) ?_
    refine awp_seq ?_
    refine awp_block ?_
    refine awp_seq ?_
    refine awp_region ?_
    refine aR 2 ?_
    refine aS (does_eqS (op := .neq) (xs := [.int .i64 vplain1.Kind, .bool vplain1.Flag, .int .i64 vplain1.Number, .str vplain1.Words]) (ys := [.int .i64 qv.Kind, .bool qv.Flag, .int .i64 qv.Number, .str qv.Words]) (b := (decide (vplain1.Kind = qv.Kind) && ((vplain1.Flag == qv.Flag) && (decide (vplain1.Number = qv.Number) && (decide (vplain1.Words = qv.Words) && true))))) (c := (!(decide (vplain1.Kind = qv.Kind) && ((vplain1.Flag == qv.Flag) && (decide (vplain1.Number = qv.Number) && (decide (vplain1.Words = qv.Words) && true)))))) rfl (.inr ⟨rfl, rfl⟩) (by kernel_rfl) (by kernel_rfl) (by kernel_rfl) (by kernel_rfl) (by kernel_rfl) (by kernel_rfl)) ?_
    refine aR 1 ?_
    refine aE ?_
    refine cE hF (fun h7 hF => ?_) fun h7 hF => ?_
    · refine awp_true (by kernel_rfl) h7 ?_
      refine awp_seq ?_
      refine awp_region ?_
      refine aR 1 ?_
      refine aE ?_
      refine awp_ret ?_
      exact oF hF [] []
    · refine awp_false (by kernel_rfl) h7 ?_
      refine awp_seq ?_
      refine bE hF fun vr1 h8 hF => ?_
      refine awp_region ?_
      refine aR 2 ?_
      refine aC (fleetref2_in_ok h8) [] [] [] ?_
      refine aR 2 ?_
      refine aE ?_
      refine cE hF (fun h9 hF => ?_) fun h9 hF => ?_
      · refine awp_true (by kernel_rfl) h9 ?_
        refine awp_seq ?_
        refine awp_region ?_
        refine aR 1 ?_
        refine aE ?_
        refine awp_ret ?_
        exact oF hF [] []
      · refine awp_false (by kernel_rfl) h9 ?_
        refine awp_seq ?_
        refine awp_region ?_
        refine aR 5 ?_
        refine aE ?_
        refine cE hF (fun h10 hF => ?_) fun h10 hF => ?_
        · refine awp_true (by kernel_rfl) h10 ?_
          refine awp_seq ?_
          refine awp_region ?_
          refine aR 1 ?_
          refine aE ?_
          refine awp_ret ?_
          exact oF hF [] []
        · refine awp_false (by kernel_rfl) h10 ?_
          refine awp_seq ?_
          refine bE hF fun vr2 h11 hF => ?_
          refine awp_region ?_
          refine aR 2 ?_
          refine aC (fleetref2_Printed_ok h11) [] [] [] ?_
          refine aR 2 ?_
          refine aE ?_
          refine cE hF (fun h12 hF => ?_) fun h12 hF => ?_
          · refine awp_true (by kernel_rfl) h12 ?_
            refine awp_seq ?_
            refine awp_region ?_
            refine aR 1 ?_
            refine aE ?_
            refine awp_ret ?_
            exact oF hF [] []
          · refine awp_false (by kernel_rfl) h12 ?_
            refine awp_skip ?_
            refine awp_seq ?_
            refine awp_region ?_
            refine aR 1 ?_
            refine aE ?_
            refine awp_ret ?_
            exact oF hF [] []

/-! ### beaconfleet/fleetlaw2.errs -/
def fleetlaw2_errs_x1_k : Unit ⊕ Int → AEx
  | .inl _ => .exit 0
  | .inr _ => .ret

def fleetlaw2_errs_x1_S (ql : List Int) : Unit ⊕ Int → St
  | .inl _ => Mem.st ⟨[], []⟩ (tl []) 0
  | .inr vx1 => Mem.st ⟨[], []⟩ (tl [(2, .v (.one (.d (.int .i64 vx1))))]) 0

def fleetlaw2_errs_x1_H (ql : List Int) : Int → St
  | vx => Mem.st ⟨[], []⟩ (tl [(5, .v (.one (.d (.lst (List.map (encI .i64) ql))))), (6, .v (.one (.d (.int .i64 (ql.length : Int))))), (7, .v (.one (.d (.int .i64 vx))))]) 0

theorem fleetlaw2_errs_x1_ok (ql : List Int) (vx : Int) (r : (Int) ⊕ (Unit ⊕ Int)) (hF : fleetlaw2_errs_x1 ql vx = some r) : Awp prog 0 15 (cL (cL (cR (cL (cR (cB f12)))))) (Out 0 (kk fleetlaw2_errs_x1_k) (SS (fleetlaw2_errs_x1_H ql) (fleetlaw2_errs_x1_S ql)) r) (fleetlaw2_errs_x1_H ql vx) := by
  unfold fleetlaw2_errs_x1 at hF
  refine awp_seq ?_
  refine awp_region ?_
  refine aR 1 ?_
  refine aE ?_
  refine awp_seq ?_
  refine cE hF (fun h1 hF => ?_) fun h1 hF => ?_
  · refine awp_true (by kernel_rfl) h1 ?_
    refine awp_skip ?_
    refine awp_seq ?_
    refine awp_block ?_
    refine awp_seq ?_
    refine bE hF fun vy1 h2 hF => ?_
    refine awp_region ?_
    refine aX (x_idx (encI .i64) h2) ?_
    refine aR 2 ?_
    refine aE ?_
    refine awp_seq ?_
    refine awp_region ?_
    refine aR 2 ?_
    refine aE ?_
    refine cE hF (fun h3 hF => ?_) fun h3 hF => ?_
    · refine awp_true (by kernel_rfl) h3 ?_
      refine awp_seq ?_
      refine awp_region ?_
      refine aR 2 ?_
      refine aE ?_
      refine awp_ret ?_
      exact oO hF [] [] rfl
    · refine awp_false (by kernel_rfl) h3 ?_
      refine awp_skip ?_
      refine awp_region ?_
      refine aR 2 ?_
      refine aE ?_
      exact oO hF [] [] rfl
  · refine awp_false (by kernel_rfl) h1 ?_
    refine awp_exit ?_
    exact oO hF [] [] rfl

def fleetlaw2_errs_R (ql : List Int) (r : Int) : TV × Mem := (.v (.one (.d (.int .i64 r))), ⟨[], []⟩)

theorem fleetlaw2_errs_ok {ql : List Int} {r} (hF : fleetlaw2_errs ql = some r) : Holds prog 12 [.v (.one (.d (.lst (List.map (encI .i64) ql))))] ⟨[], []⟩ (Is (fleetlaw2_errs_R ql r)) := by
  unfold fleetlaw2_errs at hF
  refine holds_of_awp hΓ (fn := f12) (c := cB f12) (A := 0) (nx := 0) (by kernel_rfl) (by kernel_rfl) (by kernel_rfl) (by kernel_rfl) (by kernel_rfl) (by kernel_rfl) (lowc_of (by kernel_rfl)) ?_
  show Awp prog 0 15 (cB f12) _ _
  refine awp_seq ?_
  refine awp_region ?_
  refine aR 1 ?_
  refine aE ?_
  refine awp_seq ?_
  refine awp_seq ?_
  refine awp_region ?_
  refine aR 1 ?_
  refine aL (encI .i64) ql ?_
  refine aR 1 ?_
  refine aE ?_
  refine awp_block ?_
  refine awp_to (st' := fleetlaw2_errs_x1_H ql 0) (oT [] []) ?_
  refine bE hF fun x h4 hF => ?_
  rcases x with _ | vx1_1
  · refine awp_sub (awp_loop' (fleetlaw2_errs_x1_H ql) fleetlaw2_errs_x1_k (fleetlaw2_errs_x1_S ql) (by intro x; rcases x with x | x <;> exact fun h => nomatch h) h4 (fleetlaw2_errs_x1_ok ql)) ?_
    refine awp_seq ?_
    refine awp_region ?_
    refine aR 1 ?_
    refine aE ?_
    refine awp_ret ?_
    exact oF hF [] []
  · refine awp_sub (awp_loop' (fleetlaw2_errs_x1_H ql) fleetlaw2_errs_x1_k (fleetlaw2_errs_x1_S ql) (by intro x; rcases x with x | x <;> exact fun h => nomatch h) h4 (fleetlaw2_errs_x1_ok ql)) ?_
    exact oF hF [] []

/-! ### internal/stringslite.HasPrefix -/
def stringslite_HasPrefix_x1_k : Bool → AEx
  | _ => .normal

def stringslite_HasPrefix_x1_S (qs : List UInt8) (qprefix : List UInt8) : Bool → St
  | vx => Mem.st ⟨[], []⟩ (tl [(4, .v (.one (.d (.bool vx))))]) 0

def stringslite_HasPrefix_x1_I (qs : List UInt8) (qprefix : List UInt8) : St := Mem.st ⟨[], []⟩ (tl [(0, .v (.one (.d (.str qs)))), (1, .v (.one (.d (.str qprefix))))]) 0

theorem stringslite_HasPrefix_x1_ok (qs : List UInt8) (qprefix : List UInt8) {r} (hF : stringslite_HasPrefix_x1 qs qprefix = some r) : Awp prog 0 18 (cL (cR (cB f146))) (Out 0 stringslite_HasPrefix_x1_k (stringslite_HasPrefix_x1_S qs qprefix) r) (stringslite_HasPrefix_x1_I qs qprefix) := by
  unfold stringslite_HasPrefix_x1 at hF
  refine cE hF (fun h1 hF => ?_) fun h1 hF => ?_
  · refine bE hF fun vs h2 hF => ?_
    refine awp_region ?_
    refine aR 4 ?_
    refine aB h1 ?_
    refine aR 4 ?_
    refine aX (x_sliceS h2) ?_
    refine aR 4 ?_
    refine aE ?_
    exact oO hF [] [] rfl
  · refine awp_region ?_
    refine aR 4 ?_
    refine aB h1 ?_
    refine aR 9 ?_
    refine aE ?_
    exact oO hF [] [] rfl

def stringslite_HasPrefix_R (qs : List UInt8) (qprefix : List UInt8) (r : Bool) : TV × Mem := (.v (.one (.d (.bool r))), ⟨[], []⟩)

theorem stringslite_HasPrefix_ok {qs : List UInt8} {qprefix : List UInt8} {r} (hF : stringslite_HasPrefix qs qprefix = some r) : Holds prog 146 [.v (.one (.d (.str qs))), .v (.one (.d (.str qprefix)))] ⟨[], []⟩ (Is (stringslite_HasPrefix_R qs qprefix r)) := by
  unfold stringslite_HasPrefix at hF
  refine holds_of_awp hΓ (fn := f146) (c := cB f146) (A := 0) (nx := 0) (by kernel_rfl) (by kernel_rfl) (by kernel_rfl) (by kernel_rfl) (by kernel_rfl) (by kernel_rfl) (lowc_of (by kernel_rfl)) ?_
  show Awp prog 0 18 (cB f146) _ _
  refine awp_seq ?_
  refine awp_region ?_
  refine aR 1 ?_
  refine aE ?_
  refine awp_seq ?_
  refine awp_to (st' := stringslite_HasPrefix_x1_I qs qprefix) (oT [] []) ?_
  refine bE hF fun vx1 h3 hF => ?_
  refine awp_sub (stringslite_HasPrefix_x1_ok qs qprefix h3) ?_
  refine awp_ret ?_
  exact oF hF [] []

/-! ### strings.HasPrefix -/
def strings_HasPrefix_R (qs : List UInt8) (qprefix : List UInt8) (r : Bool) : TV × Mem := (.v (.one (.d (.bool r))), ⟨[], []⟩)

theorem strings_HasPrefix_ok {qs : List UInt8} {qprefix : List UInt8} {r} (hF : strings_HasPrefix qs qprefix = some r) : Holds prog 114 [.v (.one (.d (.str qs))), .v (.one (.d (.str qprefix)))] ⟨[], []⟩ (Is (strings_HasPrefix_R qs qprefix r)) := by
  unfold strings_HasPrefix at hF
  refine holds_of_awp hΓ (fn := f114) (c := cB f114) (A := 0) (nx := 0) (by kernel_rfl) (by kernel_rfl) (by kernel_rfl) (by kernel_rfl) (by kernel_rfl) (by kernel_rfl) (lowc_of (by kernel_rfl)) ?_
  show Awp prog 0 8 (cB f114) _ _
  refine awp_seq ?_
  refine awp_region ?_
  refine aR 1 ?_
  refine aE ?_
  refine awp_seq ?_
  refine bE hF fun vr h1 hF => ?_
  refine awp_region ?_
  refine aR 2 ?_
  refine aC (stringslite_HasPrefix_ok h1) [] [] [] ?_
  refine aR 1 ?_
  refine aE ?_
  refine awp_ret ?_
  exact oF hF [] []

/-! ### beaconfleet/fleetref2.above -/
def fleetref2_above_R (qa : List UInt8) (qb : List UInt8) (r : Bool) : TV × Mem := (.v (.one (.d (.bool r))), ⟨[], []⟩)

theorem fleetref2_above_ok {qa : List UInt8} {qb : List UInt8} {r} (hF : fleetref2_above qa qb = some r) : Holds prog 63 [.v (.one (.d (.str qa))), .v (.one (.d (.str qb)))] ⟨[], []⟩ (Is (fleetref2_above_R qa qb r)) := by
  unfold fleetref2_above at hF
  refine holds_of_awp hΓ (fn := f63) (c := cB f63) (A := 0) (nx := 0) (by kernel_rfl) (by kernel_rfl) (by kernel_rfl) (by kernel_rfl) (by kernel_rfl) (by kernel_rfl) (lowc_of (by kernel_rfl)) ?_
  show Awp prog 0 9 (cB f63) _ _
  refine awp_seq ?_
  refine awp_region ?_
  refine aR 1 ?_
  refine aE ?_
  refine awp_seq ?_
  refine gE hF fun h1 hF => ?_
  refine bE hF fun vr1 h2 hF => ?_
  refine awp_region ?_
  refine aR 2 ?_
  refine aX (x_cat h1) ?_
  refine aC (strings_HasPrefix_ok h2) [] [] [] ?_
  refine aR 1 ?_
  refine aE ?_
  refine awp_ret ?_
  exact oF hF [] []

/-! ### slices.Equal[[]beaconfleet/api.Prop,beaconfleet/api.Prop] -/
def slices_Equal_api_Prop_api_Prop_x1_k : Unit ⊕ Unit → AEx
  | .inl _ => .exit 0
  | .inr _ => .ret

def slices_Equal_api_Prop_api_Prop_x1_S (qs1 : List api_Prop) (qs2 : List api_Prop) : Unit ⊕ Unit → St
  | .inl _ => Mem.st ⟨[], []⟩ (tl []) 0
  | .inr _ => Mem.st ⟨[], []⟩ (tl [(4, .v (.one (.d (.bool false))))]) 0

def slices_Equal_api_Prop_api_Prop_x1_H (qs1 : List api_Prop) (qs2 : List api_Prop) : Int → St
  | vx => Mem.st ⟨[], []⟩ (tl [(0, .v (.one (.d (.lst (List.map api_Prop.enc qs1))))), (1, .v (.one (.d (.lst (List.map api_Prop.enc qs2))))), (12, .v (.one (.d (.int .i64 (qs1.length : Int))))), (13, .v (.one (.d (.int .i64 vx))))]) 0

theorem slices_Equal_api_Prop_api_Prop_x1_ok (qs1 : List api_Prop) (qs2 : List api_Prop) (vx : Int) (r : (Int) ⊕ (Unit ⊕ Unit)) (hF : slices_Equal_api_Prop_api_Prop_x1 qs1 qs2 vx = some r) : Awp prog 0 26 (cL (cL (cR (cL (cR (cR (cB f16))))))) (Out 0 (kk slices_Equal_api_Prop_api_Prop_x1_k) (SS (slices_Equal_api_Prop_api_Prop_x1_H qs1 qs2) (slices_Equal_api_Prop_api_Prop_x1_S qs1 qs2)) r) (slices_Equal_api_Prop_api_Prop_x1_H qs1 qs2 vx) := by
  unfold slices_Equal_api_Prop_api_Prop_x1 at hF
  refine awp_seq ?_
  refine awp_region ?_
  refine aR 1 ?_
  refine aE ?_
  refine awp_seq ?_
  refine cE hF (fun h2 hF => ?_) fun h2 hF => ?_
  · refine awp_true (by kernel_rfl) h2 ?_
    refine awp_skip ?_
    refine awp_seq ?_
    refine awp_block ?_
    refine awp_seq ?_
    refine awp_region ?_
    refine aR 2 ?_
    refine aE ?_
    refine awp_seq ?_
    refine bE hF fun vy2 h3 hF => ?_
    refine bE hF fun vy3 h4 hF => ?_
    refine aD ?_
    refine dR 2 ?_
    refine dX (x_idx api_Prop.enc h3) ?_
    refine dR 3 ?_
    refine dX (x_idx api_Prop.enc h4) ?_
    refine dR 1 ?_
    refine dS (U := []) (stable_eqS (op := .neq) (xs := [.str vy2.Name, .int .i64 vy2.Value.Kind, .bool vy2.Value.Flag, .int .i64 vy2.Value.Number, .str vy2.Value.Words]) (ys := [.str vy3.Name, .int .i64 vy3.Value.Kind, .bool vy3.Value.Flag, .int .i64 vy3.Value.Number, .str vy3.Value.Words]) (b := (decide (vy2.Name = vy3.Name) && ((decide (vy2.Value.Kind = vy3.Value.Kind) && ((vy2.Value.Flag == vy3.Value.Flag) && (decide (vy2.Value.Number = vy3.Value.Number) && (decide (vy2.Value.Words = vy3.Value.Words) && true)))) && true))) (c := (!(decide (vy2.Name = vy3.Name) && ((decide (vy2.Value.Kind = vy3.Value.Kind) && ((vy2.Value.Flag == vy3.Value.Flag) && (decide (vy2.Value.Number = vy3.Value.Number) && (decide (vy2.Value.Words = vy3.Value.Words) && true)))) && true)))) rfl (.inr ⟨rfl, rfl⟩) (by kernel_rfl) (by kernel_rfl) (by kernel_rfl) (by kernel_rfl) (by kernel_rfl) (by kernel_rfl)) ?_
    refine dE ?_
    refine cE hF (fun h5 hF => ?_) fun h5 hF => ?_
    · refine awp_true (by kernel_rfl) h5 ?_
      refine awp_seq ?_
      refine awp_region ?_
      refine aR 1 ?_
      refine aE ?_
      refine awp_ret ?_
      exact oO hF [] [] rfl
    · refine awp_false (by kernel_rfl) h5 ?_
      refine awp_skip ?_
      refine awp_region ?_
      refine aR 2 ?_
      refine aE ?_
      exact oO hF [] [] rfl
  · refine awp_false (by kernel_rfl) h2 ?_
    refine awp_exit ?_
    exact oO hF [] [] rfl

def slices_Equal_api_Prop_api_Prop_R (qs1 : List api_Prop) (qs2 : List api_Prop) (r : Bool) : TV × Mem := (.v (.one (.d (.bool r))), ⟨[], []⟩)

theorem slices_Equal_api_Prop_api_Prop_ok {qs1 : List api_Prop} {qs2 : List api_Prop} {r} (hF : slices_Equal_api_Prop_api_Prop qs1 qs2 = some r) : Holds prog 16 [.v (.one (.d (.lst (List.map api_Prop.enc qs1)))), .v (.one (.d (.lst (List.map api_Prop.enc qs2))))] ⟨[], []⟩ (Is (slices_Equal_api_Prop_api_Prop_R qs1 qs2 r)) := by
  unfold slices_Equal_api_Prop_api_Prop at hF
  refine holds_of_awp hΓ (fn := f16) (c := cB f16) (A := 0) (nx := 0) (by kernel_rfl) (by kernel_rfl) (by kernel_rfl) (by kernel_rfl) (by kernel_rfl) (by kernel_rfl) (lowc_of (by kernel_rfl)) ?_
  show Awp prog 0 26 (cB f16) _ _
  refine awp_seq ?_
  refine awp_region ?_
  refine aR 1 ?_
  refine aE ?_
  refine awp_seq ?_
  refine awp_seq ?_
  refine awp_region ?_
  refine aR 1 ?_
  refine aL api_Prop.enc qs1 ?_
  refine aR 1 ?_
  refine aL api_Prop.enc qs2 ?_
  refine aR 1 ?_
  refine aE ?_
  refine cE hF (fun h1 hF => ?_) fun h1 hF => ?_
  · refine awp_true (by kernel_rfl) h1 ?_
    refine awp_seq ?_
    refine awp_region ?_
    refine aR 1 ?_
    refine aE ?_
    refine awp_ret ?_
    exact oF hF [] []
  · refine awp_false (by kernel_rfl) h1 ?_
    refine awp_skip ?_
    refine awp_seq ?_
    refine awp_seq ?_
    refine awp_region ?_
    refine aR 1 ?_
    refine aL api_Prop.enc qs1 ?_
    refine aR 1 ?_
    refine aE ?_
    refine awp_block ?_
    refine awp_to (st' := slices_Equal_api_Prop_api_Prop_x1_H qs1 qs2 0) (oT [] []) ?_
    refine bE hF fun x h6 hF => ?_
    rcases x with _ | _
    · refine awp_sub (awp_loop' (slices_Equal_api_Prop_api_Prop_x1_H qs1 qs2) slices_Equal_api_Prop_api_Prop_x1_k (slices_Equal_api_Prop_api_Prop_x1_S qs1 qs2) (by intro x; rcases x with x | x <;> exact fun h => nomatch h) h6 (slices_Equal_api_Prop_api_Prop_x1_ok qs1 qs2)) ?_
      refine awp_seq ?_
      refine awp_region ?_
      refine aR 1 ?_
      refine aE ?_
      refine awp_ret ?_
      exact oF hF [] []
    · refine awp_sub (awp_loop' (slices_Equal_api_Prop_api_Prop_x1_H qs1 qs2) slices_Equal_api_Prop_api_Prop_x1_k (slices_Equal_api_Prop_api_Prop_x1_S qs1 qs2) (by intro x; rcases x with x | x <;> exact fun h => nomatch h) h6 (slices_Equal_api_Prop_api_Prop_x1_ok qs1 qs2)) ?_
      exact oF hF [] []

/-! ### beaconfleet/twin.CheckProps -/
def twin_CheckProps_n0_x1_k : Unit → AEx
  | _ => .exit 0

def twin_CheckProps_n0_x1_S : Unit → St
  | _ => Mem.st ⟨[], [(0, [.nil])]⟩ (tl [(1, .v (.one (.box 0 0)))]) 1

def twin_CheckProps_n0_x1_H : Unit → St
  | _ => Mem.st ⟨[], [(0, [.nil])]⟩ (tl [(1, .v (.one (.box 0 0))), (11, .v (.one (.nil))), (12, .v (.one (.d (.int .i64 0)))), (13, .v (.one (.d (.int .i64 0))))]) 1

theorem twin_CheckProps_n0_x1_ok (s : Unit) (r : (Unit) ⊕ (Unit)) (hF : twin_CheckProps_n0_x1  s = some r) : Awp prog 0 57 (cL (cL (cR (cL (cR (cR (cB f24))))))) (Out 0 (kk twin_CheckProps_n0_x1_k) (SS (twin_CheckProps_n0_x1_H ) (twin_CheckProps_n0_x1_S )) r) (twin_CheckProps_n0_x1_H  s) := by
  unfold twin_CheckProps_n0_x1 at hF
  refine awp_seq ?_
  refine awp_region ?_
  refine aR 1 ?_
  refine aE ?_
  refine awp_seq ?_
  refine cE hF (fun h2 hF => ?_) fun h2 hF => ?_
  · refine awp_true (by kernel_rfl) h2 ?_
    refine awp_skip ?_
    refine awp_seq ?_
    refine awp_block ?_
    refine awp_seq ?_
    exact nE hF
  · refine awp_false (by kernel_rfl) h2 ?_
    refine awp_exit ?_
    exact oO hF [] [] rfl

def twin_CheckProps_n0_x2_k : Unit → AEx
  | _ => .exit 2

def twin_CheckProps_n0_x2_S : Unit → St
  | _ => Mem.st ⟨[], []⟩ (tl []) 0

def twin_CheckProps_n0_x2_H : Unit → St
  | _ => Mem.st ⟨[], [(0, [.nil])]⟩ (tl [(1, .v (.one (.box 0 0))), (46, .v (.one (.nil))), (47, .v (.one (.d (.int .i64 0)))), (48, .v (.one (.d (.int .i64 0))))]) 1

theorem twin_CheckProps_n0_x2_ok (s : Unit) (r : (Unit) ⊕ (Unit)) (hF : twin_CheckProps_n0_x2  s = some r) : Awp prog 0 57 (cL (cL (cR (cL (cR (cR (cR (cB f24)))))))) (Out 0 (kk twin_CheckProps_n0_x2_k) (SS (twin_CheckProps_n0_x2_H ) (twin_CheckProps_n0_x2_S )) r) (twin_CheckProps_n0_x2_H  s) := by
  unfold twin_CheckProps_n0_x2 at hF
  refine awp_seq ?_
  refine awp_region ?_
  refine aR 1 ?_
  refine aE ?_
  refine awp_seq ?_
  refine cE hF (fun h5 hF => ?_) fun h5 hF => ?_
  · refine awp_true (by kernel_rfl) h5 ?_
    refine awp_skip ?_
    refine awp_seq ?_
    refine awp_block ?_
    refine awp_seq ?_
    exact nE hF
  · refine awp_false (by kernel_rfl) h5 ?_
    refine awp_exit ?_
    exact oO hF [] [] rfl

def twin_CheckProps_n0_R (r : Int) : TV × Mem := (.v (.one (.d (.int .i64 r))), ⟨[], []⟩)

theorem twin_CheckProps_n0_ok {r} (hF : twin_CheckProps_n0 = some r) : Holds prog 24 [.v (.one (.nil))] ⟨[], []⟩ (Is (twin_CheckProps_n0_R  r)) := by
  unfold twin_CheckProps_n0 at hF
  refine holds_of_awp hΓ (fn := f24) (c := cB f24) (A := 0) (nx := 0) (by kernel_rfl) (by kernel_rfl) (by kernel_rfl) (by kernel_rfl) (by kernel_rfl) (by kernel_rfl) (lowc_of (by kernel_rfl)) ?_
  show Awp prog 0 57 (cB f24) _ _
  refine awp_seq ?_
  refine awp_region ?_
  refine aR 2 ?_
  refine aE ?_
  refine awp_seq ?_
  refine awp_seq ?_
  refine awp_region ?_
  refine aR 3 ?_
  refine aE ?_
  refine cE hF (fun h1 hF => ?_) fun h1 hF => ?_
  · refine awp_true (by kernel_rfl) h1 ?_
    refine awp_seq ?_
    refine awp_region ?_
    refine aR 1 ?_
    refine aE ?_
    refine awp_ret ?_
    exact oF hF [] []
  · refine awp_false (by kernel_rfl) h1 ?_
    refine awp_skip ?_
    refine awp_seq ?_
    refine awp_seq ?_
    refine awp_region ?_
    refine aR 3 ?_
    refine aE ?_
    refine awp_block ?_
    refine awp_to (st' := twin_CheckProps_n0_x1_H  ()) (oT [] []) ?_
    refine bE hF fun _ h4 hF => ?_
    refine awp_sub (awp_loop' (twin_CheckProps_n0_x1_H ) twin_CheckProps_n0_x1_k (twin_CheckProps_n0_x1_S ) (by intro x; exact fun h => nomatch h) h4 (twin_CheckProps_n0_x1_ok )) ?_
    refine awp_seq ?_
    refine awp_seq ?_
    refine awp_region ?_
    refine aR 3 ?_
    refine aE ?_
    refine awp_block ?_
    refine awp_to (st' := twin_CheckProps_n0_x2_H  ()) (oT [] []) ?_
    refine bE hF fun _ h7 hF => ?_
    refine awp_sub (awp_loop' (twin_CheckProps_n0_x2_H ) twin_CheckProps_n0_x2_k (twin_CheckProps_n0_x2_S ) (by intro x; exact fun h => nomatch h) h7 (twin_CheckProps_n0_x2_ok )) ?_
    refine awp_seq ?_
    refine awp_region ?_
    refine aR 1 ?_
    refine aE ?_
    refine awp_ret ?_
    exact oF hF [] []

/-! ### beaconfleet/twin.find$1 -/
def twin_find_1_R (qp : api_Prop) (qname : List UInt8) (r : Unit) : TV × Mem := (.v (.one (.d (.int .i64 (Lib.compareBytes qp.Name qname)))), ⟨[], []⟩)

theorem twin_find_1_ok {qp : api_Prop} {qname : List UInt8} {r} (hF : twin_find_1 qp qname = some r) : Holds prog 126 [.v (.agg [.d (.str qp.Name), .d (.int .i64 qp.Value.Kind), .d (.bool qp.Value.Flag), .d (.int .i64 qp.Value.Number), .d (.str qp.Value.Words)]), .v (.one (.d (.str qname)))] ⟨[], []⟩ (Is (twin_find_1_R qp qname r)) := by
  unfold twin_find_1 at hF
  refine holds_of_awp hΓ (fn := f126) (c := cB f126) (A := 0) (nx := 0) (by kernel_rfl) (by kernel_rfl) (by kernel_rfl) (by kernel_rfl) (by kernel_rfl) (by kernel_rfl) (lowc_of (by kernel_rfl)) ?_
  show Awp prog 0 9 (cB f126) _ _
  refine awp_seq ?_
  refine awp_region ?_
  refine aR 2 ?_
  refine aE ?_
  refine awp_seq ?_
  refine bE hF fun _ h1 hF => ?_
  refine awp_region ?_
  refine aR 3 ?_
  refine aC (strings_Compare_ok h1) [] [] [] ?_
  refine aR 1 ?_
  refine aE ?_
  refine awp_ret ?_
  exact oF hF [] []

/-! ### slices.BinarySearchFunc[[]beaconfleet/api.Prop,beaconfleet/api.Prop,string] -/
def slices_BinarySearchFunc_api_Prop_api_Prop_string_f2_twin_find_1_x1_k : Int → AEx
  | _ => .exit 0

def slices_BinarySearchFunc_api_Prop_api_Prop_string_f2_twin_find_1_x1_S (qx : List api_Prop) (qtarget : List UInt8) : Int → St
  | vi1 => Mem.st ⟨[], []⟩ (tl [(0, .v (.one (.d (.lst (List.map api_Prop.enc qx))))), (1, .v (.one (.d (.str qtarget)))), (2, .v (.one (.fn 126 []))), (8, .v (.one (.d (.int .i64 (qx.length : Int))))), (9, .v (.one (.d (.int .i64 vi1))))]) 0

def slices_BinarySearchFunc_api_Prop_api_Prop_string_f2_twin_find_1_x1_H (qx : List api_Prop) (qtarget : List UInt8) : Int × Int → St
  | (vi, vj) => Mem.st ⟨[], []⟩ (tl [(0, .v (.one (.d (.lst (List.map api_Prop.enc qx))))), (1, .v (.one (.d (.str qtarget)))), (2, .v (.one (.fn 126 []))), (8, .v (.one (.d (.int .i64 (qx.length : Int))))), (9, .v (.one (.d (.int .i64 vi)))), (10, .v (.one (.d (.int .i64 vj))))]) 0

theorem slices_BinarySearchFunc_api_Prop_api_Prop_string_f2_twin_find_1_x1_ok (qx : List api_Prop) (qtarget : List UInt8) (s : Int × Int) (r : (Int × Int) ⊕ (Int)) (hF : slices_BinarySearchFunc_api_Prop_api_Prop_string_f2_twin_find_1_x1 qx qtarget s = some r) : Awp prog 0 49 (cL (cL (cL (cR (cR (cR (cB f125))))))) (Out 0 (kk slices_BinarySearchFunc_api_Prop_api_Prop_string_f2_twin_find_1_x1_k) (SS (slices_BinarySearchFunc_api_Prop_api_Prop_string_f2_twin_find_1_x1_H qx qtarget) (slices_BinarySearchFunc_api_Prop_api_Prop_string_f2_twin_find_1_x1_S qx qtarget)) r) (slices_BinarySearchFunc_api_Prop_api_Prop_string_f2_twin_find_1_x1_H qx qtarget s) := by
  obtain ⟨vi, vj⟩ := s
  unfold slices_BinarySearchFunc_api_Prop_api_Prop_string_f2_twin_find_1_x1 at hF
  refine awp_seq ?_
  refine awp_seq ?_
  refine awp_region ?_
  refine aR 3 ?_
  refine aE ?_
  refine cE hF (fun h1 hF => ?_) fun h1 hF => ?_
  · refine awp_true (by kernel_rfl) h1 ?_
    refine awp_skip ?_
    refine awp_block ?_
    refine awp_seq ?_
    refine awp_region ?_
    refine aR 7 ?_
    refine aE ?_
    refine awp_seq ?_
    refine bE hF fun vy1 h2 hF => ?_
    refine bE hF fun _ h3 hF => ?_
    refine awp_region ?_
    refine aR 3 ?_
    refine aX (x_idx api_Prop.enc h2) ?_
    refine aR 2 ?_
    refine aC (twin_find_1_ok h3) [] [] [] ?_
    refine aR 1 ?_
    refine aE ?_
    refine cE hF (fun h4 hF => ?_) fun h4 hF => ?_
    · refine awp_true (by kernel_rfl) h4 ?_
      refine awp_region ?_
      refine aR 3 ?_
      refine aE ?_
      exact oO hF [] [] rfl
    · refine awp_false (by kernel_rfl) h4 ?_
      refine awp_region ?_
      refine aR 2 ?_
      refine aE ?_
      exact oO hF [] [] rfl
  · refine awp_false (by kernel_rfl) h1 ?_
    refine awp_exit ?_
    exact oO hF [] [] rfl

def slices_BinarySearchFunc_api_Prop_api_Prop_string_f2_twin_find_1_x2_k : Bool → AEx
  | _ => .normal

def slices_BinarySearchFunc_api_Prop_api_Prop_string_f2_twin_find_1_x2_S (qx : List api_Prop) (qtarget : List UInt8) (vi1_1 : Int) : Bool → St
  | vx => Mem.st ⟨[], []⟩ (tl [(6, .v (.one (.d (.int .i64 vi1_1)))), (7, .v (.one (.d (.bool vx))))]) 0

def slices_BinarySearchFunc_api_Prop_api_Prop_string_f2_twin_find_1_x2_I (qx : List api_Prop) (qtarget : List UInt8) (vi1_1 : Int) : St := Mem.st ⟨[], []⟩ (tl [(0, .v (.one (.d (.lst (List.map api_Prop.enc qx))))), (1, .v (.one (.d (.str qtarget)))), (2, .v (.one (.fn 126 []))), (8, .v (.one (.d (.int .i64 (qx.length : Int))))), (9, .v (.one (.d (.int .i64 vi1_1))))]) 0

theorem slices_BinarySearchFunc_api_Prop_api_Prop_string_f2_twin_find_1_x2_ok (qx : List api_Prop) (qtarget : List UInt8) (vi1_1 : Int) {r} (hF : slices_BinarySearchFunc_api_Prop_api_Prop_string_f2_twin_find_1_x2 qx qtarget vi1_1 = some r) : Awp prog 0 49 (cL (cR (cR (cR (cR (cB f125)))))) (Out 0 slices_BinarySearchFunc_api_Prop_api_Prop_string_f2_twin_find_1_x2_k (slices_BinarySearchFunc_api_Prop_api_Prop_string_f2_twin_find_1_x2_S qx qtarget vi1_1) r) (slices_BinarySearchFunc_api_Prop_api_Prop_string_f2_twin_find_1_x2_I qx qtarget vi1_1) := by
  unfold slices_BinarySearchFunc_api_Prop_api_Prop_string_f2_twin_find_1_x2 at hF
  refine cE hF (fun h6 hF => ?_) fun h6 hF => ?_
  · refine bE hF fun vy2 h7 hF => ?_
    refine bE hF fun _ h8 hF => ?_
    refine awp_region ?_
    refine aR 3 ?_
    refine aB h6 ?_
    refine aR 4 ?_
    refine aX (x_idx api_Prop.enc h7) ?_
    refine aR 2 ?_
    refine aC (twin_find_1_ok h8) [] [] [] ?_
    refine aR 4 ?_
    refine aE ?_
    exact oO hF [] [] rfl
  · refine awp_region ?_
    refine aR 3 ?_
    refine aB h6 ?_
    refine aR 12 ?_
    refine aE ?_
    exact oO hF [] [] rfl

def slices_BinarySearchFunc_api_Prop_api_Prop_string_f2_twin_find_1_R (qx : List api_Prop) (qtarget : List UInt8) (r : Int × Bool) : TV × Mem := (.tup [.one (.d (.int .i64 r.1)), .one (.d (.bool r.2))], ⟨[], []⟩)

theorem slices_BinarySearchFunc_api_Prop_api_Prop_string_f2_twin_find_1_ok {qx : List api_Prop} {qtarget : List UInt8} {r} (hF : slices_BinarySearchFunc_api_Prop_api_Prop_string_f2_twin_find_1 qx qtarget = some r) : Holds prog 125 [.v (.one (.d (.lst (List.map api_Prop.enc qx)))), .v (.one (.d (.str qtarget))), .v (.one (.fn 126 []))] ⟨[], []⟩ (Is (slices_BinarySearchFunc_api_Prop_api_Prop_string_f2_twin_find_1_R qx qtarget r)) := by
  unfold slices_BinarySearchFunc_api_Prop_api_Prop_string_f2_twin_find_1 at hF
  refine holds_of_awp hΓ (fn := f125) (c := cB f125) (A := 0) (nx := 0) (by kernel_rfl) (by kernel_rfl) (by kernel_rfl) (by kernel_rfl) (by kernel_rfl) (by kernel_rfl) (lowc_of (by kernel_rfl)) ?_
  show Awp prog 0 49 (cB f125) _ _
  refine awp_seq ?_
  refine awp_region ?_
  refine aR 2 ?_
  refine aE ?_
  refine awp_seq ?_
  refine awp_region ?_
  refine aR 1 ?_
  refine aL api_Prop.enc qx ?_
  refine aR 1 ?_
  refine aE ?_
  refine awp_seq ?_
  refine awp_region ?_
  refine aR 3 ?_
  refine aE ?_
  refine awp_seq ?_
  refine awp_block ?_
  refine awp_to (st' := slices_BinarySearchFunc_api_Prop_api_Prop_string_f2_twin_find_1_x1_H qx qtarget (0, (qx.length : Int))) (oT [] []) ?_
  refine bE hF fun vi1_1 h5 hF => ?_
  refine awp_sub (awp_loop' (slices_BinarySearchFunc_api_Prop_api_Prop_string_f2_twin_find_1_x1_H qx qtarget) slices_BinarySearchFunc_api_Prop_api_Prop_string_f2_twin_find_1_x1_k (slices_BinarySearchFunc_api_Prop_api_Prop_string_f2_twin_find_1_x1_S qx qtarget) (by intro x; exact fun h => nomatch h) h5 (slices_BinarySearchFunc_api_Prop_api_Prop_string_f2_twin_find_1_x1_ok qx qtarget)) ?_
  refine awp_seq ?_
  refine awp_to (st' := slices_BinarySearchFunc_api_Prop_api_Prop_string_f2_twin_find_1_x2_I qx qtarget vi1_1) (oT [] []) ?_
  refine bE hF fun vx1 h9 hF => ?_
  refine awp_sub (slices_BinarySearchFunc_api_Prop_api_Prop_string_f2_twin_find_1_x2_ok qx qtarget vi1_1 h9) ?_
  refine awp_ret ?_
  exact oF hF [] []

/-! ### beaconfleet/twin.find -/
def twin_find_R (ql : List api_Prop) (qname : List UInt8) (r : Int) : TV × Mem := (.v (.one (.d (.int .i64 r))), ⟨[], []⟩)

theorem twin_find_ok {ql : List api_Prop} {qname : List UInt8} {r} (hF : twin_find ql qname = some r) : Holds prog 76 [.v (.one (.d (.lst (List.map api_Prop.enc ql)))), .v (.one (.d (.str qname)))] ⟨[], []⟩ (Is (twin_find_R ql qname r)) := by
  unfold twin_find at hF
  refine holds_of_awp hΓ (fn := f76) (c := cB f76) (A := 0) (nx := 0) (by kernel_rfl) (by kernel_rfl) (by kernel_rfl) (by kernel_rfl) (by kernel_rfl) (by kernel_rfl) (lowc_of (by kernel_rfl)) ?_
  show Awp prog 0 16 (cB f76) _ _
  refine awp_seq ?_
  refine awp_region ?_
  refine aR 1 ?_
  refine aE ?_
  refine awp_seq ?_
  refine bE hF fun x h1 hF => ?_
  obtain ⟨vr, vr1⟩ := x
  refine awp_region ?_
  refine aR 2 ?_
  refine aC (slices_BinarySearchFunc_api_Prop_api_Prop_string_f2_twin_find_1_ok h1) [] [] [] ?_
  refine aR 5 ?_
  refine aE ?_
  refine awp_seq ?_
  refine awp_seq ?_
  refine awp_region ?_
  refine aR 2 ?_
  refine aE ?_
  refine cE hF (fun h2 hF => ?_) fun h2 hF => ?_
  · refine awp_true (by kernel_rfl) h2 ?_
    refine awp_seq ?_
    refine awp_region ?_
    refine aR 1 ?_
    refine aE ?_
    refine awp_ret ?_
    exact oF hF [] []
  · refine awp_false (by kernel_rfl) h2 ?_
    refine awp_skip ?_
    refine awp_seq ?_
    refine awp_region ?_
    refine aR 2 ?_
    refine aE ?_
    refine awp_ret ?_
    exact oF hF [] []

/-! ### beaconfleet/twin.CheckProps$1 -/
def twin_CheckProps_1_R (qs : List UInt8) (qx : List api_Prop) (r : Bool) : TV × Mem := (.v (.one (.d (.bool r))), ⟨[], [(0, [.d (.lst (List.map api_Prop.enc qx))])]⟩)

theorem twin_CheckProps_1_ok {qs : List UInt8} {qx : List api_Prop} {r} (hF : twin_CheckProps_1 qs qx = some r) : Holds prog 75 [.v (.one (.d (.str qs))), .v (.one (.box 0 0))] ⟨[], [(0, [.d (.lst (List.map api_Prop.enc qx))])]⟩ (Is (twin_CheckProps_1_R qs qx r)) := by
  unfold twin_CheckProps_1 at hF
  refine holds_of_awp hΓ (fn := f75) (c := cB f75) (A := 1) (nx := 1) (by kernel_rfl) (by kernel_rfl) (by kernel_rfl) (by kernel_rfl) (by kernel_rfl) (by kernel_rfl) (lowc_of (by kernel_rfl)) ?_
  show Awp prog 1 8 (cB f75) _ _
  refine awp_seq ?_
  refine awp_region ?_
  refine aR 1 ?_
  refine aE ?_
  refine awp_seq ?_
  refine bE hF fun vr2 h1 hF => ?_
  refine awp_region ?_
  refine aR 2 ?_
  refine aC (twin_find_ok h1) [] [] [] ?_
  refine aR 2 ?_
  refine aE ?_
  refine awp_ret ?_
  exact oF hF [] []

/-! ### beaconfleet/twin.above -/
def twin_above_f1_twin_CheckProps_1_x2_k : Bool → AEx
  | _ => .normal

def twin_above_f1_twin_CheckProps_1_x2_S (qname : List UInt8) (qf : List api_Prop) (vx : Int) : Bool → St
  | vx2 => Mem.st ⟨[], [(0, [.d (.lst (List.map api_Prop.enc qf))])]⟩ (tl [(0, .v (.one (.d (.str qname)))), (1, .v (.one (.fn 75 [0]))), (7, .v (.one (.d (.int .i64 (qname.length : Int))))), (8, .v (.one (.d (.int .i64 vx)))), (21, .v (.one (.d (.bool vx2))))]) 1

def twin_above_f1_twin_CheckProps_1_x2_I (qname : List UInt8) (qf : List api_Prop) (vx : Int) : St := Mem.st ⟨[], [(0, [.d (.lst (List.map api_Prop.enc qf))])]⟩ (tl [(0, .v (.one (.d (.str qname)))), (1, .v (.one (.fn 75 [0]))), (5, .v (.one (.d (.int .i64 vx)))), (7, .v (.one (.d (.int .i64 (qname.length : Int))))), (8, .v (.one (.d (.int .i64 vx))))]) 1

theorem twin_above_f1_twin_CheckProps_1_x2_ok (qname : List UInt8) (qf : List api_Prop) (vx : Int) {r} (hF : twin_above_f1_twin_CheckProps_1_x2 qname qf vx = some r) : Awp prog 1 23 (cL (cR (cL (cL (cR (cR (cL (cL (cR (cL (cR (cB f74)))))))))))) (Out 1 twin_above_f1_twin_CheckProps_1_x2_k (twin_above_f1_twin_CheckProps_1_x2_S qname qf vx) r) (twin_above_f1_twin_CheckProps_1_x2_I qname qf vx) := by
  unfold twin_above_f1_twin_CheckProps_1_x2 at hF
  refine bE hF fun vc1 h2 hF => ?_
  refine cE hF (fun h3 hF => ?_) fun h3 hF => ?_
  · refine bE hF fun vs1 h4 hF => ?_
    refine bE hF fun vr1 h5 hF => ?_
    refine awp_region ?_
    refine aR 2 ?_
    refine aX (x_idxS h2) ?_
    refine aB h3 ?_
    refine aR 4 ?_
    refine aX (x_sliceS h4) ?_
    refine aC (twin_CheckProps_1_ok h5) [] [] [] ?_
    refine aR 1 ?_
    refine aE ?_
    exact oO hF [] [] rfl
  · refine awp_region ?_
    refine aR 2 ?_
    refine aX (x_idxS h2) ?_
    refine aB h3 ?_
    refine aR 7 ?_
    refine aE ?_
    exact oO hF [] [] rfl

def twin_above_f1_twin_CheckProps_1_x1_k : Unit ⊕ Unit → AEx
  | .inl _ => .exit 0
  | .inr _ => .ret

def twin_above_f1_twin_CheckProps_1_x1_S (qname : List UInt8) (qf : List api_Prop) : Unit ⊕ Unit → St
  | .inl _ => Mem.st ⟨[], [(0, [.d (.lst (List.map api_Prop.enc qf))])]⟩ (tl []) 1
  | .inr _ => Mem.st ⟨[], [(0, [.d (.lst (List.map api_Prop.enc qf))])]⟩ (tl [(4, .v (.one (.d (.bool true))))]) 1

def twin_above_f1_twin_CheckProps_1_x1_H (qname : List UInt8) (qf : List api_Prop) : Int → St
  | vx => Mem.st ⟨[], [(0, [.d (.lst (List.map api_Prop.enc qf))])]⟩ (tl [(0, .v (.one (.d (.str qname)))), (1, .v (.one (.fn 75 [0]))), (7, .v (.one (.d (.int .i64 (qname.length : Int))))), (8, .v (.one (.d (.int .i64 vx))))]) 1

theorem twin_above_f1_twin_CheckProps_1_x1_ok (qname : List UInt8) (qf : List api_Prop) (vx : Int) (r : (Int) ⊕ (Unit ⊕ Unit)) (hF : twin_above_f1_twin_CheckProps_1_x1 qname qf vx = some r) : Awp prog 1 23 (cL (cL (cR (cL (cR (cB f74)))))) (Out 1 (kk twin_above_f1_twin_CheckProps_1_x1_k) (SS (twin_above_f1_twin_CheckProps_1_x1_H qname qf) (twin_above_f1_twin_CheckProps_1_x1_S qname qf)) r) (twin_above_f1_twin_CheckProps_1_x1_H qname qf vx) := by
  unfold twin_above_f1_twin_CheckProps_1_x1 at hF
  refine awp_seq ?_
  refine awp_region ?_
  refine aR 1 ?_
  refine aE ?_
  refine awp_seq ?_
  refine cE hF (fun h1 hF => ?_) fun h1 hF => ?_
  · refine awp_true (by kernel_rfl) h1 ?_
    refine awp_skip ?_
    refine awp_seq ?_
    refine awp_block ?_
    refine awp_seq ?_
    refine awp_region ?_
    refine aR 2 ?_
    refine aE ?_
    refine awp_seq ?_
    refine awp_to (st' := twin_above_f1_twin_CheckProps_1_x2_I qname qf vx) (oT [] []) ?_
    refine bE hF fun vx2_1 h6 hF => ?_
    refine awp_sub (twin_above_f1_twin_CheckProps_1_x2_ok qname qf vx h6) ?_
    refine cE hF (fun h7 hF => ?_) fun h7 hF => ?_
    · refine awp_true (by kernel_rfl) h7 ?_
      refine awp_seq ?_
      refine awp_region ?_
      refine aR 1 ?_
      refine aE ?_
      refine awp_ret ?_
      exact oO hF [] [] rfl
    · refine awp_false (by kernel_rfl) h7 ?_
      refine awp_skip ?_
      refine awp_region ?_
      refine aR 2 ?_
      refine aE ?_
      exact oO hF [] [] rfl
  · refine awp_false (by kernel_rfl) h1 ?_
    refine awp_exit ?_
    exact oO hF [] [] rfl

def twin_above_f1_twin_CheckProps_1_R (qname : List UInt8) (qf : List api_Prop) (r : Bool) : TV × Mem := (.v (.one (.d (.bool r))), ⟨[], [(0, [.d (.lst (List.map api_Prop.enc qf))])]⟩)

theorem twin_above_f1_twin_CheckProps_1_ok {qname : List UInt8} {qf : List api_Prop} {r} (hF : twin_above_f1_twin_CheckProps_1 qname qf = some r) : Holds prog 74 [.v (.one (.d (.str qname))), .v (.one (.fn 75 [0]))] ⟨[], [(0, [.d (.lst (List.map api_Prop.enc qf))])]⟩ (Is (twin_above_f1_twin_CheckProps_1_R qname qf r)) := by
  unfold twin_above_f1_twin_CheckProps_1 at hF
  refine holds_of_awp hΓ (fn := f74) (c := cB f74) (A := 1) (nx := 1) (by kernel_rfl) (by kernel_rfl) (by kernel_rfl) (by kernel_rfl) (by kernel_rfl) (by kernel_rfl) (lowc_of (by kernel_rfl)) ?_
  show Awp prog 1 23 (cB f74) _ _
  refine awp_seq ?_
  refine awp_region ?_
  refine aR 1 ?_
  refine aE ?_
  refine awp_seq ?_
  refine awp_seq ?_
  refine awp_region ?_
  refine aR 3 ?_
  refine aE ?_
  refine awp_block ?_
  refine awp_to (st' := twin_above_f1_twin_CheckProps_1_x1_H qname qf 0) (oT [] []) ?_
  refine bE hF fun x h8 hF => ?_
  rcases x with _ | _
  · refine awp_sub (awp_loop' (twin_above_f1_twin_CheckProps_1_x1_H qname qf) twin_above_f1_twin_CheckProps_1_x1_k (twin_above_f1_twin_CheckProps_1_x1_S qname qf) (by intro x; rcases x with x | x <;> exact fun h => nomatch h) h8 (twin_above_f1_twin_CheckProps_1_x1_ok qname qf)) ?_
    refine awp_seq ?_
    refine awp_region ?_
    refine aR 1 ?_
    refine aE ?_
    refine awp_ret ?_
    exact oF hF [] []
  · refine awp_sub (awp_loop' (twin_above_f1_twin_CheckProps_1_x1_H qname qf) twin_above_f1_twin_CheckProps_1_x1_k (twin_above_f1_twin_CheckProps_1_x1_S qname qf) (by intro x; rcases x with x | x <;> exact fun h => nomatch h) h8 (twin_above_f1_twin_CheckProps_1_x1_ok qname qf)) ?_
    exact oF hF [] []

/-! ### beaconfleet/twin.CheckProps -/
def twin_CheckProps_x2_k : Bool → AEx
  | _ => .normal

def twin_CheckProps_x2_S (ql : List api_Prop) (vx : Int) (vy2 : api_Prop) : Bool → St
  | vx2 => Mem.st ⟨[], [(0, [.d (.lst (List.map api_Prop.enc ql))])]⟩ (tl [(1, .v (.one (.box 0 0))), (11, .v (.one (.d (.lst (List.map api_Prop.enc ql))))), (12, .v (.one (.d (.int .i64 (ql.length : Int))))), (13, .v (.one (.d (.int .i64 vx)))), (44, .v (.one (.d (.bool vx2))))]) 1

def twin_CheckProps_x2_I (ql : List api_Prop) (vx : Int) (vy2 : api_Prop) : St := Mem.st ⟨[], [(0, [.d (.lst (List.map api_Prop.enc ql))]), (1, [.d (.str vy2.Name), .d (.int .i64 vy2.Value.Kind), .d (.bool vy2.Value.Flag), .d (.int .i64 vy2.Value.Number), .d (.str vy2.Value.Words)])]⟩ (tl [(1, .v (.one (.box 0 0))), (3, .v (.one (.d (.int .i64 vx)))), (4, .v (.one (.box 1 0))), (11, .v (.one (.d (.lst (List.map api_Prop.enc ql))))), (12, .v (.one (.d (.int .i64 (ql.length : Int))))), (13, .v (.one (.d (.int .i64 vx))))]) 2

theorem twin_CheckProps_x2_ok (ql : List api_Prop) (vx : Int) (vy2 : api_Prop) {r} (hF : twin_CheckProps_x2 ql vx vy2 = some r) : Awp prog 0 57 (cL (cR (cR (cR (cR (cL (cL (cR (cR (cL (cL (cR (cL (cR (cR (cB f24)))))))))))))))) (Out 0 twin_CheckProps_x2_k (twin_CheckProps_x2_S ql vx vy2) r) (twin_CheckProps_x2_I ql vx vy2) := by
  unfold twin_CheckProps_x2 at hF
  refine cE hF (fun h9 hF => ?_) fun h9 hF => ?_
  · refine bE hF fun vy3 h10 hF => ?_
    refine aD ?_
    refine dR 1 ?_
    refine dB h9 ?_
    refine dR 6 ?_
    refine dX (x_idx api_Prop.enc h10) ?_
    refine dR 4 ?_
    refine dE ?_
    exact oO hF [] [] rfl
  · refine aD ?_
    refine dR 1 ?_
    refine dB h9 ?_
    refine dR 11 ?_
    refine dE ?_
    exact oO hF [] [] rfl

def twin_CheckProps_x1_k : Unit ⊕ Int → AEx
  | .inl _ => .exit 0
  | .inr _ => .ret

def twin_CheckProps_x1_S (ql : List api_Prop) : Unit ⊕ Int → St
  | .inl _ => Mem.st ⟨[], [(0, [.d (.lst (List.map api_Prop.enc ql))])]⟩ (tl [(1, .v (.one (.box 0 0)))]) 1
  | .inr vx3 => Mem.st ⟨[], []⟩ (tl [(2, .v (.one (.d (.int .i64 vx3))))]) 0

def twin_CheckProps_x1_H (ql : List api_Prop) : Int → St
  | vx => Mem.st ⟨[], [(0, [.d (.lst (List.map api_Prop.enc ql))])]⟩ (tl [(1, .v (.one (.box 0 0))), (11, .v (.one (.d (.lst (List.map api_Prop.enc ql))))), (12, .v (.one (.d (.int .i64 (ql.length : Int))))), (13, .v (.one (.d (.int .i64 vx))))]) 1

theorem twin_CheckProps_x1_ok (ql : List api_Prop) (vx : Int) (r : (Int) ⊕ (Unit ⊕ Int)) (hF : twin_CheckProps_x1 ql vx = some r) : Awp prog 0 57 (cL (cL (cR (cL (cR (cR (cB f24))))))) (Out 0 (kk twin_CheckProps_x1_k) (SS (twin_CheckProps_x1_H ql) (twin_CheckProps_x1_S ql)) r) (twin_CheckProps_x1_H ql vx) := by
  unfold twin_CheckProps_x1 at hF
  refine awp_seq ?_
  refine awp_region ?_
  refine aR 1 ?_
  refine aE ?_
  refine awp_seq ?_
  refine cE hF (fun h2 hF => ?_) fun h2 hF => ?_
  · refine awp_true (by kernel_rfl) h2 ?_
    refine awp_skip ?_
    refine awp_seq ?_
    refine awp_block ?_
    refine awp_seq ?_
    refine bE hF fun vy2 h3 hF => ?_
    refine awp_region ?_
    refine aR 1 ?_
    refine aX (x_idx api_Prop.enc h3) ?_
    refine aR 4 ?_
    refine aE ?_
    refine awp_seq ?_
    refine awp_seq ?_
    refine bE hF fun vr1 h4 hF => ?_
    refine awp_region ?_
    refine aR 2 ?_
    refine aC (twin_isName_ok h4) [] [] [] ?_
    refine aR 1 ?_
    refine aE ?_
    refine cE hF (fun h5 hF => ?_) fun h5 hF => ?_
    · refine awp_true (by kernel_rfl) h5 ?_
      refine awp_seq ?_
      refine awp_region ?_
      refine aR 1 ?_
      refine aE ?_
      refine awp_ret ?_
      exact oO hF [] [] rfl
    · refine awp_false (by kernel_rfl) h5 ?_
      refine awp_skip ?_
      refine awp_seq ?_
      refine awp_seq ?_
      refine bE hF fun vr2_1 h6 hF => ?_
      refine awp_region ?_
      refine aR 2 ?_
      refine aC (twin_valueFault_ok h6) [] [] [] ?_
      refine aR 1 ?_
      refine aE ?_
      refine awp_seq ?_
      refine awp_region ?_
      refine aR 2 ?_
      refine aE ?_
      refine cE hF (fun h7 hF => ?_) fun h7 hF => ?_
      · refine awp_true (by kernel_rfl) h7 ?_
        refine awp_seq ?_
        refine awp_region ?_
        refine aR 2 ?_
        refine aE ?_
        refine awp_ret ?_
        exact oO hF [] [] rfl
      · refine awp_false (by kernel_rfl) h7 ?_
        refine awp_skip ?_
        refine awp_seq ?_
        refine awp_seq ?_
        refine awp_region ?_
        refine aR 4 ?_
        refine aE ?_
        refine cE hF (fun h8 hF => ?_) fun h8 hF => ?_
        · refine awp_true (by kernel_rfl) h8 ?_
          refine awp_seq ?_
          refine awp_region ?_
          refine aR 1 ?_
          refine aE ?_
          refine awp_ret ?_
          exact oO hF [] [] rfl
        · refine awp_false (by kernel_rfl) h8 ?_
          refine awp_skip ?_
          refine awp_seq ?_
          refine awp_to (st' := twin_CheckProps_x2_I ql vx vy2) (oT [(1, 4001)] []) ?_
          refine bE hF fun vx2_1 h11 hF => ?_
          refine awp_sub (twin_CheckProps_x2_ok ql vx vy2 h11) ?_
          refine cE hF (fun h12 hF => ?_) fun h12 hF => ?_
          · refine awp_true (by kernel_rfl) h12 ?_
            refine awp_seq ?_
            refine awp_region ?_
            refine aR 1 ?_
            refine aE ?_
            refine awp_ret ?_
            exact oO hF [] [] rfl
          · refine awp_false (by kernel_rfl) h12 ?_
            refine awp_skip ?_
            refine awp_region ?_
            refine aR 2 ?_
            refine aE ?_
            exact oO hF [] [] rfl
  · refine awp_false (by kernel_rfl) h2 ?_
    refine awp_exit ?_
    exact oO hF [] [] rfl

def twin_CheckProps_x3_k : Unit ⊕ Unit → AEx
  | .inl _ => .exit 2
  | .inr _ => .ret

def twin_CheckProps_x3_S (ql : List api_Prop) : Unit ⊕ Unit → St
  | .inl _ => Mem.st ⟨[], []⟩ (tl []) 0
  | .inr _ => Mem.st ⟨[], []⟩ (tl [(2, .v (.one (.d (.int .i64 13))))]) 0

def twin_CheckProps_x3_H (ql : List api_Prop) : Int → St
  | vx4 => Mem.st ⟨[], [(0, [.d (.lst (List.map api_Prop.enc ql))])]⟩ (tl [(1, .v (.one (.box 0 0))), (46, .v (.one (.d (.lst (List.map api_Prop.enc ql))))), (47, .v (.one (.d (.int .i64 (ql.length : Int))))), (48, .v (.one (.d (.int .i64 vx4))))]) 1

theorem twin_CheckProps_x3_ok (ql : List api_Prop) (vx4 : Int) (r : (Int) ⊕ (Unit ⊕ Unit)) (hF : twin_CheckProps_x3 ql vx4 = some r) : Awp prog 0 57 (cL (cL (cR (cL (cR (cR (cR (cB f24)))))))) (Out 0 (kk twin_CheckProps_x3_k) (SS (twin_CheckProps_x3_H ql) (twin_CheckProps_x3_S ql)) r) (twin_CheckProps_x3_H ql vx4) := by
  unfold twin_CheckProps_x3 at hF
  refine awp_seq ?_
  refine awp_region ?_
  refine aR 1 ?_
  refine aE ?_
  refine awp_seq ?_
  refine cE hF (fun h14 hF => ?_) fun h14 hF => ?_
  · refine awp_true (by kernel_rfl) h14 ?_
    refine awp_skip ?_
    refine awp_seq ?_
    refine awp_block ?_
    refine awp_seq ?_
    refine bE hF fun vy5 h15 hF => ?_
    refine awp_region ?_
    refine aX (x_idx api_Prop.enc h15) ?_
    refine aR 3 ?_
    refine aE ?_
    refine awp_seq ?_
    refine bE hF fun vr2_3 h16 hF => ?_
    refine awp_region ?_
    refine aR 3 ?_
    refine aC (twin_above_f1_twin_CheckProps_1_ok h16) [] [] [] ?_
    refine aE ?_
    refine cE hF (fun h17 hF => ?_) fun h17 hF => ?_
    · refine awp_true (by kernel_rfl) h17 ?_
      refine awp_seq ?_
      refine awp_region ?_
      refine aR 1 ?_
      refine aE ?_
      refine awp_ret ?_
      exact oO hF [] [] rfl
    · refine awp_false (by kernel_rfl) h17 ?_
      refine awp_skip ?_
      refine awp_region ?_
      refine aR 2 ?_
      refine aE ?_
      exact oO hF [] [] rfl
  · refine awp_false (by kernel_rfl) h14 ?_
    refine awp_exit ?_
    exact oO hF [] [] rfl

def twin_CheckProps_R (ql : List api_Prop) (r : Int) : TV × Mem := (.v (.one (.d (.int .i64 r))), ⟨[], []⟩)

theorem twin_CheckProps_ok {ql : List api_Prop} {r} (hF : twin_CheckProps ql = some r) : Holds prog 24 [.v (.one (.d (.lst (List.map api_Prop.enc ql))))] ⟨[], []⟩ (Is (twin_CheckProps_R ql r)) := by
  unfold twin_CheckProps at hF
  refine holds_of_awp hΓ (fn := f24) (c := cB f24) (A := 0) (nx := 0) (by kernel_rfl) (by kernel_rfl) (by kernel_rfl) (by kernel_rfl) (by kernel_rfl) (by kernel_rfl) (lowc_of (by kernel_rfl)) ?_
  show Awp prog 0 57 (cB f24) _ _
  refine awp_seq ?_
  refine awp_region ?_
  refine aR 2 ?_
  refine aE ?_
  refine awp_seq ?_
  refine awp_seq ?_
  refine awp_region ?_
  refine aR 1 ?_
  refine aL api_Prop.enc ql ?_
  refine aR 1 ?_
  refine aE ?_
  refine cE hF (fun h1 hF => ?_) fun h1 hF => ?_
  · refine awp_true (by kernel_rfl) h1 ?_
    refine awp_seq ?_
    refine awp_region ?_
    refine aR 1 ?_
    refine aE ?_
    refine awp_ret ?_
    exact oF hF [] []
  · refine awp_false (by kernel_rfl) h1 ?_
    refine awp_skip ?_
    refine awp_seq ?_
    refine awp_seq ?_
    refine awp_region ?_
    refine aR 1 ?_
    refine aL api_Prop.enc ql ?_
    refine aR 1 ?_
    refine aE ?_
    refine awp_block ?_
    refine awp_to (st' := twin_CheckProps_x1_H ql 0) (oT [] []) ?_
    refine bE hF fun x h13 hF => ?_
    rcases x with _ | vx3_1
    · refine awp_sub (awp_loop' (twin_CheckProps_x1_H ql) twin_CheckProps_x1_k (twin_CheckProps_x1_S ql) (by intro x; rcases x with x | x <;> exact fun h => nomatch h) h13 (twin_CheckProps_x1_ok ql)) ?_
      refine awp_seq ?_
      refine awp_seq ?_
      refine awp_region ?_
      refine aR 1 ?_
      refine aL api_Prop.enc ql ?_
      refine aR 1 ?_
      refine aE ?_
      refine awp_block ?_
      refine awp_to (st' := twin_CheckProps_x3_H ql 0) (oT [] []) ?_
      refine bE hF fun x h18 hF => ?_
      rcases x with _ | _
      · refine awp_sub (awp_loop' (twin_CheckProps_x3_H ql) twin_CheckProps_x3_k (twin_CheckProps_x3_S ql) (by intro x; rcases x with x | x <;> exact fun h => nomatch h) h18 (twin_CheckProps_x3_ok ql)) ?_
        refine awp_seq ?_
        refine awp_region ?_
        refine aR 1 ?_
        refine aE ?_
        refine awp_ret ?_
        exact oF hF [] []
      · refine awp_sub (awp_loop' (twin_CheckProps_x3_H ql) twin_CheckProps_x3_k (twin_CheckProps_x3_S ql) (by intro x; rcases x with x | x <;> exact fun h => nomatch h) h18 (twin_CheckProps_x3_ok ql)) ?_
        exact oF hF [] []
    · refine awp_sub (awp_loop' (twin_CheckProps_x1_H ql) twin_CheckProps_x1_k (twin_CheckProps_x1_S ql) (by intro x; rcases x with x | x <;> exact fun h => nomatch h) h13 (twin_CheckProps_x1_ok ql)) ?_
      exact oF hF [] []

/-! ### math/bits.Len64 -/
def bits_Len64_x1_k : (Int × Int) → AEx
  | _ => .normal

def bits_Len64_x1_S (qx : Int) : (Int × Int) → St
  | (vx, vn) => Mem.st ⟨[], []⟩ (tl [(0, .v (.one (.d (.int .u64 vx)))), (2, .v (.one (.d (.int .i64 vn))))]) 0

def bits_Len64_x1_I (qx : Int) : St := Mem.st ⟨[], []⟩ (tl [(0, .v (.one (.d (.int .u64 qx)))), (2, .v (.one (.d (.int .i64 0))))]) 0

theorem bits_Len64_x1_ok (qx : Int) {r} (hF : bits_Len64_x1 qx = some r) : Awp prog 0 25 (cL (cR (cB f156))) (Out 0 bits_Len64_x1_k (bits_Len64_x1_S qx) r) (bits_Len64_x1_I qx) := by
  unfold bits_Len64_x1 at hF
  refine awp_seq ?_
  refine awp_region ?_
  refine aR 2 ?_
  refine aE ?_
  refine cE hF (fun h1 hF => ?_) fun h1 hF => ?_
  · refine awp_true (by kernel_rfl) h1 ?_
    refine awp_seq ?_
    refine awp_region ?_
    refine aR 3 ?_
    refine aE ?_
    refine awp_region ?_
    refine aR 1 ?_
    refine aE ?_
    exact oO hF [] [] rfl
  · refine awp_false (by kernel_rfl) h1 ?_
    refine awp_skip ?_
    exact oO hF [] [] rfl

def bits_Len64_x2_k : (Int × Int) → AEx
  | _ => .normal

def bits_Len64_x2_S (vx1 : Int) (vn1 : Int) : (Int × Int) → St
  | (vx2, vn2) => Mem.st ⟨[], []⟩ (tl [(0, .v (.one (.d (.int .u64 vx2)))), (2, .v (.one (.d (.int .i64 vn2))))]) 0

def bits_Len64_x2_I (vx1 : Int) (vn1 : Int) : St := Mem.st ⟨[], []⟩ (tl [(0, .v (.one (.d (.int .u64 vx1)))), (2, .v (.one (.d (.int .i64 vn1))))]) 0

theorem bits_Len64_x2_ok (vx1 : Int) (vn1 : Int) {r} (hF : bits_Len64_x2 vx1 vn1 = some r) : Awp prog 0 25 (cL (cR (cR (cB f156)))) (Out 0 bits_Len64_x2_k (bits_Len64_x2_S vx1 vn1) r) (bits_Len64_x2_I vx1 vn1) := by
  unfold bits_Len64_x2 at hF
  refine awp_seq ?_
  refine awp_region ?_
  refine aR 2 ?_
  refine aE ?_
  refine cE hF (fun h3 hF => ?_) fun h3 hF => ?_
  · refine awp_true (by kernel_rfl) h3 ?_
    refine awp_seq ?_
    refine awp_region ?_
    refine aR 3 ?_
    refine aE ?_
    refine awp_region ?_
    refine aR 3 ?_
    refine aE ?_
    exact oO hF [] [] rfl
  · refine awp_false (by kernel_rfl) h3 ?_
    refine awp_skip ?_
    exact oO hF [] [] rfl

def bits_Len64_x3_k : (Int × Int) → AEx
  | _ => .normal

def bits_Len64_x3_S (vx2_1 : Int) (vn2_1 : Int) : (Int × Int) → St
  | (vx3, vn3) => Mem.st ⟨[], []⟩ (tl [(0, .v (.one (.d (.int .u64 vx3)))), (2, .v (.one (.d (.int .i64 vn3))))]) 0

def bits_Len64_x3_I (vx2_1 : Int) (vn2_1 : Int) : St := Mem.st ⟨[], []⟩ (tl [(0, .v (.one (.d (.int .u64 vx2_1)))), (2, .v (.one (.d (.int .i64 vn2_1))))]) 0

theorem bits_Len64_x3_ok (vx2_1 : Int) (vn2_1 : Int) {r} (hF : bits_Len64_x3 vx2_1 vn2_1 = some r) : Awp prog 0 25 (cL (cR (cR (cR (cB f156))))) (Out 0 bits_Len64_x3_k (bits_Len64_x3_S vx2_1 vn2_1) r) (bits_Len64_x3_I vx2_1 vn2_1) := by
  unfold bits_Len64_x3 at hF
  refine awp_seq ?_
  refine awp_region ?_
  refine aR 2 ?_
  refine aE ?_
  refine cE hF (fun h5 hF => ?_) fun h5 hF => ?_
  · refine awp_true (by kernel_rfl) h5 ?_
    refine awp_seq ?_
    refine awp_region ?_
    refine aR 3 ?_
    refine aE ?_
    refine awp_region ?_
    refine aR 3 ?_
    refine aE ?_
    exact oO hF [] [] rfl
  · refine awp_false (by kernel_rfl) h5 ?_
    refine awp_skip ?_
    exact oO hF [] [] rfl

def bits_Len64_R (qx : Int) (r : Int) : TV × Mem := (.v (.one (.d (.int .i64 r))), ⟨[], []⟩)

theorem bits_Len64_ok {qx : Int} {r} (hF : bits_Len64 qx = some r) : Holds prog 156 [.v (.one (.d (.int .u64 qx)))] ⟨[], []⟩ (Is (bits_Len64_R qx r)) := by
  unfold bits_Len64 at hF
  refine holds_of_awp hΓ (fn := f156) (c := cB f156) (A := 0) (nx := 0) (by kernel_rfl) (by kernel_rfl) (by kernel_rfl) (by kernel_rfl) (by kernel_rfl) (by kernel_rfl) (lowc_of (by kernel_rfl)) ?_
  show Awp prog 0 25 (cB f156) _ _
  refine awp_seq ?_
  refine awp_region ?_
  refine aR 1 ?_
  refine aE ?_
  refine awp_seq ?_
  refine awp_to (st' := bits_Len64_x1_I qx) (oT [] []) ?_
  refine bE hF fun x h2 hF => ?_
  obtain ⟨vx1, vn1⟩ := x
  refine awp_sub (bits_Len64_x1_ok qx h2) ?_
  refine awp_seq ?_
  refine awp_to (st' := bits_Len64_x2_I vx1 vn1) (oT [] []) ?_
  refine bE hF fun x h4 hF => ?_
  obtain ⟨vx2_1, vn2_1⟩ := x
  refine awp_sub (bits_Len64_x2_ok vx1 vn1 h4) ?_
  refine awp_seq ?_
  refine awp_to (st' := bits_Len64_x3_I vx2_1 vn2_1) (oT [] []) ?_
  refine bE hF fun x h6 hF => ?_
  obtain ⟨vx3_1, vn3_1⟩ := x
  refine awp_sub (bits_Len64_x3_ok vx2_1 vn2_1 h6) ?_
  refine awp_seq ?_
  refine bE hF fun vc h7 hF => ?_
  refine awp_region ?_
  refine aR 3 ?_
  refine aX (x_idxS h7) ?_
  refine aR 3 ?_
  refine aE ?_
  refine awp_ret ?_
  exact oF hF [] []

/-! ### math/bits.Len -/
def bits_Len_R (qx : Int) (r : Int) : TV × Mem := (.v (.one (.d (.int .i64 r))), ⟨[], []⟩)

theorem bits_Len_ok {qx : Int} {r} (hF : bits_Len qx = some r) : Holds prog 116 [.v (.one (.d (.int .u64 qx)))] ⟨[], []⟩ (Is (bits_Len_R qx r)) := by
  unfold bits_Len at hF
  refine holds_of_awp hΓ (fn := f116) (c := cB f116) (A := 0) (nx := 0) (by kernel_rfl) (by kernel_rfl) (by kernel_rfl) (by kernel_rfl) (by kernel_rfl) (by kernel_rfl) (lowc_of (by kernel_rfl)) ?_
  show Awp prog 0 8 (cB f116) _ _
  refine awp_seq ?_
  refine awp_region ?_
  refine aR 1 ?_
  refine aE ?_
  refine awp_seq ?_
  refine awp_false (by kernel_rfl) rfl ?_
  refine awp_skip ?_
  refine awp_seq ?_
  refine bE hF fun vr h1 hF => ?_
  refine awp_region ?_
  refine aR 1 ?_
  refine aC (bits_Len64_ok h1) [] [] [] ?_
  refine aR 1 ?_
  refine aE ?_
  refine awp_ret ?_
  exact oF hF [] []

/-! ### cmp.isNaN[string] -/
def cmp_isNaN_string_R (qx : List UInt8) (r : Unit) : TV × Mem := (.v (.one (.d (.bool (!decide (qx = qx))))), ⟨[], []⟩)

theorem cmp_isNaN_string_ok {qx : List UInt8} {r} (hF : cmp_isNaN_string qx = some r) : Holds prog 217 [.v (.one (.d (.str qx)))] ⟨[], []⟩ (Is (cmp_isNaN_string_R qx r)) := by
  unfold cmp_isNaN_string at hF
  refine holds_of_awp hΓ (fn := f217) (c := cB f217) (A := 0) (nx := 0) (by kernel_rfl) (by kernel_rfl) (by kernel_rfl) (by kernel_rfl) (by kernel_rfl) (by kernel_rfl) (lowc_of (by kernel_rfl)) ?_
  show Awp prog 0 6 (cB f217) _ _
  refine awp_seq ?_
  refine awp_region ?_
  refine aR 1 ?_
  refine aE ?_
  refine awp_seq ?_
  refine awp_region ?_
  refine aR 4 ?_
  refine aE ?_
  refine awp_ret ?_
  exact oF hF [] []

/-! ### cmp.Less[string] -/
def cmp_Less_string_x1_k : Bool → AEx
  | _ => .normal

def cmp_Less_string_x1_S (qx : List UInt8) (qy : List UInt8) : Bool → St
  | vx => Mem.st ⟨[], []⟩ (tl [(4, .v (.one (.d (.bool vx))))]) 0

def cmp_Less_string_x1_I (qx : List UInt8) (qy : List UInt8) : St := Mem.st ⟨[], []⟩ (tl [(0, .v (.one (.d (.str qx)))), (1, .v (.one (.d (.str qy))))]) 0

theorem cmp_Less_string_x1_ok (qx : List UInt8) (qy : List UInt8) {r} (hF : cmp_Less_string_x1 qx qy = some r) : Awp prog 0 17 (cL (cR (cB f199))) (Out 0 cmp_Less_string_x1_k (cmp_Less_string_x1_S qx qy) r) (cmp_Less_string_x1_I qx qy) := by
  unfold cmp_Less_string_x1 at hF
  refine bE hF fun _ h1 hF => ?_
  refine cE hF (fun h2 hF => ?_) fun h2 hF => ?_
  · refine bE hF fun _ h3 hF => ?_
    refine cE hF (fun h4 hF => ?_) fun h4 hF => ?_
    · refine awp_region ?_
      refine aR 1 ?_
      refine aCb (cmp_isNaN_string_ok h1) [] [] [] h2 ?_
      refine aR 2 ?_
      refine aC (cmp_isNaN_string_ok h3) [] [] [] ?_
      refine aB h4 ?_
      refine aR 7 ?_
      refine aE ?_
      exact oO hF [] [] rfl
    · refine awp_region ?_
      refine aR 1 ?_
      refine aCb (cmp_isNaN_string_ok h1) [] [] [] h2 ?_
      refine aR 2 ?_
      refine aC (cmp_isNaN_string_ok h3) [] [] [] ?_
      refine aB h4 ?_
      refine aR 7 ?_
      refine aE ?_
      exact oO hF [] [] rfl
  · refine awp_region ?_
    refine aR 1 ?_
    refine aCb (cmp_isNaN_string_ok h1) [] [] [] h2 ?_
    refine aR 11 ?_
    refine aE ?_
    exact oO hF [] [] rfl

def cmp_Less_string_R (qx : List UInt8) (qy : List UInt8) (r : Bool) : TV × Mem := (.v (.one (.d (.bool r))), ⟨[], []⟩)

theorem cmp_Less_string_ok {qx : List UInt8} {qy : List UInt8} {r} (hF : cmp_Less_string qx qy = some r) : Holds prog 199 [.v (.one (.d (.str qx))), .v (.one (.d (.str qy)))] ⟨[], []⟩ (Is (cmp_Less_string_R qx qy r)) := by
  unfold cmp_Less_string at hF
  refine holds_of_awp hΓ (fn := f199) (c := cB f199) (A := 0) (nx := 0) (by kernel_rfl) (by kernel_rfl) (by kernel_rfl) (by kernel_rfl) (by kernel_rfl) (by kernel_rfl) (lowc_of (by kernel_rfl)) ?_
  show Awp prog 0 17 (cB f199) _ _
  refine awp_seq ?_
  refine awp_region ?_
  refine aR 1 ?_
  refine aE ?_
  refine awp_seq ?_
  refine awp_to (st' := cmp_Less_string_x1_I qx qy) (oT [] []) ?_
  refine bE hF fun vx1 h5 hF => ?_
  refine awp_sub (cmp_Less_string_x1_ok qx qy h5) ?_
  refine awp_ret ?_
  exact oF hF [] []

/-! ### slices.insertionSortOrdered[string] -/
def slices_insertionSortOrdered_string_o0_x3_k : Bool → AEx
  | _ => .normal

def slices_insertionSortOrdered_string_o0_x3_S (qa : Int) (qb : Int) (vi : Int) (vl3 : List (List UInt8)) (vj1 : Int) : Bool → St
  | vx4 => Mem.st ⟨[(0, ⟨9, 1, List.map encS vl3⟩)], []⟩ (tl [(0, .v (.one (.own 0 none))), (1, .v (.one (.d (.int .i64 qa)))), (2, .v (.one (.d (.int .i64 qb)))), (6, .v (.one (.d (.int .i64 vi)))), (7, .v (.one (.d (.int .i64 vj1)))), (30, .v (.one (.d (.bool vx4))))]) 1

def slices_insertionSortOrdered_string_o0_x3_I (qa : Int) (qb : Int) (vi : Int) (vl3 : List (List UInt8)) (vj1 : Int) : St := Mem.st ⟨[(0, ⟨9, 1, List.map encS vl3⟩)], []⟩ (tl [(0, .v (.one (.own 0 none))), (1, .v (.one (.d (.int .i64 qa)))), (2, .v (.one (.d (.int .i64 qb)))), (6, .v (.one (.d (.int .i64 vi)))), (7, .v (.one (.d (.int .i64 vj1))))]) 1

theorem slices_insertionSortOrdered_string_o0_x3_ok (qa : Int) (qb : Int) (vi : Int) (vl3 : List (List UInt8)) (vj1 : Int) {r} (hF : slices_insertionSortOrdered_string_o0_x3 qa vl3 vj1 = some r) : Awp prog 1 49 (cL (cL (cL (cL (cR (cL (cL (cR (cL (cL (cR (cB f193)))))))))))) (Out 1 slices_insertionSortOrdered_string_o0_x3_k (slices_insertionSortOrdered_string_o0_x3_S qa qb vi vl3 vj1) r) (slices_insertionSortOrdered_string_o0_x3_I qa qb vi vl3 vj1) := by
  unfold slices_insertionSortOrdered_string_o0_x3 at hF
  refine cE hF (fun h2 hF => ?_) fun h2 hF => ?_
  · refine bE hF fun vy15 h3 hF => ?_
    refine bE hF fun vy16 h4 hF => ?_
    refine bE hF fun vr3 h5 hF => ?_
    refine aD ?_
    refine dR 2 ?_
    refine dB h2 ?_
    refine dR 3 ?_
    refine dX (x_idxO encS 0 h3) ?_
    refine dX (x_ldE encS h3) ?_
    refine dR 3 ?_
    refine dX (x_idxO encS 0 h4) ?_
    refine dX (x_ldE encS h4) ?_
    refine dC (cmp_Less_string_ok h5) [] [] [] ?_
    refine dR 1 ?_
    refine dE ?_
    exact oO hF [] [] rfl
  · refine aD ?_
    refine dR 2 ?_
    refine dB h2 ?_
    refine dR 12 ?_
    refine dE ?_
    exact oO hF [] [] rfl

def slices_insertionSortOrdered_string_o0_x2_k : (List (List UInt8)) → AEx
  | _ => .exit 2

def slices_insertionSortOrdered_string_o0_x2_S (qa : Int) (qb : Int) (vi : Int) : (List (List UInt8)) → St
  | vl4 => Mem.st ⟨[(0, ⟨9, 1, List.map encS vl4⟩)], []⟩ (tl [(0, .v (.one (.own 0 none))), (1, .v (.one (.d (.int .i64 qa)))), (2, .v (.one (.d (.int .i64 qb)))), (6, .v (.one (.d (.int .i64 vi))))]) 1

def slices_insertionSortOrdered_string_o0_x2_H (qa : Int) (qb : Int) (vi : Int) : (List (List UInt8)) × Int → St
  | (vl3, vj1) => Mem.st ⟨[(0, ⟨9, 1, List.map encS vl3⟩)], []⟩ (tl [(0, .v (.one (.own 0 none))), (1, .v (.one (.d (.int .i64 qa)))), (2, .v (.one (.d (.int .i64 qb)))), (6, .v (.one (.d (.int .i64 vi)))), (7, .v (.one (.d (.int .i64 vj1))))]) 1

theorem slices_insertionSortOrdered_string_o0_x2_ok (qa : Int) (qb : Int) (vi : Int) (s : (List (List UInt8)) × Int) (r : ((List (List UInt8)) × Int) ⊕ ((List (List UInt8)))) (hF : slices_insertionSortOrdered_string_o0_x2 qa s = some r) : Awp prog 1 49 (cL (cL (cR (cL (cL (cR (cL (cL (cR (cB f193)))))))))) (Out 1 (kk slices_insertionSortOrdered_string_o0_x2_k) (SS (slices_insertionSortOrdered_string_o0_x2_H qa qb vi) (slices_insertionSortOrdered_string_o0_x2_S qa qb vi)) r) (slices_insertionSortOrdered_string_o0_x2_H qa qb vi s) := by
  obtain ⟨vl3, vj1⟩ := s
  unfold slices_insertionSortOrdered_string_o0_x2 at hF
  refine awp_seq ?_
  refine awp_seq ?_
  refine awp_to (st' := slices_insertionSortOrdered_string_o0_x3_I qa qb vi vl3 vj1) (oT [] []) ?_
  refine bE hF fun vx4_1 h6 hF => ?_
  refine awp_sub (slices_insertionSortOrdered_string_o0_x3_ok qa qb vi vl3 vj1 h6) ?_
  refine cE hF (fun h7 hF => ?_) fun h7 hF => ?_
  · refine awp_true (by kernel_rfl) h7 ?_
    refine awp_skip ?_
    refine awp_seq ?_
    refine awp_block ?_
    refine bE hF fun vy17 h8 hF => ?_
    refine bE hF fun vy18 h9 hF => ?_
    refine bE hF fun vy19 h10 hF => ?_
    refine aDw [0] ?_
    refine dR 8 ?_
    refine dI encS 0 h8 rfl ?_
    refine dX (x_ldE encS h8) ?_
    refine dR 2 ?_
    refine dI encS 0 h9 rfl ?_
    refine dX (x_ldE encS h9) ?_
    refine dI encS 0 h9 rfl ?_
    refine dW encS vy17 h9 rfl ?_
    refine dI encS 0 h10 rfl ?_
    refine dW encS vy18 h10 rfl ?_
    refine dE ?_
    refine awp_region ?_
    refine aR 3 ?_
    refine aE ?_
    exact oO hF [] [] rfl
  · refine awp_false (by kernel_rfl) h7 ?_
    refine awp_exit ?_
    exact oO hF [] [] rfl

def slices_insertionSortOrdered_string_o0_x1_k : (List (List UInt8)) → AEx
  | _ => .exit 0

def slices_insertionSortOrdered_string_o0_x1_S (qa : Int) (qb : Int) : (List (List UInt8)) → St
  | vl5 => Mem.st ⟨[(0, ⟨9, 1, List.map encS vl5⟩)], []⟩ (tl []) 1

def slices_insertionSortOrdered_string_o0_x1_H (qa : Int) (qb : Int) : (List (List UInt8)) × Int → St
  | (vl, vi) => Mem.st ⟨[(0, ⟨9, 1, List.map encS vl⟩)], []⟩ (tl [(0, .v (.one (.own 0 none))), (1, .v (.one (.d (.int .i64 qa)))), (2, .v (.one (.d (.int .i64 qb)))), (6, .v (.one (.d (.int .i64 vi))))]) 1

theorem slices_insertionSortOrdered_string_o0_x1_ok (qa : Int) (qb : Int) (s : (List (List UInt8)) × Int) (r : ((List (List UInt8)) × Int) ⊕ ((List (List UInt8)))) (hF : slices_insertionSortOrdered_string_o0_x1 qa qb s = some r) : Awp prog 1 49 (cL (cL (cR (cB f193)))) (Out 1 (kk slices_insertionSortOrdered_string_o0_x1_k) (SS (slices_insertionSortOrdered_string_o0_x1_H qa qb) (slices_insertionSortOrdered_string_o0_x1_S qa qb)) r) (slices_insertionSortOrdered_string_o0_x1_H qa qb s) := by
  obtain ⟨vl, vi⟩ := s
  unfold slices_insertionSortOrdered_string_o0_x1 at hF
  refine awp_seq ?_
  refine awp_seq ?_
  refine awp_region ?_
  refine aR 3 ?_
  refine aE ?_
  refine cE hF (fun h1 hF => ?_) fun h1 hF => ?_
  · refine awp_true (by kernel_rfl) h1 ?_
    refine awp_skip ?_
    refine awp_seq ?_
    refine awp_block ?_
    refine awp_seq ?_
    refine awp_region ?_
    refine aR 2 ?_
    refine aE ?_
    refine awp_block ?_
    refine awp_to (st' := slices_insertionSortOrdered_string_o0_x2_H qa qb vi (vl, vi)) (oT [] []) ?_
    refine bE hF fun vl4_1 h11 hF => ?_
    refine awp_sub (awp_loop' (slices_insertionSortOrdered_string_o0_x2_H qa qb vi) slices_insertionSortOrdered_string_o0_x2_k (slices_insertionSortOrdered_string_o0_x2_S qa qb vi) (by intro x; exact fun h => nomatch h) h11 (slices_insertionSortOrdered_string_o0_x2_ok qa qb vi)) ?_
    refine awp_region ?_
    refine aR 3 ?_
    refine aE ?_
    exact oO hF [] [] rfl
  · refine awp_false (by kernel_rfl) h1 ?_
    refine awp_exit ?_
    exact oO hF [] [] rfl

def slices_insertionSortOrdered_string_o0_R (qdata : List (List UInt8)) (qa : Int) (qb : Int) (r : (List (List UInt8))) : TV × Mem := (.tup [], ⟨[(0, ⟨9, 1, List.map encS r⟩)], []⟩)

theorem slices_insertionSortOrdered_string_o0_ok {qdata : List (List UInt8)} {qa : Int} {qb : Int} {r} (hF : slices_insertionSortOrdered_string_o0 qdata qa qb = some r) : Holds prog 193 [.v (.one (.own 0 none)), .v (.one (.d (.int .i64 qa))), .v (.one (.d (.int .i64 qb)))] ⟨[(0, ⟨9, 1, List.map encS qdata⟩)], []⟩ (Is (slices_insertionSortOrdered_string_o0_R qdata qa qb r)) := by
  unfold slices_insertionSortOrdered_string_o0 at hF
  refine holds_of_awp hΓ (fn := f193) (c := cB f193) (A := 1) (nx := 1) (by kernel_rfl) (by kernel_rfl) (by kernel_rfl) (by kernel_rfl) (by kernel_rfl) (by kernel_rfl) (lowc_of (by kernel_rfl)) ?_
  show Awp prog 1 49 (cB f193) _ _
  refine awp_seq ?_
  refine awp_region ?_
  refine aR 3 ?_
  refine aE ?_
  refine awp_block ?_
  refine awp_to (st' := slices_insertionSortOrdered_string_o0_x1_H qa qb (qdata, IntKind.wrap .i64 (qa + 1))) (oT [] []) ?_
  refine bE hF fun vl5_1 h12 hF => ?_
  refine awp_sub (awp_loop' (slices_insertionSortOrdered_string_o0_x1_H qa qb) slices_insertionSortOrdered_string_o0_x1_k (slices_insertionSortOrdered_string_o0_x1_S qa qb) (by intro x; exact fun h => nomatch h) h12 (slices_insertionSortOrdered_string_o0_x1_ok qa qb)) ?_
  exact oF hF [] []

/-! ### slices.pdqsortOrdered[string] -/
def slices_pdqsortOrdered_string_o0_x1_k : (List (List UInt8)) → AEx
  | _ => .ret

def slices_pdqsortOrdered_string_o0_x1_S (qx : List (List UInt8)) (qx1 : Int) (qx2 : Int) (qx3 : Int) : (List (List UInt8)) → St
  | vl => Mem.st ⟨[(0, ⟨9, 1, List.map encS vl⟩)], []⟩ (tl []) 1

def slices_pdqsortOrdered_string_o0_x1_H (qx : List (List UInt8)) (qx1 : Int) (qx2 : Int) (qx3 : Int) : Unit → St
  | _ => Mem.st ⟨[(0, ⟨9, 1, List.map encS qx⟩)], []⟩ (tl [(0, .v (.one (.own 0 none))), (1, .v (.one (.d (.int .i64 qx1)))), (2, .v (.one (.d (.int .i64 qx2)))), (3, .v (.one (.d (.int .i64 qx3)))), (8, .v (.one (.d (.bool true)))), (9, .v (.one (.d (.bool true))))]) 1

theorem slices_pdqsortOrdered_string_o0_x1_ok (qx : List (List UInt8)) (qx1 : Int) (qx2 : Int) (qx3 : Int) (s : Unit) (r : (Unit) ⊕ ((List (List UInt8)))) (hF : slices_pdqsortOrdered_string_o0_x1 qx qx1 qx2 qx3 s = some r) : Awp prog 1 134 (cL (cL (cR (cR (cB f166))))) (Out 1 (kk slices_pdqsortOrdered_string_o0_x1_k) (SS (slices_pdqsortOrdered_string_o0_x1_H qx qx1 qx2 qx3) (slices_pdqsortOrdered_string_o0_x1_S qx qx1 qx2 qx3)) r) (slices_pdqsortOrdered_string_o0_x1_H qx qx1 qx2 qx3 s) := by
  unfold slices_pdqsortOrdered_string_o0_x1 at hF
  refine awp_block ?_
  refine awp_seq ?_
  refine awp_region ?_
  refine aR 4 ?_
  refine aE ?_
  refine awp_seq ?_
  refine awp_seq ?_
  refine awp_region ?_
  refine aR 2 ?_
  refine aE ?_
  refine cE hF (fun h1 hF => ?_) fun h1 hF => ?_
  · refine awp_true (by kernel_rfl) h1 ?_
    refine awp_seq ?_
    refine bE hF fun vl6_1 h2 hF => ?_
    refine gE hF fun h3 hF => ?_
    refine awp_region ?_
    refine aR 3 ?_
    refine aCp (slices_insertionSortOrdered_string_o0_ok h2) ⟨⟨rfl, rfl, pin1 h3⟩, trivial⟩ [] [] [] ?_
    refine aE ?_
    refine awp_ret ?_
    exact oO hF [] [] rfl
  · refine awp_false (by kernel_rfl) h1 ?_
    refine awp_skip ?_
    refine awp_seq ?_
    refine awp_seq ?_
    refine awp_region ?_
    refine aR 2 ?_
    refine aE ?_
    refine cE hF (fun h4 hF => ?_) fun h4 hF => ?_
    · refine awp_true (by kernel_rfl) h4 ?_
      refine awp_seq ?_
      exact nE hF
    · refine awp_false (by kernel_rfl) h4 ?_
      refine awp_skip ?_
      refine awp_seq ?_
      refine awp_seq ?_
      refine awp_region ?_
      refine aR 2 ?_
      refine aE ?_
      refine awp_false (by kernel_rfl) rfl ?_
      refine awp_skip ?_
      refine awp_seq ?_
      exact nE hF

def slices_pdqsortOrdered_string_o0_R (qx : List (List UInt8)) (qx1 : Int) (qx2 : Int) (qx3 : Int) (r : (List (List UInt8))) : TV × Mem := (.tup [], ⟨[(0, ⟨9, 1, List.map encS r⟩)], []⟩)

theorem slices_pdqsortOrdered_string_o0_ok {qx : List (List UInt8)} {qx1 : Int} {qx2 : Int} {qx3 : Int} {r} (hF : slices_pdqsortOrdered_string_o0 qx qx1 qx2 qx3 = some r) : Holds prog 166 [.v (.one (.own 0 none)), .v (.one (.d (.int .i64 qx1))), .v (.one (.d (.int .i64 qx2))), .v (.one (.d (.int .i64 qx3)))] ⟨[(0, ⟨9, 1, List.map encS qx⟩)], []⟩ (Is (slices_pdqsortOrdered_string_o0_R qx qx1 qx2 qx3 r)) := by
  unfold slices_pdqsortOrdered_string_o0 at hF
  refine holds_of_awp hΓ (fn := f166) (c := cB f166) (A := 1) (nx := 1) (by kernel_rfl) (by kernel_rfl) (by kernel_rfl) (by kernel_rfl) (by kernel_rfl) (by kernel_rfl) (lowc_of (by kernel_rfl)) ?_
  show Awp prog 1 134 (cB f166) _ _
  refine awp_seq ?_
  refine awp_region ?_
  refine aR 1 ?_
  refine aE ?_
  refine awp_seq ?_
  refine awp_region ?_
  refine aR 1 ?_
  refine aE ?_
  refine awp_block ?_
  refine awp_to (st' := slices_pdqsortOrdered_string_o0_x1_H qx qx1 qx2 qx3 ()) (oT [] []) ?_
  refine bE hF fun vl1 h7 hF => ?_
  refine awp_sub (awp_loop' (slices_pdqsortOrdered_string_o0_x1_H qx qx1 qx2 qx3) slices_pdqsortOrdered_string_o0_x1_k (slices_pdqsortOrdered_string_o0_x1_S qx qx1 qx2 qx3) (by intro x; exact fun h => nomatch h) h7 (slices_pdqsortOrdered_string_o0_x1_ok qx qx1 qx2 qx3)) ?_
  exact oF hF [] []

/-! ### slices.Sort[[]string,string] -/
def slices_Sort_string_string_o0_R (qx : List (List UInt8)) (r : (List (List UInt8))) : TV × Mem := (.tup [], ⟨[(0, ⟨9, 1, List.map encS r⟩)], []⟩)

theorem slices_Sort_string_string_o0_ok {qx : List (List UInt8)} {r} (hF : slices_Sort_string_string_o0 qx = some r) : Holds prog 130 [.v (.one (.own 0 none))] ⟨[(0, ⟨9, 1, List.map encS qx⟩)], []⟩ (Is (slices_Sort_string_string_o0_R qx r)) := by
  unfold slices_Sort_string_string_o0 at hF
  refine holds_of_awp hΓ (fn := f130) (c := cB f130) (A := 1) (nx := 1) (by kernel_rfl) (by kernel_rfl) (by kernel_rfl) (by kernel_rfl) (by kernel_rfl) (by kernel_rfl) (lowc_of (by kernel_rfl)) ?_
  show Awp prog 1 11 (cB f130) _ _
  refine awp_seq ?_
  refine awp_region ?_
  refine aR 1 ?_
  refine aL encS qx ?_
  refine aR 1 ?_
  refine aE ?_
  refine bE hF fun vr1 h1 hF => ?_
  refine bE hF fun vl2 h2 hF => ?_
  refine gE hF fun h3 hF => ?_
  refine awp_region ?_
  refine aR 4 ?_
  refine aC (bits_Len_ok h1) [] [] [] ?_
  refine aCp (slices_pdqsortOrdered_string_o0_ok h2) ⟨⟨rfl, rfl, pin1 h3⟩, trivial⟩ [] [] [] ?_
  refine aE ?_
  exact oF hF [] []

/-! ### slices.Compact[[]string,string] -/
def slices_Compact_string_string_o0_x3_k : ((List (List UInt8)) × Int) → AEx
  | _ => .normal

def slices_Compact_string_string_o0_x3_S (qs : List (List UInt8)) (vk : Int) (vl4 : List (List UInt8)) (vk6 : Int) (vk2_1 : Int) : ((List (List UInt8)) × Int) → St
  | (vl6, vk8) => Mem.st ⟨[(0, ⟨9, 1, List.map encS vl6⟩)], []⟩ (tl [(0, .v (.one (.own 0 none))), (3, .v (.one (.d (.int .i64 vk8)))), (4, .v (.one (.view 0 vk.toNat ((qs.length : Int).toNat - vk.toNat)))), (5, .v (.one (.d (.int .i64 vk2_1))))]) 1

def slices_Compact_string_string_o0_x3_I (qs : List (List UInt8)) (vk : Int) (vl4 : List (List UInt8)) (vk6 : Int) (vk2_1 : Int) : St := Mem.st ⟨[(0, ⟨9, 1, List.map encS vl4⟩)], []⟩ (tl [(0, .v (.one (.own 0 none))), (3, .v (.one (.d (.int .i64 vk6)))), (4, .v (.one (.view 0 vk.toNat ((qs.length : Int).toNat - vk.toNat)))), (5, .v (.one (.d (.int .i64 vk2_1))))]) 1

theorem slices_Compact_string_string_o0_x3_ok (qs : List (List UInt8)) (vk : Int) (vl4 : List (List UInt8)) (vk6 : Int) (vk2_1 : Int) {r} (hF : slices_Compact_string_string_o0_x3 qs vk vl4 vk6 vk2_1 = some r) : Awp prog 1 61 (cL (cR (cL (cL (cR (cL (cR (cL (cR (cL (cL (cR (cL (cL (cR (cL (cR (cR (cB f131))))))))))))))))))) (Out 1 slices_Compact_string_string_o0_x3_k (slices_Compact_string_string_o0_x3_S qs vk vl4 vk6 vk2_1) r) (slices_Compact_string_string_o0_x3_I qs vk vl4 vk6 vk2_1) := by
  unfold slices_Compact_string_string_o0_x3 at hF
  refine awp_block ?_
  refine awp_seq ?_
  refine gE hF fun h8 hF => ?_
  refine bE hF fun vy13 h9 hF => ?_
  refine gE hF fun h10 hF => ?_
  refine bE hF fun vy14 h11 hF => ?_
  refine aD ?_
  refine dR 2 ?_
  refine dX (x_idxV encS 0 h8 h9) ?_
  refine dX (x_ldE encS h9) ?_
  refine dR 3 ?_
  refine dX (x_idxV encS 0 h10 h11) ?_
  refine dX (x_ldE encS h11) ?_
  refine dR 1 ?_
  refine dE ?_
  refine cE hF (fun h12 hF => ?_) fun h12 hF => ?_
  · refine awp_true (by kernel_rfl) h12 ?_
    refine awp_seq ?_
    refine bE hF fun vy15 h13 hF => ?_
    refine awp_region ?_
    refine aR 4 ?_
    refine aX (x_idxV encS 0 h8 h9) ?_
    refine aX (x_ldE encS h9) ?_
    refine aX (x_idxO encS 0 h13) ?_
    refine aX (x_stE encS vy13 h13) ?_
    refine aE ?_
    refine awp_region ?_
    refine aR 3 ?_
    refine aE ?_
    exact oO hF [] [] rfl
  · refine awp_false (by kernel_rfl) h12 ?_
    refine awp_skip ?_
    exact oO hF [] [] rfl

def slices_Compact_string_string_o0_x2_k : ((List (List UInt8)) × Int) → AEx
  | _ => .exit 2

def slices_Compact_string_string_o0_x2_S (qs : List (List UInt8)) (vk : Int) : ((List (List UInt8)) × Int) → St
  | (vl7, vk9) => Mem.st ⟨[(0, ⟨9, 1, List.map encS vl7⟩)], []⟩ (tl [(0, .v (.one (.own 0 none))), (3, .v (.one (.d (.int .i64 vk9))))]) 1

def slices_Compact_string_string_o0_x2_H (qs : List (List UInt8)) (vk : Int) : (List (List UInt8)) × Int × Int → St
  | (vl4, vk6, vk2_1) => Mem.st ⟨[(0, ⟨9, 1, List.map encS vl4⟩)], []⟩ (tl [(0, .v (.one (.own 0 none))), (3, .v (.one (.d (.int .i64 vk6)))), (4, .v (.one (.view 0 vk.toNat ((qs.length : Int).toNat - vk.toNat)))), (5, .v (.one (.d (.int .i64 vk2_1))))]) 1

theorem slices_Compact_string_string_o0_x2_ok (qs : List (List UInt8)) (vk : Int) (s : (List (List UInt8)) × Int × Int) (r : ((List (List UInt8)) × Int × Int) ⊕ (((List (List UInt8)) × Int))) (hF : slices_Compact_string_string_o0_x2 qs vk s = some r) : Awp prog 1 61 (cL (cL (cR (cL (cR (cL (cR (cL (cL (cR (cL (cL (cR (cL (cR (cR (cB f131))))))))))))))))) (Out 1 (kk slices_Compact_string_string_o0_x2_k) (SS (slices_Compact_string_string_o0_x2_H qs vk) (slices_Compact_string_string_o0_x2_S qs vk)) r) (slices_Compact_string_string_o0_x2_H qs vk s) := by
  obtain ⟨vl4, vk6, vk2_1⟩ := s
  unfold slices_Compact_string_string_o0_x2 at hF
  refine awp_seq ?_
  refine awp_seq ?_
  refine awp_region ?_
  refine aR 4 ?_
  refine aE ?_
  refine cE hF (fun h7 hF => ?_) fun h7 hF => ?_
  · refine awp_true (by kernel_rfl) h7 ?_
    refine awp_skip ?_
    refine awp_seq ?_
    refine awp_to (st' := slices_Compact_string_string_o0_x3_I qs vk vl4 vk6 vk2_1) (oT [] []) ?_
    refine bE hF fun x h14 hF => ?_
    obtain ⟨vl6_1, vk8_1⟩ := x
    refine awp_sub (slices_Compact_string_string_o0_x3_ok qs vk vl4 vk6 vk2_1 h14) ?_
    refine awp_region ?_
    refine aR 3 ?_
    refine aE ?_
    exact oO hF [] [] rfl
  · refine awp_false (by kernel_rfl) h7 ?_
    refine awp_exit ?_
    exact oO hF [] [] rfl

def slices_Compact_string_string_o0_x1_k : Unit ⊕ (List (List UInt8)) → AEx
  | .inl _ => .exit 0
  | .inr _ => .ret

def slices_Compact_string_string_o0_x1_S (qs : List (List UInt8)) : Unit ⊕ (List (List UInt8)) → St
  | .inl _ => Mem.st ⟨[(0, ⟨9, 1, List.map encS qs⟩)], []⟩ (tl [(0, .v (.one (.own 0 none)))]) 1
  | .inr vx => Mem.st ⟨[(1, ⟨9, 1, List.map encS vx⟩)], []⟩ (tl [(2, .v (.one (.own 1 none)))]) 2

def slices_Compact_string_string_o0_x1_H (qs : List (List UInt8)) : Int → St
  | vk => Mem.st ⟨[(0, ⟨9, 1, List.map encS qs⟩)], []⟩ (tl [(0, .v (.one (.own 0 none))), (3, .v (.one (.d (.int .i64 vk))))]) 1

theorem slices_Compact_string_string_o0_x1_ok (qs : List (List UInt8)) (vk : Int) (r : (Int) ⊕ (Unit ⊕ (List (List UInt8)))) (hF : slices_Compact_string_string_o0_x1 qs vk = some r) : Awp prog 1 61 (cL (cL (cR (cL (cR (cR (cB f131))))))) (Out 1 (kk slices_Compact_string_string_o0_x1_k) (SS (slices_Compact_string_string_o0_x1_H qs) (slices_Compact_string_string_o0_x1_S qs)) r) (slices_Compact_string_string_o0_x1_H qs vk) := by
  unfold slices_Compact_string_string_o0_x1 at hF
  refine awp_seq ?_
  refine awp_seq ?_
  refine awp_region ?_
  refine aR 2 ?_
  refine aL encS qs ?_
  refine aR 1 ?_
  refine aE ?_
  refine cE hF (fun h2 hF => ?_) fun h2 hF => ?_
  · refine awp_true (by kernel_rfl) h2 ?_
    refine awp_skip ?_
    refine awp_seq ?_
    refine awp_block ?_
    refine awp_seq ?_
    refine bE hF fun vy8 h3 hF => ?_
    refine bE hF fun vy9 h4 hF => ?_
    refine aD ?_
    refine dR 2 ?_
    refine dX (x_idxO encS 0 h3) ?_
    refine dX (x_ldE encS h3) ?_
    refine dR 3 ?_
    refine dX (x_idxO encS 0 h4) ?_
    refine dX (x_ldE encS h4) ?_
    refine dR 1 ?_
    refine dE ?_
    refine cE hF (fun h5 hF => ?_) fun h5 hF => ?_
    · refine awp_true (by kernel_rfl) h5 ?_
      refine awp_seq ?_
      refine gE hF fun h6 hF => ?_
      refine awp_region ?_
      refine aR 2 ?_
      refine aX (x_viewN encS 0 h6) ?_
      refine aR 1 ?_
      refine aE ?_
      refine awp_seq ?_
      refine awp_seq ?_
      refine awp_region ?_
      refine aR 1 ?_
      refine aE ?_
      refine awp_block ?_
      refine awp_to (st' := slices_Compact_string_string_o0_x2_H qs vk (qs, vk, 1)) (oT [] []) ?_
      refine bE hF fun x h15 hF => ?_
      obtain ⟨vl7_1, vk9_1⟩ := x
      refine awp_sub (awp_loop' (slices_Compact_string_string_o0_x2_H qs vk) slices_Compact_string_string_o0_x2_k (slices_Compact_string_string_o0_x2_S qs vk) (by intro x; exact fun h => nomatch h) h15 (slices_Compact_string_string_o0_x2_ok qs vk)) ?_
      refine awp_seq ?_
      refine gE hF fun h16 hF => ?_
      refine awp_region ?_
      refine aR 2 ?_
      refine aX (x_viewN encS 0 h16) ?_
      refine aCl encS 0 (xs := vl7_1) (y := ([] : List UInt8)) (lo := vk9_1) (hi := (vl7_1.length : Int)) rfl ?_
      refine aE ?_
      refine awp_seq ?_
      refine gE hF fun h17 hF => ?_
      refine awp_region ?_
      refine aR 2 ?_
      refine aT encS 0 h17 rfl ?_
      refine aR 1 ?_
      refine aE ?_
      refine awp_ret ?_
      exact oO hF [(1, 6001)] [] rfl
    · refine awp_false (by kernel_rfl) h5 ?_
      refine awp_skip ?_
      refine awp_region ?_
      refine aR 3 ?_
      refine aE ?_
      exact oO hF [] [] rfl
  · refine awp_false (by kernel_rfl) h2 ?_
    refine awp_exit ?_
    exact oO hF [] [] rfl

def slices_Compact_string_string_o0_R (qs : List (List UInt8)) (r : (List (List UInt8))) : TV × Mem := (.v (.one (.own 1 none)), ⟨[(1, ⟨9, 1, List.map encS r⟩)], []⟩)

theorem slices_Compact_string_string_o0_ok {qs : List (List UInt8)} {r} (hF : slices_Compact_string_string_o0 qs = some r) : Holds prog 131 [.v (.one (.own 0 none))] ⟨[(0, ⟨9, 1, List.map encS qs⟩)], []⟩ (Is (slices_Compact_string_string_o0_R qs r)) := by
  unfold slices_Compact_string_string_o0 at hF
  refine holds_of_awp hΓ (fn := f131) (c := cB f131) (A := 1) (nx := 1) (by kernel_rfl) (by kernel_rfl) (by kernel_rfl) (by kernel_rfl) (by kernel_rfl) (by kernel_rfl) (lowc_of (by kernel_rfl)) ?_
  show Awp prog 1 61 (cB f131) _ _
  refine awp_seq ?_
  refine awp_region ?_
  refine aR 1 ?_
  refine aE ?_
  refine awp_seq ?_
  refine awp_seq ?_
  refine awp_region ?_
  refine aR 1 ?_
  refine aL encS qs ?_
  refine aR 1 ?_
  refine aE ?_
  refine cE hF (fun h1 hF => ?_) fun h1 hF => ?_
  · refine awp_true (by kernel_rfl) h1 ?_
    refine awp_seq ?_
    refine awp_region ?_
    refine aR 2 ?_
    refine aE ?_
    refine awp_ret ?_
    exact oF hF [(1, 0)] []
  · refine awp_false (by kernel_rfl) h1 ?_
    refine awp_skip ?_
    refine awp_seq ?_
    refine awp_seq ?_
    refine awp_region ?_
    refine aR 1 ?_
    refine aE ?_
    refine awp_block ?_
    refine awp_to (st' := slices_Compact_string_string_o0_x1_H qs 1) (oT [] []) ?_
    refine bE hF fun x h18 hF => ?_
    rcases x with _ | vx1
    · refine awp_sub (awp_loop' (slices_Compact_string_string_o0_x1_H qs) slices_Compact_string_string_o0_x1_k (slices_Compact_string_string_o0_x1_S qs) (by intro x; rcases x with x | x <;> exact fun h => nomatch h) h18 (slices_Compact_string_string_o0_x1_ok qs)) ?_
      refine awp_seq ?_
      refine awp_region ?_
      refine aR 2 ?_
      refine aE ?_
      refine awp_ret ?_
      exact oF hF [(1, 0)] []
    · refine awp_sub (awp_loop' (slices_Compact_string_string_o0_x1_H qs) slices_Compact_string_string_o0_x1_k (slices_Compact_string_string_o0_x1_S qs) (by intro x; rcases x with x | x <;> exact fun h => nomatch h) h18 (slices_Compact_string_string_o0_x1_ok qs)) ?_
      exact oF hF [] []

/-! ### beaconfleet/twin.names -/
def twin_names_o0_x2_k : (List (List UInt8)) → AEx
  | _ => .exit 2

def twin_names_o0_x2_S (qlists : List (List api_Prop)) (vx : Int) (vy3 : List api_Prop) : (List (List UInt8)) → St
  | vout4 => Mem.st ⟨[(1, ⟨9, 1, List.map encS vout4⟩)], []⟩ (tl [(3, .v (.one (.own 1 none))), (8, .v (.one (.d (.lst (List.map (encL api_Prop.enc) qlists))))), (9, .v (.one (.d (.int .i64 (qlists.length : Int))))), (10, .v (.one (.d (.int .i64 vx))))]) 2

def twin_names_o0_x2_H (qlists : List (List api_Prop)) (vx : Int) (vy3 : List api_Prop) : (List (List UInt8)) × Int → St
  | (vout3, vx2) => Mem.st ⟨[(1, ⟨9, 1, List.map encS vout3⟩)], []⟩ (tl [(3, .v (.one (.own 1 none))), (8, .v (.one (.d (.lst (List.map (encL api_Prop.enc) qlists))))), (9, .v (.one (.d (.int .i64 (qlists.length : Int))))), (10, .v (.one (.d (.int .i64 vx)))), (14, .v (.one (.d (.lst (List.map api_Prop.enc vy3))))), (15, .v (.one (.d (.int .i64 (vy3.length : Int))))), (16, .v (.one (.d (.int .i64 vx2))))]) 2

theorem twin_names_o0_x2_ok (qlists : List (List api_Prop)) (vx : Int) (vy3 : List api_Prop) (s : (List (List UInt8)) × Int) (r : ((List (List UInt8)) × Int) ⊕ ((List (List UInt8)))) (hF : twin_names_o0_x2 vy3 s = some r) : Awp prog 1 31 (cL (cL (cR (cR (cL (cL (cR (cR (cL (cL (cR (cL (cR (cR (cB f85))))))))))))))) (Out 1 (kk twin_names_o0_x2_k) (SS (twin_names_o0_x2_H qlists vx vy3) (twin_names_o0_x2_S qlists vx vy3)) r) (twin_names_o0_x2_H qlists vx vy3 s) := by
  obtain ⟨vout3, vx2⟩ := s
  unfold twin_names_o0_x2 at hF
  refine awp_seq ?_
  refine awp_region ?_
  refine aR 1 ?_
  refine aE ?_
  refine awp_seq ?_
  refine cE hF (fun h3 hF => ?_) fun h3 hF => ?_
  · refine awp_true (by kernel_rfl) h3 ?_
    refine awp_skip ?_
    refine awp_seq ?_
    refine awp_block ?_
    refine awp_seq ?_
    refine bE hF fun vy5 h4 hF => ?_
    refine awp_region ?_
    refine aX (x_idx api_Prop.enc h4) ?_
    refine aR 3 ?_
    refine aE ?_
    refine gE hF fun h5 hF => ?_
    refine awp_region ?_
    refine aR 4 ?_
    refine aX (x_app encS 1 h5) ?_
    refine aR 1 ?_
    refine aE ?_
    refine awp_region ?_
    refine aR 2 ?_
    refine aE ?_
    exact oO hF [(1, 9002)] [] rfl
  · refine awp_false (by kernel_rfl) h3 ?_
    refine awp_exit ?_
    exact oO hF [] [] rfl

def twin_names_o0_x1_k : (List (List UInt8)) → AEx
  | _ => .exit 0

def twin_names_o0_x1_S (qlists : List (List api_Prop)) : (List (List UInt8)) → St
  | vout5 => Mem.st ⟨[(1, ⟨9, 1, List.map encS vout5⟩)], []⟩ (tl [(3, .v (.one (.own 1 none)))]) 2

def twin_names_o0_x1_H (qlists : List (List api_Prop)) : (List (List UInt8)) × Int → St
  | (vout, vx) => Mem.st ⟨[(1, ⟨9, 1, List.map encS vout⟩)], []⟩ (tl [(3, .v (.one (.own 1 none))), (8, .v (.one (.d (.lst (List.map (encL api_Prop.enc) qlists))))), (9, .v (.one (.d (.int .i64 (qlists.length : Int))))), (10, .v (.one (.d (.int .i64 vx))))]) 2

theorem twin_names_o0_x1_ok (qlists : List (List api_Prop)) (s : (List (List UInt8)) × Int) (r : ((List (List UInt8)) × Int) ⊕ ((List (List UInt8)))) (hF : twin_names_o0_x1 qlists s = some r) : Awp prog 1 31 (cL (cL (cR (cL (cR (cR (cB f85))))))) (Out 1 (kk twin_names_o0_x1_k) (SS (twin_names_o0_x1_H qlists) (twin_names_o0_x1_S qlists)) r) (twin_names_o0_x1_H qlists s) := by
  obtain ⟨vout, vx⟩ := s
  unfold twin_names_o0_x1 at hF
  refine awp_seq ?_
  refine awp_region ?_
  refine aR 1 ?_
  refine aE ?_
  refine awp_seq ?_
  refine cE hF (fun h1 hF => ?_) fun h1 hF => ?_
  · refine awp_true (by kernel_rfl) h1 ?_
    refine awp_skip ?_
    refine awp_seq ?_
    refine awp_block ?_
    refine awp_seq ?_
    refine bE hF fun vy3 h2 hF => ?_
    refine awp_region ?_
    refine aX (x_idx (encL api_Prop.enc) h2) ?_
    refine aR 2 ?_
    refine aE ?_
    refine awp_seq ?_
    refine awp_region ?_
    refine aR 1 ?_
    refine aL api_Prop.enc vy3 ?_
    refine aR 1 ?_
    refine aE ?_
    refine awp_block ?_
    refine awp_to (st' := twin_names_o0_x2_H qlists vx vy3 (vout, 0)) (oT [] []) ?_
    refine bE hF fun vout4_1 h6 hF => ?_
    refine awp_sub (awp_loop' (twin_names_o0_x2_H qlists vx vy3) twin_names_o0_x2_k (twin_names_o0_x2_S qlists vx vy3) (by intro x; exact fun h => nomatch h) h6 (twin_names_o0_x2_ok qlists vx vy3)) ?_
    refine awp_region ?_
    refine aR 2 ?_
    refine aE ?_
    exact oO hF [] [] rfl
  · refine awp_false (by kernel_rfl) h1 ?_
    refine awp_exit ?_
    exact oO hF [] [] rfl

def twin_names_o0_R (qlists : List (List api_Prop)) (r : (List (List UInt8))) : TV × Mem := (.v (.one (.own 1 none)), ⟨[(1, ⟨9, 1, List.map encS r⟩)], []⟩)

theorem twin_names_o0_ok {qlists : List (List api_Prop)} {r} (hF : twin_names_o0 qlists = some r) : Holds prog 85 [.v (.one (.own 0 none))] ⟨[(0, ⟨29, 1, List.map (encL api_Prop.enc) qlists⟩)], []⟩ (Is (twin_names_o0_R qlists r)) := by
  unfold twin_names_o0 at hF
  refine holds_of_awp hΓ (fn := f85) (c := cB f85) (A := 1) (nx := 1) (by kernel_rfl) (by kernel_rfl) (by kernel_rfl) (by kernel_rfl) (by kernel_rfl) (by kernel_rfl) (lowc_of (by kernel_rfl)) ?_
  show Awp prog 1 31 (cB f85) _ _
  refine awp_seq ?_
  refine awp_region ?_
  refine aR 1 ?_
  refine aE ?_
  refine awp_to (oT (m := ⟨[], []⟩) (ts := [(0, .v (.one (.d (.lst (List.map (encL api_Prop.enc) qlists)))))]) (nx := 1) [] []) ?_
  refine awp_seq ?_
  refine awp_region ?_
  refine aR 1 ?_
  refine aE ?_
  refine awp_seq ?_
  refine awp_seq ?_
  refine awp_region ?_
  refine aR 1 ?_
  refine aL (encL api_Prop.enc) qlists ?_
  refine aR 1 ?_
  refine aE ?_
  refine awp_block ?_
  refine awp_to (st' := twin_names_o0_x1_H qlists ([], 0)) (oT [] [1]) ?_
  refine bE hF fun vout5_1 h7 hF => ?_
  refine awp_sub (awp_loop' (twin_names_o0_x1_H qlists) twin_names_o0_x1_k (twin_names_o0_x1_S qlists) (by intro x; exact fun h => nomatch h) h7 (twin_names_o0_x1_ok qlists)) ?_
  refine awp_seq ?_
  refine bE hF fun vl h8 hF => ?_
  refine gE hF fun h9 hF => ?_
  refine awp_region ?_
  refine aR 1 ?_
  refine aCp (slices_Sort_string_string_o0_ok h8) ⟨⟨rfl, rfl, pin1 h9⟩, trivial⟩ [(0, 1)] [] [] ?_
  refine aE ?_
  refine awp_seq ?_
  refine bE hF fun vr h10 hF => ?_
  refine awp_region ?_
  refine aR 1 ?_
  refine aC (slices_Compact_string_string_o0_ok h10) [(0, 1)] [] [] ?_
  refine aR 1 ?_
  refine aE ?_
  refine awp_ret ?_
  exact oF hF [(1, 3003)] []

/-! ### slices.BinarySearchFunc[[]beaconfleet/api.Prop,beaconfleet/api.Prop,string] -/
def slices_BinarySearchFunc_api_Prop_api_Prop_string_n0_f2_twin_find_1_x1_k : Unit → AEx
  | _ => .exit 0

def slices_BinarySearchFunc_api_Prop_api_Prop_string_n0_f2_twin_find_1_x1_S (qtarget : List UInt8) : Unit → St
  | _ => Mem.st ⟨[], []⟩ (tl [(0, .v (.one (.nil))), (1, .v (.one (.d (.str qtarget)))), (2, .v (.one (.fn 126 []))), (8, .v (.one (.d (.int .i64 0)))), (9, .v (.one (.d (.int .i64 0))))]) 0

def slices_BinarySearchFunc_api_Prop_api_Prop_string_n0_f2_twin_find_1_x1_H (qtarget : List UInt8) : Unit → St
  | _ => Mem.st ⟨[], []⟩ (tl [(0, .v (.one (.nil))), (1, .v (.one (.d (.str qtarget)))), (2, .v (.one (.fn 126 []))), (8, .v (.one (.d (.int .i64 0)))), (9, .v (.one (.d (.int .i64 0)))), (10, .v (.one (.d (.int .i64 0))))]) 0

theorem slices_BinarySearchFunc_api_Prop_api_Prop_string_n0_f2_twin_find_1_x1_ok (qtarget : List UInt8) (s : Unit) (r : (Unit) ⊕ (Unit)) (hF : slices_BinarySearchFunc_api_Prop_api_Prop_string_n0_f2_twin_find_1_x1  s = some r) : Awp prog 0 49 (cL (cL (cL (cR (cR (cR (cB f125))))))) (Out 0 (kk slices_BinarySearchFunc_api_Prop_api_Prop_string_n0_f2_twin_find_1_x1_k) (SS (slices_BinarySearchFunc_api_Prop_api_Prop_string_n0_f2_twin_find_1_x1_H qtarget) (slices_BinarySearchFunc_api_Prop_api_Prop_string_n0_f2_twin_find_1_x1_S qtarget)) r) (slices_BinarySearchFunc_api_Prop_api_Prop_string_n0_f2_twin_find_1_x1_H qtarget s) := by
  unfold slices_BinarySearchFunc_api_Prop_api_Prop_string_n0_f2_twin_find_1_x1 at hF
  refine awp_seq ?_
  refine awp_seq ?_
  refine awp_region ?_
  refine aR 3 ?_
  refine aE ?_
  refine cE hF (fun h1 hF => ?_) fun h1 hF => ?_
  · refine awp_true (by kernel_rfl) h1 ?_
    refine awp_skip ?_
    refine awp_block ?_
    refine awp_seq ?_
    refine awp_region ?_
    refine aR 7 ?_
    refine aE ?_
    refine awp_seq ?_
    exact nE hF
  · refine awp_false (by kernel_rfl) h1 ?_
    refine awp_exit ?_
    exact oO hF [] [] rfl

def slices_BinarySearchFunc_api_Prop_api_Prop_string_n0_f2_twin_find_1_R (qtarget : List UInt8) (r : Unit) : TV × Mem := (.tup [.one (.d (.int .i64 0)), .one (.d (.bool false))], ⟨[], []⟩)

theorem slices_BinarySearchFunc_api_Prop_api_Prop_string_n0_f2_twin_find_1_ok {qtarget : List UInt8} {r} (hF : slices_BinarySearchFunc_api_Prop_api_Prop_string_n0_f2_twin_find_1 qtarget = some r) : Holds prog 125 [.v (.one (.nil)), .v (.one (.d (.str qtarget))), .v (.one (.fn 126 []))] ⟨[], []⟩ (Is (slices_BinarySearchFunc_api_Prop_api_Prop_string_n0_f2_twin_find_1_R qtarget r)) := by
  unfold slices_BinarySearchFunc_api_Prop_api_Prop_string_n0_f2_twin_find_1 at hF
  refine holds_of_awp hΓ (fn := f125) (c := cB f125) (A := 0) (nx := 0) (by kernel_rfl) (by kernel_rfl) (by kernel_rfl) (by kernel_rfl) (by kernel_rfl) (by kernel_rfl) (lowc_of (by kernel_rfl)) ?_
  show Awp prog 0 49 (cB f125) _ _
  refine awp_seq ?_
  refine awp_region ?_
  refine aR 2 ?_
  refine aE ?_
  refine awp_seq ?_
  refine awp_region ?_
  refine aR 3 ?_
  refine aE ?_
  refine awp_seq ?_
  refine awp_region ?_
  refine aR 3 ?_
  refine aE ?_
  refine awp_seq ?_
  refine awp_block ?_
  refine awp_to (st' := slices_BinarySearchFunc_api_Prop_api_Prop_string_n0_f2_twin_find_1_x1_H qtarget ()) (oT [] []) ?_
  refine bE hF fun _ h3 hF => ?_
  refine awp_sub (awp_loop' (slices_BinarySearchFunc_api_Prop_api_Prop_string_n0_f2_twin_find_1_x1_H qtarget) slices_BinarySearchFunc_api_Prop_api_Prop_string_n0_f2_twin_find_1_x1_k (slices_BinarySearchFunc_api_Prop_api_Prop_string_n0_f2_twin_find_1_x1_S qtarget) (by intro x; exact fun h => nomatch h) h3 (slices_BinarySearchFunc_api_Prop_api_Prop_string_n0_f2_twin_find_1_x1_ok qtarget)) ?_
  refine awp_seq ?_
  refine cE hF (fun h4 hF => ?_) fun h4 hF => ?_
  · exact nE hF
  · refine awp_region ?_
    refine aR 3 ?_
    refine aB h4 ?_
    refine aR 12 ?_
    refine aE ?_
    refine awp_ret ?_
    exact oF hF [] []

/-! ### beaconfleet/twin.find -/
def twin_find_n0_R (qname : List UInt8) (r : Unit) : TV × Mem := (.v (.one (.d (.int .i64 (-1)))), ⟨[], []⟩)

theorem twin_find_n0_ok {qname : List UInt8} {r} (hF : twin_find_n0 qname = some r) : Holds prog 76 [.v (.one (.nil)), .v (.one (.d (.str qname)))] ⟨[], []⟩ (Is (twin_find_n0_R qname r)) := by
  unfold twin_find_n0 at hF
  refine holds_of_awp hΓ (fn := f76) (c := cB f76) (A := 0) (nx := 0) (by kernel_rfl) (by kernel_rfl) (by kernel_rfl) (by kernel_rfl) (by kernel_rfl) (by kernel_rfl) (lowc_of (by kernel_rfl)) ?_
  show Awp prog 0 16 (cB f76) _ _
  refine awp_seq ?_
  refine awp_region ?_
  refine aR 1 ?_
  refine aE ?_
  refine awp_seq ?_
  refine bE hF fun _ h1 hF => ?_
  refine awp_region ?_
  refine aR 2 ?_
  refine aC (slices_BinarySearchFunc_api_Prop_api_Prop_string_n0_f2_twin_find_1_ok h1) [] [] [] ?_
  refine aR 5 ?_
  refine aE ?_
  refine awp_seq ?_
  refine awp_seq ?_
  refine awp_region ?_
  refine aR 2 ?_
  refine aE ?_
  refine awp_true (by kernel_rfl) rfl ?_
  refine awp_seq ?_
  refine awp_region ?_
  refine aR 1 ?_
  refine aE ?_
  refine awp_ret ?_
  exact oF hF [] []

/-! ### beaconfleet/twin.valueOf -/
def twin_valueOf_n0_R (qname : List UInt8) (r : Unit) : TV × Mem := (.v (.agg [.d (.int .i64 0), .d (.bool false), .d (.int .i64 0), .d (.str ([] : List UInt8))]), ⟨[], []⟩)

theorem twin_valueOf_n0_ok {qname : List UInt8} {r} (hF : twin_valueOf_n0 qname = some r) : Holds prog 70 [.v (.one (.nil)), .v (.one (.d (.str qname)))] ⟨[], []⟩ (Is (twin_valueOf_n0_R qname r)) := by
  unfold twin_valueOf_n0 at hF
  refine holds_of_awp hΓ (fn := f70) (c := cB f70) (A := 0) (nx := 0) (by kernel_rfl) (by kernel_rfl) (by kernel_rfl) (by kernel_rfl) (by kernel_rfl) (by kernel_rfl) (lowc_of (by kernel_rfl)) ?_
  show Awp prog 0 17 (cB f70) _ _
  refine awp_seq ?_
  refine awp_region ?_
  refine aR 1 ?_
  refine aE ?_
  refine awp_seq ?_
  refine awp_seq ?_
  refine bE hF fun _ h1 hF => ?_
  refine awp_region ?_
  refine aR 2 ?_
  refine aC (twin_find_n0_ok h1) [] [] [] ?_
  refine aR 1 ?_
  refine aE ?_
  refine awp_seq ?_
  refine awp_region ?_
  refine aR 2 ?_
  refine aE ?_
  refine cE hF (fun h2 hF => ?_) fun h2 hF => ?_
  · refine awp_true (by kernel_rfl) h2 ?_
    refine awp_seq ?_
    exact nE hF
  · refine awp_false (by kernel_rfl) h2 ?_
    refine awp_skip ?_
    refine awp_seq ?_
    refine awp_region ?_
    refine aR 2 ?_
    refine aE ?_
    refine awp_ret ?_
    exact oF hF [] []

/-! ### beaconfleet/twin.valueOf -/
def twin_valueOf_R (ql : List api_Prop) (qname : List UInt8) (r : api_Value) : TV × Mem := (.v (.agg [.d (.int .i64 r.Kind), .d (.bool r.Flag), .d (.int .i64 r.Number), .d (.str r.Words)]), ⟨[], []⟩)

theorem twin_valueOf_ok {ql : List api_Prop} {qname : List UInt8} {r} (hF : twin_valueOf ql qname = some r) : Holds prog 70 [.v (.one (.d (.lst (List.map api_Prop.enc ql)))), .v (.one (.d (.str qname)))] ⟨[], []⟩ (Is (twin_valueOf_R ql qname r)) := by
  unfold twin_valueOf at hF
  refine holds_of_awp hΓ (fn := f70) (c := cB f70) (A := 0) (nx := 0) (by kernel_rfl) (by kernel_rfl) (by kernel_rfl) (by kernel_rfl) (by kernel_rfl) (by kernel_rfl) (lowc_of (by kernel_rfl)) ?_
  show Awp prog 0 17 (cB f70) _ _
  refine awp_seq ?_
  refine awp_region ?_
  refine aR 1 ?_
  refine aE ?_
  refine awp_seq ?_
  refine awp_seq ?_
  refine bE hF fun vr2 h1 hF => ?_
  refine awp_region ?_
  refine aR 2 ?_
  refine aC (twin_find_ok h1) [] [] [] ?_
  refine aR 1 ?_
  refine aE ?_
  refine awp_seq ?_
  refine awp_region ?_
  refine aR 2 ?_
  refine aE ?_
  refine cE hF (fun h2 hF => ?_) fun h2 hF => ?_
  · refine awp_true (by kernel_rfl) h2 ?_
    refine awp_seq ?_
    refine bE hF fun vy h3 hF => ?_
    refine awp_region ?_
    refine aR 2 ?_
    refine aX (x_idx api_Prop.enc h3) ?_
    refine aR 3 ?_
    refine aE ?_
    refine awp_ret ?_
    exact oF hF [] []
  · refine awp_false (by kernel_rfl) h2 ?_
    refine awp_skip ?_
    refine awp_seq ?_
    refine awp_region ?_
    refine aR 2 ?_
    refine aE ?_
    refine awp_ret ?_
    exact oF hF [] []

/-! ### beaconfleet/twin.Differ -/
def twin_Differ_n0_o1_x2_k : (List api_Change) → AEx
  | _ => .normal

def twin_Differ_n0_o1_x2_S (qb : List api_Prop) (vr1_1 : List (List UInt8)) (vout : List api_Change) (vx : Int) : (List api_Change) → St
  | vout2 => Mem.st ⟨[(1, ⟨72, 9, List.map api_Change.enc vout2⟩)], []⟩ (tl [(0, .v (.one (.nil))), (1, .v (.one (.d (.lst (List.map api_Prop.enc qb))))), (7, .v (.one (.own 1 none))), (24, .v (.one (.d (.lst (List.map encS vr1_1))))), (25, .v (.one (.d (.int .i64 (vr1_1.length : Int))))), (26, .v (.one (.d (.int .i64 vx))))]) 2

def twin_Differ_n0_o1_x2_I (qb : List api_Prop) (vr1_1 : List (List UInt8)) (vout : List api_Change) (vx : Int) : St := Mem.st ⟨[(1, ⟨72, 9, List.map api_Change.enc vout⟩)], []⟩ (tl [(0, .v (.one (.nil))), (1, .v (.one (.d (.lst (List.map api_Prop.enc qb))))), (7, .v (.one (.own 1 none))), (24, .v (.one (.d (.lst (List.map encS vr1_1))))), (25, .v (.one (.d (.int .i64 (vr1_1.length : Int))))), (26, .v (.one (.d (.int .i64 vx))))]) 2

theorem twin_Differ_n0_o1_x2_ok (qb : List api_Prop) (vr1_1 : List (List UInt8)) (vout : List api_Change) (vx : Int) {r} (hF : twin_Differ_n0_o1_x2 qb vr1_1 vout vx = some r) : Awp prog 1 48 (cL (cR (cR (cL (cL (cR (cL (cR (cR (cR (cB f29))))))))))) (Out 1 twin_Differ_n0_o1_x2_k (twin_Differ_n0_o1_x2_S qb vr1_1 vout vx) r) (twin_Differ_n0_o1_x2_I qb vr1_1 vout vx) := by
  unfold twin_Differ_n0_o1_x2 at hF
  refine awp_block ?_
  refine awp_seq ?_
  refine bE hF fun vy1 h7 hF => ?_
  refine awp_region ?_
  refine aX (x_idx encS h7) ?_
  refine aR 2 ?_
  refine aE ?_
  refine awp_seq ?_
  refine bE hF fun _ h8 hF => ?_
  refine bE hF fun vr4 h9 hF => ?_
  refine awp_region ?_
  refine aR 2 ?_
  refine aC (twin_valueOf_n0_ok h8) [] [] [] ?_
  refine aR 2 ?_
  refine aC (twin_valueOf_ok h9) [] [] [] ?_
  refine aR 4 ?_
  refine aE ?_
  refine awp_seq ?_
  refine awp_region ?_
  refine aR 2 ?_
  refine aS (does_eqS (op := .neq) (xs := [.int .i64 0, .bool false, .int .i64 0, .str ([] : List UInt8)]) (ys := [.int .i64 vr4.Kind, .bool vr4.Flag, .int .i64 vr4.Number, .str vr4.Words]) (b := (decide ((0 : Int) = vr4.Kind) && ((false == vr4.Flag) && (decide ((0 : Int) = vr4.Number) && (decide (([] : List UInt8) = vr4.Words) && true))))) (c := (!(decide ((0 : Int) = vr4.Kind) && ((false == vr4.Flag) && (decide ((0 : Int) = vr4.Number) && (decide (([] : List UInt8) = vr4.Words) && true)))))) rfl (.inr ⟨rfl, rfl⟩) (by kernel_rfl) (by kernel_rfl) (by kernel_rfl) (by kernel_rfl) (by kernel_rfl) (by kernel_rfl)) ?_
  refine aE ?_
  refine cE hF (fun h10 hF => ?_) fun h10 hF => ?_
  · refine awp_true (by kernel_rfl) h10 ?_
    refine gE hF fun h11 hF => ?_
    refine awp_region ?_
    refine aR 6 ?_
    refine aX (x_app api_Change.enc 1 h11) ?_
    refine aR 1 ?_
    refine aE ?_
    exact oO hF [(1, 22002)] [] rfl
  · refine awp_false (by kernel_rfl) h10 ?_
    refine awp_skip ?_
    exact oO hF [] [] rfl

def twin_Differ_n0_o1_x1_k : (List api_Change) → AEx
  | _ => .exit 0

def twin_Differ_n0_o1_x1_S (qb : List api_Prop) (vr1_1 : List (List UInt8)) : (List api_Change) → St
  | vout3 => Mem.st ⟨[(1, ⟨72, 9, List.map api_Change.enc vout3⟩)], []⟩ (tl [(7, .v (.one (.own 1 none)))]) 2

def twin_Differ_n0_o1_x1_H (qb : List api_Prop) (vr1_1 : List (List UInt8)) : (List api_Change) × Int → St
  | (vout, vx) => Mem.st ⟨[(1, ⟨72, 9, List.map api_Change.enc vout⟩)], []⟩ (tl [(0, .v (.one (.nil))), (1, .v (.one (.d (.lst (List.map api_Prop.enc qb))))), (7, .v (.one (.own 1 none))), (24, .v (.one (.d (.lst (List.map encS vr1_1))))), (25, .v (.one (.d (.int .i64 (vr1_1.length : Int))))), (26, .v (.one (.d (.int .i64 vx))))]) 2

theorem twin_Differ_n0_o1_x1_ok (qb : List api_Prop) (vr1_1 : List (List UInt8)) (s : (List api_Change) × Int) (r : ((List api_Change) × Int) ⊕ ((List api_Change))) (hF : twin_Differ_n0_o1_x1 qb vr1_1 s = some r) : Awp prog 1 48 (cL (cL (cR (cL (cR (cR (cR (cB f29)))))))) (Out 1 (kk twin_Differ_n0_o1_x1_k) (SS (twin_Differ_n0_o1_x1_H qb vr1_1) (twin_Differ_n0_o1_x1_S qb vr1_1)) r) (twin_Differ_n0_o1_x1_H qb vr1_1 s) := by
  obtain ⟨vout, vx⟩ := s
  unfold twin_Differ_n0_o1_x1 at hF
  refine awp_seq ?_
  refine awp_region ?_
  refine aR 1 ?_
  refine aE ?_
  refine awp_seq ?_
  refine cE hF (fun h6 hF => ?_) fun h6 hF => ?_
  · refine awp_true (by kernel_rfl) h6 ?_
    refine awp_skip ?_
    refine awp_seq ?_
    refine awp_to (st' := twin_Differ_n0_o1_x2_I qb vr1_1 vout vx) (oT [] []) ?_
    refine bE hF fun vout2_1 h12 hF => ?_
    refine awp_sub (twin_Differ_n0_o1_x2_ok qb vr1_1 vout vx h12) ?_
    refine awp_region ?_
    refine aR 2 ?_
    refine aE ?_
    exact oO hF [] [] rfl
  · refine awp_false (by kernel_rfl) h6 ?_
    refine awp_exit ?_
    exact oO hF [] [] rfl

def twin_Differ_n0_o1_R (qb : List api_Prop) (r : (List api_Change) × Int) : TV × Mem := (.tup [.one (.own 1 none), .one (.d (.int .i64 r.2))], ⟨[(1, ⟨72, 9, List.map api_Change.enc r.1⟩)], []⟩)

theorem twin_Differ_n0_o1_ok {qb : List api_Prop} {r} (hF : twin_Differ_n0_o1 qb = some r) : Holds prog 29 [.v (.one (.nil)), .v (.one (.own 0 none))] ⟨[(0, ⟨44, 5, List.map api_Prop.enc qb⟩)], []⟩ (Is (twin_Differ_n0_o1_R qb r)) := by
  unfold twin_Differ_n0_o1 at hF
  refine holds_of_awp hΓ (fn := f29) (c := cB f29) (A := 1) (nx := 1) (by kernel_rfl) (by kernel_rfl) (by kernel_rfl) (by kernel_rfl) (by kernel_rfl) (by kernel_rfl) (lowc_of (by kernel_rfl)) ?_
  show Awp prog 1 48 (cB f29) _ _
  refine awp_seq ?_
  refine awp_region ?_
  refine aR 2 ?_
  refine aE ?_
  refine awp_to (oT (m := ⟨[], []⟩) (ts := [(0, .v (.one (.nil))), (1, .v (.one (.d (.lst (List.map api_Prop.enc qb)))))]) (nx := 1) [] []) ?_
  refine awp_seq ?_
  refine awp_seq ?_
  refine bE hF fun vr h1 hF => ?_
  refine bE hF fun vr3 h2 hF => ?_
  refine bE hF fun vr1 h3 hF => ?_
  refine awp_region ?_
  refine aR 1 ?_
  refine aC (twin_CheckProps_n0_ok h1) [] [] [] ?_
  refine aR 1 ?_
  refine aC (twin_CheckProps_ok h2) [] [] [] ?_
  refine aR 1 ?_
  refine aC (base_First_ok h3) [] [] [4001] ?_
  refine aR 1 ?_
  refine aE ?_
  refine awp_seq ?_
  refine awp_region ?_
  refine aR 2 ?_
  refine aE ?_
  refine cE hF (fun h4 hF => ?_) fun h4 hF => ?_
  · refine awp_true (by kernel_rfl) h4 ?_
    refine awp_seq ?_
    refine awp_region ?_
    refine aR 3 ?_
    refine aE ?_
    refine awp_ret ?_
    exact oF hF [] [1]
  · refine awp_false (by kernel_rfl) h4 ?_
    refine awp_skip ?_
    refine awp_seq ?_
    refine awp_region ?_
    refine aR 1 ?_
    refine aE ?_
    refine awp_seq ?_
    refine awp_seq ?_
    refine bE hF fun vr1_1 h5 hF => ?_
    refine awp_region ?_
    refine aR 3 ?_
    refine aC (twin_names_o0_ok h5) [(0, 12001)] [] [] ?_
    refine aL encS vr1_1 ?_
    refine aR 1 ?_
    refine aE ?_
    refine awp_to (oT (m := ⟨[], []⟩) (ts := [(0, .v (.one (.nil))), (1, .v (.one (.d (.lst (List.map api_Prop.enc qb))))), (7, .v (.one (.nil))), (24, .v (.one (.d (.lst (List.map encS vr1_1))))), (25, .v (.one (.d (.int .i64 (vr1_1.length : Int))))), (26, .v (.one (.d (.int .i64 0))))]) (nx := 1) [] []) ?_
    refine awp_block ?_
    refine awp_to (st' := twin_Differ_n0_o1_x1_H qb vr1_1 ([], 0)) (oT [] [1]) ?_
    refine bE hF fun vout3_1 h13 hF => ?_
    refine awp_sub (awp_loop' (twin_Differ_n0_o1_x1_H qb vr1_1) twin_Differ_n0_o1_x1_k (twin_Differ_n0_o1_x1_S qb vr1_1) (by intro x; exact fun h => nomatch h) h13 (twin_Differ_n0_o1_x1_ok qb vr1_1)) ?_
    refine awp_seq ?_
    refine awp_region ?_
    refine aR 3 ?_
    refine aE ?_
    refine awp_ret ?_
    exact oF hF [] []

/-! ### beaconfleet/fleetlaw2.twinned -/
def fleetlaw2_twinned_x1_k : Bool → AEx
  | _ => .normal

def fleetlaw2_twinned_x1_S (vr5 : List api_Change) (vr6 : Int) : Bool → St
  | vx => Mem.st ⟨[], []⟩ (tl [(0, .v (.one (.d (.bool vx))))]) 0

def fleetlaw2_twinned_x1_I (vr5 : List api_Change) (vr6 : Int) : St := Mem.st ⟨[], []⟩ (tl [(1, .v (.one (.d (.lst (List.map api_Change.enc vr5))))), (2, .v (.one (.d (.int .i64 vr6))))]) 0

theorem fleetlaw2_twinned_x1_ok (vr5 : List api_Change) (vr6 : Int) {r} (hF : fleetlaw2_twinned_x1 vr5 vr6 = some r) : Awp prog 0 24 (cL (cR (cR (cB f18)))) (Out 0 fleetlaw2_twinned_x1_k (fleetlaw2_twinned_x1_S vr5 vr6) r) (fleetlaw2_twinned_x1_I vr5 vr6) := by
  unfold fleetlaw2_twinned_x1 at hF
  refine cE hF (fun h2 hF => ?_) fun h2 hF => ?_
  · refine cE hF (fun h3 hF => ?_) fun h3 hF => ?_
    · refine bE hF fun vy h4 hF => ?_
      refine awp_region ?_
      refine aR 1 ?_
      refine aB h2 ?_
      refine aR 2 ?_
      refine aL api_Change.enc vr5 ?_
      refine aB h3 ?_
      refine aR 3 ?_
      refine aX (x_idx api_Change.enc h4) ?_
      refine aR 5 ?_
      refine aE ?_
      exact oO hF [] [] rfl
    · refine awp_region ?_
      refine aR 1 ?_
      refine aB h2 ?_
      refine aR 2 ?_
      refine aL api_Change.enc vr5 ?_
      refine aB h3 ?_
      refine aR 9 ?_
      refine aE ?_
      exact oO hF [] [] rfl
  · refine awp_region ?_
    refine aR 1 ?_
    refine aB h2 ?_
    refine aR 13 ?_
    refine aE ?_
    exact oO hF [] [] rfl

def fleetlaw2_twinned_R (r : Bool) : TV × Mem := (.v (.one (.d (.bool r))), ⟨[], []⟩)

theorem fleetlaw2_twinned_ok {r} (hF : fleetlaw2_twinned = some r) : Holds prog 18 [] ⟨[], []⟩ (Is (fleetlaw2_twinned_R  r)) := by
  unfold fleetlaw2_twinned at hF
  refine holds_of_awp hΓ (fn := f18) (c := cB f18) (A := 0) (nx := 0) (by kernel_rfl) (by kernel_rfl) (by kernel_rfl) (by kernel_rfl) (by kernel_rfl) (by kernel_rfl) (lowc_of (by kernel_rfl)) ?_
  show Awp prog 0 24 (cB f18) _ _
  refine awp_seq ?_
  refine awp_region ?_
  refine aR 1 ?_
  refine aE ?_
  refine awp_seq ?_
  refine bE hF fun x h1 hF => ?_
  obtain ⟨vr5, vr6⟩ := x
  refine awp_region ?_
  refine aR 3 ?_
  refine aC (twin_Differ_n0_o1_ok h1) [(0, 3000)] [] [] ?_
  refine aR 5 ?_
  refine aE ?_
  refine awp_to (oT (m := ⟨[], []⟩) (ts := [(1, .v (.one (.d (.lst (List.map api_Change.enc vr5))))), (2, .v (.one (.d (.int .i64 vr6))))]) (nx := 0) [] []) ?_
  refine awp_seq ?_
  refine awp_to (st' := fleetlaw2_twinned_x1_I vr5 vr6) (oT [] []) ?_
  refine bE hF fun vx1 h5 hF => ?_
  refine awp_sub (fleetlaw2_twinned_x1_ok vr5 vr6 h5) ?_
  refine awp_ret ?_
  exact oF hF [] []

/-! ### slices.Clone[[]beaconfleet/api.Prop,beaconfleet/api.Prop] -/
def slices_Clone_api_Prop_api_Prop_R (qs : List api_Prop) (r : List api_Prop) : TV × Mem := (.v (.one (.own 0 none)), ⟨[(0, ⟨44, 5, List.map api_Prop.enc r⟩)], []⟩)

theorem slices_Clone_api_Prop_api_Prop_ok {qs : List api_Prop} {r} (hF : slices_Clone_api_Prop_api_Prop qs = some r) : Holds prog 82 [.v (.one (.d (.lst (List.map api_Prop.enc qs))))] ⟨[], []⟩ (Is (slices_Clone_api_Prop_api_Prop_R qs r)) := by
  unfold slices_Clone_api_Prop_api_Prop at hF
  refine gE hF fun h1 hF => ?_
  refine holds_of_awp hΓ (fn := f82) (c := cB f82) (A := 0) (nx := 0) (by kernel_rfl) (by kernel_rfl) (by kernel_rfl) (by kernel_rfl) (by kernel_rfl) (by kernel_rfl) (lowc_of (by kernel_rfl)) ?_
  show Awp prog 0 8 (cB f82) _ _
  refine awp_seq ?_
  refine awp_region ?_
  refine aR 1 ?_
  refine aE ?_
  refine awp_seq ?_
  refine awp_seq ?_
  refine awp_region ?_
  refine aR 1 ?_
  refine aN api_Prop.enc qs (fun b hb => ?_) rfl
  refine aE ?_
  cases b with
  | true =>
    obtain rfl := hb rfl
    refine awp_true (by kernel_rfl) rfl ?_
    refine awp_seq ?_
    refine awp_region ?_
    refine aR 1 ?_
    refine aE ?_
    refine awp_ret ?_
    exact oF hF [] [0]
  | false =>
    refine awp_false (by kernel_rfl) rfl ?_
    refine awp_skip ?_
    refine awp_seq ?_
    refine awp_region ?_
    refine aR 2 ?_
    refine aX (x_app api_Prop.enc 3000 h1) ?_
    refine aR 1 ?_
    refine aE ?_
    refine awp_ret ?_
    exact oF hF [(0, 5000)] []

/-! ### beaconfleet/fleetmake.propOrder -/
def fleetmake_propOrder_R (qa : api_Prop) (qb : api_Prop) (r : Unit) : TV × Mem := (.v (.one (.d (.int .i64 (Lib.compareBytes qa.Name qb.Name)))), ⟨[], []⟩)

theorem fleetmake_propOrder_ok {qa : api_Prop} {qb : api_Prop} {r} (hF : fleetmake_propOrder qa qb = some r) : Holds prog 66 [.v (.agg [.d (.str qa.Name), .d (.int .i64 qa.Value.Kind), .d (.bool qa.Value.Flag), .d (.int .i64 qa.Value.Number), .d (.str qa.Value.Words)]), .v (.agg [.d (.str qb.Name), .d (.int .i64 qb.Value.Kind), .d (.bool qb.Value.Flag), .d (.int .i64 qb.Value.Number), .d (.str qb.Value.Words)])] ⟨[], []⟩ (Is (fleetmake_propOrder_R qa qb r)) := by
  unfold fleetmake_propOrder at hF
  refine holds_of_awp hΓ (fn := f66) (c := cB f66) (A := 0) (nx := 0) (by kernel_rfl) (by kernel_rfl) (by kernel_rfl) (by kernel_rfl) (by kernel_rfl) (by kernel_rfl) (lowc_of (by kernel_rfl)) ?_
  show Awp prog 0 10 (cB f66) _ _
  refine awp_seq ?_
  refine awp_region ?_
  refine aR 3 ?_
  refine aE ?_
  refine awp_seq ?_
  refine bE hF fun _ h1 hF => ?_
  refine awp_region ?_
  refine aR 4 ?_
  refine aC (strings_Compare_ok h1) [] [] [] ?_
  refine aR 1 ?_
  refine aE ?_
  refine awp_ret ?_
  exact oF hF [] []

/-! ### slices.insertionSortCmpFunc[beaconfleet/api.Prop] -/
def slices_insertionSortCmpFunc_api_Prop_o0_f3_fleetmake_propOrder_x3_k : Bool → AEx
  | _ => .normal

def slices_insertionSortCmpFunc_api_Prop_o0_f3_fleetmake_propOrder_x3_S (qa : Int) (qb : Int) (vi : Int) (vl3 : List api_Prop) (vj1 : Int) : Bool → St
  | vx4 => Mem.st ⟨[(0, ⟨44, 5, List.map api_Prop.enc vl3⟩)], []⟩ (tl [(0, .v (.one (.own 0 none))), (1, .v (.one (.d (.int .i64 qa)))), (2, .v (.one (.d (.int .i64 qb)))), (3, .v (.one (.fn 66 []))), (8, .v (.one (.d (.int .i64 vi)))), (9, .v (.one (.d (.int .i64 vj1)))), (34, .v (.one (.d (.bool vx4))))]) 1

def slices_insertionSortCmpFunc_api_Prop_o0_f3_fleetmake_propOrder_x3_I (qa : Int) (qb : Int) (vi : Int) (vl3 : List api_Prop) (vj1 : Int) : St := Mem.st ⟨[(0, ⟨44, 5, List.map api_Prop.enc vl3⟩)], []⟩ (tl [(0, .v (.one (.own 0 none))), (1, .v (.one (.d (.int .i64 qa)))), (2, .v (.one (.d (.int .i64 qb)))), (3, .v (.one (.fn 66 []))), (8, .v (.one (.d (.int .i64 vi)))), (9, .v (.one (.d (.int .i64 vj1))))]) 1

theorem slices_insertionSortCmpFunc_api_Prop_o0_f3_fleetmake_propOrder_x3_ok (qa : Int) (qb : Int) (vi : Int) (vl3 : List api_Prop) (vj1 : Int) {r} (hF : slices_insertionSortCmpFunc_api_Prop_o0_f3_fleetmake_propOrder_x3 qa vl3 vj1 = some r) : Awp prog 1 53 (cL (cL (cL (cL (cR (cL (cL (cR (cL (cL (cR (cB f147)))))))))))) (Out 1 slices_insertionSortCmpFunc_api_Prop_o0_f3_fleetmake_propOrder_x3_k (slices_insertionSortCmpFunc_api_Prop_o0_f3_fleetmake_propOrder_x3_S qa qb vi vl3 vj1) r) (slices_insertionSortCmpFunc_api_Prop_o0_f3_fleetmake_propOrder_x3_I qa qb vi vl3 vj1) := by
  unfold slices_insertionSortCmpFunc_api_Prop_o0_f3_fleetmake_propOrder_x3 at hF
  refine cE hF (fun h2 hF => ?_) fun h2 hF => ?_
  · refine bE hF fun vy15 h3 hF => ?_
    refine bE hF fun vy16 h4 hF => ?_
    refine bE hF fun _ h5 hF => ?_
    refine aD ?_
    refine dR 2 ?_
    refine dB h2 ?_
    refine dR 4 ?_
    refine dX (x_idxO api_Prop.enc 0 h3) ?_
    refine dX (x_ldE api_Prop.enc h3) ?_
    refine dR 3 ?_
    refine dX (x_idxO api_Prop.enc 0 h4) ?_
    refine dX (x_ldE api_Prop.enc h4) ?_
    refine dC (fleetmake_propOrder_ok h5) [] [] [] ?_
    refine dR 2 ?_
    refine dE ?_
    exact oO hF [] [] rfl
  · refine aD ?_
    refine dR 2 ?_
    refine dB h2 ?_
    refine dR 14 ?_
    refine dE ?_
    exact oO hF [] [] rfl

def slices_insertionSortCmpFunc_api_Prop_o0_f3_fleetmake_propOrder_x2_k : (List api_Prop) → AEx
  | _ => .exit 2

def slices_insertionSortCmpFunc_api_Prop_o0_f3_fleetmake_propOrder_x2_S (qa : Int) (qb : Int) (vi : Int) : (List api_Prop) → St
  | vl4 => Mem.st ⟨[(0, ⟨44, 5, List.map api_Prop.enc vl4⟩)], []⟩ (tl [(0, .v (.one (.own 0 none))), (1, .v (.one (.d (.int .i64 qa)))), (2, .v (.one (.d (.int .i64 qb)))), (3, .v (.one (.fn 66 []))), (8, .v (.one (.d (.int .i64 vi))))]) 1

def slices_insertionSortCmpFunc_api_Prop_o0_f3_fleetmake_propOrder_x2_H (qa : Int) (qb : Int) (vi : Int) : (List api_Prop) × Int → St
  | (vl3, vj1) => Mem.st ⟨[(0, ⟨44, 5, List.map api_Prop.enc vl3⟩)], []⟩ (tl [(0, .v (.one (.own 0 none))), (1, .v (.one (.d (.int .i64 qa)))), (2, .v (.one (.d (.int .i64 qb)))), (3, .v (.one (.fn 66 []))), (8, .v (.one (.d (.int .i64 vi)))), (9, .v (.one (.d (.int .i64 vj1))))]) 1

theorem slices_insertionSortCmpFunc_api_Prop_o0_f3_fleetmake_propOrder_x2_ok (qa : Int) (qb : Int) (vi : Int) (s : (List api_Prop) × Int) (r : ((List api_Prop) × Int) ⊕ ((List api_Prop))) (hF : slices_insertionSortCmpFunc_api_Prop_o0_f3_fleetmake_propOrder_x2 qa s = some r) : Awp prog 1 53 (cL (cL (cR (cL (cL (cR (cL (cL (cR (cB f147)))))))))) (Out 1 (kk slices_insertionSortCmpFunc_api_Prop_o0_f3_fleetmake_propOrder_x2_k) (SS (slices_insertionSortCmpFunc_api_Prop_o0_f3_fleetmake_propOrder_x2_H qa qb vi) (slices_insertionSortCmpFunc_api_Prop_o0_f3_fleetmake_propOrder_x2_S qa qb vi)) r) (slices_insertionSortCmpFunc_api_Prop_o0_f3_fleetmake_propOrder_x2_H qa qb vi s) := by
  obtain ⟨vl3, vj1⟩ := s
  unfold slices_insertionSortCmpFunc_api_Prop_o0_f3_fleetmake_propOrder_x2 at hF
  refine awp_seq ?_
  refine awp_seq ?_
  refine awp_to (st' := slices_insertionSortCmpFunc_api_Prop_o0_f3_fleetmake_propOrder_x3_I qa qb vi vl3 vj1) (oT [] []) ?_
  refine bE hF fun vx4_1 h6 hF => ?_
  refine awp_sub (slices_insertionSortCmpFunc_api_Prop_o0_f3_fleetmake_propOrder_x3_ok qa qb vi vl3 vj1 h6) ?_
  refine cE hF (fun h7 hF => ?_) fun h7 hF => ?_
  · refine awp_true (by kernel_rfl) h7 ?_
    refine awp_skip ?_
    refine awp_seq ?_
    refine awp_block ?_
    refine bE hF fun vy17 h8 hF => ?_
    refine bE hF fun vy18 h9 hF => ?_
    refine bE hF fun vy19 h10 hF => ?_
    refine aDw [0] ?_
    refine dR 8 ?_
    refine dI api_Prop.enc 0 h8 rfl ?_
    refine dX (x_ldE api_Prop.enc h8) ?_
    refine dR 2 ?_
    refine dI api_Prop.enc 0 h9 rfl ?_
    refine dX (x_ldE api_Prop.enc h9) ?_
    refine dI api_Prop.enc 0 h9 rfl ?_
    refine dW api_Prop.enc (api_Prop.mk vy17.Name (api_Value.mk vy17.Value.Kind vy17.Value.Flag vy17.Value.Number vy17.Value.Words)) h9 rfl ?_
    refine dI api_Prop.enc 0 h10 rfl ?_
    refine dW api_Prop.enc (api_Prop.mk vy18.Name (api_Value.mk vy18.Value.Kind vy18.Value.Flag vy18.Value.Number vy18.Value.Words)) h10 rfl ?_
    refine dE ?_
    refine awp_region ?_
    refine aR 3 ?_
    refine aE ?_
    exact oO hF [] [] rfl
  · refine awp_false (by kernel_rfl) h7 ?_
    refine awp_exit ?_
    exact oO hF [] [] rfl

def slices_insertionSortCmpFunc_api_Prop_o0_f3_fleetmake_propOrder_x1_k : (List api_Prop) → AEx
  | _ => .exit 0

def slices_insertionSortCmpFunc_api_Prop_o0_f3_fleetmake_propOrder_x1_S (qa : Int) (qb : Int) : (List api_Prop) → St
  | vl5 => Mem.st ⟨[(0, ⟨44, 5, List.map api_Prop.enc vl5⟩)], []⟩ (tl []) 1

def slices_insertionSortCmpFunc_api_Prop_o0_f3_fleetmake_propOrder_x1_H (qa : Int) (qb : Int) : (List api_Prop) × Int → St
  | (vl, vi) => Mem.st ⟨[(0, ⟨44, 5, List.map api_Prop.enc vl⟩)], []⟩ (tl [(0, .v (.one (.own 0 none))), (1, .v (.one (.d (.int .i64 qa)))), (2, .v (.one (.d (.int .i64 qb)))), (3, .v (.one (.fn 66 []))), (8, .v (.one (.d (.int .i64 vi))))]) 1

theorem slices_insertionSortCmpFunc_api_Prop_o0_f3_fleetmake_propOrder_x1_ok (qa : Int) (qb : Int) (s : (List api_Prop) × Int) (r : ((List api_Prop) × Int) ⊕ ((List api_Prop))) (hF : slices_insertionSortCmpFunc_api_Prop_o0_f3_fleetmake_propOrder_x1 qa qb s = some r) : Awp prog 1 53 (cL (cL (cR (cB f147)))) (Out 1 (kk slices_insertionSortCmpFunc_api_Prop_o0_f3_fleetmake_propOrder_x1_k) (SS (slices_insertionSortCmpFunc_api_Prop_o0_f3_fleetmake_propOrder_x1_H qa qb) (slices_insertionSortCmpFunc_api_Prop_o0_f3_fleetmake_propOrder_x1_S qa qb)) r) (slices_insertionSortCmpFunc_api_Prop_o0_f3_fleetmake_propOrder_x1_H qa qb s) := by
  obtain ⟨vl, vi⟩ := s
  unfold slices_insertionSortCmpFunc_api_Prop_o0_f3_fleetmake_propOrder_x1 at hF
  refine awp_seq ?_
  refine awp_seq ?_
  refine awp_region ?_
  refine aR 3 ?_
  refine aE ?_
  refine cE hF (fun h1 hF => ?_) fun h1 hF => ?_
  · refine awp_true (by kernel_rfl) h1 ?_
    refine awp_skip ?_
    refine awp_seq ?_
    refine awp_block ?_
    refine awp_seq ?_
    refine awp_region ?_
    refine aR 2 ?_
    refine aE ?_
    refine awp_block ?_
    refine awp_to (st' := slices_insertionSortCmpFunc_api_Prop_o0_f3_fleetmake_propOrder_x2_H qa qb vi (vl, vi)) (oT [] []) ?_
    refine bE hF fun vl4_1 h11 hF => ?_
    refine awp_sub (awp_loop' (slices_insertionSortCmpFunc_api_Prop_o0_f3_fleetmake_propOrder_x2_H qa qb vi) slices_insertionSortCmpFunc_api_Prop_o0_f3_fleetmake_propOrder_x2_k (slices_insertionSortCmpFunc_api_Prop_o0_f3_fleetmake_propOrder_x2_S qa qb vi) (by intro x; exact fun h => nomatch h) h11 (slices_insertionSortCmpFunc_api_Prop_o0_f3_fleetmake_propOrder_x2_ok qa qb vi)) ?_
    refine awp_region ?_
    refine aR 3 ?_
    refine aE ?_
    exact oO hF [] [] rfl
  · refine awp_false (by kernel_rfl) h1 ?_
    refine awp_exit ?_
    exact oO hF [] [] rfl

def slices_insertionSortCmpFunc_api_Prop_o0_f3_fleetmake_propOrder_R (qdata : List api_Prop) (qa : Int) (qb : Int) (r : (List api_Prop)) : TV × Mem := (.tup [], ⟨[(0, ⟨44, 5, List.map api_Prop.enc r⟩)], []⟩)

theorem slices_insertionSortCmpFunc_api_Prop_o0_f3_fleetmake_propOrder_ok {qdata : List api_Prop} {qa : Int} {qb : Int} {r} (hF : slices_insertionSortCmpFunc_api_Prop_o0_f3_fleetmake_propOrder qdata qa qb = some r) : Holds prog 147 [.v (.one (.own 0 none)), .v (.one (.d (.int .i64 qa))), .v (.one (.d (.int .i64 qb))), .v (.one (.fn 66 []))] ⟨[(0, ⟨44, 5, List.map api_Prop.enc qdata⟩)], []⟩ (Is (slices_insertionSortCmpFunc_api_Prop_o0_f3_fleetmake_propOrder_R qdata qa qb r)) := by
  unfold slices_insertionSortCmpFunc_api_Prop_o0_f3_fleetmake_propOrder at hF
  refine holds_of_awp hΓ (fn := f147) (c := cB f147) (A := 1) (nx := 1) (by kernel_rfl) (by kernel_rfl) (by kernel_rfl) (by kernel_rfl) (by kernel_rfl) (by kernel_rfl) (lowc_of (by kernel_rfl)) ?_
  show Awp prog 1 53 (cB f147) _ _
  refine awp_seq ?_
  refine awp_region ?_
  refine aR 3 ?_
  refine aE ?_
  refine awp_block ?_
  refine awp_to (st' := slices_insertionSortCmpFunc_api_Prop_o0_f3_fleetmake_propOrder_x1_H qa qb (qdata, IntKind.wrap .i64 (qa + 1))) (oT [] []) ?_
  refine bE hF fun vl5_1 h12 hF => ?_
  refine awp_sub (awp_loop' (slices_insertionSortCmpFunc_api_Prop_o0_f3_fleetmake_propOrder_x1_H qa qb) slices_insertionSortCmpFunc_api_Prop_o0_f3_fleetmake_propOrder_x1_k (slices_insertionSortCmpFunc_api_Prop_o0_f3_fleetmake_propOrder_x1_S qa qb) (by intro x; exact fun h => nomatch h) h12 (slices_insertionSortCmpFunc_api_Prop_o0_f3_fleetmake_propOrder_x1_ok qa qb)) ?_
  exact oF hF [] []

/-! ### slices.pdqsortCmpFunc[beaconfleet/api.Prop] -/
def slices_pdqsortCmpFunc_api_Prop_o0_f4_fleetmake_propOrder_x1_k : (List api_Prop) → AEx
  | _ => .ret

def slices_pdqsortCmpFunc_api_Prop_o0_f4_fleetmake_propOrder_x1_S (qx : List api_Prop) (qx1 : Int) (qx2 : Int) (qx3 : Int) : (List api_Prop) → St
  | vl => Mem.st ⟨[(0, ⟨44, 5, List.map api_Prop.enc vl⟩)], []⟩ (tl []) 1

def slices_pdqsortCmpFunc_api_Prop_o0_f4_fleetmake_propOrder_x1_H (qx : List api_Prop) (qx1 : Int) (qx2 : Int) (qx3 : Int) : Unit → St
  | _ => Mem.st ⟨[(0, ⟨44, 5, List.map api_Prop.enc qx⟩)], []⟩ (tl [(0, .v (.one (.own 0 none))), (1, .v (.one (.d (.int .i64 qx1)))), (2, .v (.one (.d (.int .i64 qx2)))), (3, .v (.one (.d (.int .i64 qx3)))), (4, .v (.one (.fn 66 []))), (10, .v (.one (.d (.bool true)))), (11, .v (.one (.d (.bool true))))]) 1

theorem slices_pdqsortCmpFunc_api_Prop_o0_f4_fleetmake_propOrder_x1_ok (qx : List api_Prop) (qx1 : Int) (qx2 : Int) (qx3 : Int) (s : Unit) (r : (Unit) ⊕ ((List api_Prop))) (hF : slices_pdqsortCmpFunc_api_Prop_o0_f4_fleetmake_propOrder_x1 qx qx1 qx2 qx3 s = some r) : Awp prog 1 148 (cL (cL (cR (cR (cB f115))))) (Out 1 (kk slices_pdqsortCmpFunc_api_Prop_o0_f4_fleetmake_propOrder_x1_k) (SS (slices_pdqsortCmpFunc_api_Prop_o0_f4_fleetmake_propOrder_x1_H qx qx1 qx2 qx3) (slices_pdqsortCmpFunc_api_Prop_o0_f4_fleetmake_propOrder_x1_S qx qx1 qx2 qx3)) r) (slices_pdqsortCmpFunc_api_Prop_o0_f4_fleetmake_propOrder_x1_H qx qx1 qx2 qx3 s) := by
  unfold slices_pdqsortCmpFunc_api_Prop_o0_f4_fleetmake_propOrder_x1 at hF
  refine awp_block ?_
  refine awp_seq ?_
  refine awp_region ?_
  refine aR 4 ?_
  refine aE ?_
  refine awp_seq ?_
  refine awp_seq ?_
  refine awp_region ?_
  refine aR 2 ?_
  refine aE ?_
  refine cE hF (fun h1 hF => ?_) fun h1 hF => ?_
  · refine awp_true (by kernel_rfl) h1 ?_
    refine awp_seq ?_
    refine bE hF fun vl6_1 h2 hF => ?_
    refine gE hF fun h3 hF => ?_
    refine awp_region ?_
    refine aR 4 ?_
    refine aCp (slices_insertionSortCmpFunc_api_Prop_o0_f3_fleetmake_propOrder_ok h2) ⟨⟨rfl, rfl, pin1 h3⟩, trivial⟩ [] [] [] ?_
    refine aE ?_
    refine awp_ret ?_
    exact oO hF [] [] rfl
  · refine awp_false (by kernel_rfl) h1 ?_
    refine awp_skip ?_
    refine awp_seq ?_
    refine awp_seq ?_
    refine awp_region ?_
    refine aR 2 ?_
    refine aE ?_
    refine cE hF (fun h4 hF => ?_) fun h4 hF => ?_
    · refine awp_true (by kernel_rfl) h4 ?_
      refine awp_seq ?_
      exact nE hF
    · refine awp_false (by kernel_rfl) h4 ?_
      refine awp_skip ?_
      refine awp_seq ?_
      refine awp_seq ?_
      refine awp_region ?_
      refine aR 2 ?_
      refine aE ?_
      refine awp_false (by kernel_rfl) rfl ?_
      refine awp_skip ?_
      refine awp_seq ?_
      exact nE hF

def slices_pdqsortCmpFunc_api_Prop_o0_f4_fleetmake_propOrder_R (qx : List api_Prop) (qx1 : Int) (qx2 : Int) (qx3 : Int) (r : (List api_Prop)) : TV × Mem := (.tup [], ⟨[(0, ⟨44, 5, List.map api_Prop.enc r⟩)], []⟩)

theorem slices_pdqsortCmpFunc_api_Prop_o0_f4_fleetmake_propOrder_ok {qx : List api_Prop} {qx1 : Int} {qx2 : Int} {qx3 : Int} {r} (hF : slices_pdqsortCmpFunc_api_Prop_o0_f4_fleetmake_propOrder qx qx1 qx2 qx3 = some r) : Holds prog 115 [.v (.one (.own 0 none)), .v (.one (.d (.int .i64 qx1))), .v (.one (.d (.int .i64 qx2))), .v (.one (.d (.int .i64 qx3))), .v (.one (.fn 66 []))] ⟨[(0, ⟨44, 5, List.map api_Prop.enc qx⟩)], []⟩ (Is (slices_pdqsortCmpFunc_api_Prop_o0_f4_fleetmake_propOrder_R qx qx1 qx2 qx3 r)) := by
  unfold slices_pdqsortCmpFunc_api_Prop_o0_f4_fleetmake_propOrder at hF
  refine holds_of_awp hΓ (fn := f115) (c := cB f115) (A := 1) (nx := 1) (by kernel_rfl) (by kernel_rfl) (by kernel_rfl) (by kernel_rfl) (by kernel_rfl) (by kernel_rfl) (lowc_of (by kernel_rfl)) ?_
  show Awp prog 1 148 (cB f115) _ _
  refine awp_seq ?_
  refine awp_region ?_
  refine aR 1 ?_
  refine aE ?_
  refine awp_seq ?_
  refine awp_region ?_
  refine aR 1 ?_
  refine aE ?_
  refine awp_block ?_
  refine awp_to (st' := slices_pdqsortCmpFunc_api_Prop_o0_f4_fleetmake_propOrder_x1_H qx qx1 qx2 qx3 ()) (oT [] []) ?_
  refine bE hF fun vl1 h7 hF => ?_
  refine awp_sub (awp_loop' (slices_pdqsortCmpFunc_api_Prop_o0_f4_fleetmake_propOrder_x1_H qx qx1 qx2 qx3) slices_pdqsortCmpFunc_api_Prop_o0_f4_fleetmake_propOrder_x1_k (slices_pdqsortCmpFunc_api_Prop_o0_f4_fleetmake_propOrder_x1_S qx qx1 qx2 qx3) (by intro x; exact fun h => nomatch h) h7 (slices_pdqsortCmpFunc_api_Prop_o0_f4_fleetmake_propOrder_x1_ok qx qx1 qx2 qx3)) ?_
  exact oF hF [] []

/-! ### slices.SortFunc[[]beaconfleet/api.Prop,beaconfleet/api.Prop] -/
def slices_SortFunc_api_Prop_api_Prop_o0_f1_fleetmake_propOrder_R (qx : List api_Prop) (r : (List api_Prop)) : TV × Mem := (.tup [], ⟨[(0, ⟨44, 5, List.map api_Prop.enc r⟩)], []⟩)

theorem slices_SortFunc_api_Prop_api_Prop_o0_f1_fleetmake_propOrder_ok {qx : List api_Prop} {r} (hF : slices_SortFunc_api_Prop_api_Prop_o0_f1_fleetmake_propOrder qx = some r) : Holds prog 65 [.v (.one (.own 0 none)), .v (.one (.fn 66 []))] ⟨[(0, ⟨44, 5, List.map api_Prop.enc qx⟩)], []⟩ (Is (slices_SortFunc_api_Prop_api_Prop_o0_f1_fleetmake_propOrder_R qx r)) := by
  unfold slices_SortFunc_api_Prop_api_Prop_o0_f1_fleetmake_propOrder at hF
  refine holds_of_awp hΓ (fn := f65) (c := cB f65) (A := 1) (nx := 1) (by kernel_rfl) (by kernel_rfl) (by kernel_rfl) (by kernel_rfl) (by kernel_rfl) (by kernel_rfl) (lowc_of (by kernel_rfl)) ?_
  show Awp prog 1 14 (cB f65) _ _
  refine awp_seq ?_
  refine awp_region ?_
  refine aR 1 ?_
  refine aL api_Prop.enc qx ?_
  refine aR 1 ?_
  refine aE ?_
  refine bE hF fun vr1 h1 hF => ?_
  refine bE hF fun vl2 h2 hF => ?_
  refine gE hF fun h3 hF => ?_
  refine awp_region ?_
  refine aR 4 ?_
  refine aC (bits_Len_ok h1) [] [] [] ?_
  refine aR 1 ?_
  refine aCp (slices_pdqsortCmpFunc_api_Prop_o0_f4_fleetmake_propOrder_ok h2) ⟨⟨rfl, rfl, pin1 h3⟩, trivial⟩ [] [] [] ?_
  refine aE ?_
  exact oF hF [] []

/-! ### beaconfleet/fleetref2.PropsFault$1 -/
def fleetref2_PropsFault_1_R (qq : api_Prop) (qx : api_Prop) (r : Bool) : TV × Mem := (.v (.one (.d (.bool r))), ⟨[], [(0, [.d (.str qx.Name), .d (.int .i64 qx.Value.Kind), .d (.bool qx.Value.Flag), .d (.int .i64 qx.Value.Number), .d (.str qx.Value.Words)])]⟩)

theorem fleetref2_PropsFault_1_ok {qq : api_Prop} {qx : api_Prop} {r} (hF : fleetref2_PropsFault_1 qq qx = some r) : Holds prog 72 [.v (.agg [.d (.str qq.Name), .d (.int .i64 qq.Value.Kind), .d (.bool qq.Value.Flag), .d (.int .i64 qq.Value.Number), .d (.str qq.Value.Words)]), .v (.one (.box 0 0))] ⟨[], [(0, [.d (.str qx.Name), .d (.int .i64 qx.Value.Kind), .d (.bool qx.Value.Flag), .d (.int .i64 qx.Value.Number), .d (.str qx.Value.Words)])]⟩ (Is (fleetref2_PropsFault_1_R qq qx r)) := by
  unfold fleetref2_PropsFault_1 at hF
  refine holds_of_awp hΓ (fn := f72) (c := cB f72) (A := 1) (nx := 1) (by kernel_rfl) (by kernel_rfl) (by kernel_rfl) (by kernel_rfl) (by kernel_rfl) (by kernel_rfl) (lowc_of (by kernel_rfl)) ?_
  show Awp prog 1 9 (cB f72) _ _
  refine awp_seq ?_
  refine awp_region ?_
  refine aR 2 ?_
  refine aE ?_
  refine awp_seq ?_
  refine bE hF fun vr h1 hF => ?_
  refine awp_region ?_
  refine aR 4 ?_
  refine aC (fleetref2_above_ok h1) [] [] [] ?_
  refine aR 1 ?_
  refine aE ?_
  refine awp_ret ?_
  exact oF hF [] []

/-! ### slices.IndexFunc[[]beaconfleet/api.Prop,beaconfleet/api.Prop] -/
def slices_IndexFunc_api_Prop_api_Prop_f1_fleetref2_PropsFault_1_x1_k : Unit ⊕ Int → AEx
  | .inl _ => .exit 0
  | .inr _ => .ret

def slices_IndexFunc_api_Prop_api_Prop_f1_fleetref2_PropsFault_1_x1_S (qs : List api_Prop) (qf : api_Prop) : Unit ⊕ Int → St
  | .inl _ => Mem.st ⟨[], [(0, [.d (.str qf.Name), .d (.int .i64 qf.Value.Kind), .d (.bool qf.Value.Flag), .d (.int .i64 qf.Value.Number), .d (.str qf.Value.Words)])]⟩ (tl []) 1
  | .inr vx1 => Mem.st ⟨[], [(0, [.d (.str qf.Name), .d (.int .i64 qf.Value.Kind), .d (.bool qf.Value.Flag), .d (.int .i64 qf.Value.Number), .d (.str qf.Value.Words)])]⟩ (tl [(4, .v (.one (.d (.int .i64 vx1))))]) 1

def slices_IndexFunc_api_Prop_api_Prop_f1_fleetref2_PropsFault_1_x1_H (qs : List api_Prop) (qf : api_Prop) : Int → St
  | vx => Mem.st ⟨[], [(0, [.d (.str qf.Name), .d (.int .i64 qf.Value.Kind), .d (.bool qf.Value.Flag), .d (.int .i64 qf.Value.Number), .d (.str qf.Value.Words)])]⟩ (tl [(0, .v (.one (.d (.lst (List.map api_Prop.enc qs))))), (1, .v (.one (.fn 72 [0]))), (7, .v (.one (.d (.int .i64 (qs.length : Int))))), (8, .v (.one (.d (.int .i64 vx))))]) 1

theorem slices_IndexFunc_api_Prop_api_Prop_f1_fleetref2_PropsFault_1_x1_ok (qs : List api_Prop) (qf : api_Prop) (vx : Int) (r : (Int) ⊕ (Unit ⊕ Int)) (hF : slices_IndexFunc_api_Prop_api_Prop_f1_fleetref2_PropsFault_1_x1 qs qf vx = some r) : Awp prog 1 19 (cL (cL (cR (cL (cR (cB f123)))))) (Out 1 (kk slices_IndexFunc_api_Prop_api_Prop_f1_fleetref2_PropsFault_1_x1_k) (SS (slices_IndexFunc_api_Prop_api_Prop_f1_fleetref2_PropsFault_1_x1_H qs qf) (slices_IndexFunc_api_Prop_api_Prop_f1_fleetref2_PropsFault_1_x1_S qs qf)) r) (slices_IndexFunc_api_Prop_api_Prop_f1_fleetref2_PropsFault_1_x1_H qs qf vx) := by
  unfold slices_IndexFunc_api_Prop_api_Prop_f1_fleetref2_PropsFault_1_x1 at hF
  refine awp_seq ?_
  refine awp_region ?_
  refine aR 1 ?_
  refine aE ?_
  refine awp_seq ?_
  refine cE hF (fun h1 hF => ?_) fun h1 hF => ?_
  · refine awp_true (by kernel_rfl) h1 ?_
    refine awp_skip ?_
    refine awp_seq ?_
    refine awp_block ?_
    refine awp_seq ?_
    refine awp_region ?_
    refine aR 2 ?_
    refine aE ?_
    refine awp_seq ?_
    refine bE hF fun vy1 h2 hF => ?_
    refine bE hF fun vr1_1 h3 hF => ?_
    refine awp_region ?_
    refine aR 3 ?_
    refine aX (x_idx api_Prop.enc h2) ?_
    refine aR 1 ?_
    refine aC (fleetref2_PropsFault_1_ok h3) [] [] [] ?_
    refine aE ?_
    refine cE hF (fun h4 hF => ?_) fun h4 hF => ?_
    · refine awp_true (by kernel_rfl) h4 ?_
      refine awp_seq ?_
      refine awp_region ?_
      refine aR 2 ?_
      refine aE ?_
      refine awp_ret ?_
      exact oO hF [] [] rfl
    · refine awp_false (by kernel_rfl) h4 ?_
      refine awp_skip ?_
      refine awp_region ?_
      refine aR 2 ?_
      refine aE ?_
      exact oO hF [] [] rfl
  · refine awp_false (by kernel_rfl) h1 ?_
    refine awp_exit ?_
    exact oO hF [] [] rfl

def slices_IndexFunc_api_Prop_api_Prop_f1_fleetref2_PropsFault_1_R (qs : List api_Prop) (qf : api_Prop) (r : Int) : TV × Mem := (.v (.one (.d (.int .i64 r))), ⟨[], [(0, [.d (.str qf.Name), .d (.int .i64 qf.Value.Kind), .d (.bool qf.Value.Flag), .d (.int .i64 qf.Value.Number), .d (.str qf.Value.Words)])]⟩)

theorem slices_IndexFunc_api_Prop_api_Prop_f1_fleetref2_PropsFault_1_ok {qs : List api_Prop} {qf : api_Prop} {r} (hF : slices_IndexFunc_api_Prop_api_Prop_f1_fleetref2_PropsFault_1 qs qf = some r) : Holds prog 123 [.v (.one (.d (.lst (List.map api_Prop.enc qs)))), .v (.one (.fn 72 [0]))] ⟨[], [(0, [.d (.str qf.Name), .d (.int .i64 qf.Value.Kind), .d (.bool qf.Value.Flag), .d (.int .i64 qf.Value.Number), .d (.str qf.Value.Words)])]⟩ (Is (slices_IndexFunc_api_Prop_api_Prop_f1_fleetref2_PropsFault_1_R qs qf r)) := by
  unfold slices_IndexFunc_api_Prop_api_Prop_f1_fleetref2_PropsFault_1 at hF
  refine holds_of_awp hΓ (fn := f123) (c := cB f123) (A := 1) (nx := 1) (by kernel_rfl) (by kernel_rfl) (by kernel_rfl) (by kernel_rfl) (by kernel_rfl) (by kernel_rfl) (lowc_of (by kernel_rfl)) ?_
  show Awp prog 1 19 (cB f123) _ _
  refine awp_seq ?_
  refine awp_region ?_
  refine aR 1 ?_
  refine aE ?_
  refine awp_seq ?_
  refine awp_seq ?_
  refine awp_region ?_
  refine aR 1 ?_
  refine aL api_Prop.enc qs ?_
  refine aR 1 ?_
  refine aE ?_
  refine awp_block ?_
  refine awp_to (st' := slices_IndexFunc_api_Prop_api_Prop_f1_fleetref2_PropsFault_1_x1_H qs qf 0) (oT [] []) ?_
  refine bE hF fun x h5 hF => ?_
  rcases x with _ | vx1_1
  · refine awp_sub (awp_loop' (slices_IndexFunc_api_Prop_api_Prop_f1_fleetref2_PropsFault_1_x1_H qs qf) slices_IndexFunc_api_Prop_api_Prop_f1_fleetref2_PropsFault_1_x1_k (slices_IndexFunc_api_Prop_api_Prop_f1_fleetref2_PropsFault_1_x1_S qs qf) (by intro x; rcases x with x | x <;> exact fun h => nomatch h) h5 (slices_IndexFunc_api_Prop_api_Prop_f1_fleetref2_PropsFault_1_x1_ok qs qf)) ?_
    refine awp_seq ?_
    refine awp_region ?_
    refine aR 1 ?_
    refine aE ?_
    refine awp_ret ?_
    exact oF hF [] []
  · refine awp_sub (awp_loop' (slices_IndexFunc_api_Prop_api_Prop_f1_fleetref2_PropsFault_1_x1_H qs qf) slices_IndexFunc_api_Prop_api_Prop_f1_fleetref2_PropsFault_1_x1_k (slices_IndexFunc_api_Prop_api_Prop_f1_fleetref2_PropsFault_1_x1_S qs qf) (by intro x; rcases x with x | x <;> exact fun h => nomatch h) h5 (slices_IndexFunc_api_Prop_api_Prop_f1_fleetref2_PropsFault_1_x1_ok qs qf)) ?_
    exact oF hF [] []

/-! ### slices.ContainsFunc[[]beaconfleet/api.Prop,beaconfleet/api.Prop] -/
def slices_ContainsFunc_api_Prop_api_Prop_f1_fleetref2_PropsFault_1_R (qs : List api_Prop) (qf : api_Prop) (r : Bool) : TV × Mem := (.v (.one (.d (.bool r))), ⟨[], [(0, [.d (.str qf.Name), .d (.int .i64 qf.Value.Kind), .d (.bool qf.Value.Flag), .d (.int .i64 qf.Value.Number), .d (.str qf.Value.Words)])]⟩)

theorem slices_ContainsFunc_api_Prop_api_Prop_f1_fleetref2_PropsFault_1_ok {qs : List api_Prop} {qf : api_Prop} {r} (hF : slices_ContainsFunc_api_Prop_api_Prop_f1_fleetref2_PropsFault_1 qs qf = some r) : Holds prog 71 [.v (.one (.d (.lst (List.map api_Prop.enc qs)))), .v (.one (.fn 72 [0]))] ⟨[], [(0, [.d (.str qf.Name), .d (.int .i64 qf.Value.Kind), .d (.bool qf.Value.Flag), .d (.int .i64 qf.Value.Number), .d (.str qf.Value.Words)])]⟩ (Is (slices_ContainsFunc_api_Prop_api_Prop_f1_fleetref2_PropsFault_1_R qs qf r)) := by
  unfold slices_ContainsFunc_api_Prop_api_Prop_f1_fleetref2_PropsFault_1 at hF
  refine holds_of_awp hΓ (fn := f71) (c := cB f71) (A := 1) (nx := 1) (by kernel_rfl) (by kernel_rfl) (by kernel_rfl) (by kernel_rfl) (by kernel_rfl) (by kernel_rfl) (lowc_of (by kernel_rfl)) ?_
  show Awp prog 1 9 (cB f71) _ _
  refine awp_seq ?_
  refine awp_region ?_
  refine aR 1 ?_
  refine aE ?_
  refine awp_seq ?_
  refine bE hF fun vr h1 hF => ?_
  refine awp_region ?_
  refine aR 2 ?_
  refine aC (slices_IndexFunc_api_Prop_api_Prop_f1_fleetref2_PropsFault_1_ok h1) [] [] [] ?_
  refine aR 2 ?_
  refine aE ?_
  refine awp_ret ?_
  exact oF hF [] []

end Go.Eng
