/-
The code of the Go functions that the law FixTexts reaches does what the plain functions say, part 1.
-/
import Derived.Test.YtnnadlpfbfajdaaGreatDoorGenF

import Derived.Test.YtnnadlpfbfajdaaGreatDoorEng0

import Derived.Test.YtnnadlpfbfajdaaGreatDoorEngs

import Derived.Test.YtnnadlpfbfajdaaGreatDoorEngj

import Derived.Test.YtnnadlpfbfajdaaGreatDoorGenS

import Derived.Test.YtnnadlpfbfajdaaGreatDoorProg

import Derived.KernelRfl

namespace Go.Eng

open Go Go.Proofs.Tryz

set_option linter.unusedVariables false

set_option maxRecDepth 20000

set_option maxHeartbeats 0

def ti2 : TI := ⟨1, 8, [.d (.int .i64 0)], false, .int .i64⟩

def ti3 : TI := ⟨1, 8, [.d (.int .i64 0)], false, .int .i64⟩

def ti5 : TI := ⟨1, 1, [.d (.int .u8 0)], false, .int .u8⟩

def ti9 : TI := ⟨1, 16, [.d (.str [])], false, .str⟩

def ti21 : TI := ⟨1, 4, [.d (.int .i32 0)], false, .int .i32⟩

def ti22 : TI := ⟨1, 24, [.nil], false, .slice 3⟩

def ti25 : TI := ⟨2, 32, [.nil, .d (.int .i64 0)], true, .struct [(0, 22), (1, 3)]⟩

def ti26 : TI := ⟨1, 24, [.nil], false, .slice 39⟩

def ti30 : TI := ⟨1, 8, [.d (.int .i64 0)], false, .int .i64⟩

def ti39 : TI := ⟨5, 48, [.d (.str []), .d (.int .i64 0), .d (.int .i64 0), .d (.int .i64 0), .d (.int .i64 0)], true, .struct [(0, 9), (1, 3), (2, 3), (3, 3), (4, 3)]⟩

def ti90 : TI := ⟨1, 8, [.nilp], false, .ptr⟩

def ti91 : TI := ⟨1, 24, [.nil], false, .slice 5⟩

def ti93 : TI := ⟨2, 32, [.nilp, .nil], true, .struct [(0, 90), (1, 91)]⟩

def ti95 : TI := ⟨1, 16, [.nili], false, .other⟩

def ti103 : TI := ⟨2, 16, [.d (.int .i64 0), .d (.int .i64 0)], true, .struct [(0, 3), (1, 3)]⟩

def ti106 : TI := ⟨1, 24, [.nil], false, .slice 9⟩

def ti116 : TI := ⟨4, 32, [.d (.int .i64 0), .d (.int .i64 0), .d (.int .i64 0), .d (.int .i64 0)], true, .array 4 3⟩

def ti206 : TI := ⟨1, 8, [.d (.int .u64 0)], false, .int .u64⟩

def ti214 : TI := ⟨1, 8, [.d (.int .u64 0)], false, .int .u64⟩

def Γ : Types := [(2, ti2), (3, ti3), (5, ti5), (9, ti9), (21, ti21), (22, ti22), (25, ti25), (26, ti26), (30, ti30), (39, ti39), (90, ti90), (91, ti91), (93, ti93), (95, ti95), (103, ti103), (106, ti106), (116, ti116), (206, ti206), (214, ti214)]

theorem hΓ : TypesOk prog Γ := typesOk_of (by kernel_rfl)

instance : TOk prog Γ := ⟨hΓ⟩

theorem hm : prog.follows .mixedOrders = true := by kernel_rfl

instance : Mixed prog := ⟨hm⟩

/-! ### beaconfleet/fleetmake.Below -/
def fleetmake_Below_x1_k : Int → AEx
  | _ => .normal

def fleetmake_Below_x1_S (qx : Int) (qn : Int) : Int → St
  | vx => Mem.st ⟨[], []⟩ (tl [(0, .v (.one (.d (.int .i64 vx))))]) 0

def fleetmake_Below_x1_I (qx : Int) (qn : Int) : St := Mem.st ⟨[], []⟩ (tl [(0, .v (.one (.d (.int .i64 (qx.tmod qn))))), (1, .v (.one (.d (.int .i64 qn))))]) 0

theorem fleetmake_Below_x1_ok (qx : Int) (qn : Int) {r} (hF : fleetmake_Below_x1 qx qn = some r) : Awp prog 0 16 (cL (cR (cR (cR (cB f117))))) (Out 0 fleetmake_Below_x1_k (fleetmake_Below_x1_S qx qn) r) (fleetmake_Below_x1_I qx qn) := by
  unfold fleetmake_Below_x1 at hF
  refine awp_seq ?_
  refine awp_region ?_
  refine aR 2 ?_
  refine aE ?_
  refine cE hF (fun h3 hF => ?_) fun h3 hF => ?_
  · refine awp_true (by kernel_rfl) h3 ?_
    refine awp_region ?_
    refine aR 4 ?_
    refine aE ?_
    exact oO hF [] [] rfl
  · refine awp_false (by kernel_rfl) h3 ?_
    refine awp_skip ?_
    exact oO hF [] [] rfl

def fleetmake_Below_R (qx : Int) (qn : Int) (r : Int) : TV × Mem := (.v (.one (.d (.int .i64 r))), ⟨[], []⟩)

theorem fleetmake_Below_ok {qx : Int} {qn : Int} {r} (hF : fleetmake_Below qx qn = some r) : Holds prog 117 [.v (.one (.d (.int .i64 qx))), .v (.one (.d (.int .i64 qn)))] ⟨[], []⟩ (Is (fleetmake_Below_R qx qn r)) := by
  unfold fleetmake_Below at hF
  refine holds_of_awp hΓ (fn := f117) (c := cB f117) (A := 0) (nx := 0) (by kernel_rfl) (by kernel_rfl) (by kernel_rfl) (by kernel_rfl) (by kernel_rfl) (by kernel_rfl) (lowc_of (by kernel_rfl)) ?_
  show Awp prog 0 16 (cB f117) _ _
  refine awp_seq ?_
  refine awp_region ?_
  refine aR 1 ?_
  refine aE ?_
  refine awp_seq ?_
  refine awp_seq ?_
  refine awp_region ?_
  refine aR 2 ?_
  refine aE ?_
  refine cE hF (fun h1 hF => ?_) fun h1 hF => ?_
  · refine awp_true (by kernel_rfl) h1 ?_
    refine awp_seq ?_
    refine awp_region ?_
    refine aR 1 ?_
    refine aE ?_
    refine awp_ret ?_
    exact oF hF [] []
  · refine awp_false (by kernel_rfl) h1 ?_
    refine awp_skip ?_
    refine awp_seq ?_
    refine gE hF fun h2 hF => ?_
    refine awp_region ?_
    refine aR 2 ?_
    refine aX (x_rem h2) ?_
    refine aR 1 ?_
    refine aE ?_
    refine awp_seq ?_
    refine awp_to (st' := fleetmake_Below_x1_I qx qn) (oT [] []) ?_
    refine bE hF fun vx1 h4 hF => ?_
    refine awp_sub (fleetmake_Below_x1_ok qx qn h4) ?_
    refine awp_seq ?_
    refine awp_region ?_
    refine aR 2 ?_
    refine aE ?_
    refine awp_ret ?_
    exact oF hF [] []

/-! ### (*beaconfleet/fleetmake.Stream).Next -/
def fleetmake_Stream_Next_R (qs : fleetmake_Stream) (qn : Int) (r : Int) : TV × Mem := (.v (.one (.d (.int .i64 r))), ⟨[], [(0, [.d (.lst (List.map (encI .i64) qs.L)), .d (.int .i64 (IntKind.wrap .i64 (qs.at_ + 1)))])]⟩)

theorem fleetmake_Stream_Next_ok {qs : fleetmake_Stream} {qn : Int} {r} (hF : fleetmake_Stream_Next qs qn = some r) : Holds prog 51 [.v (.one (.box 0 0)), .v (.one (.d (.int .i64 qn)))] ⟨[], [(0, [.d (.lst (List.map (encI .i64) qs.L)), .d (.int .i64 qs.at_)])]⟩ (Is (fleetmake_Stream_Next_R qs qn r)) := by
  unfold fleetmake_Stream_Next at hF
  refine holds_of_awp hΓ (fn := f51) (c := cB f51) (A := 1) (nx := 1) (by kernel_rfl) (by kernel_rfl) (by kernel_rfl) (by kernel_rfl) (by kernel_rfl) (by kernel_rfl) (lowc_of (by kernel_rfl)) ?_
  show Awp prog 1 64 (cB f51) _ _
  refine awp_seq ?_
  refine awp_region ?_
  refine aR 1 ?_
  refine aE ?_
  refine awp_seq ?_
  refine awp_region ?_
  refine aR 8 ?_
  refine aE ?_
  refine awp_seq ?_
  refine awp_seq ?_
  refine awp_region ?_
  refine aR 4 ?_
  refine aL (encI .i64) qs.L ?_
  refine aR 1 ?_
  refine aE ?_
  refine cE hF (fun h1 hF => ?_) fun h1 hF => ?_
  · refine awp_true (by kernel_rfl) h1 ?_
    refine awp_seq ?_
    refine bE hF fun vr h2 hF => ?_
    refine awp_region ?_
    refine aR 6 ?_
    refine aC (fleetmake_Below_ok h2) [] [] [] ?_
    refine aR 1 ?_
    refine aE ?_
    refine awp_ret ?_
    exact oF hF [] []
  · refine awp_false (by kernel_rfl) h1 ?_
    refine awp_skip ?_
    refine awp_seq ?_
    refine gE hF fun h3 hF => ?_
    refine aD ?_
    refine dR 9 ?_
    refine dL (encI .i64) qs.L ?_
    refine dX (x_rem h3) ?_
    refine dR 1 ?_
    refine dE ?_
    refine awp_seq ?_
    refine aD ?_
    refine dR 9 ?_
    refine dL (encI .i64) qs.L ?_
    refine dX (x_quo h3) ?_
    refine dR 1 ?_
    refine dE ?_
    refine awp_seq ?_
    refine bE hF fun vy h4 hF => ?_
    refine bE hF fun vr1 h5 hF => ?_
    refine bE hF fun vr2 h6 hF => ?_
    refine awp_region ?_
    refine aR 5 ?_
    refine aX (x_idx (encI .i64) h4) ?_
    refine aR 1 ?_
    refine aC (fleetmake_Below_ok h5) [] [] [] ?_
    refine aR 6 ?_
    refine aC (fleetmake_Below_ok h6) [] [] [] ?_
    refine aR 1 ?_
    refine aE ?_
    refine awp_ret ?_
    exact oF hF [] []

/-! ### (*beaconfleet/fleetmake.Stream).Range -/
def fleetmake_Stream_Range_R (qs : fleetmake_Stream) (qlow : Int) (qhigh : Int) (r : fleetmake_Stream × Int) : TV × Mem := (.v (.one (.d (.int .i64 r.2))), ⟨[], [(0, [.d (.lst (List.map (encI .i64) r.1.L)), .d (.int .i64 r.1.at_)])]⟩)

theorem fleetmake_Stream_Range_ok {qs : fleetmake_Stream} {qlow : Int} {qhigh : Int} {r} (hF : fleetmake_Stream_Range qs qlow qhigh = some r) : Holds prog 8 [.v (.one (.box 0 0)), .v (.one (.d (.int .i64 qlow))), .v (.one (.d (.int .i64 qhigh)))] ⟨[], [(0, [.d (.lst (List.map (encI .i64) qs.L)), .d (.int .i64 qs.at_)])]⟩ (Is (fleetmake_Stream_Range_R qs qlow qhigh r)) := by
  unfold fleetmake_Stream_Range at hF
  refine holds_of_awp hΓ (fn := f8) (c := cB f8) (A := 1) (nx := 1) (by kernel_rfl) (by kernel_rfl) (by kernel_rfl) (by kernel_rfl) (by kernel_rfl) (by kernel_rfl) (lowc_of (by kernel_rfl)) ?_
  show Awp prog 1 19 (cB f8) _ _
  refine awp_seq ?_
  refine awp_region ?_
  refine aR 1 ?_
  refine aE ?_
  refine awp_seq ?_
  refine awp_seq ?_
  refine awp_region ?_
  refine aR 3 ?_
  refine aE ?_
  refine cE hF (fun h1 hF => ?_) fun h1 hF => ?_
  · refine awp_true (by kernel_rfl) h1 ?_
    refine awp_seq ?_
    refine awp_region ?_
    refine aR 2 ?_
    refine aE ?_
    refine awp_ret ?_
    exact oF hF [] []
  · refine awp_false (by kernel_rfl) h1 ?_
    refine awp_skip ?_
    refine awp_seq ?_
    refine bE hF fun vr3 h2 hF => ?_
    refine awp_region ?_
    refine aR 6 ?_
    refine aC (fleetmake_Stream_Next_ok h2) [] [] [] ?_
    refine aR 2 ?_
    refine aE ?_
    refine awp_ret ?_
    exact oF hF [] []

/-! ### (*beaconfleet/fleetmake.Stream).Some -/
def fleetmake_Stream_Some_o1_R (qs : fleetmake_Stream) (ql : List (List UInt8)) (r : (List UInt8)) : TV × Mem := (.v (.one (.d (.str r))), ⟨[], [(0, [.d (.lst (List.map (encI .i64) qs.L)), .d (.int .i64 (IntKind.wrap .i64 (qs.at_ + 1)))])]⟩)

theorem fleetmake_Stream_Some_o1_ok {qs : fleetmake_Stream} {ql : List (List UInt8)} {r} (hF : fleetmake_Stream_Some_o1 qs ql = some r) : Holds prog 44 [.v (.one (.box 0 0)), .v (.one (.own 1 none))] ⟨[(1, ⟨9, 1, List.map encS ql⟩)], [(0, [.d (.lst (List.map (encI .i64) qs.L)), .d (.int .i64 qs.at_)])]⟩ (Is (fleetmake_Stream_Some_o1_R qs ql r)) := by
  unfold fleetmake_Stream_Some_o1 at hF
  refine holds_of_awp hΓ (fn := f44) (c := cB f44) (A := 2) (nx := 2) (by kernel_rfl) (by kernel_rfl) (by kernel_rfl) (by kernel_rfl) (by kernel_rfl) (by kernel_rfl) (lowc_of (by kernel_rfl)) ?_
  show Awp prog 2 12 (cB f44) _ _
  refine awp_seq ?_
  refine awp_region ?_
  refine aR 1 ?_
  refine aE ?_
  refine awp_to (oT (m := ⟨[], [(0, [.d (.lst (List.map (encI .i64) qs.L)), .d (.int .i64 qs.at_)])]⟩) (ts := [(0, .v (.one (.box 0 0))), (1, .v (.one (.d (.lst (List.map encS ql)))))]) (nx := 2) [] []) ?_
  refine awp_seq ?_
  refine bE hF fun vr3 h1 hF => ?_
  refine bE hF fun vy h2 hF => ?_
  refine awp_region ?_
  refine aR 3 ?_
  refine aL encS ql ?_
  refine aC (fleetmake_Stream_Next_ok h1) [] [] [] ?_
  refine aX (x_idx encS h2) ?_
  refine aR 2 ?_
  refine aE ?_
  refine awp_ret ?_
  exact oF hF [] []

/-! ### (*beaconfleet/fleetmake.Stream).Pick -/
def fleetmake_Stream_Pick_o1_R (qs : fleetmake_Stream) (ql : List Int) (r : Int) : TV × Mem := (.v (.one (.d (.int .i64 r))), ⟨[], [(0, [.d (.lst (List.map (encI .i64) qs.L)), .d (.int .i64 (IntKind.wrap .i64 (qs.at_ + 1)))])]⟩)

theorem fleetmake_Stream_Pick_o1_ok {qs : fleetmake_Stream} {ql : List Int} {r} (hF : fleetmake_Stream_Pick_o1 qs ql = some r) : Holds prog 45 [.v (.one (.box 0 0)), .v (.one (.own 1 none))] ⟨[(1, ⟨3, 1, List.map (encI .i64) ql⟩)], [(0, [.d (.lst (List.map (encI .i64) qs.L)), .d (.int .i64 qs.at_)])]⟩ (Is (fleetmake_Stream_Pick_o1_R qs ql r)) := by
  unfold fleetmake_Stream_Pick_o1 at hF
  refine holds_of_awp hΓ (fn := f45) (c := cB f45) (A := 2) (nx := 2) (by kernel_rfl) (by kernel_rfl) (by kernel_rfl) (by kernel_rfl) (by kernel_rfl) (by kernel_rfl) (lowc_of (by kernel_rfl)) ?_
  show Awp prog 2 12 (cB f45) _ _
  refine awp_seq ?_
  refine awp_region ?_
  refine aR 1 ?_
  refine aE ?_
  refine awp_to (oT (m := ⟨[], [(0, [.d (.lst (List.map (encI .i64) qs.L)), .d (.int .i64 qs.at_)])]⟩) (ts := [(0, .v (.one (.box 0 0))), (1, .v (.one (.d (.lst (List.map (encI .i64) ql)))))]) (nx := 2) [] []) ?_
  refine awp_seq ?_
  refine bE hF fun vr3 h1 hF => ?_
  refine bE hF fun vy h2 hF => ?_
  refine awp_region ?_
  refine aR 3 ?_
  refine aL (encI .i64) ql ?_
  refine aC (fleetmake_Stream_Next_ok h1) [] [] [] ?_
  refine aX (x_idx (encI .i64) h2) ?_
  refine aR 2 ?_
  refine aE ?_
  refine awp_ret ?_
  exact oF hF [] []

/-! ### internal/bytealg.CompareString -/
def bytealg_CompareString_R (qa : List UInt8) (qb : List UInt8) (r : Unit) : TV × Mem := (.v (.one (.d (.int .i64 (Lib.compareBytes qa qb)))), ⟨[], []⟩)

theorem bytealg_CompareString_ok {qa : List UInt8} {qb : List UInt8} {r} (hF : bytealg_CompareString qa qb = some r) : Holds prog 167 [.v (.one (.d (.str qa))), .v (.one (.d (.str qb)))] ⟨[], []⟩ (Is (bytealg_CompareString_R qa qb r)) := by
  unfold bytealg_CompareString at hF
  refine holds_of_awp hΓ (fn := f167) (c := cB f167) (A := 0) (nx := 0) (by kernel_rfl) (by kernel_rfl) (by kernel_rfl) (by kernel_rfl) (by kernel_rfl) (by kernel_rfl) (lowc_of (by kernel_rfl)) ?_
  show Awp prog 0 8 (cB f167) _ _
  refine awp_seq ?_
  refine awp_region ?_
  refine aR 1 ?_
  refine aE ?_
  refine awp_seq ?_
  refine awp_region ?_
  refine aR 2 ?_
  refine aS (does_cmpstring (g := 210) (fn := f210) (a := qa) (b := qb) rfl (by kernel_rfl) (by kernel_rfl) (by kernel_rfl) (by kernel_rfl) (by kernel_rfl) (by kernel_rfl)) ?_
  refine aR 1 ?_
  refine aE ?_
  refine awp_ret ?_
  exact oF hF [] []

/-! ### strings.Compare -/
def strings_Compare_R (qa : List UInt8) (qb : List UInt8) (r : Unit) : TV × Mem := (.v (.one (.d (.int .i64 (Lib.compareBytes qa qb)))), ⟨[], []⟩)

theorem strings_Compare_ok {qa : List UInt8} {qb : List UInt8} {r} (hF : strings_Compare qa qb = some r) : Holds prog 115 [.v (.one (.d (.str qa))), .v (.one (.d (.str qb)))] ⟨[], []⟩ (Is (strings_Compare_R qa qb r)) := by
  unfold strings_Compare at hF
  refine holds_of_awp hΓ (fn := f115) (c := cB f115) (A := 0) (nx := 0) (by kernel_rfl) (by kernel_rfl) (by kernel_rfl) (by kernel_rfl) (by kernel_rfl) (by kernel_rfl) (lowc_of (by kernel_rfl)) ?_
  show Awp prog 0 8 (cB f115) _ _
  refine awp_seq ?_
  refine awp_region ?_
  refine aR 1 ?_
  refine aE ?_
  refine awp_seq ?_
  refine bE hF fun _ h1 hF => ?_
  refine awp_region ?_
  refine aR 2 ?_
  refine aC (bytealg_CompareString_ok h1) [] [] [] ?_
  refine aR 1 ?_
  refine aE ?_
  refine awp_ret ?_
  exact oF hF [] []

/-! ### beaconfleet/fleetref2.sign -/
def fleetref2_sign_R (qn : Int) (r : Int) : TV × Mem := (.v (.one (.d (.int .i64 r))), ⟨[], []⟩)

theorem fleetref2_sign_ok {qn : Int} {r} (hF : fleetref2_sign qn = some r) : Holds prog 116 [.v (.one (.d (.int .i64 qn)))] ⟨[], []⟩ (Is (fleetref2_sign_R qn r)) := by
  unfold fleetref2_sign at hF
  refine holds_of_awp hΓ (fn := f116) (c := cB f116) (A := 0) (nx := 0) (by kernel_rfl) (by kernel_rfl) (by kernel_rfl) (by kernel_rfl) (by kernel_rfl) (by kernel_rfl) (lowc_of (by kernel_rfl)) ?_
  show Awp prog 0 9 (cB f116) _ _
  refine awp_seq ?_
  refine awp_region ?_
  refine aR 1 ?_
  refine aE ?_
  refine awp_seq ?_
  refine awp_block ?_
  refine awp_seq ?_
  refine awp_region ?_
  refine aR 3 ?_
  refine aE ?_
  refine cE hF (fun h1 hF => ?_) fun h1 hF => ?_
  · refine awp_true (by kernel_rfl) h1 ?_
    refine awp_seq ?_
    refine awp_region ?_
    refine aR 1 ?_
    refine aE ?_
    refine awp_ret ?_
    exact oF hF [] []
  · refine awp_false (by kernel_rfl) h1 ?_
    refine awp_seq ?_
    refine awp_region ?_
    refine aR 3 ?_
    refine aE ?_
    refine cE hF (fun h2 hF => ?_) fun h2 hF => ?_
    · refine awp_true (by kernel_rfl) h2 ?_
      refine awp_seq ?_
      refine awp_region ?_
      refine aR 1 ?_
      refine aE ?_
      refine awp_ret ?_
      exact oF hF [] []
    · refine awp_false (by kernel_rfl) h2 ?_
      refine awp_skip ?_
      refine awp_seq ?_
      refine awp_region ?_
      refine aR 1 ?_
      refine aE ?_
      refine awp_ret ?_
      exact oF hF [] []

/-! ### beaconfleet/fleetref2.FixOrder -/
def fleetref2_FixOrder_R (qa : api_Fix) (qb : api_Fix) (r : Int) : TV × Mem := (.v (.one (.d (.int .i64 r))), ⟨[], []⟩)

theorem fleetref2_FixOrder_ok {qa : api_Fix} {qb : api_Fix} {r} (hF : fleetref2_FixOrder qa qb = some r) : Holds prog 47 [.v (.agg [.d (.str qa.Device), .d (.int .i64 qa.At), .d (.int .i64 qa.X), .d (.int .i64 qa.Y), .d (.int .i64 qa.Error)]), .v (.agg [.d (.str qb.Device), .d (.int .i64 qb.At), .d (.int .i64 qb.X), .d (.int .i64 qb.Y), .d (.int .i64 qb.Error)])] ⟨[], []⟩ (Is (fleetref2_FixOrder_R qa qb r)) := by
  unfold fleetref2_FixOrder at hF
  refine holds_of_awp hΓ (fn := f47) (c := cB f47) (A := 0) (nx := 0) (by kernel_rfl) (by kernel_rfl) (by kernel_rfl) (by kernel_rfl) (by kernel_rfl) (by kernel_rfl) (lowc_of (by kernel_rfl)) ?_
  show Awp prog 0 21 (cB f47) _ _
  refine awp_seq ?_
  refine awp_region ?_
  refine aR 3 ?_
  refine aE ?_
  refine awp_seq ?_
  refine awp_seq ?_
  refine awp_region ?_
  refine aR 5 ?_
  refine aE ?_
  refine cE hF (fun h1 hF => ?_) fun h1 hF => ?_
  · refine awp_true (by kernel_rfl) h1 ?_
    refine awp_seq ?_
    refine bE hF fun _ h2 hF => ?_
    refine awp_region ?_
    refine aR 4 ?_
    refine aC (strings_Compare_ok h2) [] [] [] ?_
    refine aR 1 ?_
    refine aE ?_
    refine awp_ret ?_
    exact oF hF [] []
  · refine awp_false (by kernel_rfl) h1 ?_
    refine awp_skip ?_
    refine awp_seq ?_
    refine bE hF fun vr h3 hF => ?_
    refine awp_region ?_
    refine aR 5 ?_
    refine aC (fleetref2_sign_ok h3) [] [] [] ?_
    refine aR 1 ?_
    refine aE ?_
    refine awp_ret ?_
    exact oF hF [] []

/-! ### slices.insertionSortCmpFunc[beaconfleet/api.Fix] -/
def slices_insertionSortCmpFunc_api_Fix_o0_f3_fleetref2_FixOrder_x3_k : Bool → AEx
  | _ => .normal

def slices_insertionSortCmpFunc_api_Fix_o0_f3_fleetref2_FixOrder_x3_S (qa : Int) (qb : Int) (vi : Int) (vl3 : List api_Fix) (vj1 : Int) : Bool → St
  | vx4 => Mem.st ⟨[(0, ⟨39, 5, List.map api_Fix.enc vl3⟩)], []⟩ (tl [(0, .v (.one (.own 0 none))), (1, .v (.one (.d (.int .i64 qa)))), (2, .v (.one (.d (.int .i64 qb)))), (3, .v (.one (.fn 47 []))), (8, .v (.one (.d (.int .i64 vi)))), (9, .v (.one (.d (.int .i64 vj1)))), (34, .v (.one (.d (.bool vx4))))]) 1

def slices_insertionSortCmpFunc_api_Fix_o0_f3_fleetref2_FixOrder_x3_I (qa : Int) (qb : Int) (vi : Int) (vl3 : List api_Fix) (vj1 : Int) : St := Mem.st ⟨[(0, ⟨39, 5, List.map api_Fix.enc vl3⟩)], []⟩ (tl [(0, .v (.one (.own 0 none))), (1, .v (.one (.d (.int .i64 qa)))), (2, .v (.one (.d (.int .i64 qb)))), (3, .v (.one (.fn 47 []))), (8, .v (.one (.d (.int .i64 vi)))), (9, .v (.one (.d (.int .i64 vj1))))]) 1

theorem slices_insertionSortCmpFunc_api_Fix_o0_f3_fleetref2_FixOrder_x3_ok (qa : Int) (qb : Int) (vi : Int) (vl3 : List api_Fix) (vj1 : Int) {r} (hF : slices_insertionSortCmpFunc_api_Fix_o0_f3_fleetref2_FixOrder_x3 qa vl3 vj1 = some r) : Awp prog 1 53 (cL (cL (cL (cL (cR (cL (cL (cR (cL (cL (cR (cB f165)))))))))))) (Out 1 slices_insertionSortCmpFunc_api_Fix_o0_f3_fleetref2_FixOrder_x3_k (slices_insertionSortCmpFunc_api_Fix_o0_f3_fleetref2_FixOrder_x3_S qa qb vi vl3 vj1) r) (slices_insertionSortCmpFunc_api_Fix_o0_f3_fleetref2_FixOrder_x3_I qa qb vi vl3 vj1) := by
  unfold slices_insertionSortCmpFunc_api_Fix_o0_f3_fleetref2_FixOrder_x3 at hF
  refine cE hF (fun h2 hF => ?_) fun h2 hF => ?_
  · refine bE hF fun vy15 h3 hF => ?_
    refine bE hF fun vy16 h4 hF => ?_
    refine bE hF fun vr1_3 h5 hF => ?_
    refine aD ?_
    refine dR 2 ?_
    refine dB h2 ?_
    refine dR 4 ?_
    refine dX (x_idxO api_Fix.enc 0 h3) ?_
    refine dX (x_ldE api_Fix.enc h3) ?_
    refine dR 3 ?_
    refine dX (x_idxO api_Fix.enc 0 h4) ?_
    refine dX (x_ldE api_Fix.enc h4) ?_
    refine dC (fleetref2_FixOrder_ok h5) [] [] [] ?_
    refine dR 2 ?_
    refine dE ?_
    exact oO hF [] [] rfl
  · refine aD ?_
    refine dR 2 ?_
    refine dB h2 ?_
    refine dR 14 ?_
    refine dE ?_
    exact oO hF [] [] rfl

def slices_insertionSortCmpFunc_api_Fix_o0_f3_fleetref2_FixOrder_x2_k : (List api_Fix) → AEx
  | _ => .exit 2

def slices_insertionSortCmpFunc_api_Fix_o0_f3_fleetref2_FixOrder_x2_S (qa : Int) (qb : Int) (vi : Int) : (List api_Fix) → St
  | vl4 => Mem.st ⟨[(0, ⟨39, 5, List.map api_Fix.enc vl4⟩)], []⟩ (tl [(0, .v (.one (.own 0 none))), (1, .v (.one (.d (.int .i64 qa)))), (2, .v (.one (.d (.int .i64 qb)))), (3, .v (.one (.fn 47 []))), (8, .v (.one (.d (.int .i64 vi))))]) 1

def slices_insertionSortCmpFunc_api_Fix_o0_f3_fleetref2_FixOrder_x2_H (qa : Int) (qb : Int) (vi : Int) : (List api_Fix) × Int → St
  | (vl3, vj1) => Mem.st ⟨[(0, ⟨39, 5, List.map api_Fix.enc vl3⟩)], []⟩ (tl [(0, .v (.one (.own 0 none))), (1, .v (.one (.d (.int .i64 qa)))), (2, .v (.one (.d (.int .i64 qb)))), (3, .v (.one (.fn 47 []))), (8, .v (.one (.d (.int .i64 vi)))), (9, .v (.one (.d (.int .i64 vj1))))]) 1

theorem slices_insertionSortCmpFunc_api_Fix_o0_f3_fleetref2_FixOrder_x2_ok (qa : Int) (qb : Int) (vi : Int) (s : (List api_Fix) × Int) (r : ((List api_Fix) × Int) ⊕ ((List api_Fix))) (hF : slices_insertionSortCmpFunc_api_Fix_o0_f3_fleetref2_FixOrder_x2 qa s = some r) : Awp prog 1 53 (cL (cL (cR (cL (cL (cR (cL (cL (cR (cB f165)))))))))) (Out 1 (kk slices_insertionSortCmpFunc_api_Fix_o0_f3_fleetref2_FixOrder_x2_k) (SS (slices_insertionSortCmpFunc_api_Fix_o0_f3_fleetref2_FixOrder_x2_H qa qb vi) (slices_insertionSortCmpFunc_api_Fix_o0_f3_fleetref2_FixOrder_x2_S qa qb vi)) r) (slices_insertionSortCmpFunc_api_Fix_o0_f3_fleetref2_FixOrder_x2_H qa qb vi s) := by
  obtain ⟨vl3, vj1⟩ := s
  unfold slices_insertionSortCmpFunc_api_Fix_o0_f3_fleetref2_FixOrder_x2 at hF
  refine awp_seq ?_
  refine awp_seq ?_
  refine awp_to (st' := slices_insertionSortCmpFunc_api_Fix_o0_f3_fleetref2_FixOrder_x3_I qa qb vi vl3 vj1) (oT [] []) ?_
  refine bE hF fun vx4_1 h6 hF => ?_
  refine awp_sub (slices_insertionSortCmpFunc_api_Fix_o0_f3_fleetref2_FixOrder_x3_ok qa qb vi vl3 vj1 h6) ?_
  refine cE hF (fun h7 hF => ?_) fun h7 hF => ?_
  · refine awp_true (by kernel_rfl) h7 ?_
    refine awp_skip ?_
    refine awp_seq ?_
    refine awp_block ?_
    refine bE hF fun vy17 h8 hF => ?_
    refine bE hF fun vy18 h9 hF => ?_
    refine bE hF fun vy19 h10 hF => ?_
    refine aDw [0] ?_
    refine dR 8 ?_
    refine dI api_Fix.enc 0 h8 rfl ?_
    refine dX (x_ldE api_Fix.enc h8) ?_
    refine dR 2 ?_
    refine dI api_Fix.enc 0 h9 rfl ?_
    refine dX (x_ldE api_Fix.enc h9) ?_
    refine dI api_Fix.enc 0 h9 rfl ?_
    refine dW api_Fix.enc vy17 h9 rfl ?_
    refine dI api_Fix.enc 0 h10 rfl ?_
    refine dW api_Fix.enc vy18 h10 rfl ?_
    refine dE ?_
    refine awp_region ?_
    refine aR 3 ?_
    refine aE ?_
    exact oO hF [] [] rfl
  · refine awp_false (by kernel_rfl) h7 ?_
    refine awp_exit ?_
    exact oO hF [] [] rfl

def slices_insertionSortCmpFunc_api_Fix_o0_f3_fleetref2_FixOrder_x1_k : (List api_Fix) → AEx
  | _ => .exit 0

def slices_insertionSortCmpFunc_api_Fix_o0_f3_fleetref2_FixOrder_x1_S (qa : Int) (qb : Int) : (List api_Fix) → St
  | vl5 => Mem.st ⟨[(0, ⟨39, 5, List.map api_Fix.enc vl5⟩)], []⟩ (tl []) 1

def slices_insertionSortCmpFunc_api_Fix_o0_f3_fleetref2_FixOrder_x1_H (qa : Int) (qb : Int) : (List api_Fix) × Int → St
  | (vl, vi) => Mem.st ⟨[(0, ⟨39, 5, List.map api_Fix.enc vl⟩)], []⟩ (tl [(0, .v (.one (.own 0 none))), (1, .v (.one (.d (.int .i64 qa)))), (2, .v (.one (.d (.int .i64 qb)))), (3, .v (.one (.fn 47 []))), (8, .v (.one (.d (.int .i64 vi))))]) 1

theorem slices_insertionSortCmpFunc_api_Fix_o0_f3_fleetref2_FixOrder_x1_ok (qa : Int) (qb : Int) (s : (List api_Fix) × Int) (r : ((List api_Fix) × Int) ⊕ ((List api_Fix))) (hF : slices_insertionSortCmpFunc_api_Fix_o0_f3_fleetref2_FixOrder_x1 qa qb s = some r) : Awp prog 1 53 (cL (cL (cR (cB f165)))) (Out 1 (kk slices_insertionSortCmpFunc_api_Fix_o0_f3_fleetref2_FixOrder_x1_k) (SS (slices_insertionSortCmpFunc_api_Fix_o0_f3_fleetref2_FixOrder_x1_H qa qb) (slices_insertionSortCmpFunc_api_Fix_o0_f3_fleetref2_FixOrder_x1_S qa qb)) r) (slices_insertionSortCmpFunc_api_Fix_o0_f3_fleetref2_FixOrder_x1_H qa qb s) := by
  obtain ⟨vl, vi⟩ := s
  unfold slices_insertionSortCmpFunc_api_Fix_o0_f3_fleetref2_FixOrder_x1 at hF
  refine awp_seq ?_
  refine awp_seq ?_
  refine awp_region ?_
  refine aR 3 ?_
  refine aE ?_
  refine cE hF (fun h1 hF => ?_) fun h1 hF => ?_
  · refine awp_true (by kernel_rfl) h1 ?_
    refine awp_skip ?_
    refine awp_seq ?_
    refine awp_block ?_
    refine awp_seq ?_
    refine awp_region ?_
    refine aR 2 ?_
    refine aE ?_
    refine awp_block ?_
    refine awp_to (st' := slices_insertionSortCmpFunc_api_Fix_o0_f3_fleetref2_FixOrder_x2_H qa qb vi (vl, vi)) (oT [] []) ?_
    refine bE hF fun vl4_1 h11 hF => ?_
    refine awp_sub (awp_loop' (slices_insertionSortCmpFunc_api_Fix_o0_f3_fleetref2_FixOrder_x2_H qa qb vi) slices_insertionSortCmpFunc_api_Fix_o0_f3_fleetref2_FixOrder_x2_k (slices_insertionSortCmpFunc_api_Fix_o0_f3_fleetref2_FixOrder_x2_S qa qb vi) (by intro x; exact fun h => nomatch h) h11 (slices_insertionSortCmpFunc_api_Fix_o0_f3_fleetref2_FixOrder_x2_ok qa qb vi)) ?_
    refine awp_region ?_
    refine aR 3 ?_
    refine aE ?_
    exact oO hF [] [] rfl
  · refine awp_false (by kernel_rfl) h1 ?_
    refine awp_exit ?_
    exact oO hF [] [] rfl

def slices_insertionSortCmpFunc_api_Fix_o0_f3_fleetref2_FixOrder_R (qdata : List api_Fix) (qa : Int) (qb : Int) (r : (List api_Fix)) : TV × Mem := (.tup [], ⟨[(0, ⟨39, 5, List.map api_Fix.enc r⟩)], []⟩)

theorem slices_insertionSortCmpFunc_api_Fix_o0_f3_fleetref2_FixOrder_ok {qdata : List api_Fix} {qa : Int} {qb : Int} {r} (hF : slices_insertionSortCmpFunc_api_Fix_o0_f3_fleetref2_FixOrder qdata qa qb = some r) : Holds prog 165 [.v (.one (.own 0 none)), .v (.one (.d (.int .i64 qa))), .v (.one (.d (.int .i64 qb))), .v (.one (.fn 47 []))] ⟨[(0, ⟨39, 5, List.map api_Fix.enc qdata⟩)], []⟩ (Is (slices_insertionSortCmpFunc_api_Fix_o0_f3_fleetref2_FixOrder_R qdata qa qb r)) := by
  unfold slices_insertionSortCmpFunc_api_Fix_o0_f3_fleetref2_FixOrder at hF
  refine holds_of_awp hΓ (fn := f165) (c := cB f165) (A := 1) (nx := 1) (by kernel_rfl) (by kernel_rfl) (by kernel_rfl) (by kernel_rfl) (by kernel_rfl) (by kernel_rfl) (lowc_of (by kernel_rfl)) ?_
  show Awp prog 1 53 (cB f165) _ _
  refine awp_seq ?_
  refine awp_region ?_
  refine aR 3 ?_
  refine aE ?_
  refine awp_block ?_
  refine awp_to (st' := slices_insertionSortCmpFunc_api_Fix_o0_f3_fleetref2_FixOrder_x1_H qa qb (qdata, IntKind.wrap .i64 (qa + 1))) (oT [] []) ?_
  refine bE hF fun vl5_1 h12 hF => ?_
  refine awp_sub (awp_loop' (slices_insertionSortCmpFunc_api_Fix_o0_f3_fleetref2_FixOrder_x1_H qa qb) slices_insertionSortCmpFunc_api_Fix_o0_f3_fleetref2_FixOrder_x1_k (slices_insertionSortCmpFunc_api_Fix_o0_f3_fleetref2_FixOrder_x1_S qa qb) (by intro x; exact fun h => nomatch h) h12 (slices_insertionSortCmpFunc_api_Fix_o0_f3_fleetref2_FixOrder_x1_ok qa qb)) ?_
  exact oF hF [] []

/-! ### slices.stableCmpFunc[beaconfleet/api.Fix] -/
def slices_stableCmpFunc_api_Fix_o0_f2_fleetref2_FixOrder_x1_k : ((List api_Fix) × Int) → AEx
  | _ => .exit 0

def slices_stableCmpFunc_api_Fix_o0_f2_fleetref2_FixOrder_x1_S (qn : Int) : ((List api_Fix) × Int) → St
  | (vl1, va1) => Mem.st ⟨[(0, ⟨39, 5, List.map api_Fix.enc vl1⟩)], []⟩ (tl [(0, .v (.one (.own 0 none))), (1, .v (.one (.d (.int .i64 qn)))), (2, .v (.one (.fn 47 []))), (6, .v (.one (.d (.int .i64 20)))), (7, .v (.one (.d (.int .i64 va1))))]) 1

def slices_stableCmpFunc_api_Fix_o0_f2_fleetref2_FixOrder_x1_H (qn : Int) : (List api_Fix) × Int × Int → St
  | (vl, va, vb) => Mem.st ⟨[(0, ⟨39, 5, List.map api_Fix.enc vl⟩)], []⟩ (tl [(0, .v (.one (.own 0 none))), (1, .v (.one (.d (.int .i64 qn)))), (2, .v (.one (.fn 47 []))), (6, .v (.one (.d (.int .i64 20)))), (7, .v (.one (.d (.int .i64 va)))), (8, .v (.one (.d (.int .i64 vb))))]) 1

theorem slices_stableCmpFunc_api_Fix_o0_f2_fleetref2_FixOrder_x1_ok (qn : Int) (s : (List api_Fix) × Int × Int) (r : ((List api_Fix) × Int × Int) ⊕ (((List api_Fix) × Int))) (hF : slices_stableCmpFunc_api_Fix_o0_f2_fleetref2_FixOrder_x1 qn s = some r) : Awp prog 1 63 (cL (cL (cL (cR (cR (cB f114)))))) (Out 1 (kk slices_stableCmpFunc_api_Fix_o0_f2_fleetref2_FixOrder_x1_k) (SS (slices_stableCmpFunc_api_Fix_o0_f2_fleetref2_FixOrder_x1_H qn) (slices_stableCmpFunc_api_Fix_o0_f2_fleetref2_FixOrder_x1_S qn)) r) (slices_stableCmpFunc_api_Fix_o0_f2_fleetref2_FixOrder_x1_H qn s) := by
  obtain ⟨vl, va, vb⟩ := s
  unfold slices_stableCmpFunc_api_Fix_o0_f2_fleetref2_FixOrder_x1 at hF
  refine awp_seq ?_
  refine awp_seq ?_
  refine awp_region ?_
  refine aR 3 ?_
  refine aE ?_
  refine cE hF (fun h1 hF => ?_) fun h1 hF => ?_
  · refine awp_true (by kernel_rfl) h1 ?_
    refine awp_skip ?_
    refine awp_block ?_
    refine awp_seq ?_
    refine bE hF fun vl6_1 h2 hF => ?_
    refine gE hF fun h3 hF => ?_
    refine awp_region ?_
    refine aR 4 ?_
    refine aCp (slices_insertionSortCmpFunc_api_Fix_o0_f3_fleetref2_FixOrder_ok h2) ⟨⟨rfl, rfl, pin1 h3⟩, trivial⟩ [] [] [] ?_
    refine aE ?_
    refine awp_seq ?_
    refine awp_region ?_
    refine aR 2 ?_
    refine aE ?_
    refine awp_region ?_
    refine aR 4 ?_
    refine aE ?_
    exact oO hF [] [] rfl
  · refine awp_false (by kernel_rfl) h1 ?_
    refine awp_exit ?_
    exact oO hF [] [] rfl

def slices_stableCmpFunc_api_Fix_o0_f2_fleetref2_FixOrder_x3_k : Unit → AEx
  | _ => .exit 4

def slices_stableCmpFunc_api_Fix_o0_f2_fleetref2_FixOrder_x3_S (qn : Int) (vl6_2 : List api_Fix) (vblockSize : Int) : Unit → St
  | _ => Mem.st ⟨[(0, ⟨39, 5, List.map api_Fix.enc vl6_2⟩)], []⟩ (tl [(0, .v (.one (.own 0 none))), (1, .v (.one (.d (.int .i64 qn)))), (2, .v (.one (.fn 47 []))), (6, .v (.one (.d (.int .i64 vblockSize)))), (7, .v (.one (.d (.int .i64 0))))]) 1

def slices_stableCmpFunc_api_Fix_o0_f2_fleetref2_FixOrder_x3_H (qn : Int) (vl6_2 : List api_Fix) (vblockSize : Int) : Unit → St
  | _ => Mem.st ⟨[(0, ⟨39, 5, List.map api_Fix.enc vl6_2⟩)], []⟩ (tl [(0, .v (.one (.own 0 none))), (1, .v (.one (.d (.int .i64 qn)))), (2, .v (.one (.fn 47 []))), (6, .v (.one (.d (.int .i64 vblockSize)))), (7, .v (.one (.d (.int .i64 0)))), (8, .v (.one (.d (.int .i64 (IntKind.wrap .i64 ((2 : Int) * vblockSize))))))]) 1

theorem slices_stableCmpFunc_api_Fix_o0_f2_fleetref2_FixOrder_x3_ok (qn : Int) (vl6_2 : List api_Fix) (vblockSize : Int) (s : Unit) (r : (Unit) ⊕ (Unit)) (hF : slices_stableCmpFunc_api_Fix_o0_f2_fleetref2_FixOrder_x3 qn vblockSize s = some r) : Awp prog 1 63 (cL (cL (cL (cR (cL (cR (cL (cL (cR (cR (cR (cR (cB f114))))))))))))) (Out 1 (kk slices_stableCmpFunc_api_Fix_o0_f2_fleetref2_FixOrder_x3_k) (SS (slices_stableCmpFunc_api_Fix_o0_f2_fleetref2_FixOrder_x3_H qn vl6_2 vblockSize) (slices_stableCmpFunc_api_Fix_o0_f2_fleetref2_FixOrder_x3_S qn vl6_2 vblockSize)) r) (slices_stableCmpFunc_api_Fix_o0_f2_fleetref2_FixOrder_x3_H qn vl6_2 vblockSize s) := by
  unfold slices_stableCmpFunc_api_Fix_o0_f2_fleetref2_FixOrder_x3 at hF
  refine awp_seq ?_
  refine awp_seq ?_
  refine awp_region ?_
  refine aR 3 ?_
  refine aE ?_
  refine cE hF (fun h8 hF => ?_) fun h8 hF => ?_
  · refine awp_true (by kernel_rfl) h8 ?_
    refine awp_skip ?_
    refine awp_block ?_
    refine awp_seq ?_
    exact nE hF
  · refine awp_false (by kernel_rfl) h8 ?_
    refine awp_exit ?_
    exact oO hF [] [] rfl

def slices_stableCmpFunc_api_Fix_o0_f2_fleetref2_FixOrder_x2_k : Unit → AEx
  | _ => .exit 2

def slices_stableCmpFunc_api_Fix_o0_f2_fleetref2_FixOrder_x2_S (qn : Int) (vl6_2 : List api_Fix) : Unit → St
  | _ => Mem.st ⟨[(0, ⟨39, 5, List.map api_Fix.enc vl6_2⟩)], []⟩ (tl []) 1

def slices_stableCmpFunc_api_Fix_o0_f2_fleetref2_FixOrder_x2_H (qn : Int) (vl6_2 : List api_Fix) : Int → St
  | vblockSize => Mem.st ⟨[(0, ⟨39, 5, List.map api_Fix.enc vl6_2⟩)], []⟩ (tl [(0, .v (.one (.own 0 none))), (1, .v (.one (.d (.int .i64 qn)))), (2, .v (.one (.fn 47 []))), (6, .v (.one (.d (.int .i64 vblockSize))))]) 1

theorem slices_stableCmpFunc_api_Fix_o0_f2_fleetref2_FixOrder_x2_ok (qn : Int) (vl6_2 : List api_Fix) (vblockSize : Int) (r : (Int) ⊕ (Unit)) (hF : slices_stableCmpFunc_api_Fix_o0_f2_fleetref2_FixOrder_x2 qn vblockSize = some r) : Awp prog 1 63 (cL (cL (cR (cR (cR (cR (cB f114))))))) (Out 1 (kk slices_stableCmpFunc_api_Fix_o0_f2_fleetref2_FixOrder_x2_k) (SS (slices_stableCmpFunc_api_Fix_o0_f2_fleetref2_FixOrder_x2_H qn vl6_2) (slices_stableCmpFunc_api_Fix_o0_f2_fleetref2_FixOrder_x2_S qn vl6_2)) r) (slices_stableCmpFunc_api_Fix_o0_f2_fleetref2_FixOrder_x2_H qn vl6_2 vblockSize) := by
  unfold slices_stableCmpFunc_api_Fix_o0_f2_fleetref2_FixOrder_x2 at hF
  refine awp_seq ?_
  refine awp_seq ?_
  refine awp_region ?_
  refine aR 3 ?_
  refine aE ?_
  refine cE hF (fun h7 hF => ?_) fun h7 hF => ?_
  · refine awp_true (by kernel_rfl) h7 ?_
    refine awp_skip ?_
    refine awp_block ?_
    refine awp_seq ?_
    refine awp_region ?_
    refine aR 4 ?_
    refine aE ?_
    refine awp_seq ?_
    refine awp_block ?_
    refine awp_to (st' := slices_stableCmpFunc_api_Fix_o0_f2_fleetref2_FixOrder_x3_H qn vl6_2 vblockSize ()) (oT [] []) ?_
    refine bE hF fun _ h10 hF => ?_
    refine awp_sub (awp_loop' (slices_stableCmpFunc_api_Fix_o0_f2_fleetref2_FixOrder_x3_H qn vl6_2 vblockSize) slices_stableCmpFunc_api_Fix_o0_f2_fleetref2_FixOrder_x3_k (slices_stableCmpFunc_api_Fix_o0_f2_fleetref2_FixOrder_x3_S qn vl6_2 vblockSize) (by intro x; exact fun h => nomatch h) h10 (slices_stableCmpFunc_api_Fix_o0_f2_fleetref2_FixOrder_x3_ok qn vl6_2 vblockSize)) ?_
    refine awp_seq ?_
    refine awp_seq ?_
    refine awp_region ?_
    refine aR 4 ?_
    refine aE ?_
    refine awp_seq ?_
    refine awp_region ?_
    refine aR 3 ?_
    refine aE ?_
    refine cE hF (fun h11 hF => ?_) fun h11 hF => ?_
    · refine awp_true (by kernel_rfl) h11 ?_
      exact nE hF
    · refine awp_false (by kernel_rfl) h11 ?_
      refine awp_skip ?_
      refine awp_region ?_
      refine aR 3 ?_
      refine aE ?_
      exact oO hF [] [] rfl
  · refine awp_false (by kernel_rfl) h7 ?_
    refine awp_exit ?_
    exact oO hF [] [] rfl

def slices_stableCmpFunc_api_Fix_o0_f2_fleetref2_FixOrder_R (qdata : List api_Fix) (qn : Int) (r : (List api_Fix)) : TV × Mem := (.tup [], ⟨[(0, ⟨39, 5, List.map api_Fix.enc r⟩)], []⟩)

theorem slices_stableCmpFunc_api_Fix_o0_f2_fleetref2_FixOrder_ok {qdata : List api_Fix} {qn : Int} {r} (hF : slices_stableCmpFunc_api_Fix_o0_f2_fleetref2_FixOrder qdata qn = some r) : Holds prog 114 [.v (.one (.own 0 none)), .v (.one (.d (.int .i64 qn))), .v (.one (.fn 47 []))] ⟨[(0, ⟨39, 5, List.map api_Fix.enc qdata⟩)], []⟩ (Is (slices_stableCmpFunc_api_Fix_o0_f2_fleetref2_FixOrder_R qdata qn r)) := by
  unfold slices_stableCmpFunc_api_Fix_o0_f2_fleetref2_FixOrder at hF
  refine holds_of_awp hΓ (fn := f114) (c := cB f114) (A := 1) (nx := 1) (by kernel_rfl) (by kernel_rfl) (by kernel_rfl) (by kernel_rfl) (by kernel_rfl) (by kernel_rfl) (lowc_of (by kernel_rfl)) ?_
  show Awp prog 1 63 (cB f114) _ _
  refine awp_seq ?_
  refine awp_region ?_
  refine aR 1 ?_
  refine aE ?_
  refine awp_seq ?_
  refine awp_region ?_
  refine aR 3 ?_
  refine aE ?_
  refine awp_seq ?_
  refine awp_block ?_
  refine awp_to (st' := slices_stableCmpFunc_api_Fix_o0_f2_fleetref2_FixOrder_x1_H qn (qdata, 0, 20)) (oT [] []) ?_
  refine bE hF fun x h4 hF => ?_
  obtain ⟨vl1_1, va1_1⟩ := x
  refine awp_sub (awp_loop' (slices_stableCmpFunc_api_Fix_o0_f2_fleetref2_FixOrder_x1_H qn) slices_stableCmpFunc_api_Fix_o0_f2_fleetref2_FixOrder_x1_k (slices_stableCmpFunc_api_Fix_o0_f2_fleetref2_FixOrder_x1_S qn) (by intro x; exact fun h => nomatch h) h4 (slices_stableCmpFunc_api_Fix_o0_f2_fleetref2_FixOrder_x1_ok qn)) ?_
  refine awp_seq ?_
  refine bE hF fun vl6_2 h5 hF => ?_
  refine gE hF fun h6 hF => ?_
  refine awp_region ?_
  refine aR 4 ?_
  refine aCp (slices_insertionSortCmpFunc_api_Fix_o0_f3_fleetref2_FixOrder_ok h5) ⟨⟨rfl, rfl, pin1 h6⟩, trivial⟩ [] [] [] ?_
  refine aE ?_
  refine awp_block ?_
  refine awp_to (st' := slices_stableCmpFunc_api_Fix_o0_f2_fleetref2_FixOrder_x2_H qn vl6_2 20) (oT [] []) ?_
  refine bE hF fun _ h13 hF => ?_
  refine awp_sub (awp_loop' (slices_stableCmpFunc_api_Fix_o0_f2_fleetref2_FixOrder_x2_H qn vl6_2) slices_stableCmpFunc_api_Fix_o0_f2_fleetref2_FixOrder_x2_k (slices_stableCmpFunc_api_Fix_o0_f2_fleetref2_FixOrder_x2_S qn vl6_2) (by intro x; exact fun h => nomatch h) h13 (slices_stableCmpFunc_api_Fix_o0_f2_fleetref2_FixOrder_x2_ok qn vl6_2)) ?_
  exact oF hF [] []

/-! ### slices.SortStableFunc[[]beaconfleet/api.Fix,beaconfleet/api.Fix] -/
def slices_SortStableFunc_api_Fix_api_Fix_o0_f1_fleetref2_FixOrder_R (qx : List api_Fix) (r : (List api_Fix)) : TV × Mem := (.tup [], ⟨[(0, ⟨39, 5, List.map api_Fix.enc r⟩)], []⟩)

theorem slices_SortStableFunc_api_Fix_api_Fix_o0_f1_fleetref2_FixOrder_ok {qx : List api_Fix} {r} (hF : slices_SortStableFunc_api_Fix_api_Fix_o0_f1_fleetref2_FixOrder qx = some r) : Holds prog 46 [.v (.one (.own 0 none)), .v (.one (.fn 47 []))] ⟨[(0, ⟨39, 5, List.map api_Fix.enc qx⟩)], []⟩ (Is (slices_SortStableFunc_api_Fix_api_Fix_o0_f1_fleetref2_FixOrder_R qx r)) := by
  unfold slices_SortStableFunc_api_Fix_api_Fix_o0_f1_fleetref2_FixOrder at hF
  refine holds_of_awp hΓ (fn := f46) (c := cB f46) (A := 1) (nx := 1) (by kernel_rfl) (by kernel_rfl) (by kernel_rfl) (by kernel_rfl) (by kernel_rfl) (by kernel_rfl) (lowc_of (by kernel_rfl)) ?_
  show Awp prog 1 9 (cB f46) _ _
  refine bE hF fun vl2 h1 hF => ?_
  refine gE hF fun h2 hF => ?_
  refine awp_region ?_
  refine aR 2 ?_
  refine aL api_Fix.enc qx ?_
  refine aR 1 ?_
  refine aCp (slices_stableCmpFunc_api_Fix_o0_f2_fleetref2_FixOrder_ok h1) ⟨⟨rfl, rfl, pin1 h2⟩, trivial⟩ [] [] [] ?_
  refine aE ?_
  exact oF hF [] []

/-! ### (*beaconfleet/fleetmake.Stream).Flip -/
def fleetmake_Stream_Flip_R (qs : fleetmake_Stream) (qn : Int) (r : Bool) : TV × Mem := (.v (.one (.d (.bool r))), ⟨[], [(0, [.d (.lst (List.map (encI .i64) qs.L)), .d (.int .i64 (IntKind.wrap .i64 (qs.at_ + 1)))])]⟩)

theorem fleetmake_Stream_Flip_ok {qs : fleetmake_Stream} {qn : Int} {r} (hF : fleetmake_Stream_Flip qs qn = some r) : Holds prog 48 [.v (.one (.box 0 0)), .v (.one (.d (.int .i64 qn)))] ⟨[], [(0, [.d (.lst (List.map (encI .i64) qs.L)), .d (.int .i64 qs.at_)])]⟩ (Is (fleetmake_Stream_Flip_R qs qn r)) := by
  unfold fleetmake_Stream_Flip at hF
  refine holds_of_awp hΓ (fn := f48) (c := cB f48) (A := 1) (nx := 1) (by kernel_rfl) (by kernel_rfl) (by kernel_rfl) (by kernel_rfl) (by kernel_rfl) (by kernel_rfl) (lowc_of (by kernel_rfl)) ?_
  show Awp prog 1 9 (cB f48) _ _
  refine awp_seq ?_
  refine awp_region ?_
  refine aR 1 ?_
  refine aE ?_
  refine awp_seq ?_
  refine bE hF fun vr3 h1 hF => ?_
  refine awp_region ?_
  refine aR 2 ?_
  refine aC (fleetmake_Stream_Next_ok h1) [] [] [] ?_
  refine aR 2 ?_
  refine aE ?_
  refine awp_ret ?_
  exact oF hF [] []

/-! ### (*beaconfleet/fleetmake.Stream).Fixes$1 -/
def fleetmake_Stream_Fixes_1_R (qa : api_Fix) (qb : api_Fix) (r : Bool) : TV × Mem := (.v (.one (.d (.bool r))), ⟨[], []⟩)

theorem fleetmake_Stream_Fixes_1_ok {qa : api_Fix} {qb : api_Fix} {r} (hF : fleetmake_Stream_Fixes_1 qa qb = some r) : Holds prog 50 [.v (.agg [.d (.str qa.Device), .d (.int .i64 qa.At), .d (.int .i64 qa.X), .d (.int .i64 qa.Y), .d (.int .i64 qa.Error)]), .v (.agg [.d (.str qb.Device), .d (.int .i64 qb.At), .d (.int .i64 qb.X), .d (.int .i64 qb.Y), .d (.int .i64 qb.Error)])] ⟨[], []⟩ (Is (fleetmake_Stream_Fixes_1_R qa qb r)) := by
  unfold fleetmake_Stream_Fixes_1 at hF
  refine holds_of_awp hΓ (fn := f50) (c := cB f50) (A := 0) (nx := 0) (by kernel_rfl) (by kernel_rfl) (by kernel_rfl) (by kernel_rfl) (by kernel_rfl) (by kernel_rfl) (lowc_of (by kernel_rfl)) ?_
  show Awp prog 0 9 (cB f50) _ _
  refine awp_seq ?_
  refine awp_region ?_
  refine aR 3 ?_
  refine aE ?_
  refine awp_seq ?_
  refine bE hF fun vr1 h1 hF => ?_
  refine awp_region ?_
  refine aR 2 ?_
  refine aC (fleetref2_FixOrder_ok h1) [] [] [] ?_
  refine aR 2 ?_
  refine aE ?_
  refine awp_ret ?_
  exact oF hF [] []

/-! ### slices.CompactFunc[[]beaconfleet/api.Fix,beaconfleet/api.Fix] -/
def slices_CompactFunc_api_Fix_api_Fix_o0_f1_fleetmake_Stream_Fixes_1_x3_k : ((List api_Fix) × Int) → AEx
  | _ => .normal

def slices_CompactFunc_api_Fix_api_Fix_o0_f1_fleetmake_Stream_Fixes_1_x3_S (qx : List api_Fix) (vx : Int) (vl4 : List api_Fix) (vx6 : Int) (vx7 : Int) : ((List api_Fix) × Int) → St
  | (vl6, vx9) => Mem.st ⟨[(0, ⟨39, 5, List.map api_Fix.enc vl6⟩)], []⟩ (tl [(0, .v (.one (.own 0 none))), (1, .v (.one (.fn 50 []))), (5, .v (.one (.d (.int .i64 vx9)))), (6, .v (.one (.view 0 vx.toNat ((qx.length : Int).toNat - vx.toNat)))), (7, .v (.one (.d (.int .i64 vx7))))]) 1

def slices_CompactFunc_api_Fix_api_Fix_o0_f1_fleetmake_Stream_Fixes_1_x3_I (qx : List api_Fix) (vx : Int) (vl4 : List api_Fix) (vx6 : Int) (vx7 : Int) : St := Mem.st ⟨[(0, ⟨39, 5, List.map api_Fix.enc vl4⟩)], []⟩ (tl [(0, .v (.one (.own 0 none))), (1, .v (.one (.fn 50 []))), (5, .v (.one (.d (.int .i64 vx6)))), (6, .v (.one (.view 0 vx.toNat ((qx.length : Int).toNat - vx.toNat)))), (7, .v (.one (.d (.int .i64 vx7))))]) 1

theorem slices_CompactFunc_api_Fix_api_Fix_o0_f1_fleetmake_Stream_Fixes_1_x3_ok (qx : List api_Fix) (vx : Int) (vl4 : List api_Fix) (vx6 : Int) (vx7 : Int) {r} (hF : slices_CompactFunc_api_Fix_api_Fix_o0_f1_fleetmake_Stream_Fixes_1_x3 qx vx vl4 vx6 vx7 = some r) : Awp prog 1 66 (cL (cR (cL (cL (cR (cL (cR (cL (cR (cL (cL (cR (cL (cL (cR (cL (cR (cR (cB f49))))))))))))))))))) (Out 1 slices_CompactFunc_api_Fix_api_Fix_o0_f1_fleetmake_Stream_Fixes_1_x3_k (slices_CompactFunc_api_Fix_api_Fix_o0_f1_fleetmake_Stream_Fixes_1_x3_S qx vx vl4 vx6 vx7) r) (slices_CompactFunc_api_Fix_api_Fix_o0_f1_fleetmake_Stream_Fixes_1_x3_I qx vx vl4 vx6 vx7) := by
  unfold slices_CompactFunc_api_Fix_api_Fix_o0_f1_fleetmake_Stream_Fixes_1_x3 at hF
  refine awp_block ?_
  refine awp_seq ?_
  refine gE hF fun h9 hF => ?_
  refine bE hF fun vy13 h10 hF => ?_
  refine gE hF fun h11 hF => ?_
  refine bE hF fun vy14 h12 hF => ?_
  refine bE hF fun vr5 h13 hF => ?_
  refine aD ?_
  refine dR 3 ?_
  refine dX (x_idxV api_Fix.enc 0 h9 h10) ?_
  refine dX (x_ldE api_Fix.enc h10) ?_
  refine dR 3 ?_
  refine dX (x_idxV api_Fix.enc 0 h11 h12) ?_
  refine dX (x_ldE api_Fix.enc h12) ?_
  refine dC (fleetmake_Stream_Fixes_1_ok h13) [] [] [] ?_
  refine dR 1 ?_
  refine dE ?_
  refine cE hF (fun h14 hF => ?_) fun h14 hF => ?_
  · refine awp_true (by kernel_rfl) h14 ?_
    refine awp_seq ?_
    refine bE hF fun vy15 h15 hF => ?_
    refine awp_region ?_
    refine aR 4 ?_
    refine aX (x_idxV api_Fix.enc 0 h9 h10) ?_
    refine aX (x_ldE api_Fix.enc h10) ?_
    refine aX (x_idxO api_Fix.enc 0 h15) ?_
    refine aX (x_stE api_Fix.enc vy13 h15) ?_
    refine aE ?_
    refine awp_region ?_
    refine aR 3 ?_
    refine aE ?_
    exact oO hF [] [] rfl
  · refine awp_false (by kernel_rfl) h14 ?_
    refine awp_skip ?_
    exact oO hF [] [] rfl

def slices_CompactFunc_api_Fix_api_Fix_o0_f1_fleetmake_Stream_Fixes_1_x2_k : ((List api_Fix) × Int) → AEx
  | _ => .exit 2

def slices_CompactFunc_api_Fix_api_Fix_o0_f1_fleetmake_Stream_Fixes_1_x2_S (qx : List api_Fix) (vx : Int) : ((List api_Fix) × Int) → St
  | (vl7, vx10) => Mem.st ⟨[(0, ⟨39, 5, List.map api_Fix.enc vl7⟩)], []⟩ (tl [(0, .v (.one (.own 0 none))), (5, .v (.one (.d (.int .i64 vx10))))]) 1

def slices_CompactFunc_api_Fix_api_Fix_o0_f1_fleetmake_Stream_Fixes_1_x2_H (qx : List api_Fix) (vx : Int) : (List api_Fix) × Int × Int → St
  | (vl4, vx6, vx7) => Mem.st ⟨[(0, ⟨39, 5, List.map api_Fix.enc vl4⟩)], []⟩ (tl [(0, .v (.one (.own 0 none))), (1, .v (.one (.fn 50 []))), (5, .v (.one (.d (.int .i64 vx6)))), (6, .v (.one (.view 0 vx.toNat ((qx.length : Int).toNat - vx.toNat)))), (7, .v (.one (.d (.int .i64 vx7))))]) 1

theorem slices_CompactFunc_api_Fix_api_Fix_o0_f1_fleetmake_Stream_Fixes_1_x2_ok (qx : List api_Fix) (vx : Int) (s : (List api_Fix) × Int × Int) (r : ((List api_Fix) × Int × Int) ⊕ (((List api_Fix) × Int))) (hF : slices_CompactFunc_api_Fix_api_Fix_o0_f1_fleetmake_Stream_Fixes_1_x2 qx vx s = some r) : Awp prog 1 66 (cL (cL (cR (cL (cR (cL (cR (cL (cL (cR (cL (cL (cR (cL (cR (cR (cB f49))))))))))))))))) (Out 1 (kk slices_CompactFunc_api_Fix_api_Fix_o0_f1_fleetmake_Stream_Fixes_1_x2_k) (SS (slices_CompactFunc_api_Fix_api_Fix_o0_f1_fleetmake_Stream_Fixes_1_x2_H qx vx) (slices_CompactFunc_api_Fix_api_Fix_o0_f1_fleetmake_Stream_Fixes_1_x2_S qx vx)) r) (slices_CompactFunc_api_Fix_api_Fix_o0_f1_fleetmake_Stream_Fixes_1_x2_H qx vx s) := by
  obtain ⟨vl4, vx6, vx7⟩ := s
  unfold slices_CompactFunc_api_Fix_api_Fix_o0_f1_fleetmake_Stream_Fixes_1_x2 at hF
  refine awp_seq ?_
  refine awp_seq ?_
  refine awp_region ?_
  refine aR 4 ?_
  refine aE ?_
  refine cE hF (fun h8 hF => ?_) fun h8 hF => ?_
  · refine awp_true (by kernel_rfl) h8 ?_
    refine awp_skip ?_
    refine awp_seq ?_
    refine awp_to (st' := slices_CompactFunc_api_Fix_api_Fix_o0_f1_fleetmake_Stream_Fixes_1_x3_I qx vx vl4 vx6 vx7) (oT [] []) ?_
    refine bE hF fun x h16 hF => ?_
    obtain ⟨vl6_1, vx9_1⟩ := x
    refine awp_sub (slices_CompactFunc_api_Fix_api_Fix_o0_f1_fleetmake_Stream_Fixes_1_x3_ok qx vx vl4 vx6 vx7 h16) ?_
    refine awp_region ?_
    refine aR 3 ?_
    refine aE ?_
    exact oO hF [] [] rfl
  · refine awp_false (by kernel_rfl) h8 ?_
    refine awp_exit ?_
    exact oO hF [] [] rfl

def slices_CompactFunc_api_Fix_api_Fix_o0_f1_fleetmake_Stream_Fixes_1_x1_k : Unit ⊕ (List api_Fix) → AEx
  | .inl _ => .exit 0
  | .inr _ => .ret

def slices_CompactFunc_api_Fix_api_Fix_o0_f1_fleetmake_Stream_Fixes_1_x1_S (qx : List api_Fix) : Unit ⊕ (List api_Fix) → St
  | .inl _ => Mem.st ⟨[(0, ⟨39, 5, List.map api_Fix.enc qx⟩)], []⟩ (tl [(0, .v (.one (.own 0 none)))]) 1
  | .inr vx11 => Mem.st ⟨[(1, ⟨39, 5, List.map api_Fix.enc vx11⟩)], []⟩ (tl [(4, .v (.one (.own 1 none)))]) 2

def slices_CompactFunc_api_Fix_api_Fix_o0_f1_fleetmake_Stream_Fixes_1_x1_H (qx : List api_Fix) : Int → St
  | vx => Mem.st ⟨[(0, ⟨39, 5, List.map api_Fix.enc qx⟩)], []⟩ (tl [(0, .v (.one (.own 0 none))), (1, .v (.one (.fn 50 []))), (5, .v (.one (.d (.int .i64 vx))))]) 1

theorem slices_CompactFunc_api_Fix_api_Fix_o0_f1_fleetmake_Stream_Fixes_1_x1_ok (qx : List api_Fix) (vx : Int) (r : (Int) ⊕ (Unit ⊕ (List api_Fix))) (hF : slices_CompactFunc_api_Fix_api_Fix_o0_f1_fleetmake_Stream_Fixes_1_x1 qx vx = some r) : Awp prog 1 66 (cL (cL (cR (cL (cR (cR (cB f49))))))) (Out 1 (kk slices_CompactFunc_api_Fix_api_Fix_o0_f1_fleetmake_Stream_Fixes_1_x1_k) (SS (slices_CompactFunc_api_Fix_api_Fix_o0_f1_fleetmake_Stream_Fixes_1_x1_H qx) (slices_CompactFunc_api_Fix_api_Fix_o0_f1_fleetmake_Stream_Fixes_1_x1_S qx)) r) (slices_CompactFunc_api_Fix_api_Fix_o0_f1_fleetmake_Stream_Fixes_1_x1_H qx vx) := by
  unfold slices_CompactFunc_api_Fix_api_Fix_o0_f1_fleetmake_Stream_Fixes_1_x1 at hF
  refine awp_seq ?_
  refine awp_seq ?_
  refine awp_region ?_
  refine aR 2 ?_
  refine aL api_Fix.enc qx ?_
  refine aR 1 ?_
  refine aE ?_
  refine cE hF (fun h2 hF => ?_) fun h2 hF => ?_
  · refine awp_true (by kernel_rfl) h2 ?_
    refine awp_skip ?_
    refine awp_seq ?_
    refine awp_block ?_
    refine awp_seq ?_
    refine bE hF fun vy8 h3 hF => ?_
    refine bE hF fun vy9 h4 hF => ?_
    refine bE hF fun vr3 h5 hF => ?_
    refine aD ?_
    refine dR 3 ?_
    refine dX (x_idxO api_Fix.enc 0 h3) ?_
    refine dX (x_ldE api_Fix.enc h3) ?_
    refine dR 3 ?_
    refine dX (x_idxO api_Fix.enc 0 h4) ?_
    refine dX (x_ldE api_Fix.enc h4) ?_
    refine dC (fleetmake_Stream_Fixes_1_ok h5) [] [] [] ?_
    refine dE ?_
    refine cE hF (fun h6 hF => ?_) fun h6 hF => ?_
    · refine awp_true (by kernel_rfl) h6 ?_
      refine awp_seq ?_
      refine gE hF fun h7 hF => ?_
      refine awp_region ?_
      refine aR 2 ?_
      refine aX (x_viewN api_Fix.enc 0 h7) ?_
      refine aR 1 ?_
      refine aE ?_
      refine awp_seq ?_
      refine awp_seq ?_
      refine awp_region ?_
      refine aR 1 ?_
      refine aE ?_
      refine awp_block ?_
      refine awp_to (st' := slices_CompactFunc_api_Fix_api_Fix_o0_f1_fleetmake_Stream_Fixes_1_x2_H qx vx (qx, vx, 1)) (oT [] []) ?_
      refine bE hF fun x h17 hF => ?_
      obtain ⟨vl7_1, vx10_1⟩ := x
      refine awp_sub (awp_loop' (slices_CompactFunc_api_Fix_api_Fix_o0_f1_fleetmake_Stream_Fixes_1_x2_H qx vx) slices_CompactFunc_api_Fix_api_Fix_o0_f1_fleetmake_Stream_Fixes_1_x2_k (slices_CompactFunc_api_Fix_api_Fix_o0_f1_fleetmake_Stream_Fixes_1_x2_S qx vx) (by intro x; exact fun h => nomatch h) h17 (slices_CompactFunc_api_Fix_api_Fix_o0_f1_fleetmake_Stream_Fixes_1_x2_ok qx vx)) ?_
      refine awp_seq ?_
      refine gE hF fun h18 hF => ?_
      refine awp_region ?_
      refine aR 2 ?_
      refine aX (x_viewN api_Fix.enc 0 h18) ?_
      refine aCl api_Fix.enc 0 (xs := vl7_1) (y := api_Fix.mk ([] : List UInt8) 0 0 0 0) (lo := vx10_1) (hi := (vl7_1.length : Int)) rfl ?_
      refine aE ?_
      refine awp_seq ?_
      refine gE hF fun h19 hF => ?_
      refine awp_region ?_
      refine aR 2 ?_
      refine aT api_Fix.enc 0 h19 rfl ?_
      refine aR 1 ?_
      refine aE ?_
      refine awp_ret ?_
      exact oO hF [(1, 6001)] [] rfl
    · refine awp_false (by kernel_rfl) h6 ?_
      refine awp_skip ?_
      refine awp_region ?_
      refine aR 3 ?_
      refine aE ?_
      exact oO hF [] [] rfl
  · refine awp_false (by kernel_rfl) h2 ?_
    refine awp_exit ?_
    exact oO hF [] [] rfl

def slices_CompactFunc_api_Fix_api_Fix_o0_f1_fleetmake_Stream_Fixes_1_R (qx : List api_Fix) (r : (List api_Fix)) : TV × Mem := (.v (.one (.own 1 none)), ⟨[(1, ⟨39, 5, List.map api_Fix.enc r⟩)], []⟩)

theorem slices_CompactFunc_api_Fix_api_Fix_o0_f1_fleetmake_Stream_Fixes_1_ok {qx : List api_Fix} {r} (hF : slices_CompactFunc_api_Fix_api_Fix_o0_f1_fleetmake_Stream_Fixes_1 qx = some r) : Holds prog 49 [.v (.one (.own 0 none)), .v (.one (.fn 50 []))] ⟨[(0, ⟨39, 5, List.map api_Fix.enc qx⟩)], []⟩ (Is (slices_CompactFunc_api_Fix_api_Fix_o0_f1_fleetmake_Stream_Fixes_1_R qx r)) := by
  unfold slices_CompactFunc_api_Fix_api_Fix_o0_f1_fleetmake_Stream_Fixes_1 at hF
  refine holds_of_awp hΓ (fn := f49) (c := cB f49) (A := 1) (nx := 1) (by kernel_rfl) (by kernel_rfl) (by kernel_rfl) (by kernel_rfl) (by kernel_rfl) (by kernel_rfl) (lowc_of (by kernel_rfl)) ?_
  show Awp prog 1 66 (cB f49) _ _
  refine awp_seq ?_
  refine awp_region ?_
  refine aR 1 ?_
  refine aE ?_
  refine awp_seq ?_
  refine awp_seq ?_
  refine awp_region ?_
  refine aR 1 ?_
  refine aL api_Fix.enc qx ?_
  refine aR 1 ?_
  refine aE ?_
  refine cE hF (fun h1 hF => ?_) fun h1 hF => ?_
  · refine awp_true (by kernel_rfl) h1 ?_
    refine awp_seq ?_
    refine awp_region ?_
    refine aR 2 ?_
    refine aE ?_
    refine awp_ret ?_
    exact oF hF [(1, 0)] []
  · refine awp_false (by kernel_rfl) h1 ?_
    refine awp_skip ?_
    refine awp_seq ?_
    refine awp_seq ?_
    refine awp_region ?_
    refine aR 1 ?_
    refine aE ?_
    refine awp_block ?_
    refine awp_to (st' := slices_CompactFunc_api_Fix_api_Fix_o0_f1_fleetmake_Stream_Fixes_1_x1_H qx 1) (oT [] []) ?_
    refine bE hF fun x h20 hF => ?_
    rcases x with _ | vx11_1
    · refine awp_sub (awp_loop' (slices_CompactFunc_api_Fix_api_Fix_o0_f1_fleetmake_Stream_Fixes_1_x1_H qx) slices_CompactFunc_api_Fix_api_Fix_o0_f1_fleetmake_Stream_Fixes_1_x1_k (slices_CompactFunc_api_Fix_api_Fix_o0_f1_fleetmake_Stream_Fixes_1_x1_S qx) (by intro x; rcases x with x | x <;> exact fun h => nomatch h) h20 (slices_CompactFunc_api_Fix_api_Fix_o0_f1_fleetmake_Stream_Fixes_1_x1_ok qx)) ?_
      refine awp_seq ?_
      refine awp_region ?_
      refine aR 2 ?_
      refine aE ?_
      refine awp_ret ?_
      exact oF hF [(1, 0)] []
    · refine awp_sub (awp_loop' (slices_CompactFunc_api_Fix_api_Fix_o0_f1_fleetmake_Stream_Fixes_1_x1_H qx) slices_CompactFunc_api_Fix_api_Fix_o0_f1_fleetmake_Stream_Fixes_1_x1_k (slices_CompactFunc_api_Fix_api_Fix_o0_f1_fleetmake_Stream_Fixes_1_x1_S qx) (by intro x; rcases x with x | x <;> exact fun h => nomatch h) h20 (slices_CompactFunc_api_Fix_api_Fix_o0_f1_fleetmake_Stream_Fixes_1_x1_ok qx)) ?_
      exact oF hF [] []

/-! ### (*beaconfleet/fleetmake.Stream).Odd -/
def fleetmake_Stream_Odd_R (qs : fleetmake_Stream) (qlow : Int) (qhigh : Int) (r : fleetmake_Stream × Int) : TV × Mem := (.v (.one (.d (.int .i64 r.2))), ⟨[], [(0, [.d (.lst (List.map (encI .i64) r.1.L)), .d (.int .i64 r.1.at_)])]⟩)

theorem fleetmake_Stream_Odd_ok {qs : fleetmake_Stream} {qlow : Int} {qhigh : Int} {r} (hF : fleetmake_Stream_Odd qs qlow qhigh = some r) : Holds prog 52 [.v (.one (.box 0 0)), .v (.one (.d (.int .i64 qlow))), .v (.one (.d (.int .i64 qhigh)))] ⟨[], [(0, [.d (.lst (List.map (encI .i64) qs.L)), .d (.int .i64 qs.at_)])]⟩ (Is (fleetmake_Stream_Odd_R qs qlow qhigh r)) := by
  unfold fleetmake_Stream_Odd at hF
  refine holds_of_awp hΓ (fn := f52) (c := cB f52) (A := 1) (nx := 1) (by kernel_rfl) (by kernel_rfl) (by kernel_rfl) (by kernel_rfl) (by kernel_rfl) (by kernel_rfl) (lowc_of (by kernel_rfl)) ?_
  show Awp prog 1 22 (cB f52) _ _
  refine awp_seq ?_
  refine awp_region ?_
  refine aR 1 ?_
  refine aE ?_
  refine awp_seq ?_
  refine awp_seq ?_
  refine bE hF fun vr h1 hF => ?_
  refine awp_region ?_
  refine aR 1 ?_
  refine aC (fleetmake_Stream_Flip_ok h1) [] [] [] ?_
  refine aE ?_
  refine cE hF (fun h2 hF => ?_) fun h2 hF => ?_
  · refine awp_true (by kernel_rfl) h2 ?_
    refine awp_seq ?_
    refine bE hF fun vr1 h3 hF => ?_
    refine awp_region ?_
    refine aR 8 ?_
    refine aC (fleetmake_Stream_Pick_o1_ok h3) [(1, 10001)] [] [] ?_
    refine aR 1 ?_
    refine aE ?_
    refine awp_ret ?_
    exact oF hF [] []
  · refine awp_false (by kernel_rfl) h2 ?_
    refine awp_skip ?_
    refine awp_seq ?_
    refine bE hF fun x h4 hF => ?_
    obtain ⟨vs, vr2⟩ := x
    refine awp_region ?_
    refine aR 3 ?_
    refine aC (fleetmake_Stream_Range_ok h4) [] [] [] ?_
    refine aR 1 ?_
    refine aE ?_
    refine awp_ret ?_
    exact oF hF [] []

/-! ### (*beaconfleet/fleetmake.Stream).Fixes -/
def fleetmake_Stream_Fixes_x1_k : (fleetmake_Stream × (List api_Fix)) → AEx
  | _ => .exit 0

def fleetmake_Stream_Fixes_x1_S (qx1 : Int) : (fleetmake_Stream × (List api_Fix)) → St
  | (vs1, vx2) => Mem.st ⟨[(1, ⟨39, 5, List.map api_Fix.enc vx2⟩)], [(0, [.d (.lst (List.map (encI .i64) vs1.L)), .d (.int .i64 vs1.at_)])]⟩ (tl [(0, .v (.one (.box 0 0))), (5, .v (.one (.own 1 none)))]) 2

def fleetmake_Stream_Fixes_x1_H (qx1 : Int) : fleetmake_Stream × (List api_Fix) × Int → St
  | (vs, vx, vx1) => Mem.st ⟨[(1, ⟨39, 5, List.map api_Fix.enc vx⟩)], [(0, [.d (.lst (List.map (encI .i64) vs.L)), .d (.int .i64 vs.at_)])]⟩ (tl [(0, .v (.one (.box 0 0))), (5, .v (.one (.own 1 none))), (7, .v (.one (.d (.int .i64 qx1)))), (8, .v (.one (.d (.int .i64 vx1))))]) 2

theorem fleetmake_Stream_Fixes_x1_ok (qx1 : Int) (s : fleetmake_Stream × (List api_Fix) × Int) (r : (fleetmake_Stream × (List api_Fix) × Int) ⊕ ((fleetmake_Stream × (List api_Fix)))) (hF : fleetmake_Stream_Fixes_x1 qx1 s = some r) : Awp prog 1 68 (cL (cL (cR (cL (cR (cR (cB f7))))))) (Out 1 (kk fleetmake_Stream_Fixes_x1_k) (SS (fleetmake_Stream_Fixes_x1_H qx1) (fleetmake_Stream_Fixes_x1_S qx1)) r) (fleetmake_Stream_Fixes_x1_H qx1 s) := by
  obtain ⟨vs, vx, vx1⟩ := s
  unfold fleetmake_Stream_Fixes_x1 at hF
  refine awp_seq ?_
  refine awp_region ?_
  refine aR 1 ?_
  refine aE ?_
  refine awp_seq ?_
  refine cE hF (fun h1 hF => ?_) fun h1 hF => ?_
  · refine awp_true (by kernel_rfl) h1 ?_
    refine awp_skip ?_
    refine awp_seq ?_
    refine awp_block ?_
    refine bE hF fun vr4 h2 hF => ?_
    refine bE hF fun vr5 h3 hF => ?_
    refine bE hF fun vr6 h4 hF => ?_
    refine bE hF fun vr7 h5 hF => ?_
    refine gE hF fun h6 hF => ?_
    refine awp_region ?_
    refine aR 3 ?_
    refine aC (fleetmake_Stream_Some_o1_ok h2) [(1, 3002)] [] [] ?_
    refine aR 2 ?_
    refine aC (fleetmake_Stream_Pick_o1_ok h3) [(1, 6002)] [] [] ?_
    refine aR 2 ?_
    refine aC (fleetmake_Stream_Pick_o1_ok h4) [(1, 9002)] [] [] ?_
    refine aR 2 ?_
    refine aC (fleetmake_Stream_Pick_o1_ok h5) [(1, 12002)] [] [] ?_
    refine aR 2 ?_
    refine aX (x_app api_Fix.enc 1 h6) ?_
    refine aR 1 ?_
    refine aE ?_
    refine awp_region ?_
    refine aR 2 ?_
    refine aE ?_
    exact oO hF [(1, 16002)] [] rfl
  · refine awp_false (by kernel_rfl) h1 ?_
    refine awp_exit ?_
    exact oO hF [] [] rfl

def fleetmake_Stream_Fixes_x2_k : (List api_Fix) → AEx
  | _ => .normal

def fleetmake_Stream_Fixes_x2_S (vs1_1 : fleetmake_Stream) (vl : List api_Fix) : (List api_Fix) → St
  | vx3 => Mem.st ⟨[(1, ⟨39, 5, List.map api_Fix.enc vx3⟩)], [(0, [.d (.lst (List.map (encI .i64) vs1_1.L)), .d (.int .i64 (IntKind.wrap .i64 (vs1_1.at_ + 1)))])]⟩ (tl [(0, .v (.one (.box 0 0))), (5, .v (.one (.own 1 none)))]) 2

def fleetmake_Stream_Fixes_x2_I (vs1_1 : fleetmake_Stream) (vl : List api_Fix) : St := Mem.st ⟨[(1, ⟨39, 5, List.map api_Fix.enc vl⟩)], [(0, [.d (.lst (List.map (encI .i64) vs1_1.L)), .d (.int .i64 vs1_1.at_)])]⟩ (tl [(0, .v (.one (.box 0 0))), (5, .v (.one (.own 1 none)))]) 2

theorem fleetmake_Stream_Fixes_x2_ok (vs1_1 : fleetmake_Stream) (vl : List api_Fix) {r} (hF : fleetmake_Stream_Fixes_x2 vs1_1 vl = some r) : Awp prog 1 68 (cL (cR (cR (cR (cR (cB f7)))))) (Out 1 fleetmake_Stream_Fixes_x2_k (fleetmake_Stream_Fixes_x2_S vs1_1 vl) r) (fleetmake_Stream_Fixes_x2_I vs1_1 vl) := by
  unfold fleetmake_Stream_Fixes_x2 at hF
  refine awp_seq ?_
  refine bE hF fun vr8 h10 hF => ?_
  refine awp_region ?_
  refine aR 1 ?_
  refine aC (fleetmake_Stream_Flip_ok h10) [] [] [] ?_
  refine aR 1 ?_
  refine aE ?_
  refine cE hF (fun h11 hF => ?_) fun h11 hF => ?_
  · refine awp_true (by kernel_rfl) h11 ?_
    refine bE hF fun vr6_1 h12 hF => ?_
    refine awp_region ?_
    refine aR 1 ?_
    refine aC (slices_CompactFunc_api_Fix_api_Fix_o0_f1_fleetmake_Stream_Fixes_1_ok h12) [(0, 1)] [] [] ?_
    refine aR 1 ?_
    refine aE ?_
    exact oO hF [(1, 4003)] [] rfl
  · refine awp_false (by kernel_rfl) h11 ?_
    refine awp_skip ?_
    exact oO hF [] [] rfl

def fleetmake_Stream_Fixes_x4_k : (fleetmake_Stream × Bool) → AEx
  | _ => .normal

def fleetmake_Stream_Fixes_x4_S (vs1_1 : fleetmake_Stream) (vx3_1 : List api_Fix) : (fleetmake_Stream × Bool) → St
  | (vs2, vx4) => Mem.st ⟨[(1, ⟨39, 5, List.map api_Fix.enc vx3_1⟩)], [(0, [.d (.lst (List.map (encI .i64) vs2.L)), .d (.int .i64 vs2.at_)])]⟩ (tl [(0, .v (.one (.box 0 0))), (5, .v (.one (.own 1 none))), (40, .v (.one (.d (.bool vx4))))]) 2

def fleetmake_Stream_Fixes_x4_I (vs1_1 : fleetmake_Stream) (vx3_1 : List api_Fix) : St := Mem.st ⟨[(1, ⟨39, 5, List.map api_Fix.enc vx3_1⟩)], [(0, [.d (.lst (List.map (encI .i64) vs1_1.L)), .d (.int .i64 (IntKind.wrap .i64 (vs1_1.at_ + 1)))])]⟩ (tl [(0, .v (.one (.box 0 0))), (5, .v (.one (.own 1 none)))]) 2

theorem fleetmake_Stream_Fixes_x4_ok (vs1_1 : fleetmake_Stream) (vx3_1 : List api_Fix) {r} (hF : fleetmake_Stream_Fixes_x4 vs1_1 vx3_1 = some r) : Awp prog 1 68 (cL (cL (cR (cR (cR (cR (cR (cB f7)))))))) (Out 1 fleetmake_Stream_Fixes_x4_k (fleetmake_Stream_Fixes_x4_S vs1_1 vx3_1) r) (fleetmake_Stream_Fixes_x4_I vs1_1 vx3_1) := by
  unfold fleetmake_Stream_Fixes_x4 at hF
  refine cE hF (fun h14 hF => ?_) fun h14 hF => ?_
  · refine bE hF fun vr9 h15 hF => ?_
    refine awp_region ?_
    refine aR 1 ?_
    refine aL api_Fix.enc vx3_1 ?_
    refine aB h14 ?_
    refine aR 2 ?_
    refine aC (fleetmake_Stream_Flip_ok h15) [] [] [] ?_
    refine aR 1 ?_
    refine aE ?_
    exact oO hF [] [] rfl
  · refine awp_region ?_
    refine aR 1 ?_
    refine aL api_Fix.enc vx3_1 ?_
    refine aB h14 ?_
    refine aR 4 ?_
    refine aE ?_
    exact oO hF [] [] rfl

def fleetmake_Stream_Fixes_x3_k : (fleetmake_Stream × (List api_Fix)) → AEx
  | _ => .normal

def fleetmake_Stream_Fixes_x3_S (vs1_1 : fleetmake_Stream) (vx3_1 : List api_Fix) : (fleetmake_Stream × (List api_Fix)) → St
  | (vs3, vx5) => Mem.st ⟨[(1, ⟨39, 5, List.map api_Fix.enc vx5⟩)], [(0, [.d (.lst (List.map (encI .i64) vs3.L)), .d (.int .i64 vs3.at_)])]⟩ (tl [(5, .v (.one (.own 1 none)))]) 2

def fleetmake_Stream_Fixes_x3_I (vs1_1 : fleetmake_Stream) (vx3_1 : List api_Fix) : St := Mem.st ⟨[(1, ⟨39, 5, List.map api_Fix.enc vx3_1⟩)], [(0, [.d (.lst (List.map (encI .i64) vs1_1.L)), .d (.int .i64 (IntKind.wrap .i64 (vs1_1.at_ + 1)))])]⟩ (tl [(0, .v (.one (.box 0 0))), (5, .v (.one (.own 1 none)))]) 2

theorem fleetmake_Stream_Fixes_x3_ok (vs1_1 : fleetmake_Stream) (vx3_1 : List api_Fix) {r} (hF : fleetmake_Stream_Fixes_x3 vs1_1 vx3_1 = some r) : Awp prog 1 68 (cL (cR (cR (cR (cR (cR (cB f7))))))) (Out 1 fleetmake_Stream_Fixes_x3_k (fleetmake_Stream_Fixes_x3_S vs1_1 vx3_1) r) (fleetmake_Stream_Fixes_x3_I vs1_1 vx3_1) := by
  unfold fleetmake_Stream_Fixes_x3 at hF
  refine awp_seq ?_
  refine awp_to (st' := fleetmake_Stream_Fixes_x4_I vs1_1 vx3_1) (oT [] []) ?_
  refine bE hF fun x h16 hF => ?_
  obtain ⟨vs2_1, vx4_1⟩ := x
  refine awp_sub (fleetmake_Stream_Fixes_x4_ok vs1_1 vx3_1 h16) ?_
  refine cE hF (fun h17 hF => ?_) fun h17 hF => ?_
  · refine awp_true (by kernel_rfl) h17 ?_
    refine awp_seq ?_
    refine bE hF fun vr3_1 h18 hF => ?_
    refine bE hF fun vy h19 hF => ?_
    refine awp_region ?_
    refine aR 3 ?_
    refine aL api_Fix.enc vx3_1 ?_
    refine aC (fleetmake_Stream_Next_ok h18) [] [] [] ?_
    refine aX (x_idxO api_Fix.enc 1 h19) ?_
    refine aR 1 ?_
    refine aE ?_
    refine bE hF fun vr10 h20 hF => ?_
    refine bE hF fun x h21 hF => ?_
    obtain ⟨vs1_2, vr3_2⟩ := x
    refine bE hF fun x h22 hF => ?_
    obtain ⟨vs1_3, vr3_3⟩ := x
    refine awp_region ?_
    refine aR 7 ?_
    refine aX (x_ldE api_Fix.enc h19) ?_
    refine aR 1 ?_
    refine aC (fleetmake_Stream_Some_o1_ok h20) [(1, 15002)] [] [] ?_
    refine aR 1 ?_
    refine aC (fleetmake_Stream_Odd_ok h21) [] [] [] ?_
    refine aR 1 ?_
    refine aC (fleetmake_Stream_Odd_ok h22) [] [] [] ?_
    refine aR 2 ?_
    refine aX (x_stE api_Fix.enc (api_Fix.mk vr10 vy.At vy.X vy.Y vy.Error) h19) ?_
    refine aR 2 ?_
    refine aX (x_stE api_Fix.enc (api_Fix.mk vr10 vr3_2 vy.X vy.Y vy.Error) (at_set (z := (api_Fix.mk vr10 vy.At vy.X vy.Y vy.Error)) h19)) ?_
    refine aR 2 ?_
    refine aX (x_stE api_Fix.enc (api_Fix.mk vr10 vr3_2 vy.X vr3_3 vy.Error) (at_set (z := (api_Fix.mk vr10 vr3_2 vy.X vy.Y vy.Error)) (at_set (z := (api_Fix.mk vr10 vy.At vy.X vy.Y vy.Error)) h19))) ?_
    refine aE ?_
    exact oO hF [] [] rfl
  · refine awp_false (by kernel_rfl) h17 ?_
    refine awp_skip ?_
    exact oO hF [] [] rfl

def fleetmake_Stream_Fixes_R (qx : fleetmake_Stream) (qx1 : Int) (r : fleetmake_Stream × (List api_Fix)) : TV × Mem := (.v (.one (.own 1 none)), ⟨[(1, ⟨39, 5, List.map api_Fix.enc r.2⟩)], [(0, [.d (.lst (List.map (encI .i64) r.1.L)), .d (.int .i64 r.1.at_)])]⟩)

theorem fleetmake_Stream_Fixes_ok {qx : fleetmake_Stream} {qx1 : Int} {r} (hF : fleetmake_Stream_Fixes qx qx1 = some r) : Holds prog 7 [.v (.one (.box 0 0)), .v (.one (.d (.int .i64 qx1)))] ⟨[], [(0, [.d (.lst (List.map (encI .i64) qx.L)), .d (.int .i64 qx.at_)])]⟩ (Is (fleetmake_Stream_Fixes_R qx qx1 r)) := by
  unfold fleetmake_Stream_Fixes at hF
  refine holds_of_awp hΓ (fn := f7) (c := cB f7) (A := 1) (nx := 1) (by kernel_rfl) (by kernel_rfl) (by kernel_rfl) (by kernel_rfl) (by kernel_rfl) (by kernel_rfl) (lowc_of (by kernel_rfl)) ?_
  show Awp prog 1 68 (cB f7) _ _
  refine awp_seq ?_
  refine awp_region ?_
  refine aR 1 ?_
  refine aE ?_
  refine awp_seq ?_
  refine awp_region ?_
  refine aR 1 ?_
  refine aE ?_
  refine awp_seq ?_
  refine awp_seq ?_
  refine awp_region ?_
  refine aR 2 ?_
  refine aE ?_
  refine awp_block ?_
  refine awp_to (st' := fleetmake_Stream_Fixes_x1_H qx1 (qx, [], 0)) (oT [] [1]) ?_
  refine bE hF fun x h7 hF => ?_
  obtain ⟨vs1_1, vx2_1⟩ := x
  refine awp_sub (awp_loop' (fleetmake_Stream_Fixes_x1_H qx1) fleetmake_Stream_Fixes_x1_k (fleetmake_Stream_Fixes_x1_S qx1) (by intro x; exact fun h => nomatch h) h7 (fleetmake_Stream_Fixes_x1_ok qx1)) ?_
  refine awp_seq ?_
  refine bE hF fun vl h8 hF => ?_
  refine gE hF fun h9 hF => ?_
  refine awp_region ?_
  refine aR 1 ?_
  refine aCp (slices_SortStableFunc_api_Fix_api_Fix_o0_f1_fleetref2_FixOrder_ok h8) ⟨⟨rfl, rfl, pin1 h9⟩, trivial⟩ [(0, 1)] [] [] ?_
  refine aE ?_
  refine awp_seq ?_
  refine awp_to (st' := fleetmake_Stream_Fixes_x2_I vs1_1 vl) (oT [] []) ?_
  refine bE hF fun vx3_1 h13 hF => ?_
  refine awp_sub (fleetmake_Stream_Fixes_x2_ok vs1_1 vl h13) ?_
  refine awp_seq ?_
  refine awp_to (st' := fleetmake_Stream_Fixes_x3_I vs1_1 vx3_1) (oT [] []) ?_
  refine bE hF fun x h23 hF => ?_
  obtain ⟨vs3_1, vx5_1⟩ := x
  refine awp_sub (fleetmake_Stream_Fixes_x3_ok vs1_1 vx3_1 h23) ?_
  refine awp_seq ?_
  refine awp_region ?_
  refine aR 2 ?_
  refine aE ?_
  refine awp_ret ?_
  exact oF hF [] []

/-! ### beaconfleet/fleetref2.in -/
def fleetref2_in_x1_k : Bool → AEx
  | _ => .normal

def fleetref2_in_x1_S (qn : Int) (qlow : Int) (qhigh : Int) : Bool → St
  | vx => Mem.st ⟨[], []⟩ (tl [(6, .v (.one (.d (.bool vx))))]) 0

def fleetref2_in_x1_I (qn : Int) (qlow : Int) (qhigh : Int) : St := Mem.st ⟨[], []⟩ (tl [(0, .v (.one (.d (.int .i64 qn)))), (1, .v (.one (.d (.int .i64 qlow)))), (2, .v (.one (.d (.int .i64 qhigh))))]) 0

theorem fleetref2_in_x1_ok (qn : Int) (qlow : Int) (qhigh : Int) {r} (hF : fleetref2_in_x1 qn qlow qhigh = some r) : Awp prog 0 15 (cL (cR (cB f63))) (Out 0 fleetref2_in_x1_k (fleetref2_in_x1_S qn qlow qhigh) r) (fleetref2_in_x1_I qn qlow qhigh) := by
  unfold fleetref2_in_x1 at hF
  refine cE hF (fun h1 hF => ?_) fun h1 hF => ?_
  · refine awp_region ?_
    refine aR 2 ?_
    refine aB h1 ?_
    refine aR 6 ?_
    refine aE ?_
    exact oO hF [] [] rfl
  · refine awp_region ?_
    refine aR 2 ?_
    refine aB h1 ?_
    refine aR 6 ?_
    refine aE ?_
    exact oO hF [] [] rfl

def fleetref2_in_R (qn : Int) (qlow : Int) (qhigh : Int) (r : Bool) : TV × Mem := (.v (.one (.d (.bool r))), ⟨[], []⟩)

theorem fleetref2_in_ok {qn : Int} {qlow : Int} {qhigh : Int} {r} (hF : fleetref2_in qn qlow qhigh = some r) : Holds prog 63 [.v (.one (.d (.int .i64 qn))), .v (.one (.d (.int .i64 qlow))), .v (.one (.d (.int .i64 qhigh)))] ⟨[], []⟩ (Is (fleetref2_in_R qn qlow qhigh r)) := by
  unfold fleetref2_in at hF
  refine holds_of_awp hΓ (fn := f63) (c := cB f63) (A := 0) (nx := 0) (by kernel_rfl) (by kernel_rfl) (by kernel_rfl) (by kernel_rfl) (by kernel_rfl) (by kernel_rfl) (lowc_of (by kernel_rfl)) ?_
  show Awp prog 0 15 (cB f63) _ _
  refine awp_seq ?_
  refine awp_region ?_
  refine aR 1 ?_
  refine aE ?_
  refine awp_seq ?_
  refine awp_to (st' := fleetref2_in_x1_I qn qlow qhigh) (oT [] []) ?_
  refine bE hF fun vx1 h2 hF => ?_
  refine awp_sub (fleetref2_in_x1_ok qn qlow qhigh h2) ?_
  refine awp_ret ?_
  exact oF hF [] []

/-! ### internal/stringslite.IndexByte -/
def stringslite_IndexByte_R (qs : List UInt8) (qc : Int) (r : Unit) : TV × Mem := (.v (.one (.d (.int .i64 (Lib.indexByte qs qc.toNat.toUInt8)))), ⟨[], []⟩)

theorem stringslite_IndexByte_ok {qs : List UInt8} {qc : Int} {r} (hF : stringslite_IndexByte qs qc = some r) : Holds prog 216 [.v (.one (.d (.str qs))), .v (.one (.d (.int .u8 qc)))] ⟨[], []⟩ (Is (stringslite_IndexByte_R qs qc r)) := by
  unfold stringslite_IndexByte at hF
  refine holds_of_awp hΓ (fn := f216) (c := cB f216) (A := 0) (nx := 0) (by kernel_rfl) (by kernel_rfl) (by kernel_rfl) (by kernel_rfl) (by kernel_rfl) (by kernel_rfl) (lowc_of (by kernel_rfl)) ?_
  show Awp prog 0 8 (cB f216) _ _
  refine awp_seq ?_
  refine awp_region ?_
  refine aR 1 ?_
  refine aE ?_
  refine awp_seq ?_
  refine awp_region ?_
  refine aR 2 ?_
  refine aS (does_indexByte (g := 249) (fn := f249) (a := qs) (c := qc) rfl (by kernel_rfl) (by kernel_rfl) (by kernel_rfl) (by kernel_rfl) (by kernel_rfl) (by kernel_rfl)) ?_
  refine aR 1 ?_
  refine aE ?_
  refine awp_ret ?_
  exact oF hF [] []

/-! ### strings.IndexByte -/
def strings_IndexByte_R (qs : List UInt8) (qc : Int) (r : Unit) : TV × Mem := (.v (.one (.d (.int .i64 (Lib.indexByte qs qc.toNat.toUInt8)))), ⟨[], []⟩)

theorem strings_IndexByte_ok {qs : List UInt8} {qc : Int} {r} (hF : strings_IndexByte qs qc = some r) : Holds prog 172 [.v (.one (.d (.str qs))), .v (.one (.d (.int .u8 qc)))] ⟨[], []⟩ (Is (strings_IndexByte_R qs qc r)) := by
  unfold strings_IndexByte at hF
  refine holds_of_awp hΓ (fn := f172) (c := cB f172) (A := 0) (nx := 0) (by kernel_rfl) (by kernel_rfl) (by kernel_rfl) (by kernel_rfl) (by kernel_rfl) (by kernel_rfl) (lowc_of (by kernel_rfl)) ?_
  show Awp prog 0 8 (cB f172) _ _
  refine awp_seq ?_
  refine awp_region ?_
  refine aR 1 ?_
  refine aE ?_
  refine awp_seq ?_
  refine bE hF fun _ h1 hF => ?_
  refine awp_region ?_
  refine aR 2 ?_
  refine aC (stringslite_IndexByte_ok h1) [] [] [] ?_
  refine aR 1 ?_
  refine aE ?_
  refine awp_ret ?_
  exact oF hF [] []

/-! ### beaconfleet/fleetref2.only -/
def fleetref2_only_x1_k : Unit ⊕ Unit → AEx
  | .inl _ => .exit 0
  | .inr _ => .ret

def fleetref2_only_x1_S (qs : List UInt8) (qsome : List UInt8) : Unit ⊕ Unit → St
  | .inl _ => Mem.st ⟨[], []⟩ (tl []) 0
  | .inr _ => Mem.st ⟨[], []⟩ (tl [(4, .v (.one (.d (.bool false))))]) 0

def fleetref2_only_x1_H (qs : List UInt8) (qsome : List UInt8) : Int → St
  | vx => Mem.st ⟨[], []⟩ (tl [(0, .v (.one (.d (.str qs)))), (1, .v (.one (.d (.str qsome)))), (7, .v (.one (.d (.int .i64 (qs.length : Int))))), (8, .v (.one (.d (.int .i64 vx))))]) 0

theorem fleetref2_only_x1_ok (qs : List UInt8) (qsome : List UInt8) (vx : Int) (r : (Int) ⊕ (Unit ⊕ Unit)) (hF : fleetref2_only_x1 qs qsome vx = some r) : Awp prog 0 18 (cL (cL (cR (cL (cR (cB f126)))))) (Out 0 (kk fleetref2_only_x1_k) (SS (fleetref2_only_x1_H qs qsome) (fleetref2_only_x1_S qs qsome)) r) (fleetref2_only_x1_H qs qsome vx) := by
  unfold fleetref2_only_x1 at hF
  refine awp_seq ?_
  refine awp_region ?_
  refine aR 1 ?_
  refine aE ?_
  refine awp_seq ?_
  refine cE hF (fun h1 hF => ?_) fun h1 hF => ?_
  · refine awp_true (by kernel_rfl) h1 ?_
    refine awp_skip ?_
    refine awp_seq ?_
    refine awp_block ?_
    refine awp_seq ?_
    refine awp_region ?_
    refine aR 2 ?_
    refine aE ?_
    refine awp_seq ?_
    refine bE hF fun vc1 h2 hF => ?_
    refine bE hF fun _ h3 hF => ?_
    refine awp_region ?_
    refine aR 3 ?_
    refine aX (x_idxS h2) ?_
    refine aC (strings_IndexByte_ok h3) [] [] [] ?_
    refine aR 1 ?_
    refine aE ?_
    refine cE hF (fun h4 hF => ?_) fun h4 hF => ?_
    · refine awp_true (by kernel_rfl) h4 ?_
      refine awp_seq ?_
      refine awp_region ?_
      refine aR 1 ?_
      refine aE ?_
      refine awp_ret ?_
      exact oO hF [] [] rfl
    · refine awp_false (by kernel_rfl) h4 ?_
      refine awp_skip ?_
      refine awp_region ?_
      refine aR 2 ?_
      refine aE ?_
      exact oO hF [] [] rfl
  · refine awp_false (by kernel_rfl) h1 ?_
    refine awp_exit ?_
    exact oO hF [] [] rfl

def fleetref2_only_R (qs : List UInt8) (qsome : List UInt8) (r : Bool) : TV × Mem := (.v (.one (.d (.bool r))), ⟨[], []⟩)

theorem fleetref2_only_ok {qs : List UInt8} {qsome : List UInt8} {r} (hF : fleetref2_only qs qsome = some r) : Holds prog 126 [.v (.one (.d (.str qs))), .v (.one (.d (.str qsome)))] ⟨[], []⟩ (Is (fleetref2_only_R qs qsome r)) := by
  unfold fleetref2_only at hF
  refine holds_of_awp hΓ (fn := f126) (c := cB f126) (A := 0) (nx := 0) (by kernel_rfl) (by kernel_rfl) (by kernel_rfl) (by kernel_rfl) (by kernel_rfl) (by kernel_rfl) (lowc_of (by kernel_rfl)) ?_
  show Awp prog 0 18 (cB f126) _ _
  refine awp_seq ?_
  refine awp_region ?_
  refine aR 1 ?_
  refine aE ?_
  refine awp_seq ?_
  refine awp_seq ?_
  refine awp_region ?_
  refine aR 3 ?_
  refine aE ?_
  refine awp_block ?_
  refine awp_to (st' := fleetref2_only_x1_H qs qsome 0) (oT [] []) ?_
  refine bE hF fun x h5 hF => ?_
  rcases x with _ | _
  · refine awp_sub (awp_loop' (fleetref2_only_x1_H qs qsome) fleetref2_only_x1_k (fleetref2_only_x1_S qs qsome) (by intro x; rcases x with x | x <;> exact fun h => nomatch h) h5 (fleetref2_only_x1_ok qs qsome)) ?_
    refine awp_seq ?_
    refine awp_region ?_
    refine aR 1 ?_
    refine aE ?_
    refine awp_ret ?_
    exact oF hF [] []
  · refine awp_sub (awp_loop' (fleetref2_only_x1_H qs qsome) fleetref2_only_x1_k (fleetref2_only_x1_S qs qsome) (by intro x; rcases x with x | x <;> exact fun h => nomatch h) h5 (fleetref2_only_x1_ok qs qsome)) ?_
    exact oF hF [] []

/-! ### beaconfleet/fleetref2.Key -/
def fleetref2_Key_x1_k : Bool → AEx
  | _ => .normal

def fleetref2_Key_x1_S (qs : List UInt8) : Bool → St
  | vx => Mem.st ⟨[], []⟩ (tl [(2, .v (.one (.d (.bool vx))))]) 0

def fleetref2_Key_x1_I (qs : List UInt8) : St := Mem.st ⟨[], []⟩ (tl [(0, .v (.one (.d (.str qs))))]) 0

theorem fleetref2_Key_x1_ok (qs : List UInt8) {r} (hF : fleetref2_Key_x1 qs = some r) : Awp prog 0 15 (cL (cR (cB f59))) (Out 0 fleetref2_Key_x1_k (fleetref2_Key_x1_S qs) r) (fleetref2_Key_x1_I qs) := by
  unfold fleetref2_Key_x1 at hF
  refine bE hF fun vr h1 hF => ?_
  refine cE hF (fun h2 hF => ?_) fun h2 hF => ?_
  · refine bE hF fun vs h3 hF => ?_
    refine bE hF fun vr1 h4 hF => ?_
    refine cE hF (fun h5 hF => ?_) fun h5 hF => ?_
    · refine bE hF fun vr2 h6 hF => ?_
      refine awp_region ?_
      refine aR 2 ?_
      refine aCb (fleetref2_in_ok h1) [] [] [] h2 ?_
      refine aR 2 ?_
      refine aX (x_sliceS h3) ?_
      refine aCb (fleetref2_only_ok h4) [] [] [] h5 ?_
      refine aR 3 ?_
      refine aC (fleetref2_only_ok h6) [] [] [] ?_
      refine aR 2 ?_
      refine aE ?_
      exact oO hF [] [] rfl
    · refine awp_region ?_
      refine aR 2 ?_
      refine aCb (fleetref2_in_ok h1) [] [] [] h2 ?_
      refine aR 2 ?_
      refine aX (x_sliceS h3) ?_
      refine aCb (fleetref2_only_ok h4) [] [] [] h5 ?_
      refine aR 6 ?_
      refine aE ?_
      exact oO hF [] [] rfl
  · refine awp_region ?_
    refine aR 2 ?_
    refine aCb (fleetref2_in_ok h1) [] [] [] h2 ?_
    refine aR 10 ?_
    refine aE ?_
    exact oO hF [] [] rfl

def fleetref2_Key_R (qs : List UInt8) (r : Bool) : TV × Mem := (.v (.one (.d (.bool r))), ⟨[], []⟩)

theorem fleetref2_Key_ok {qs : List UInt8} {r} (hF : fleetref2_Key qs = some r) : Holds prog 59 [.v (.one (.d (.str qs)))] ⟨[], []⟩ (Is (fleetref2_Key_R qs r)) := by
  unfold fleetref2_Key at hF
  refine holds_of_awp hΓ (fn := f59) (c := cB f59) (A := 0) (nx := 0) (by kernel_rfl) (by kernel_rfl) (by kernel_rfl) (by kernel_rfl) (by kernel_rfl) (by kernel_rfl) (lowc_of (by kernel_rfl)) ?_
  show Awp prog 0 15 (cB f59) _ _
  refine awp_seq ?_
  refine awp_region ?_
  refine aR 1 ?_
  refine aE ?_
  refine awp_seq ?_
  refine awp_to (st' := fleetref2_Key_x1_I qs) (oT [] []) ?_
  refine bE hF fun vx1 h7 hF => ?_
  refine awp_sub (fleetref2_Key_x1_ok qs h7) ?_
  refine awp_ret ?_
  exact oF hF [] []

/-! ### beaconfleet/fleetref2.Moment -/
def fleetref2_Moment_R (qat : Int) (r : Bool) : TV × Mem := (.v (.one (.d (.bool r))), ⟨[], []⟩)

theorem fleetref2_Moment_ok {qat : Int} {r} (hF : fleetref2_Moment qat = some r) : Holds prog 60 [.v (.one (.d (.int .i64 qat)))] ⟨[], []⟩ (Is (fleetref2_Moment_R qat r)) := by
  unfold fleetref2_Moment at hF
  refine holds_of_awp hΓ (fn := f60) (c := cB f60) (A := 0) (nx := 0) (by kernel_rfl) (by kernel_rfl) (by kernel_rfl) (by kernel_rfl) (by kernel_rfl) (by kernel_rfl) (lowc_of (by kernel_rfl)) ?_
  show Awp prog 0 5 (cB f60) _ _
  refine awp_seq ?_
  refine awp_region ?_
  refine aR 1 ?_
  refine aE ?_
  refine awp_seq ?_
  refine bE hF fun vr h1 hF => ?_
  refine awp_region ?_
  refine aR 1 ?_
  refine aC (fleetref2_in_ok h1) [] [] [] ?_
  refine aR 1 ?_
  refine aE ?_
  refine awp_ret ?_
  exact oF hF [] []

/-! ### beaconfleet/fleetref2.spotOf -/
def fleetref2_spotOf_R (qx : api_Fix) (r : Unit) : TV × Mem := (.v (.agg [.d (.int .i64 qx.X), .d (.int .i64 qx.Y)]), ⟨[], []⟩)

theorem fleetref2_spotOf_ok {qx : api_Fix} {r} (hF : fleetref2_spotOf qx = some r) : Holds prog 62 [.v (.agg [.d (.str qx.Device), .d (.int .i64 qx.At), .d (.int .i64 qx.X), .d (.int .i64 qx.Y), .d (.int .i64 qx.Error)])] ⟨[], []⟩ (Is (fleetref2_spotOf_R qx r)) := by
  unfold fleetref2_spotOf at hF
  refine holds_of_awp hΓ (fn := f62) (c := cB f62) (A := 0) (nx := 0) (by kernel_rfl) (by kernel_rfl) (by kernel_rfl) (by kernel_rfl) (by kernel_rfl) (by kernel_rfl) (lowc_of (by kernel_rfl)) ?_
  show Awp prog 0 8 (cB f62) _ _
  refine awp_seq ?_
  refine awp_region ?_
  refine aR 2 ?_
  refine aE ?_
  refine awp_seq ?_
  refine awp_region ?_
  refine aR 6 ?_
  refine aE ?_
  refine awp_ret ?_
  exact oF hF [] []

/-! ### beaconfleet/fleetref2.SpotFault -/
def fleetref2_SpotFault_x1_k : Bool → AEx
  | _ => .normal

def fleetref2_SpotFault_x1_S (qs : api_Spot) : Bool → St
  | vx => Mem.st ⟨[], []⟩ (tl [(12, .v (.one (.d (.bool vx))))]) 0

def fleetref2_SpotFault_x1_I (qs : api_Spot) : St := Mem.st ⟨[], [(0, [.d (.int .i64 qs.X), .d (.int .i64 qs.Y)])]⟩ (tl [(1, .v (.one (.box 0 0)))]) 1

theorem fleetref2_SpotFault_x1_ok (qs : api_Spot) {r} (hF : fleetref2_SpotFault_x1 qs = some r) : Awp prog 0 13 (cL (cL (cR (cB f61)))) (Out 0 fleetref2_SpotFault_x1_k (fleetref2_SpotFault_x1_S qs) r) (fleetref2_SpotFault_x1_I qs) := by
  unfold fleetref2_SpotFault_x1 at hF
  refine bE hF fun vr h1 hF => ?_
  refine cE hF (fun h2 hF => ?_) fun h2 hF => ?_
  · refine awp_region ?_
    refine aR 2 ?_
    refine aC (fleetref2_in_ok h1) [] [] [] ?_
    refine aB h2 ?_
    refine aR 6 ?_
    refine aE ?_
    exact oO hF [] [] rfl
  · refine bE hF fun vr1 h3 hF => ?_
    refine awp_region ?_
    refine aR 2 ?_
    refine aC (fleetref2_in_ok h1) [] [] [] ?_
    refine aB h2 ?_
    refine aR 3 ?_
    refine aC (fleetref2_in_ok h3) [] [] [] ?_
    refine aR 2 ?_
    refine aE ?_
    exact oO hF [] [] rfl

def fleetref2_SpotFault_R (qs : api_Spot) (r : Int) : TV × Mem := (.v (.one (.d (.int .i64 r))), ⟨[], []⟩)

theorem fleetref2_SpotFault_ok {qs : api_Spot} {r} (hF : fleetref2_SpotFault qs = some r) : Holds prog 61 [.v (.agg [.d (.int .i64 qs.X), .d (.int .i64 qs.Y)])] ⟨[], []⟩ (Is (fleetref2_SpotFault_R qs r)) := by
  unfold fleetref2_SpotFault at hF
  refine holds_of_awp hΓ (fn := f61) (c := cB f61) (A := 0) (nx := 0) (by kernel_rfl) (by kernel_rfl) (by kernel_rfl) (by kernel_rfl) (by kernel_rfl) (by kernel_rfl) (lowc_of (by kernel_rfl)) ?_
  show Awp prog 0 13 (cB f61) _ _
  refine awp_seq ?_
  refine awp_region ?_
  refine aR 2 ?_
  refine aE ?_
  refine awp_seq ?_
  refine awp_seq ?_
  refine awp_to (st' := fleetref2_SpotFault_x1_I qs) (oT [] []) ?_
  refine bE hF fun vx1 h4 hF => ?_
  refine awp_sub (fleetref2_SpotFault_x1_ok qs h4) ?_
  refine cE hF (fun h5 hF => ?_) fun h5 hF => ?_
  · refine awp_true (by kernel_rfl) h5 ?_
    refine awp_seq ?_
    refine awp_region ?_
    refine aR 1 ?_
    refine aE ?_
    refine awp_ret ?_
    exact oF hF [] []
  · refine awp_false (by kernel_rfl) h5 ?_
    refine awp_skip ?_
    refine awp_seq ?_
    refine awp_region ?_
    refine aR 1 ?_
    refine aE ?_
    refine awp_ret ?_
    exact oF hF [] []

/-! ### beaconfleet/fleetref2.FixesFault -/
def fleetref2_FixesFault_x2_k : Bool → AEx
  | _ => .normal

def fleetref2_FixesFault_x2_S (ql : List api_Fix) (vx : Int) (vy2 : api_Fix) : Bool → St
  | vx3 => Mem.st ⟨[], [(0, [.d (.str vy2.Device), .d (.int .i64 vy2.At), .d (.int .i64 vy2.X), .d (.int .i64 vy2.Y), .d (.int .i64 vy2.Error)])]⟩ (tl [(0, .v (.one (.d (.lst (List.map api_Fix.enc ql))))), (3, .v (.one (.d (.int .i64 vx)))), (4, .v (.one (.box 0 0))), (8, .v (.one (.d (.lst (List.map api_Fix.enc ql))))), (9, .v (.one (.d (.int .i64 (ql.length : Int))))), (10, .v (.one (.d (.int .i64 vx)))), (20, .v (.one (.d (.bool vx3))))]) 1

def fleetref2_FixesFault_x2_I (ql : List api_Fix) (vx : Int) (vy2 : api_Fix) : St := Mem.st ⟨[], [(0, [.d (.str vy2.Device), .d (.int .i64 vy2.At), .d (.int .i64 vy2.X), .d (.int .i64 vy2.Y), .d (.int .i64 vy2.Error)])]⟩ (tl [(0, .v (.one (.d (.lst (List.map api_Fix.enc ql))))), (3, .v (.one (.d (.int .i64 vx)))), (4, .v (.one (.box 0 0))), (8, .v (.one (.d (.lst (List.map api_Fix.enc ql))))), (9, .v (.one (.d (.int .i64 (ql.length : Int))))), (10, .v (.one (.d (.int .i64 vx))))]) 1

theorem fleetref2_FixesFault_x2_ok (ql : List api_Fix) (vx : Int) (vy2 : api_Fix) {r} (hF : fleetref2_FixesFault_x2 vy2 = some r) : Awp prog 0 51 (cL (cR (cR (cL (cR (cL (cL (cR (cR (cL (cL (cR (cL (cR (cR (cB f11)))))))))))))))) (Out 0 fleetref2_FixesFault_x2_k (fleetref2_FixesFault_x2_S ql vx vy2) r) (fleetref2_FixesFault_x2_I ql vx vy2) := by
  unfold fleetref2_FixesFault_x2 at hF
  refine bE hF fun vr1_2 h6 hF => ?_
  refine cE hF (fun h7 hF => ?_) fun h7 hF => ?_
  · refine awp_region ?_
    refine aR 2 ?_
    refine aC (fleetref2_Moment_ok h6) [] [] [] ?_
    refine aB h7 ?_
    refine aR 13 ?_
    refine aE ?_
    exact oO hF [] [] rfl
  · refine bE hF fun _ h8 hF => ?_
    refine bE hF fun vr2_1 h9 hF => ?_
    refine cE hF (fun h10 hF => ?_) fun h10 hF => ?_
    · refine awp_region ?_
      refine aR 2 ?_
      refine aC (fleetref2_Moment_ok h6) [] [] [] ?_
      refine aB h7 ?_
      refine aR 2 ?_
      refine aC (fleetref2_spotOf_ok h8) [] [] [] ?_
      refine aC (fleetref2_SpotFault_ok h9) [] [] [] ?_
      refine aB h10 ?_
      refine aR 8 ?_
      refine aE ?_
      exact oO hF [] [] rfl
    · refine bE hF fun vr4 h11 hF => ?_
      refine awp_region ?_
      refine aR 2 ?_
      refine aC (fleetref2_Moment_ok h6) [] [] [] ?_
      refine aB h7 ?_
      refine aR 2 ?_
      refine aC (fleetref2_spotOf_ok h8) [] [] [] ?_
      refine aC (fleetref2_SpotFault_ok h9) [] [] [] ?_
      refine aB h10 ?_
      refine aR 4 ?_
      refine aC (fleetref2_in_ok h11) [] [] [] ?_
      refine aR 3 ?_
      refine aE ?_
      exact oO hF [] [] rfl

def fleetref2_FixesFault_x3_k : Bool → AEx
  | _ => .normal

def fleetref2_FixesFault_x3_S (ql : List api_Fix) (vx : Int) (vy2 : api_Fix) : Bool → St
  | vx4 => Mem.st ⟨[], []⟩ (tl [(0, .v (.one (.d (.lst (List.map api_Fix.enc ql))))), (8, .v (.one (.d (.lst (List.map api_Fix.enc ql))))), (9, .v (.one (.d (.int .i64 (ql.length : Int))))), (10, .v (.one (.d (.int .i64 vx)))), (37, .v (.one (.d (.bool vx4))))]) 0

def fleetref2_FixesFault_x3_I (ql : List api_Fix) (vx : Int) (vy2 : api_Fix) : St := Mem.st ⟨[], [(0, [.d (.str vy2.Device), .d (.int .i64 vy2.At), .d (.int .i64 vy2.X), .d (.int .i64 vy2.Y), .d (.int .i64 vy2.Error)])]⟩ (tl [(0, .v (.one (.d (.lst (List.map api_Fix.enc ql))))), (3, .v (.one (.d (.int .i64 vx)))), (4, .v (.one (.box 0 0))), (8, .v (.one (.d (.lst (List.map api_Fix.enc ql))))), (9, .v (.one (.d (.int .i64 (ql.length : Int))))), (10, .v (.one (.d (.int .i64 vx))))]) 1

theorem fleetref2_FixesFault_x3_ok (ql : List api_Fix) (vx : Int) (vy2 : api_Fix) {r} (hF : fleetref2_FixesFault_x3 ql vx vy2 = some r) : Awp prog 0 51 (cL (cR (cR (cR (cR (cL (cR (cL (cL (cR (cR (cL (cL (cR (cL (cR (cR (cB f11)))))))))))))))))) (Out 0 fleetref2_FixesFault_x3_k (fleetref2_FixesFault_x3_S ql vx vy2) r) (fleetref2_FixesFault_x3_I ql vx vy2) := by
  unfold fleetref2_FixesFault_x3 at hF
  refine cE hF (fun h14 hF => ?_) fun h14 hF => ?_
  · refine bE hF fun vy3 h15 hF => ?_
    refine bE hF fun vr1_3 h16 hF => ?_
    refine aD ?_
    refine dR 1 ?_
    refine dB h14 ?_
    refine dR 4 ?_
    refine dX (x_idx api_Fix.enc h15) ?_
    refine dR 2 ?_
    refine dC (fleetref2_FixOrder_ok h16) [] [] [] ?_
    refine dR 3 ?_
    refine dE ?_
    exact oO hF [] [] rfl
  · refine aD ?_
    refine dR 1 ?_
    refine dB h14 ?_
    refine dR 11 ?_
    refine dE ?_
    exact oO hF [] [] rfl

def fleetref2_FixesFault_x1_k : Unit ⊕ Int → AEx
  | .inl _ => .exit 0
  | .inr _ => .ret

def fleetref2_FixesFault_x1_S (ql : List api_Fix) : Unit ⊕ Int → St
  | .inl _ => Mem.st ⟨[], []⟩ (tl []) 0
  | .inr vx5 => Mem.st ⟨[], []⟩ (tl [(2, .v (.one (.d (.int .i64 vx5))))]) 0

def fleetref2_FixesFault_x1_H (ql : List api_Fix) : Int → St
  | vx => Mem.st ⟨[], []⟩ (tl [(0, .v (.one (.d (.lst (List.map api_Fix.enc ql))))), (8, .v (.one (.d (.lst (List.map api_Fix.enc ql))))), (9, .v (.one (.d (.int .i64 (ql.length : Int))))), (10, .v (.one (.d (.int .i64 vx))))]) 0

theorem fleetref2_FixesFault_x1_ok (ql : List api_Fix) (vx : Int) (r : (Int) ⊕ (Unit ⊕ Int)) (hF : fleetref2_FixesFault_x1 ql vx = some r) : Awp prog 0 51 (cL (cL (cR (cL (cR (cR (cB f11))))))) (Out 0 (kk fleetref2_FixesFault_x1_k) (SS (fleetref2_FixesFault_x1_H ql) (fleetref2_FixesFault_x1_S ql)) r) (fleetref2_FixesFault_x1_H ql vx) := by
  unfold fleetref2_FixesFault_x1 at hF
  refine awp_seq ?_
  refine awp_region ?_
  refine aR 1 ?_
  refine aE ?_
  refine awp_seq ?_
  refine cE hF (fun h2 hF => ?_) fun h2 hF => ?_
  · refine awp_true (by kernel_rfl) h2 ?_
    refine awp_skip ?_
    refine awp_seq ?_
    refine awp_block ?_
    refine awp_seq ?_
    refine bE hF fun vy2 h3 hF => ?_
    refine awp_region ?_
    refine aR 1 ?_
    refine aX (x_idx api_Fix.enc h3) ?_
    refine aR 4 ?_
    refine aE ?_
    refine awp_block ?_
    refine awp_seq ?_
    refine bE hF fun vr3_1 h4 hF => ?_
    refine awp_region ?_
    refine aR 2 ?_
    refine aC (fleetref2_Key_ok h4) [] [] [] ?_
    refine aR 2 ?_
    refine aE ?_
    refine cE hF (fun h5 hF => ?_) fun h5 hF => ?_
    · refine awp_true (by kernel_rfl) h5 ?_
      refine awp_seq ?_
      refine awp_region ?_
      refine aR 1 ?_
      refine aE ?_
      refine awp_ret ?_
      exact oO hF [] [] rfl
    · refine awp_false (by kernel_rfl) h5 ?_
      refine awp_seq ?_
      refine awp_to (st' := fleetref2_FixesFault_x2_I ql vx vy2) (oT [(0, 4000)] []) ?_
      refine bE hF fun vx3_1 h12 hF => ?_
      refine awp_sub (fleetref2_FixesFault_x2_ok ql vx vy2 h12) ?_
      refine cE hF (fun h13 hF => ?_) fun h13 hF => ?_
      · refine awp_true (by kernel_rfl) h13 ?_
        refine awp_seq ?_
        refine awp_region ?_
        refine aR 1 ?_
        refine aE ?_
        refine awp_ret ?_
        exact oO hF [] [] rfl
      · refine awp_false (by kernel_rfl) h13 ?_
        refine awp_seq ?_
        refine awp_to (st' := fleetref2_FixesFault_x3_I ql vx vy2) (oT [] []) ?_
        refine bE hF fun vx4_1 h17 hF => ?_
        refine awp_sub (fleetref2_FixesFault_x3_ok ql vx vy2 h17) ?_
        refine cE hF (fun h18 hF => ?_) fun h18 hF => ?_
        · refine awp_true (by kernel_rfl) h18 ?_
          refine awp_seq ?_
          refine awp_region ?_
          refine aR 1 ?_
          refine aE ?_
          refine awp_ret ?_
          exact oO hF [] [] rfl
        · refine awp_false (by kernel_rfl) h18 ?_
          refine awp_skip ?_
          refine awp_region ?_
          refine aR 2 ?_
          refine aE ?_
          exact oO hF [] [] rfl
  · refine awp_false (by kernel_rfl) h2 ?_
    refine awp_exit ?_
    exact oO hF [] [] rfl

def fleetref2_FixesFault_R (ql : List api_Fix) (r : Int) : TV × Mem := (.v (.one (.d (.int .i64 r))), ⟨[], []⟩)

theorem fleetref2_FixesFault_ok {ql : List api_Fix} {r} (hF : fleetref2_FixesFault ql = some r) : Holds prog 11 [.v (.one (.d (.lst (List.map api_Fix.enc ql))))] ⟨[], []⟩ (Is (fleetref2_FixesFault_R ql r)) := by
  unfold fleetref2_FixesFault at hF
  refine holds_of_awp hΓ (fn := f11) (c := cB f11) (A := 0) (nx := 0) (by kernel_rfl) (by kernel_rfl) (by kernel_rfl) (by kernel_rfl) (by kernel_rfl) (by kernel_rfl) (lowc_of (by kernel_rfl)) ?_
  show Awp prog 0 51 (cB f11) _ _
  refine awp_seq ?_
  refine awp_region ?_
  refine aR 1 ?_
  refine aE ?_
  refine awp_seq ?_
  refine awp_seq ?_
  refine awp_region ?_
  refine aR 1 ?_
  refine aL api_Fix.enc ql ?_
  refine aR 1 ?_
  refine aE ?_
  refine cE hF (fun h1 hF => ?_) fun h1 hF => ?_
  · refine awp_true (by kernel_rfl) h1 ?_
    refine awp_seq ?_
    refine awp_region ?_
    refine aR 1 ?_
    refine aE ?_
    refine awp_ret ?_
    exact oF hF [] []
  · refine awp_false (by kernel_rfl) h1 ?_
    refine awp_skip ?_
    refine awp_seq ?_
    refine awp_seq ?_
    refine awp_region ?_
    refine aR 1 ?_
    refine aL api_Fix.enc ql ?_
    refine aR 1 ?_
    refine aE ?_
    refine awp_block ?_
    refine awp_to (st' := fleetref2_FixesFault_x1_H ql 0) (oT [] []) ?_
    refine bE hF fun x h19 hF => ?_
    rcases x with _ | vx5_1
    · refine awp_sub (awp_loop' (fleetref2_FixesFault_x1_H ql) fleetref2_FixesFault_x1_k (fleetref2_FixesFault_x1_S ql) (by intro x; rcases x with x | x <;> exact fun h => nomatch h) h19 (fleetref2_FixesFault_x1_ok ql)) ?_
      refine awp_seq ?_
      refine awp_region ?_
      refine aR 1 ?_
      refine aE ?_
      refine awp_ret ?_
      exact oF hF [] []
    · refine awp_sub (awp_loop' (fleetref2_FixesFault_x1_H ql) fleetref2_FixesFault_x1_k (fleetref2_FixesFault_x1_S ql) (by intro x; rcases x with x | x <;> exact fun h => nomatch h) h19 (fleetref2_FixesFault_x1_ok ql)) ?_
      exact oF hF [] []

/-! ### strconv.Itoa -/
def strconv_Itoa_R (qi : Int) (r : List UInt8) : TV × Mem := (.v (.one (.d (.str r))), ⟨[], []⟩)

theorem strconv_Itoa_ok {qi : Int} {r} (hF : strconv_Itoa qi = some r) : Holds prog 56 [.v (.one (.d (.int .i64 qi)))] ⟨[], []⟩ (Is (strconv_Itoa_R qi r)) := by
  unfold strconv_Itoa at hF
  refine gE hF fun h1 hF => ?_
  obtain rfl := Option.some.inj hF
  refine holds_lib (args := [.int .i64 qi]) (tv := .c (.d (.str (Lib.itoa qi)))) ⟨_, cB Go.Proofs.Tryz.f56, Go.Proofs.Tryz.func56, by kernel_rfl, by kernel_rfl⟩ rfl rfl fun w ht => ?_
  have h2 : (-9223372036854775808 ≤ qi) ∧ qi ≤ 9223372036854775807 := by simpa using h1
  refine (Go.Proofs.Tryz.strconv_Itoa qi h2.1 h2.2 w (tab_is (by kernel_rfl) (ht 3 _ rfl) (by kernel_rfl))).mono ?_
  rintro e w' ⟨rfl, k, os, rfl⟩
  exact ⟨rfl, Lib.below_grow _ _ (Nat.le_refl _) _ _⟩

/-! ### strings.Join -/
def strings_Join_o0_R (qx : List (List UInt8)) (qx1 : List UInt8) (r : List UInt8) : TV × Mem := (.v (.one (.d (.str r))), ⟨[(0, ⟨9, 1, List.map encS qx⟩)], []⟩)

theorem strings_Join_o0_ok {qx : List (List UInt8)} {qx1 : List UInt8} {r} (hF : strings_Join_o0 qx qx1 = some r) : Holds prog 64 [.v (.one (.own 0 none)), .v (.one (.d (.str qx1)))] ⟨[(0, ⟨9, 1, List.map encS qx⟩)], []⟩ (Is (strings_Join_o0_R qx qx1 r)) := by
  unfold strings_Join_o0 at hF
  refine gE hF fun h1 hF => ?_
  obtain rfl := Option.some.inj hF
  rw [Bool.and_eq_true, decide_eq_true_eq, decide_eq_true_eq] at h1
  exact holds_join (⟨_, cB Go.Proofs.Tryz.f64, Go.Proofs.Tryz.func64, by kernel_rfl, by kernel_rfl⟩) (fun c sep w => Go.Proofs.Any.strings_Join_none Go.Proofs.Tryz.lays156 Go.Proofs.Tryz.Builder_Extra_156 none c sep w) (fun bk c xs sep w e1 e2 e3 e4 e5 => Go.Proofs.Any.strings_Join Go.Proofs.Tryz.lays156 Go.Proofs.Tryz.Builder_Extra_156 bk 0 c xs sep w e1 e2 e3 e4 e5) qx qx1 h1.1 h1.2

/-! ### beaconfleet/fleetref2.FixLines -/
def fleetref2_FixLines_x2_k : (List (List UInt8)) → AEx
  | _ => .exit 2

def fleetref2_FixLines_x2_S (ql : List api_Fix) (vout : List UInt8) (vx : Int) (vy3 : api_Fix) : (List (List UInt8)) → St
  | vw3 => Mem.st ⟨[(0, ⟨9, 1, List.map encS vw3⟩)], []⟩ (tl [(3, .v (.one (.d (.str vout)))), (6, .v (.one (.own 0 none))), (9, .v (.one (.d (.lst (List.map api_Fix.enc ql))))), (10, .v (.one (.d (.int .i64 (ql.length : Int))))), (11, .v (.one (.d (.int .i64 vx))))]) 1

def fleetref2_FixLines_x2_H (ql : List api_Fix) (vout : List UInt8) (vx : Int) (vy3 : api_Fix) : (List (List UInt8)) × Int → St
  | (vw2, vx2) => Mem.st ⟨[(0, ⟨9, 1, List.map encS vw2⟩)], []⟩ (tl [(3, .v (.one (.d (.str vout)))), (6, .v (.one (.own 0 none))), (9, .v (.one (.d (.lst (List.map api_Fix.enc ql))))), (10, .v (.one (.d (.int .i64 (ql.length : Int))))), (11, .v (.one (.d (.int .i64 vx)))), (26, .v (.one (.d (.lst (List.map (encI .i64) ([vy3.At, vy3.X, vy3.Y, vy3.Error] : List Int)))))), (27, .v (.one (.d (.int .i64 (([vy3.At, vy3.X, vy3.Y, vy3.Error] : List Int).length : Int))))), (28, .v (.one (.d (.int .i64 vx2))))]) 1

theorem fleetref2_FixLines_x2_ok (ql : List api_Fix) (vout : List UInt8) (vx : Int) (vy3 : api_Fix) (s : (List (List UInt8)) × Int) (r : ((List (List UInt8)) × Int) ⊕ ((List (List UInt8)))) (hF : fleetref2_FixLines_x2 vy3 s = some r) : Awp prog 0 45 (cL (cL (cR (cL (cR (cR (cL (cL (cR (cR (cL (cL (cR (cL (cR (cR (cB f12))))))))))))))))) (Out 0 (kk fleetref2_FixLines_x2_k) (SS (fleetref2_FixLines_x2_H ql vout vx vy3) (fleetref2_FixLines_x2_S ql vout vx vy3)) r) (fleetref2_FixLines_x2_H ql vout vx vy3 s) := by
  obtain ⟨vw2, vx2⟩ := s
  unfold fleetref2_FixLines_x2 at hF
  refine awp_seq ?_
  refine awp_region ?_
  refine aR 1 ?_
  refine aE ?_
  refine awp_seq ?_
  refine cE hF (fun h3 hF => ?_) fun h3 hF => ?_
  · refine awp_true (by kernel_rfl) h3 ?_
    refine awp_skip ?_
    refine awp_seq ?_
    refine awp_block ?_
    refine awp_seq ?_
    refine bE hF fun vy5 h4 hF => ?_
    refine awp_region ?_
    refine aX (x_idx (encI .i64) h4) ?_
    refine aR 2 ?_
    refine aE ?_
    refine bE hF fun vr4 h5 hF => ?_
    refine gE hF fun h6 hF => ?_
    refine awp_region ?_
    refine aR 2 ?_
    refine aC (strconv_Itoa_ok h5) [] [] [] ?_
    refine aR 1 ?_
    refine aX (x_app encS 0 h6) ?_
    refine aR 1 ?_
    refine aE ?_
    refine awp_region ?_
    refine aR 2 ?_
    refine aE ?_
    exact oO hF [(0, 8001)] [] rfl
  · refine awp_false (by kernel_rfl) h3 ?_
    refine awp_exit ?_
    exact oO hF [] [] rfl

def fleetref2_FixLines_x1_k : (List UInt8) → AEx
  | _ => .exit 0

def fleetref2_FixLines_x1_S (ql : List api_Fix) : (List UInt8) → St
  | vout1 => Mem.st ⟨[], []⟩ (tl [(3, .v (.one (.d (.str vout1))))]) 0

def fleetref2_FixLines_x1_H (ql : List api_Fix) : (List UInt8) × Int → St
  | (vout, vx) => Mem.st ⟨[], []⟩ (tl [(3, .v (.one (.d (.str vout)))), (9, .v (.one (.d (.lst (List.map api_Fix.enc ql))))), (10, .v (.one (.d (.int .i64 (ql.length : Int))))), (11, .v (.one (.d (.int .i64 vx))))]) 0

theorem fleetref2_FixLines_x1_ok (ql : List api_Fix) (s : (List UInt8) × Int) (r : ((List UInt8) × Int) ⊕ ((List UInt8))) (hF : fleetref2_FixLines_x1 ql s = some r) : Awp prog 0 45 (cL (cL (cR (cL (cR (cR (cB f12))))))) (Out 0 (kk fleetref2_FixLines_x1_k) (SS (fleetref2_FixLines_x1_H ql) (fleetref2_FixLines_x1_S ql)) r) (fleetref2_FixLines_x1_H ql s) := by
  obtain ⟨vout, vx⟩ := s
  unfold fleetref2_FixLines_x1 at hF
  refine awp_seq ?_
  refine awp_region ?_
  refine aR 1 ?_
  refine aE ?_
  refine awp_seq ?_
  refine cE hF (fun h1 hF => ?_) fun h1 hF => ?_
  · refine awp_true (by kernel_rfl) h1 ?_
    refine awp_skip ?_
    refine awp_seq ?_
    refine awp_block ?_
    refine awp_seq ?_
    refine bE hF fun vy3 h2 hF => ?_
    refine awp_region ?_
    refine aX (x_idx api_Fix.enc h2) ?_
    refine aR 3 ?_
    refine aE ?_
    refine awp_seq ?_
    refine awp_region ?_
    refine aR 4 ?_
    refine aE ?_
    refine awp_seq ?_
    refine awp_seq ?_
    refine awp_region ?_
    refine aR 9 ?_
    refine aL (encI .i64) ([vy3.At, vy3.X, vy3.Y, vy3.Error] : List Int) ?_
    refine aR 1 ?_
    refine aE ?_
    refine awp_to (oT (m := ⟨[(0, ⟨9, 1, List.map encS ([vy3.Device] : List (List UInt8))⟩)], []⟩) (ts := [(3, .v (.one (.d (.str vout)))), (6, .v (.one (.own 0 none))), (9, .v (.one (.d (.lst (List.map api_Fix.enc ql))))), (10, .v (.one (.d (.int .i64 (ql.length : Int))))), (11, .v (.one (.d (.int .i64 vx)))), (26, .v (.one (.d (.lst (List.map (encI .i64) ([vy3.At, vy3.X, vy3.Y, vy3.Error] : List Int)))))), (27, .v (.one (.d (.int .i64 (([vy3.At, vy3.X, vy3.Y, vy3.Error] : List Int).length : Int))))), (28, .v (.one (.d (.int .i64 0))))]) (nx := 1) [(0, 7000)] []) ?_
    refine awp_block ?_
    refine awp_to (st' := fleetref2_FixLines_x2_H ql vout vx vy3 (([vy3.Device] : List (List UInt8)), 0)) (oT [] []) ?_
    refine bE hF fun vw3_1 h7 hF => ?_
    refine awp_sub (awp_loop' (fleetref2_FixLines_x2_H ql vout vx vy3) fleetref2_FixLines_x2_k (fleetref2_FixLines_x2_S ql vout vx vy3) (by intro x; exact fun h => nomatch h) h7 (fleetref2_FixLines_x2_ok ql vout vx vy3)) ?_
    refine bE hF fun vr5 h8 hF => ?_
    refine gE hF fun h9 hF => ?_
    refine gE hF fun h10 hF => ?_
    refine awp_region ?_
    refine aR 2 ?_
    refine aCp (strings_Join_o0_ok h8) ⟨⟨rfl, rfl, pin1 (beq_self_eq_true _)⟩, trivial⟩ [] [] [] ?_
    refine aX (x_cat h9) ?_
    refine aX (x_cat h10) ?_
    refine aR 1 ?_
    refine aE ?_
    refine awp_region ?_
    refine aR 2 ?_
    refine aE ?_
    exact oO hF [] [] rfl
  · refine awp_false (by kernel_rfl) h1 ?_
    refine awp_exit ?_
    exact oO hF [] [] rfl

def fleetref2_FixLines_R (ql : List api_Fix) (r : (List UInt8)) : TV × Mem := (.v (.one (.d (.str r))), ⟨[], []⟩)

theorem fleetref2_FixLines_ok {ql : List api_Fix} {r} (hF : fleetref2_FixLines ql = some r) : Holds prog 12 [.v (.one (.d (.lst (List.map api_Fix.enc ql))))] ⟨[], []⟩ (Is (fleetref2_FixLines_R ql r)) := by
  unfold fleetref2_FixLines at hF
  refine holds_of_awp hΓ (fn := f12) (c := cB f12) (A := 0) (nx := 0) (by kernel_rfl) (by kernel_rfl) (by kernel_rfl) (by kernel_rfl) (by kernel_rfl) (by kernel_rfl) (lowc_of (by kernel_rfl)) ?_
  show Awp prog 0 45 (cB f12) _ _
  refine awp_seq ?_
  refine awp_region ?_
  refine aR 1 ?_
  refine aE ?_
  refine awp_seq ?_
  refine awp_region ?_
  refine aR 1 ?_
  refine aE ?_
  refine awp_seq ?_
  refine awp_seq ?_
  refine awp_region ?_
  refine aR 1 ?_
  refine aL api_Fix.enc ql ?_
  refine aR 1 ?_
  refine aE ?_
  refine awp_block ?_
  refine awp_to (st' := fleetref2_FixLines_x1_H ql (([] : List UInt8), 0)) (oT [] []) ?_
  refine bE hF fun vout1_1 h11 hF => ?_
  refine awp_sub (awp_loop' (fleetref2_FixLines_x1_H ql) fleetref2_FixLines_x1_k (fleetref2_FixLines_x1_S ql) (by intro x; exact fun h => nomatch h) h11 (fleetref2_FixLines_x1_ok ql)) ?_
  refine awp_seq ?_
  refine awp_region ?_
  refine aR 2 ?_
  refine aE ?_
  refine awp_ret ?_
  exact oF hF [] []

/-! ### (*beaconfleet/fleetmake.Stream).Changed -/
def fleetmake_Stream_Changed_x1_k : Bool → AEx
  | _ => .normal

def fleetmake_Stream_Changed_x1_S (qs : fleetmake_Stream) (qt : List UInt8) (qwith : List UInt8) : Bool → St
  | vx => Mem.st ⟨[], [(0, [.d (.lst (List.map (encI .i64) qs.L)), .d (.int .i64 qs.at_)])]⟩ (tl [(0, .v (.one (.box 0 0))), (1, .v (.one (.d (.str qt)))), (2, .v (.one (.d (.str qwith)))), (14, .v (.one (.d (.bool vx))))]) 1

def fleetmake_Stream_Changed_x1_I (qs : fleetmake_Stream) (qt : List UInt8) (qwith : List UInt8) : St := Mem.st ⟨[], [(0, [.d (.lst (List.map (encI .i64) qs.L)), .d (.int .i64 qs.at_)])]⟩ (tl [(0, .v (.one (.box 0 0))), (1, .v (.one (.d (.str qt)))), (2, .v (.one (.d (.str qwith))))]) 1

theorem fleetmake_Stream_Changed_x1_ok (qs : fleetmake_Stream) (qt : List UInt8) (qwith : List UInt8) {r} (hF : fleetmake_Stream_Changed_x1 qt qwith = some r) : Awp prog 1 63 (cL (cL (cR (cB f53)))) (Out 1 fleetmake_Stream_Changed_x1_k (fleetmake_Stream_Changed_x1_S qs qt qwith) r) (fleetmake_Stream_Changed_x1_I qs qt qwith) := by
  unfold fleetmake_Stream_Changed_x1 at hF
  refine cE hF (fun h1 hF => ?_) fun h1 hF => ?_
  · refine awp_region ?_
    refine aR 1 ?_
    refine aB h1 ?_
    refine aR 4 ?_
    refine aE ?_
    exact oO hF [] [] rfl
  · refine awp_region ?_
    refine aR 1 ?_
    refine aB h1 ?_
    refine aR 4 ?_
    refine aE ?_
    exact oO hF [] [] rfl

def fleetmake_Stream_Changed_R (qs : fleetmake_Stream) (qt : List UInt8) (qwith : List UInt8) (r : fleetmake_Stream × (List UInt8)) : TV × Mem := (.v (.one (.d (.str r.2))), ⟨[], [(0, [.d (.lst (List.map (encI .i64) r.1.L)), .d (.int .i64 r.1.at_)])]⟩)

theorem fleetmake_Stream_Changed_ok {qs : fleetmake_Stream} {qt : List UInt8} {qwith : List UInt8} {r} (hF : fleetmake_Stream_Changed qs qt qwith = some r) : Holds prog 53 [.v (.one (.box 0 0)), .v (.one (.d (.str qt))), .v (.one (.d (.str qwith)))] ⟨[], [(0, [.d (.lst (List.map (encI .i64) qs.L)), .d (.int .i64 qs.at_)])]⟩ (Is (fleetmake_Stream_Changed_R qs qt qwith r)) := by
  unfold fleetmake_Stream_Changed at hF
  refine holds_of_awp hΓ (fn := f53) (c := cB f53) (A := 1) (nx := 1) (by kernel_rfl) (by kernel_rfl) (by kernel_rfl) (by kernel_rfl) (by kernel_rfl) (by kernel_rfl) (lowc_of (by kernel_rfl)) ?_
  show Awp prog 1 63 (cB f53) _ _
  refine awp_seq ?_
  refine awp_region ?_
  refine aR 1 ?_
  refine aE ?_
  refine awp_seq ?_
  refine awp_seq ?_
  refine awp_to (st' := fleetmake_Stream_Changed_x1_I qs qt qwith) (oT [] []) ?_
  refine bE hF fun vx1 h2 hF => ?_
  refine awp_sub (fleetmake_Stream_Changed_x1_ok qs qt qwith h2) ?_
  refine cE hF (fun h3 hF => ?_) fun h3 hF => ?_
  · refine awp_true (by kernel_rfl) h3 ?_
    refine awp_seq ?_
    refine awp_region ?_
    refine aR 2 ?_
    refine aE ?_
    refine awp_ret ?_
    exact oF hF [] []
  · refine awp_false (by kernel_rfl) h3 ?_
    refine awp_skip ?_
    refine awp_seq ?_
    refine bE hF fun vr3 h4 hF => ?_
    refine awp_region ?_
    refine aR 3 ?_
    refine aC (fleetmake_Stream_Next_ok h4) [] [] [] ?_
    refine aR 1 ?_
    refine aE ?_
    refine awp_seq ?_
    refine bE hF fun vr3_1 h5 hF => ?_
    refine bE hF fun vc h6 hF => ?_
    refine awp_region ?_
    refine aR 4 ?_
    refine aC (fleetmake_Stream_Next_ok h5) [] [] [] ?_
    refine aX (x_idxS h6) ?_
    refine aR 1 ?_
    refine aE ?_
    refine awp_seq ?_
    refine awp_seq ?_
    refine bE hF fun vr3_2 h7 hF => ?_
    refine awp_region ?_
    refine aR 1 ?_
    refine aC (fleetmake_Stream_Next_ok h7) [] [] [] ?_
    refine aE ?_
    refine awp_block ?_
    refine awp_seq ?_
    refine awp_region ?_
    refine aR 2 ?_
    refine aE ?_
    refine cE hF (fun h8 hF => ?_) fun h8 hF => ?_
    · refine awp_true (by kernel_rfl) h8 ?_
      refine awp_seq ?_
      refine bE hF fun vs h9 hF => ?_
      refine gE hF fun h10 hF => ?_
      refine bE hF fun vs1 h11 hF => ?_
      refine gE hF fun h12 hF => ?_
      refine aD ?_
      refine dR 2 ?_
      refine dX (x_sliceS h9) ?_
      refine dR 3 ?_
      refine dX (x_cat h10) ?_
      refine dR 3 ?_
      refine dX (x_sliceS h11) ?_
      refine dX (x_cat h12) ?_
      refine dR 1 ?_
      refine dE ?_
      refine awp_ret ?_
      exact oF hF [] []
    · refine awp_false (by kernel_rfl) h8 ?_
      refine awp_seq ?_
      refine awp_region ?_
      refine aR 2 ?_
      refine aE ?_
      refine cE hF (fun h13 hF => ?_) fun h13 hF => ?_
      · refine awp_true (by kernel_rfl) h13 ?_
        refine awp_seq ?_
        refine bE hF fun vs2 h14 hF => ?_
        refine gE hF fun h15 hF => ?_
        refine bE hF fun vs3 h16 hF => ?_
        refine gE hF fun h17 hF => ?_
        refine aD ?_
        refine dR 2 ?_
        refine dX (x_sliceS h14) ?_
        refine dR 3 ?_
        refine dX (x_cat h15) ?_
        refine dR 2 ?_
        refine dX (x_sliceS h16) ?_
        refine dX (x_cat h17) ?_
        refine dR 1 ?_
        refine dE ?_
        refine awp_ret ?_
        exact oF hF [] []
      · refine awp_false (by kernel_rfl) h13 ?_
        refine awp_skip ?_
        refine awp_seq ?_
        refine bE hF fun vs4 h18 hF => ?_
        refine bE hF fun vs5 h19 hF => ?_
        refine gE hF fun h20 hF => ?_
        refine aD ?_
        refine dR 2 ?_
        refine dX (x_sliceS h18) ?_
        refine dR 3 ?_
        refine dX (x_sliceS h19) ?_
        refine dX (x_cat h20) ?_
        refine dR 1 ?_
        refine dE ?_
        refine awp_ret ?_
        exact oF hF [] []

/-! ### (*beaconfleet/fleetmake.Stream).FixText -/
def fleetmake_Stream_FixText_x1_k : (fleetmake_Stream × (List UInt8)) → AEx
  | _ => .normal

def fleetmake_Stream_FixText_x1_S (qs : fleetmake_Stream) : (fleetmake_Stream × (List UInt8)) → St
  | (vs1, vt) => Mem.st ⟨[], [(0, [.d (.lst (List.map (encI .i64) vs1.L)), .d (.int .i64 vs1.at_)])]⟩ (tl [(0, .v (.one (.box 0 0))), (3, .v (.one (.d (.str vt))))]) 1

def fleetmake_Stream_FixText_x1_I (qs : fleetmake_Stream) : St := Mem.st ⟨[], [(0, [.d (.lst (List.map (encI .i64) qs.L)), .d (.int .i64 qs.at_)])]⟩ (tl [(0, .v (.one (.box 0 0))), (3, .v (.one (.d (.str ([] : List UInt8)))))]) 1

theorem fleetmake_Stream_FixText_x1_ok (qs : fleetmake_Stream) {r} (hF : fleetmake_Stream_FixText_x1 qs = some r) : Awp prog 1 24 (cL (cR (cR (cB f9)))) (Out 1 fleetmake_Stream_FixText_x1_k (fleetmake_Stream_FixText_x1_S qs) r) (fleetmake_Stream_FixText_x1_I qs) := by
  unfold fleetmake_Stream_FixText_x1 at hF
  refine awp_seq ?_
  refine bE hF fun x h1 hF => ?_
  obtain ⟨vs, vr⟩ := x
  refine bE hF fun x h2 hF => ?_
  obtain ⟨vs4, vr11⟩ := x
  refine awp_region ?_
  refine aR 2 ?_
  refine aC (fleetmake_Stream_Range_ok h1) [] [] [] ?_
  refine aC (fleetmake_Stream_Fixes_ok h2) [] [] [] ?_
  refine aR 1 ?_
  refine aE ?_
  refine awp_to (oT (m := ⟨[], [(0, [.d (.lst (List.map (encI .i64) vs4.L)), .d (.int .i64 vs4.at_)])]⟩) (ts := [(0, .v (.one (.box 0 0))), (3, .v (.one (.d (.str ([] : List UInt8))))), (4, .v (.one (.d (.lst (List.map api_Fix.enc vr11)))))]) (nx := 1) [] []) ?_
  refine awp_seq ?_
  refine bE hF fun vr5 h3 hF => ?_
  refine awp_region ?_
  refine aR 1 ?_
  refine aC (fleetref2_FixesFault_ok h3) [] [] [] ?_
  refine aR 1 ?_
  refine aE ?_
  refine cE hF (fun h4 hF => ?_) fun h4 hF => ?_
  · refine awp_true (by kernel_rfl) h4 ?_
    refine bE hF fun vr6 h5 hF => ?_
    refine awp_region ?_
    refine aR 1 ?_
    refine aC (fleetref2_FixLines_ok h5) [] [] [] ?_
    refine aR 1 ?_
    refine aE ?_
    exact oO hF [] [] rfl
  · refine awp_false (by kernel_rfl) h4 ?_
    refine awp_skip ?_
    exact oO hF [] [] rfl

def fleetmake_Stream_FixText_x2_k : (fleetmake_Stream × (List UInt8)) → AEx
  | _ => .exit 0

def fleetmake_Stream_FixText_x2_S (vr1 : Int) : (fleetmake_Stream × (List UInt8)) → St
  | (vs3, vt3) => Mem.st ⟨[], [(0, [.d (.lst (List.map (encI .i64) vs3.L)), .d (.int .i64 vs3.at_)])]⟩ (tl [(3, .v (.one (.d (.str vt3))))]) 1

def fleetmake_Stream_FixText_x2_H (vr1 : Int) : fleetmake_Stream × (List UInt8) × Int → St
  | (vs2, vt2, vx) => Mem.st ⟨[], [(0, [.d (.lst (List.map (encI .i64) vs2.L)), .d (.int .i64 vs2.at_)])]⟩ (tl [(0, .v (.one (.box 0 0))), (3, .v (.one (.d (.str vt2)))), (16, .v (.one (.d (.int .i64 vr1)))), (17, .v (.one (.d (.int .i64 vx))))]) 1

theorem fleetmake_Stream_FixText_x2_ok (vr1 : Int) (s : fleetmake_Stream × (List UInt8) × Int) (r : (fleetmake_Stream × (List UInt8) × Int) ⊕ ((fleetmake_Stream × (List UInt8)))) (hF : fleetmake_Stream_FixText_x2 vr1 s = some r) : Awp prog 1 24 (cL (cL (cR (cL (cR (cR (cR (cB f9)))))))) (Out 1 (kk fleetmake_Stream_FixText_x2_k) (SS (fleetmake_Stream_FixText_x2_H vr1) (fleetmake_Stream_FixText_x2_S vr1)) r) (fleetmake_Stream_FixText_x2_H vr1 s) := by
  obtain ⟨vs2, vt2, vx⟩ := s
  unfold fleetmake_Stream_FixText_x2 at hF
  refine awp_seq ?_
  refine awp_region ?_
  refine aR 1 ?_
  refine aE ?_
  refine awp_seq ?_
  refine cE hF (fun h8 hF => ?_) fun h8 hF => ?_
  · refine awp_true (by kernel_rfl) h8 ?_
    refine awp_skip ?_
    refine awp_seq ?_
    refine awp_block ?_
    refine bE hF fun x h9 hF => ?_
    obtain ⟨vs6_1, vr3⟩ := x
    refine awp_region ?_
    refine aR 2 ?_
    refine aC (fleetmake_Stream_Changed_ok h9) [] [] [] ?_
    refine aR 1 ?_
    refine aE ?_
    refine awp_region ?_
    refine aR 2 ?_
    refine aE ?_
    exact oO hF [] [] rfl
  · refine awp_false (by kernel_rfl) h8 ?_
    refine awp_exit ?_
    exact oO hF [] [] rfl

def fleetmake_Stream_FixText_R (qs : fleetmake_Stream) (r : fleetmake_Stream × (List UInt8)) : TV × Mem := (.v (.one (.d (.str r.2))), ⟨[], [(0, [.d (.lst (List.map (encI .i64) r.1.L)), .d (.int .i64 r.1.at_)])]⟩)

theorem fleetmake_Stream_FixText_ok {qs : fleetmake_Stream} {r} (hF : fleetmake_Stream_FixText qs = some r) : Holds prog 9 [.v (.one (.box 0 0))] ⟨[], [(0, [.d (.lst (List.map (encI .i64) qs.L)), .d (.int .i64 qs.at_)])]⟩ (Is (fleetmake_Stream_FixText_R qs r)) := by
  unfold fleetmake_Stream_FixText at hF
  refine holds_of_awp hΓ (fn := f9) (c := cB f9) (A := 1) (nx := 1) (by kernel_rfl) (by kernel_rfl) (by kernel_rfl) (by kernel_rfl) (by kernel_rfl) (by kernel_rfl) (lowc_of (by kernel_rfl)) ?_
  show Awp prog 1 24 (cB f9) _ _
  refine awp_seq ?_
  refine awp_region ?_
  refine aR 1 ?_
  refine aE ?_
  refine awp_seq ?_
  refine awp_region ?_
  refine aR 1 ?_
  refine aE ?_
  refine awp_seq ?_
  refine awp_to (st' := fleetmake_Stream_FixText_x1_I qs) (oT [] []) ?_
  refine bE hF fun x h6 hF => ?_
  obtain ⟨vs1_1, vt1⟩ := x
  refine awp_sub (fleetmake_Stream_FixText_x1_ok qs h6) ?_
  refine awp_seq ?_
  refine awp_seq ?_
  refine bE hF fun vr1 h7 hF => ?_
  refine awp_region ?_
  refine aR 2 ?_
  refine aC (fleetmake_Stream_Pick_o1_ok h7) [(1, 1001)] [] [] ?_
  refine aR 1 ?_
  refine aE ?_
  refine awp_block ?_
  refine awp_to (st' := fleetmake_Stream_FixText_x2_H vr1 (fleetmake_Stream.mk vs1_1.L (IntKind.wrap .i64 (vs1_1.at_ + 1)), vt1, 0)) (oT [] []) ?_
  refine bE hF fun x h10 hF => ?_
  obtain ⟨vs3_1, vt3_1⟩ := x
  refine awp_sub (awp_loop' (fleetmake_Stream_FixText_x2_H vr1) fleetmake_Stream_FixText_x2_k (fleetmake_Stream_FixText_x2_S vr1) (by intro x; exact fun h => nomatch h) h10 (fleetmake_Stream_FixText_x2_ok vr1)) ?_
  refine awp_seq ?_
  refine awp_region ?_
  refine aR 2 ?_
  refine aE ?_
  refine awp_ret ?_
  exact oF hF [] []

/-! ### beaconfleet/base.Key -/
def base_Key_x1_k : Bool → AEx
  | _ => .normal

def base_Key_x1_S (qs : List UInt8) : Bool → St
  | vx => Mem.st ⟨[], []⟩ (tl [(0, .v (.one (.d (.str qs)))), (21, .v (.one (.d (.bool vx))))]) 0

def base_Key_x1_I (qs : List UInt8) : St := Mem.st ⟨[], []⟩ (tl [(0, .v (.one (.d (.str qs))))]) 0

theorem base_Key_x1_ok (qs : List UInt8) {r} (hF : base_Key_x1 qs = some r) : Awp prog 0 54 (cL (cL (cR (cB f118)))) (Out 0 base_Key_x1_k (base_Key_x1_S qs) r) (base_Key_x1_I qs) := by
  unfold base_Key_x1 at hF
  refine cE hF (fun h1 hF => ?_) fun h1 hF => ?_
  · refine awp_region ?_
    refine aR 1 ?_
    refine aB h1 ?_
    refine aR 15 ?_
    refine aE ?_
    exact oO hF [] [] rfl
  · refine cE hF (fun h2 hF => ?_) fun h2 hF => ?_
    · refine awp_region ?_
      refine aR 1 ?_
      refine aB h1 ?_
      refine aR 3 ?_
      refine aB h2 ?_
      refine aR 11 ?_
      refine aE ?_
      exact oO hF [] [] rfl
    · refine bE hF fun vc h3 hF => ?_
      refine cE hF (fun h4 hF => ?_) fun h4 hF => ?_
      · refine awp_region ?_
        refine aR 1 ?_
        refine aB h1 ?_
        refine aR 3 ?_
        refine aB h2 ?_
        refine aR 3 ?_
        refine aX (x_idxS h3) ?_
        refine aB h4 ?_
        refine aR 6 ?_
        refine aE ?_
        exact oO hF [] [] rfl
      · refine awp_region ?_
        refine aR 1 ?_
        refine aB h1 ?_
        refine aR 3 ?_
        refine aB h2 ?_
        refine aR 3 ?_
        refine aX (x_idxS h3) ?_
        refine aB h4 ?_
        refine aR 3 ?_
        refine aX (x_idxS h3) ?_
        refine aR 2 ?_
        refine aE ?_
        exact oO hF [] [] rfl

def base_Key_x3_k : Bool → AEx
  | _ => .normal

def base_Key_x3_S (qs : List UInt8) (vx2 : Int) (vc2 : UInt8) : Bool → St
  | vx4 => Mem.st ⟨[], []⟩ (tl [(0, .v (.one (.d (.str qs)))), (23, .v (.one (.d (.int .i64 (qs.length : Int))))), (24, .v (.one (.d (.int .i64 vx2)))), (52, .v (.one (.d (.bool vx4))))]) 0

def base_Key_x3_I (qs : List UInt8) (vx2 : Int) (vc2 : UInt8) : St := Mem.st ⟨[], []⟩ (tl [(0, .v (.one (.d (.str qs)))), (4, .v (.one (.d (.int .u8 (vc2.toNat : Int))))), (23, .v (.one (.d (.int .i64 (qs.length : Int))))), (24, .v (.one (.d (.int .i64 vx2))))]) 0

theorem base_Key_x3_ok (qs : List UInt8) (vx2 : Int) (vc2 : UInt8) {r} (hF : base_Key_x3 vc2 = some r) : Awp prog 0 54 (cL (cR (cR (cL (cL (cR (cR (cL (cL (cR (cL (cR (cR (cB f118)))))))))))))) (Out 0 base_Key_x3_k (base_Key_x3_S qs vx2 vc2) r) (base_Key_x3_I qs vx2 vc2) := by
  unfold base_Key_x3 at hF
  refine cE hF (fun h9 hF => ?_) fun h9 hF => ?_
  · refine cE hF (fun h10 hF => ?_) fun h10 hF => ?_
    · refine awp_region ?_
      refine aR 1 ?_
      refine aB h9 ?_
      refine aR 2 ?_
      refine aB h10 ?_
      refine aR 18 ?_
      refine aE ?_
      exact oO hF [] [] rfl
    · refine cE hF (fun h11 hF => ?_) fun h11 hF => ?_
      · refine cE hF (fun h12 hF => ?_) fun h12 hF => ?_
        · refine awp_region ?_
          refine aR 1 ?_
          refine aB h9 ?_
          refine aR 2 ?_
          refine aB h10 ?_
          refine aR 3 ?_
          refine aB h11 ?_
          refine aR 2 ?_
          refine aB h12 ?_
          refine aR 11 ?_
          refine aE ?_
          exact oO hF [] [] rfl
        · refine cE hF (fun h13 hF => ?_) fun h13 hF => ?_
          · refine awp_region ?_
            refine aR 1 ?_
            refine aB h9 ?_
            refine aR 2 ?_
            refine aB h10 ?_
            refine aR 3 ?_
            refine aB h11 ?_
            refine aR 2 ?_
            refine aB h12 ?_
            refine aR 4 ?_
            refine aB h13 ?_
            refine aR 6 ?_
            refine aE ?_
            exact oO hF [] [] rfl
          · refine awp_region ?_
            refine aR 1 ?_
            refine aB h9 ?_
            refine aR 2 ?_
            refine aB h10 ?_
            refine aR 3 ?_
            refine aB h11 ?_
            refine aR 2 ?_
            refine aB h12 ?_
            refine aR 4 ?_
            refine aB h13 ?_
            refine aR 6 ?_
            refine aE ?_
            exact oO hF [] [] rfl
      · refine cE hF (fun h14 hF => ?_) fun h14 hF => ?_
        · refine awp_region ?_
          refine aR 1 ?_
          refine aB h9 ?_
          refine aR 2 ?_
          refine aB h10 ?_
          refine aR 3 ?_
          refine aB h11 ?_
          refine aR 7 ?_
          refine aB h14 ?_
          refine aR 6 ?_
          refine aE ?_
          exact oO hF [] [] rfl
        · refine awp_region ?_
          refine aR 1 ?_
          refine aB h9 ?_
          refine aR 2 ?_
          refine aB h10 ?_
          refine aR 3 ?_
          refine aB h11 ?_
          refine aR 7 ?_
          refine aB h14 ?_
          refine aR 6 ?_
          refine aE ?_
          exact oO hF [] [] rfl
  · refine cE hF (fun h15 hF => ?_) fun h15 hF => ?_
    · refine cE hF (fun h16 hF => ?_) fun h16 hF => ?_
      · refine awp_region ?_
        refine aR 1 ?_
        refine aB h9 ?_
        refine aR 6 ?_
        refine aB h15 ?_
        refine aR 2 ?_
        refine aB h16 ?_
        refine aR 11 ?_
        refine aE ?_
        exact oO hF [] [] rfl
      · refine cE hF (fun h17 hF => ?_) fun h17 hF => ?_
        · refine awp_region ?_
          refine aR 1 ?_
          refine aB h9 ?_
          refine aR 6 ?_
          refine aB h15 ?_
          refine aR 2 ?_
          refine aB h16 ?_
          refine aR 4 ?_
          refine aB h17 ?_
          refine aR 6 ?_
          refine aE ?_
          exact oO hF [] [] rfl
        · refine awp_region ?_
          refine aR 1 ?_
          refine aB h9 ?_
          refine aR 6 ?_
          refine aB h15 ?_
          refine aR 2 ?_
          refine aB h16 ?_
          refine aR 4 ?_
          refine aB h17 ?_
          refine aR 6 ?_
          refine aE ?_
          exact oO hF [] [] rfl
    · refine cE hF (fun h18 hF => ?_) fun h18 hF => ?_
      · refine awp_region ?_
        refine aR 1 ?_
        refine aB h9 ?_
        refine aR 6 ?_
        refine aB h15 ?_
        refine aR 7 ?_
        refine aB h18 ?_
        refine aR 6 ?_
        refine aE ?_
        exact oO hF [] [] rfl
      · refine awp_region ?_
        refine aR 1 ?_
        refine aB h9 ?_
        refine aR 6 ?_
        refine aB h15 ?_
        refine aR 7 ?_
        refine aB h18 ?_
        refine aR 6 ?_
        refine aE ?_
        exact oO hF [] [] rfl

def base_Key_x2_k : Unit ⊕ Unit → AEx
  | .inl _ => .exit 0
  | .inr _ => .ret

def base_Key_x2_S (qs : List UInt8) : Unit ⊕ Unit → St
  | .inl _ => Mem.st ⟨[], []⟩ (tl []) 0
  | .inr _ => Mem.st ⟨[], []⟩ (tl [(2, .v (.one (.d (.bool false))))]) 0

def base_Key_x2_H (qs : List UInt8) : Int → St
  | vx2 => Mem.st ⟨[], []⟩ (tl [(0, .v (.one (.d (.str qs)))), (23, .v (.one (.d (.int .i64 (qs.length : Int))))), (24, .v (.one (.d (.int .i64 vx2))))]) 0

theorem base_Key_x2_ok (qs : List UInt8) (vx2 : Int) (r : (Int) ⊕ (Unit ⊕ Unit)) (hF : base_Key_x2 qs vx2 = some r) : Awp prog 0 54 (cL (cL (cR (cL (cR (cR (cB f118))))))) (Out 0 (kk base_Key_x2_k) (SS (base_Key_x2_H qs) (base_Key_x2_S qs)) r) (base_Key_x2_H qs vx2) := by
  unfold base_Key_x2 at hF
  refine awp_seq ?_
  refine awp_region ?_
  refine aR 1 ?_
  refine aE ?_
  refine awp_seq ?_
  refine cE hF (fun h7 hF => ?_) fun h7 hF => ?_
  · refine awp_true (by kernel_rfl) h7 ?_
    refine awp_skip ?_
    refine awp_seq ?_
    refine awp_block ?_
    refine awp_seq ?_
    refine awp_region ?_
    refine aR 2 ?_
    refine aE ?_
    refine awp_seq ?_
    refine bE hF fun vc2 h8 hF => ?_
    refine awp_region ?_
    refine aR 2 ?_
    refine aX (x_idxS h8) ?_
    refine aR 1 ?_
    refine aE ?_
    refine awp_seq ?_
    refine awp_to (st' := base_Key_x3_I qs vx2 vc2) (oT [] []) ?_
    refine bE hF fun vx4_1 h19 hF => ?_
    refine awp_sub (base_Key_x3_ok qs vx2 vc2 h19) ?_
    refine cE hF (fun h20 hF => ?_) fun h20 hF => ?_
    · refine awp_true (by kernel_rfl) h20 ?_
      refine awp_seq ?_
      refine awp_region ?_
      refine aR 1 ?_
      refine aE ?_
      refine awp_ret ?_
      exact oO hF [] [] rfl
    · refine awp_false (by kernel_rfl) h20 ?_
      refine awp_skip ?_
      refine awp_region ?_
      refine aR 2 ?_
      refine aE ?_
      exact oO hF [] [] rfl
  · refine awp_false (by kernel_rfl) h7 ?_
    refine awp_exit ?_
    exact oO hF [] [] rfl

def base_Key_R (qs : List UInt8) (r : Bool) : TV × Mem := (.v (.one (.d (.bool r))), ⟨[], []⟩)

theorem base_Key_ok {qs : List UInt8} {r} (hF : base_Key qs = some r) : Holds prog 118 [.v (.one (.d (.str qs)))] ⟨[], []⟩ (Is (base_Key_R qs r)) := by
  unfold base_Key at hF
  refine holds_of_awp hΓ (fn := f118) (c := cB f118) (A := 0) (nx := 0) (by kernel_rfl) (by kernel_rfl) (by kernel_rfl) (by kernel_rfl) (by kernel_rfl) (by kernel_rfl) (lowc_of (by kernel_rfl)) ?_
  show Awp prog 0 54 (cB f118) _ _
  refine awp_seq ?_
  refine awp_region ?_
  refine aR 1 ?_
  refine aE ?_
  refine awp_seq ?_
  refine awp_seq ?_
  refine awp_to (st' := base_Key_x1_I qs) (oT [] []) ?_
  refine bE hF fun vx1 h5 hF => ?_
  refine awp_sub (base_Key_x1_ok qs h5) ?_
  refine cE hF (fun h6 hF => ?_) fun h6 hF => ?_
  · refine awp_true (by kernel_rfl) h6 ?_
    refine awp_seq ?_
    refine awp_region ?_
    refine aR 1 ?_
    refine aE ?_
    refine awp_ret ?_
    exact oF hF [] []
  · refine awp_false (by kernel_rfl) h6 ?_
    refine awp_skip ?_
    refine awp_seq ?_
    refine awp_seq ?_
    refine awp_region ?_
    refine aR 3 ?_
    refine aE ?_
    refine awp_block ?_
    refine awp_to (st' := base_Key_x2_H qs 0) (oT [] []) ?_
    refine bE hF fun x h21 hF => ?_
    rcases x with _ | _
    · refine awp_sub (awp_loop' (base_Key_x2_H qs) base_Key_x2_k (base_Key_x2_S qs) (by intro x; rcases x with x | x <;> exact fun h => nomatch h) h21 (base_Key_x2_ok qs)) ?_
      refine awp_seq ?_
      refine awp_region ?_
      refine aR 1 ?_
      refine aE ?_
      refine awp_ret ?_
      exact oF hF [] []
    · refine awp_sub (awp_loop' (base_Key_x2_H qs) base_Key_x2_k (base_Key_x2_S qs) (by intro x; rcases x with x | x <;> exact fun h => nomatch h) h21 (base_Key_x2_ok qs)) ?_
      exact oF hF [] []

/-! ### beaconfleet/base.Out -/
def base_Out_x1_k : Bool → AEx
  | _ => .normal

def base_Out_x1_S (qn : Int) (qlow : Int) (qhigh : Int) : Bool → St
  | vx => Mem.st ⟨[], []⟩ (tl [(6, .v (.one (.d (.bool vx))))]) 0

def base_Out_x1_I (qn : Int) (qlow : Int) (qhigh : Int) : St := Mem.st ⟨[], []⟩ (tl [(0, .v (.one (.d (.int .i64 qn)))), (1, .v (.one (.d (.int .i64 qlow)))), (2, .v (.one (.d (.int .i64 qhigh))))]) 0

theorem base_Out_x1_ok (qn : Int) (qlow : Int) (qhigh : Int) {r} (hF : base_Out_x1 qn qlow qhigh = some r) : Awp prog 0 15 (cL (cR (cB f122))) (Out 0 base_Out_x1_k (base_Out_x1_S qn qlow qhigh) r) (base_Out_x1_I qn qlow qhigh) := by
  unfold base_Out_x1 at hF
  refine cE hF (fun h1 hF => ?_) fun h1 hF => ?_
  · refine awp_region ?_
    refine aR 2 ?_
    refine aB h1 ?_
    refine aR 6 ?_
    refine aE ?_
    exact oO hF [] [] rfl
  · refine awp_region ?_
    refine aR 2 ?_
    refine aB h1 ?_
    refine aR 6 ?_
    refine aE ?_
    exact oO hF [] [] rfl

def base_Out_R (qn : Int) (qlow : Int) (qhigh : Int) (r : Bool) : TV × Mem := (.v (.one (.d (.bool r))), ⟨[], []⟩)

theorem base_Out_ok {qn : Int} {qlow : Int} {qhigh : Int} {r} (hF : base_Out qn qlow qhigh = some r) : Holds prog 122 [.v (.one (.d (.int .i64 qn))), .v (.one (.d (.int .i64 qlow))), .v (.one (.d (.int .i64 qhigh)))] ⟨[], []⟩ (Is (base_Out_R qn qlow qhigh r)) := by
  unfold base_Out at hF
  refine holds_of_awp hΓ (fn := f122) (c := cB f122) (A := 0) (nx := 0) (by kernel_rfl) (by kernel_rfl) (by kernel_rfl) (by kernel_rfl) (by kernel_rfl) (by kernel_rfl) (lowc_of (by kernel_rfl)) ?_
  show Awp prog 0 15 (cB f122) _ _
  refine awp_seq ?_
  refine awp_region ?_
  refine aR 1 ?_
  refine aE ?_
  refine awp_seq ?_
  refine awp_to (st' := base_Out_x1_I qn qlow qhigh) (oT [] []) ?_
  refine bE hF fun vx1 h2 hF => ?_
  refine awp_sub (base_Out_x1_ok qn qlow qhigh h2) ?_
  refine awp_ret ?_
  exact oF hF [] []

/-! ### beaconfleet/base.Moment -/
def base_Moment_R (qn : Int) (r : Bool) : TV × Mem := (.v (.one (.d (.bool r))), ⟨[], []⟩)

theorem base_Moment_ok {qn : Int} {r} (hF : base_Moment qn = some r) : Holds prog 119 [.v (.one (.d (.int .i64 qn)))] ⟨[], []⟩ (Is (base_Moment_R qn r)) := by
  unfold base_Moment at hF
  refine holds_of_awp hΓ (fn := f119) (c := cB f119) (A := 0) (nx := 0) (by kernel_rfl) (by kernel_rfl) (by kernel_rfl) (by kernel_rfl) (by kernel_rfl) (by kernel_rfl) (lowc_of (by kernel_rfl)) ?_
  show Awp prog 0 6 (cB f119) _ _
  refine awp_seq ?_
  refine awp_region ?_
  refine aR 1 ?_
  refine aE ?_
  refine awp_seq ?_
  refine bE hF fun vr h1 hF => ?_
  refine awp_region ?_
  refine aR 1 ?_
  refine aC (base_Out_ok h1) [] [] [] ?_
  refine aR 2 ?_
  refine aE ?_
  refine awp_ret ?_
  exact oF hF [] []

/-! ### beaconfleet/place.spot -/
def place_spot_R (qx : api_Fix) (r : Unit) : TV × Mem := (.v (.agg [.d (.int .i64 qx.X), .d (.int .i64 qx.Y)]), ⟨[], []⟩)

theorem place_spot_ok {qx : api_Fix} {r} (hF : place_spot qx = some r) : Holds prog 121 [.v (.agg [.d (.str qx.Device), .d (.int .i64 qx.At), .d (.int .i64 qx.X), .d (.int .i64 qx.Y), .d (.int .i64 qx.Error)])] ⟨[], []⟩ (Is (place_spot_R qx r)) := by
  unfold place_spot at hF
  refine holds_of_awp hΓ (fn := f121) (c := cB f121) (A := 0) (nx := 0) (by kernel_rfl) (by kernel_rfl) (by kernel_rfl) (by kernel_rfl) (by kernel_rfl) (by kernel_rfl) (lowc_of (by kernel_rfl)) ?_
  show Awp prog 0 8 (cB f121) _ _
  refine awp_seq ?_
  refine awp_region ?_
  refine aR 2 ?_
  refine aE ?_
  refine awp_seq ?_
  refine awp_region ?_
  refine aR 6 ?_
  refine aE ?_
  refine awp_ret ?_
  exact oF hF [] []

/-! ### beaconfleet/place.isSpot -/
def place_isSpot_x1_k : Bool → AEx
  | _ => .normal

def place_isSpot_x1_S (qs : api_Spot) : Bool → St
  | vx => Mem.st ⟨[], []⟩ (tl [(2, .v (.one (.d (.bool vx))))]) 0

def place_isSpot_x1_I (qs : api_Spot) : St := Mem.st ⟨[], [(0, [.d (.int .i64 qs.X), .d (.int .i64 qs.Y)])]⟩ (tl [(1, .v (.one (.box 0 0)))]) 1

theorem place_isSpot_x1_ok (qs : api_Spot) {r} (hF : place_isSpot_x1 qs = some r) : Awp prog 0 13 (cL (cR (cB f120))) (Out 0 place_isSpot_x1_k (place_isSpot_x1_S qs) r) (place_isSpot_x1_I qs) := by
  unfold place_isSpot_x1 at hF
  refine bE hF fun vr h1 hF => ?_
  refine cE hF (fun h2 hF => ?_) fun h2 hF => ?_
  · refine bE hF fun vr1 h3 hF => ?_
    refine awp_region ?_
    refine aR 2 ?_
    refine aC (base_Out_ok h1) [] [] [] ?_
    refine aB h2 ?_
    refine aR 3 ?_
    refine aC (base_Out_ok h3) [] [] [] ?_
    refine aR 3 ?_
    refine aE ?_
    exact oO hF [] [] rfl
  · refine awp_region ?_
    refine aR 2 ?_
    refine aC (base_Out_ok h1) [] [] [] ?_
    refine aB h2 ?_
    refine aR 7 ?_
    refine aE ?_
    exact oO hF [] [] rfl

def place_isSpot_R (qs : api_Spot) (r : Bool) : TV × Mem := (.v (.one (.d (.bool r))), ⟨[], []⟩)

theorem place_isSpot_ok {qs : api_Spot} {r} (hF : place_isSpot qs = some r) : Holds prog 120 [.v (.agg [.d (.int .i64 qs.X), .d (.int .i64 qs.Y)])] ⟨[], []⟩ (Is (place_isSpot_R qs r)) := by
  unfold place_isSpot at hF
  refine holds_of_awp hΓ (fn := f120) (c := cB f120) (A := 0) (nx := 0) (by kernel_rfl) (by kernel_rfl) (by kernel_rfl) (by kernel_rfl) (by kernel_rfl) (by kernel_rfl) (lowc_of (by kernel_rfl)) ?_
  show Awp prog 0 13 (cB f120) _ _
  refine awp_seq ?_
  refine awp_region ?_
  refine aR 2 ?_
  refine aE ?_
  refine awp_seq ?_
  refine awp_to (st' := place_isSpot_x1_I qs) (oT [] []) ?_
  refine bE hF fun vx1 h4 hF => ?_
  refine awp_sub (place_isSpot_x1_ok qs h4) ?_
  refine awp_ret ?_
  exact oF hF [] []

/-! ### cmp.isNaN[int] -/
def cmp_isNaN_int_R (qx : Int) (r : Unit) : TV × Mem := (.v (.one (.d (.bool (!decide (qx = qx))))), ⟨[], []⟩)

theorem cmp_isNaN_int_ok {qx : Int} {r} (hF : cmp_isNaN_int qx = some r) : Holds prog 211 [.v (.one (.d (.int .i64 qx)))] ⟨[], []⟩ (Is (cmp_isNaN_int_R qx r)) := by
  unfold cmp_isNaN_int at hF
  refine holds_of_awp hΓ (fn := f211) (c := cB f211) (A := 0) (nx := 0) (by kernel_rfl) (by kernel_rfl) (by kernel_rfl) (by kernel_rfl) (by kernel_rfl) (by kernel_rfl) (lowc_of (by kernel_rfl)) ?_
  show Awp prog 0 6 (cB f211) _ _
  refine awp_seq ?_
  refine awp_region ?_
  refine aR 1 ?_
  refine aE ?_
  refine awp_seq ?_
  refine awp_region ?_
  refine aR 4 ?_
  refine aE ?_
  refine awp_ret ?_
  exact oF hF [] []

/-! ### cmp.Compare[int] -/
def cmp_Compare_int_R (qx : Int) (qy : Int) (r : Int) : TV × Mem := (.v (.one (.d (.int .i64 r))), ⟨[], []⟩)

theorem cmp_Compare_int_ok {qx : Int} {qy : Int} {r} (hF : cmp_Compare_int qx qy = some r) : Holds prog 169 [.v (.one (.d (.int .i64 qx))), .v (.one (.d (.int .i64 qy)))] ⟨[], []⟩ (Is (cmp_Compare_int_R qx qy r)) := by
  unfold cmp_Compare_int at hF
  refine holds_of_awp hΓ (fn := f169) (c := cB f169) (A := 0) (nx := 0) (by kernel_rfl) (by kernel_rfl) (by kernel_rfl) (by kernel_rfl) (by kernel_rfl) (by kernel_rfl) (lowc_of (by kernel_rfl)) ?_
  show Awp prog 0 20 (cB f169) _ _
  refine awp_seq ?_
  refine awp_region ?_
  refine aR 1 ?_
  refine aE ?_
  refine awp_seq ?_
  refine bE hF fun _ h1 hF => ?_
  refine awp_region ?_
  refine aR 1 ?_
  refine aC (cmp_isNaN_int_ok h1) [] [] [] ?_
  refine aR 1 ?_
  refine aE ?_
  refine awp_seq ?_
  refine bE hF fun _ h2 hF => ?_
  refine awp_region ?_
  refine aR 1 ?_
  refine aC (cmp_isNaN_int_ok h2) [] [] [] ?_
  refine aR 1 ?_
  refine aE ?_
  refine awp_seq ?_
  refine awp_seq ?_
  refine awp_region ?_
  refine aR 1 ?_
  refine aE ?_
  refine cE hF (fun h3 hF => ?_) fun h3 hF => ?_
  · refine awp_true (by kernel_rfl) h3 ?_
    refine awp_seq ?_
    refine awp_seq ?_
    refine awp_region ?_
    refine aR 1 ?_
    refine aE ?_
    refine cE hF (fun h4 hF => ?_) fun h4 hF => ?_
    · refine awp_true (by kernel_rfl) h4 ?_
      refine awp_seq ?_
      refine awp_region ?_
      refine aR 1 ?_
      refine aE ?_
      refine awp_ret ?_
      exact oF hF [] []
    · refine awp_false (by kernel_rfl) h4 ?_
      refine awp_skip ?_
      refine awp_seq ?_
      refine awp_region ?_
      refine aR 1 ?_
      refine aE ?_
      refine awp_ret ?_
      exact oF hF [] []
  · refine awp_false (by kernel_rfl) h3 ?_
    refine awp_skip ?_
    refine awp_seq ?_
    refine awp_seq ?_
    refine awp_region ?_
    refine aR 1 ?_
    refine aE ?_
    refine cE hF (fun h5 hF => ?_) fun h5 hF => ?_
    · refine awp_true (by kernel_rfl) h5 ?_
      refine awp_seq ?_
      refine awp_region ?_
      refine aR 1 ?_
      refine aE ?_
      refine awp_ret ?_
      exact oF hF [] []
    · refine awp_false (by kernel_rfl) h5 ?_
      refine awp_skip ?_
      refine awp_seq ?_
      refine awp_seq ?_
      refine awp_region ?_
      refine aR 3 ?_
      refine aE ?_
      refine cE hF (fun h6 hF => ?_) fun h6 hF => ?_
      · refine awp_true (by kernel_rfl) h6 ?_
        refine awp_seq ?_
        refine awp_region ?_
        refine aR 1 ?_
        refine aE ?_
        refine awp_ret ?_
        exact oF hF [] []
      · refine awp_false (by kernel_rfl) h6 ?_
        refine awp_skip ?_
        refine awp_seq ?_
        refine awp_seq ?_
        refine awp_region ?_
        refine aR 3 ?_
        refine aE ?_
        refine cE hF (fun h7 hF => ?_) fun h7 hF => ?_
        · refine awp_true (by kernel_rfl) h7 ?_
          refine awp_seq ?_
          refine awp_region ?_
          refine aR 1 ?_
          refine aE ?_
          refine awp_ret ?_
          exact oF hF [] []
        · refine awp_false (by kernel_rfl) h7 ?_
          refine awp_skip ?_
          refine awp_seq ?_
          refine awp_region ?_
          refine aR 1 ?_
          refine aE ?_
          refine awp_ret ?_
          exact oF hF [] []

/-! ### cmp.Or[int] -/
def cmp_Or_int_x1_k : Unit ⊕ Int → AEx
  | .inl _ => .exit 0
  | .inr _ => .ret

def cmp_Or_int_x1_S (qvals : List Int) : Unit ⊕ Int → St
  | .inl _ => Mem.st ⟨[], []⟩ (tl [(3, .v (.one (.d (.int .i64 0))))]) 0
  | .inr vx1 => Mem.st ⟨[], []⟩ (tl [(2, .v (.one (.d (.int .i64 vx1))))]) 0

def cmp_Or_int_x1_H (qvals : List Int) : Int → St
  | vx => Mem.st ⟨[], []⟩ (tl [(3, .v (.one (.d (.int .i64 0)))), (6, .v (.one (.d (.lst (List.map (encI .i64) qvals))))), (7, .v (.one (.d (.int .i64 (qvals.length : Int))))), (8, .v (.one (.d (.int .i64 vx))))]) 0

theorem cmp_Or_int_x1_ok (qvals : List Int) (vx : Int) (r : (Int) ⊕ (Unit ⊕ Int)) (hF : cmp_Or_int_x1 qvals vx = some r) : Awp prog 0 18 (cL (cL (cR (cL (cR (cR (cB f168))))))) (Out 0 (kk cmp_Or_int_x1_k) (SS (cmp_Or_int_x1_H qvals) (cmp_Or_int_x1_S qvals)) r) (cmp_Or_int_x1_H qvals vx) := by
  unfold cmp_Or_int_x1 at hF
  refine awp_seq ?_
  refine awp_region ?_
  refine aR 1 ?_
  refine aE ?_
  refine awp_seq ?_
  refine cE hF (fun h1 hF => ?_) fun h1 hF => ?_
  · refine awp_true (by kernel_rfl) h1 ?_
    refine awp_skip ?_
    refine awp_seq ?_
    refine awp_block ?_
    refine awp_seq ?_
    refine bE hF fun vy1 h2 hF => ?_
    refine awp_region ?_
    refine aX (x_idx (encI .i64) h2) ?_
    refine aR 2 ?_
    refine aE ?_
    refine awp_seq ?_
    refine awp_region ?_
    refine aR 3 ?_
    refine aE ?_
    refine cE hF (fun h3 hF => ?_) fun h3 hF => ?_
    · refine awp_true (by kernel_rfl) h3 ?_
      refine awp_seq ?_
      refine awp_region ?_
      refine aR 2 ?_
      refine aE ?_
      refine awp_ret ?_
      exact oO hF [] [] rfl
    · refine awp_false (by kernel_rfl) h3 ?_
      refine awp_skip ?_
      refine awp_region ?_
      refine aR 2 ?_
      refine aE ?_
      exact oO hF [] [] rfl
  · refine awp_false (by kernel_rfl) h1 ?_
    refine awp_exit ?_
    exact oO hF [] [] rfl

def cmp_Or_int_R (qvals : List Int) (r : Int) : TV × Mem := (.v (.one (.d (.int .i64 r))), ⟨[], []⟩)

theorem cmp_Or_int_ok {qvals : List Int} {r} (hF : cmp_Or_int qvals = some r) : Holds prog 168 [.v (.one (.d (.lst (List.map (encI .i64) qvals))))] ⟨[], []⟩ (Is (cmp_Or_int_R qvals r)) := by
  unfold cmp_Or_int at hF
  refine holds_of_awp hΓ (fn := f168) (c := cB f168) (A := 0) (nx := 0) (by kernel_rfl) (by kernel_rfl) (by kernel_rfl) (by kernel_rfl) (by kernel_rfl) (by kernel_rfl) (lowc_of (by kernel_rfl)) ?_
  show Awp prog 0 18 (cB f168) _ _
  refine awp_seq ?_
  refine awp_region ?_
  refine aR 1 ?_
  refine aE ?_
  refine awp_seq ?_
  refine awp_region ?_
  refine aR 1 ?_
  refine aE ?_
  refine awp_seq ?_
  refine awp_seq ?_
  refine awp_region ?_
  refine aR 1 ?_
  refine aL (encI .i64) qvals ?_
  refine aR 1 ?_
  refine aE ?_
  refine awp_block ?_
  refine awp_to (st' := cmp_Or_int_x1_H qvals 0) (oT [] []) ?_
  refine bE hF fun x h4 hF => ?_
  rcases x with _ | vx1_1
  · refine awp_sub (awp_loop' (cmp_Or_int_x1_H qvals) cmp_Or_int_x1_k (cmp_Or_int_x1_S qvals) (by intro x; rcases x with x | x <;> exact fun h => nomatch h) h4 (cmp_Or_int_x1_ok qvals)) ?_
    refine awp_seq ?_
    refine awp_region ?_
    refine aR 2 ?_
    refine aE ?_
    refine awp_ret ?_
    exact oF hF [] []
  · refine awp_sub (awp_loop' (cmp_Or_int_x1_H qvals) cmp_Or_int_x1_k (cmp_Or_int_x1_S qvals) (by intro x; rcases x with x | x <;> exact fun h => nomatch h) h4 (cmp_Or_int_x1_ok qvals)) ?_
    exact oF hF [] []

/-! ### beaconfleet/place.byDevice -/
def place_byDevice_R (qa : api_Fix) (qb : api_Fix) (r : Int) : TV × Mem := (.v (.one (.d (.int .i64 r))), ⟨[], []⟩)

theorem place_byDevice_ok {qa : api_Fix} {qb : api_Fix} {r} (hF : place_byDevice qa qb = some r) : Holds prog 123 [.v (.agg [.d (.str qa.Device), .d (.int .i64 qa.At), .d (.int .i64 qa.X), .d (.int .i64 qa.Y), .d (.int .i64 qa.Error)]), .v (.agg [.d (.str qb.Device), .d (.int .i64 qb.At), .d (.int .i64 qb.X), .d (.int .i64 qb.Y), .d (.int .i64 qb.Error)])] ⟨[], []⟩ (Is (place_byDevice_R qa qb r)) := by
  unfold place_byDevice at hF
  refine holds_of_awp hΓ (fn := f123) (c := cB f123) (A := 0) (nx := 0) (by kernel_rfl) (by kernel_rfl) (by kernel_rfl) (by kernel_rfl) (by kernel_rfl) (by kernel_rfl) (lowc_of (by kernel_rfl)) ?_
  show Awp prog 0 17 (cB f123) _ _
  refine awp_seq ?_
  refine awp_region ?_
  refine aR 3 ?_
  refine aE ?_
  refine awp_seq ?_
  refine bE hF fun _ h1 hF => ?_
  refine bE hF fun vr h2 hF => ?_
  refine bE hF fun vr1 h3 hF => ?_
  refine aD ?_
  refine dR 4 ?_
  refine dC (strings_Compare_ok h1) [] [] [] ?_
  refine dR 4 ?_
  refine dC (cmp_Compare_int_ok h2) [] [] [] ?_
  refine dR 1 ?_
  refine dC (cmp_Or_int_ok h3) [] [] [13000] ?_
  refine dR 1 ?_
  refine dE ?_
  refine awp_ret ?_
  exact oF hF [] []

/-! ### beaconfleet/place.CheckFixes -/
def place_CheckFixes_x2_k : Bool → AEx
  | _ => .normal

def place_CheckFixes_x2_S (ql : List api_Fix) (vx : Int) (vy2 : api_Fix) : Bool → St
  | vx3 => Mem.st ⟨[], [(0, [.d (.str vy2.Device), .d (.int .i64 vy2.At), .d (.int .i64 vy2.X), .d (.int .i64 vy2.Y), .d (.int .i64 vy2.Error)])]⟩ (tl [(0, .v (.one (.d (.lst (List.map api_Fix.enc ql))))), (3, .v (.one (.d (.int .i64 vx)))), (4, .v (.one (.box 0 0))), (8, .v (.one (.d (.lst (List.map api_Fix.enc ql))))), (9, .v (.one (.d (.int .i64 (ql.length : Int))))), (10, .v (.one (.d (.int .i64 vx)))), (20, .v (.one (.d (.bool vx3))))]) 1

def place_CheckFixes_x2_I (ql : List api_Fix) (vx : Int) (vy2 : api_Fix) : St := Mem.st ⟨[], [(0, [.d (.str vy2.Device), .d (.int .i64 vy2.At), .d (.int .i64 vy2.X), .d (.int .i64 vy2.Y), .d (.int .i64 vy2.Error)])]⟩ (tl [(0, .v (.one (.d (.lst (List.map api_Fix.enc ql))))), (3, .v (.one (.d (.int .i64 vx)))), (4, .v (.one (.box 0 0))), (8, .v (.one (.d (.lst (List.map api_Fix.enc ql))))), (9, .v (.one (.d (.int .i64 (ql.length : Int))))), (10, .v (.one (.d (.int .i64 vx))))]) 1

theorem place_CheckFixes_x2_ok (ql : List api_Fix) (vx : Int) (vy2 : api_Fix) {r} (hF : place_CheckFixes_x2 vy2 = some r) : Awp prog 0 50 (cL (cR (cR (cL (cR (cL (cL (cR (cR (cL (cL (cR (cL (cR (cR (cB f54)))))))))))))))) (Out 0 place_CheckFixes_x2_k (place_CheckFixes_x2_S ql vx vy2) r) (place_CheckFixes_x2_I ql vx vy2) := by
  unfold place_CheckFixes_x2 at hF
  refine bE hF fun vr1_1 h6 hF => ?_
  refine cE hF (fun h7 hF => ?_) fun h7 hF => ?_
  · refine awp_region ?_
    refine aR 2 ?_
    refine aC (base_Moment_ok h6) [] [] [] ?_
    refine aB h7 ?_
    refine aR 12 ?_
    refine aE ?_
    exact oO hF [] [] rfl
  · refine bE hF fun _ h8 hF => ?_
    refine bE hF fun vr2_2 h9 hF => ?_
    refine cE hF (fun h10 hF => ?_) fun h10 hF => ?_
    · refine awp_region ?_
      refine aR 2 ?_
      refine aC (base_Moment_ok h6) [] [] [] ?_
      refine aB h7 ?_
      refine aR 2 ?_
      refine aC (place_spot_ok h8) [] [] [] ?_
      refine aC (place_isSpot_ok h9) [] [] [] ?_
      refine aB h10 ?_
      refine aR 7 ?_
      refine aE ?_
      exact oO hF [] [] rfl
    · refine bE hF fun vr5 h11 hF => ?_
      refine awp_region ?_
      refine aR 2 ?_
      refine aC (base_Moment_ok h6) [] [] [] ?_
      refine aB h7 ?_
      refine aR 2 ?_
      refine aC (place_spot_ok h8) [] [] [] ?_
      refine aC (place_isSpot_ok h9) [] [] [] ?_
      refine aB h10 ?_
      refine aR 4 ?_
      refine aC (base_Out_ok h11) [] [] [] ?_
      refine aR 2 ?_
      refine aE ?_
      exact oO hF [] [] rfl

def place_CheckFixes_x3_k : Bool → AEx
  | _ => .normal

def place_CheckFixes_x3_S (ql : List api_Fix) (vx : Int) (vy2 : api_Fix) : Bool → St
  | vx4 => Mem.st ⟨[], []⟩ (tl [(0, .v (.one (.d (.lst (List.map api_Fix.enc ql))))), (8, .v (.one (.d (.lst (List.map api_Fix.enc ql))))), (9, .v (.one (.d (.int .i64 (ql.length : Int))))), (10, .v (.one (.d (.int .i64 vx)))), (36, .v (.one (.d (.bool vx4))))]) 0

def place_CheckFixes_x3_I (ql : List api_Fix) (vx : Int) (vy2 : api_Fix) : St := Mem.st ⟨[], [(0, [.d (.str vy2.Device), .d (.int .i64 vy2.At), .d (.int .i64 vy2.X), .d (.int .i64 vy2.Y), .d (.int .i64 vy2.Error)])]⟩ (tl [(0, .v (.one (.d (.lst (List.map api_Fix.enc ql))))), (3, .v (.one (.d (.int .i64 vx)))), (4, .v (.one (.box 0 0))), (8, .v (.one (.d (.lst (List.map api_Fix.enc ql))))), (9, .v (.one (.d (.int .i64 (ql.length : Int))))), (10, .v (.one (.d (.int .i64 vx))))]) 1

theorem place_CheckFixes_x3_ok (ql : List api_Fix) (vx : Int) (vy2 : api_Fix) {r} (hF : place_CheckFixes_x3 ql vx vy2 = some r) : Awp prog 0 50 (cL (cR (cR (cR (cR (cL (cR (cL (cL (cR (cR (cL (cL (cR (cL (cR (cR (cB f54)))))))))))))))))) (Out 0 place_CheckFixes_x3_k (place_CheckFixes_x3_S ql vx vy2) r) (place_CheckFixes_x3_I ql vx vy2) := by
  unfold place_CheckFixes_x3 at hF
  refine cE hF (fun h14 hF => ?_) fun h14 hF => ?_
  · refine bE hF fun vy3 h15 hF => ?_
    refine bE hF fun vr2_3 h16 hF => ?_
    refine aD ?_
    refine dR 1 ?_
    refine dB h14 ?_
    refine dR 5 ?_
    refine dX (x_idx api_Fix.enc h15) ?_
    refine dR 1 ?_
    refine dC (place_byDevice_ok h16) [] [] [] ?_
    refine dR 3 ?_
    refine dE ?_
    exact oO hF [] [] rfl
  · refine aD ?_
    refine dR 1 ?_
    refine dB h14 ?_
    refine dR 11 ?_
    refine dE ?_
    exact oO hF [] [] rfl

def place_CheckFixes_x1_k : Unit ⊕ Int → AEx
  | .inl _ => .exit 0
  | .inr _ => .ret

def place_CheckFixes_x1_S (ql : List api_Fix) : Unit ⊕ Int → St
  | .inl _ => Mem.st ⟨[], []⟩ (tl []) 0
  | .inr vx5 => Mem.st ⟨[], []⟩ (tl [(2, .v (.one (.d (.int .i64 vx5))))]) 0

def place_CheckFixes_x1_H (ql : List api_Fix) : Int → St
  | vx => Mem.st ⟨[], []⟩ (tl [(0, .v (.one (.d (.lst (List.map api_Fix.enc ql))))), (8, .v (.one (.d (.lst (List.map api_Fix.enc ql))))), (9, .v (.one (.d (.int .i64 (ql.length : Int))))), (10, .v (.one (.d (.int .i64 vx))))]) 0

theorem place_CheckFixes_x1_ok (ql : List api_Fix) (vx : Int) (r : (Int) ⊕ (Unit ⊕ Int)) (hF : place_CheckFixes_x1 ql vx = some r) : Awp prog 0 50 (cL (cL (cR (cL (cR (cR (cB f54))))))) (Out 0 (kk place_CheckFixes_x1_k) (SS (place_CheckFixes_x1_H ql) (place_CheckFixes_x1_S ql)) r) (place_CheckFixes_x1_H ql vx) := by
  unfold place_CheckFixes_x1 at hF
  refine awp_seq ?_
  refine awp_region ?_
  refine aR 1 ?_
  refine aE ?_
  refine awp_seq ?_
  refine cE hF (fun h2 hF => ?_) fun h2 hF => ?_
  · refine awp_true (by kernel_rfl) h2 ?_
    refine awp_skip ?_
    refine awp_seq ?_
    refine awp_block ?_
    refine awp_seq ?_
    refine bE hF fun vy2 h3 hF => ?_
    refine awp_region ?_
    refine aR 1 ?_
    refine aX (x_idx api_Fix.enc h3) ?_
    refine aR 4 ?_
    refine aE ?_
    refine awp_block ?_
    refine awp_seq ?_
    refine bE hF fun vr4 h4 hF => ?_
    refine awp_region ?_
    refine aR 2 ?_
    refine aC (base_Key_ok h4) [] [] [] ?_
    refine aR 2 ?_
    refine aE ?_
    refine cE hF (fun h5 hF => ?_) fun h5 hF => ?_
    · refine awp_true (by kernel_rfl) h5 ?_
      refine awp_seq ?_
      refine awp_region ?_
      refine aR 1 ?_
      refine aE ?_
      refine awp_ret ?_
      exact oO hF [] [] rfl
    · refine awp_false (by kernel_rfl) h5 ?_
      refine awp_seq ?_
      refine awp_to (st' := place_CheckFixes_x2_I ql vx vy2) (oT [(0, 4000)] []) ?_
      refine bE hF fun vx3_1 h12 hF => ?_
      refine awp_sub (place_CheckFixes_x2_ok ql vx vy2 h12) ?_
      refine cE hF (fun h13 hF => ?_) fun h13 hF => ?_
      · refine awp_true (by kernel_rfl) h13 ?_
        refine awp_seq ?_
        refine awp_region ?_
        refine aR 1 ?_
        refine aE ?_
        refine awp_ret ?_
        exact oO hF [] [] rfl
      · refine awp_false (by kernel_rfl) h13 ?_
        refine awp_seq ?_
        refine awp_to (st' := place_CheckFixes_x3_I ql vx vy2) (oT [] []) ?_
        refine bE hF fun vx4_1 h17 hF => ?_
        refine awp_sub (place_CheckFixes_x3_ok ql vx vy2 h17) ?_
        refine cE hF (fun h18 hF => ?_) fun h18 hF => ?_
        · refine awp_true (by kernel_rfl) h18 ?_
          refine awp_seq ?_
          refine awp_region ?_
          refine aR 1 ?_
          refine aE ?_
          refine awp_ret ?_
          exact oO hF [] [] rfl
        · refine awp_false (by kernel_rfl) h18 ?_
          refine awp_skip ?_
          refine awp_region ?_
          refine aR 2 ?_
          refine aE ?_
          exact oO hF [] [] rfl
  · refine awp_false (by kernel_rfl) h2 ?_
    refine awp_exit ?_
    exact oO hF [] [] rfl

def place_CheckFixes_R (ql : List api_Fix) (r : Int) : TV × Mem := (.v (.one (.d (.int .i64 r))), ⟨[], []⟩)

theorem place_CheckFixes_ok {ql : List api_Fix} {r} (hF : place_CheckFixes ql = some r) : Holds prog 54 [.v (.one (.d (.lst (List.map api_Fix.enc ql))))] ⟨[], []⟩ (Is (place_CheckFixes_R ql r)) := by
  unfold place_CheckFixes at hF
  refine holds_of_awp hΓ (fn := f54) (c := cB f54) (A := 0) (nx := 0) (by kernel_rfl) (by kernel_rfl) (by kernel_rfl) (by kernel_rfl) (by kernel_rfl) (by kernel_rfl) (lowc_of (by kernel_rfl)) ?_
  show Awp prog 0 50 (cB f54) _ _
  refine awp_seq ?_
  refine awp_region ?_
  refine aR 1 ?_
  refine aE ?_
  refine awp_seq ?_
  refine awp_seq ?_
  refine awp_region ?_
  refine aR 1 ?_
  refine aL api_Fix.enc ql ?_
  refine aR 1 ?_
  refine aE ?_
  refine cE hF (fun h1 hF => ?_) fun h1 hF => ?_
  · refine awp_true (by kernel_rfl) h1 ?_
    refine awp_seq ?_
    refine awp_region ?_
    refine aR 1 ?_
    refine aE ?_
    refine awp_ret ?_
    exact oF hF [] []
  · refine awp_false (by kernel_rfl) h1 ?_
    refine awp_skip ?_
    refine awp_seq ?_
    refine awp_seq ?_
    refine awp_region ?_
    refine aR 1 ?_
    refine aL api_Fix.enc ql ?_
    refine aR 1 ?_
    refine aE ?_
    refine awp_block ?_
    refine awp_to (st' := place_CheckFixes_x1_H ql 0) (oT [] []) ?_
    refine bE hF fun x h19 hF => ?_
    rcases x with _ | vx5_1
    · refine awp_sub (awp_loop' (place_CheckFixes_x1_H ql) place_CheckFixes_x1_k (place_CheckFixes_x1_S ql) (by intro x; rcases x with x | x <;> exact fun h => nomatch h) h19 (place_CheckFixes_x1_ok ql)) ?_
      refine awp_seq ?_
      refine awp_region ?_
      refine aR 1 ?_
      refine aE ?_
      refine awp_ret ?_
      exact oF hF [] []
    · refine awp_sub (awp_loop' (place_CheckFixes_x1_H ql) place_CheckFixes_x1_k (place_CheckFixes_x1_S ql) (by intro x; rcases x with x | x <;> exact fun h => nomatch h) h19 (place_CheckFixes_x1_ok ql)) ?_
      exact oF hF [] []

/-! ### (*strings.Builder).copyCheck -/
def strings_Builder_copyCheck_o_R (qb : List Int) (r : Unit) : TV × Mem := (.tup [], ⟨[(1, ⟨5, 1, List.map (encI .u8) qb⟩)], [(0, [.selfp 0 93, .own 1 none])]⟩)

theorem strings_Builder_copyCheck_o_ok {qb : List Int} {r} (hF : strings_Builder_copyCheck_o qb = some r) : Holds prog 124 [.v (.one (.box 0 0))] ⟨[(1, ⟨5, 1, List.map (encI .u8) qb⟩)], [(0, [.selfp 0 93, .own 1 none])]⟩ (Is (strings_Builder_copyCheck_o_R qb r)) := by
  unfold strings_Builder_copyCheck_o at hF
  exact holds_copy (⟨_, cB Go.Proofs.Tryz.f124, Go.Proofs.Tryz.func124, by kernel_rfl, by kernel_rfl⟩) Go.Proofs.Tryz.copy_used Go.Proofs.Tryz.copy_fresh rfl

/-! ### (*strings.Builder).WriteString -/
def strings_Builder_WriteString_b0so_R (qb : List Int) (qs : List UInt8) (r : Unit) : TV × Mem := (.tup [.one (.d (.int .i64 (qs.length : Int))), .one (.nili)], ⟨[(2, ⟨5, 1, List.map (encI .u8) (qb ++ bytesD qs)⟩)], [(0, [.selfp 0 93, .own 2 none])]⟩)

theorem strings_Builder_WriteString_b0so_ok {qb : List Int} {qs : List UInt8} {r} (hF : strings_Builder_WriteString_b0so qb qs = some r) : Holds prog 55 [.v (.one (.box 0 0)), .v (.one (.d (.str qs)))] ⟨[(1, ⟨5, 1, List.map (encI .u8) qb⟩)], [(0, [.selfp 0 93, .own 1 none])]⟩ (Is (strings_Builder_WriteString_b0so_R qb qs r)) := by
  unfold strings_Builder_WriteString_b0so at hF
  refine holds_of_awp hΓ (fn := f55) (c := cB f55) (A := 2) (nx := 2) (by kernel_rfl) (by kernel_rfl) (by kernel_rfl) (by kernel_rfl) (by kernel_rfl) (by kernel_rfl) (lowc_of (by kernel_rfl)) ?_
  show Awp prog 2 19 (cB f55) _ _
  refine awp_seq ?_
  refine awp_region ?_
  refine aR 2 ?_
  refine aE ?_
  refine awp_seq ?_
  refine bE hF fun _ h1 hF => ?_
  refine awp_region ?_
  refine aR 1 ?_
  refine aCp (strings_Builder_copyCheck_o_ok h1) ⟨⟨rfl, rfl, pin1 (beq_self_eq_true _)⟩, trivial⟩ [] [] [] ?_
  refine aE ?_
  refine awp_seq ?_
  refine gE hF fun h2 hF => ?_
  refine awp_region ?_
  refine aR 6 ?_
  refine aApS 1 h2 rfl ?_
  refine aR 3 ?_
  refine aE ?_
  refine awp_seq ?_
  refine awp_region ?_
  refine aR 4 ?_
  refine aE ?_
  refine awp_ret ?_
  exact oF hF [(2, 10002)] []

/-! ### (*strings.Builder).Len -/
def strings_Builder_Len_b0so_R (qb : List Int) (r : Unit) : TV × Mem := (.v (.one (.d (.int .i64 (qb.length : Int)))), ⟨[(2, ⟨5, 1, List.map (encI .u8) qb⟩)], [(0, [.selfp 0 93, .own 2 none])]⟩)

theorem strings_Builder_Len_b0so_ok {qb : List Int} {r} (hF : strings_Builder_Len_b0so qb = some r) : Holds prog 57 [.v (.one (.box 0 0))] ⟨[(1, ⟨5, 1, List.map (encI .u8) qb⟩)], [(0, [.selfp 0 93, .own 1 none])]⟩ (Is (strings_Builder_Len_b0so_R qb r)) := by
  unfold strings_Builder_Len_b0so at hF
  refine holds_of_awp hΓ (fn := f57) (c := cB f57) (A := 2) (nx := 2) (by kernel_rfl) (by kernel_rfl) (by kernel_rfl) (by kernel_rfl) (by kernel_rfl) (by kernel_rfl) (lowc_of (by kernel_rfl)) ?_
  show Awp prog 2 8 (cB f57) _ _
  refine awp_seq ?_
  refine awp_region ?_
  refine aR 1 ?_
  refine aE ?_
  refine awp_seq ?_
  refine awp_region ?_
  refine aR 4 ?_
  refine aL (encI .u8) qb ?_
  refine aR 1 ?_
  refine aE ?_
  refine awp_ret ?_
  exact oF hF [(2, 1)] []

/-! ### (*strings.Builder).String -/
def strings_Builder_String_o_R (qb : List Int) (r : List UInt8) : TV × Mem := (.v (.one (.d (.str r))), ⟨[], [(0, [.selfp 0 93, .undef])]⟩)

theorem strings_Builder_String_o_ok {qb : List Int} {r} (hF : strings_Builder_String_o qb = some r) : Holds prog 58 [.v (.one (.box 0 0))] ⟨[(1, ⟨5, 1, List.map (encI .u8) qb⟩)], [(0, [.selfp 0 93, .own 1 none])]⟩ (Is (strings_Builder_String_o_R qb r)) := by
  unfold strings_Builder_String_o at hF
  refine gE hF fun h1 hF => ?_
  obtain rfl := Option.some.inj hF
  have h2 := Go.Proofs.bstr_holds Go.Proofs.Tryz.lays169 Go.Proofs.Tryz.Builder_Extra_169 (⟨_, cB Go.Proofs.Tryz.f58, Go.Proofs.Tryz.func58, by kernel_rfl, by kernel_rfl⟩) (qb.map fun n => UInt8.ofNat n.toNat) (k := 0) (j := 1)
  rw [bytes_back h1] at h2
  exact h2

/-! ### beaconfleet/place.Text -/
def place_Text_x2_k : (List Int) → AEx
  | _ => .exit 2

def place_Text_x2_S (ql : List api_Fix) (vx : Int) (vy3 : api_Fix) : (List Int) → St
  | vout4 => Mem.st ⟨[(1, ⟨5, 1, List.map (encI .u8) vout4⟩)], [(0, [.selfp 0 93, .own 1 none])]⟩ (tl [(5, .v (.one (.box 0 0))), (15, .v (.one (.d (.lst (List.map api_Fix.enc ql))))), (16, .v (.one (.d (.int .i64 (ql.length : Int))))), (17, .v (.one (.d (.int .i64 vx))))]) 2

def place_Text_x2_H (ql : List api_Fix) (vx : Int) (vy3 : api_Fix) : (List Int) × Int → St
  | (vout3, vx2) => Mem.st ⟨[(1, ⟨5, 1, List.map (encI .u8) vout3⟩)], [(0, [.selfp 0 93, .own 1 none])]⟩ (tl [(5, .v (.one (.box 0 0))), (15, .v (.one (.d (.lst (List.map api_Fix.enc ql))))), (16, .v (.one (.d (.int .i64 (ql.length : Int))))), (17, .v (.one (.d (.int .i64 vx)))), (32, .v (.one (.d (.lst (List.map (encI .i64) ([vy3.At, vy3.X, vy3.Y, vy3.Error] : List Int)))))), (33, .v (.one (.d (.int .i64 (([vy3.At, vy3.X, vy3.Y, vy3.Error] : List Int).length : Int))))), (34, .v (.one (.d (.int .i64 vx2))))]) 2

theorem place_Text_x2_ok (ql : List api_Fix) (vx : Int) (vy3 : api_Fix) (s : (List Int) × Int) (r : ((List Int) × Int) ⊕ ((List Int))) (hF : place_Text_x2 vy3 s = some r) : Awp prog 0 48 (cL (cL (cR (cL (cR (cR (cL (cL (cR (cR (cL (cL (cR (cL (cR (cR (cR (cB f10)))))))))))))))))) (Out 0 (kk place_Text_x2_k) (SS (place_Text_x2_H ql vx vy3) (place_Text_x2_S ql vx vy3)) r) (place_Text_x2_H ql vx vy3 s) := by
  obtain ⟨vout3, vx2⟩ := s
  unfold place_Text_x2 at hF
  refine awp_seq ?_
  refine awp_region ?_
  refine aR 1 ?_
  refine aE ?_
  refine awp_seq ?_
  refine cE hF (fun h6 hF => ?_) fun h6 hF => ?_
  · refine awp_true (by kernel_rfl) h6 ?_
    refine awp_skip ?_
    refine awp_seq ?_
    refine awp_block ?_
    refine awp_seq ?_
    refine bE hF fun vy5 h7 hF => ?_
    refine awp_region ?_
    refine aX (x_idx (encI .i64) h7) ?_
    refine aR 2 ?_
    refine aE ?_
    refine bE hF fun vr3 h8 hF => ?_
    refine gE hF fun h9 hF => ?_
    refine bE hF fun _ h10 hF => ?_
    refine awp_region ?_
    refine aR 1 ?_
    refine aC (strconv_Itoa_ok h8) [] [] [] ?_
    refine aX (x_cat h9) ?_
    refine aC (strings_Builder_WriteString_b0so_ok h10) [] [] [] ?_
    refine aE ?_
    refine awp_region ?_
    refine aR 2 ?_
    refine aE ?_
    exact oO hF [(1, 7004)] [] rfl
  · refine awp_false (by kernel_rfl) h6 ?_
    refine awp_exit ?_
    exact oO hF [] [] rfl

def place_Text_x1_k : (List Int) → AEx
  | _ => .exit 0

def place_Text_x1_S (ql : List api_Fix) : (List Int) → St
  | vout5 => Mem.st ⟨[(1, ⟨5, 1, List.map (encI .u8) vout5⟩)], [(0, [.selfp 0 93, .own 1 none])]⟩ (tl [(5, .v (.one (.box 0 0)))]) 2

def place_Text_x1_H (ql : List api_Fix) : (List Int) × Int → St
  | (vout, vx) => Mem.st ⟨[(1, ⟨5, 1, List.map (encI .u8) vout⟩)], [(0, [.selfp 0 93, .own 1 none])]⟩ (tl [(5, .v (.one (.box 0 0))), (15, .v (.one (.d (.lst (List.map api_Fix.enc ql))))), (16, .v (.one (.d (.int .i64 (ql.length : Int))))), (17, .v (.one (.d (.int .i64 vx))))]) 2

theorem place_Text_x1_ok (ql : List api_Fix) (s : (List Int) × Int) (r : ((List Int) × Int) ⊕ ((List Int))) (hF : place_Text_x1 ql s = some r) : Awp prog 0 48 (cL (cL (cR (cL (cR (cR (cR (cB f10)))))))) (Out 0 (kk place_Text_x1_k) (SS (place_Text_x1_H ql) (place_Text_x1_S ql)) r) (place_Text_x1_H ql s) := by
  obtain ⟨vout, vx⟩ := s
  unfold place_Text_x1 at hF
  refine awp_seq ?_
  refine awp_region ?_
  refine aR 1 ?_
  refine aE ?_
  refine awp_seq ?_
  refine cE hF (fun h3 hF => ?_) fun h3 hF => ?_
  · refine awp_true (by kernel_rfl) h3 ?_
    refine awp_skip ?_
    refine awp_seq ?_
    refine awp_block ?_
    refine awp_seq ?_
    refine bE hF fun vy3 h4 hF => ?_
    refine awp_region ?_
    refine aX (x_idx api_Fix.enc h4) ?_
    refine aR 3 ?_
    refine aE ?_
    refine awp_seq ?_
    refine bE hF fun _ h5 hF => ?_
    refine awp_region ?_
    refine aR 2 ?_
    refine aC (strings_Builder_WriteString_b0so_ok h5) [] [] [] ?_
    refine aE ?_
    refine awp_seq ?_
    refine awp_seq ?_
    refine awp_region ?_
    refine aR 9 ?_
    refine aL (encI .i64) ([vy3.At, vy3.X, vy3.Y, vy3.Error] : List Int) ?_
    refine aR 1 ?_
    refine aE ?_
    refine awp_to (oT (m := ⟨[(1, ⟨5, 1, List.map (encI .u8) (vout ++ bytesD vy3.Device)⟩)], [(0, [.selfp 0 93, .own 1 none])]⟩) (ts := [(5, .v (.one (.box 0 0))), (15, .v (.one (.d (.lst (List.map api_Fix.enc ql))))), (16, .v (.one (.d (.int .i64 (ql.length : Int))))), (17, .v (.one (.d (.int .i64 vx)))), (32, .v (.one (.d (.lst (List.map (encI .i64) ([vy3.At, vy3.X, vy3.Y, vy3.Error] : List Int)))))), (33, .v (.one (.d (.int .i64 (([vy3.At, vy3.X, vy3.Y, vy3.Error] : List Int).length : Int))))), (34, .v (.one (.d (.int .i64 0))))]) (nx := 2) [(1, 7004)] []) ?_
    refine awp_block ?_
    refine awp_to (st' := place_Text_x2_H ql vx vy3 (vout ++ bytesD vy3.Device, 0)) (oT [] []) ?_
    refine bE hF fun vout4_1 h11 hF => ?_
    refine awp_sub (awp_loop' (place_Text_x2_H ql vx vy3) place_Text_x2_k (place_Text_x2_S ql vx vy3) (by intro x; exact fun h => nomatch h) h11 (place_Text_x2_ok ql vx vy3)) ?_
    refine bE hF fun _ h12 hF => ?_
    refine awp_region ?_
    refine aC (strings_Builder_WriteString_b0so_ok h12) [] [] [] ?_
    refine aE ?_
    refine awp_region ?_
    refine aR 2 ?_
    refine aE ?_
    exact oO hF [(1, 4)] [] rfl
  · refine awp_false (by kernel_rfl) h3 ?_
    refine awp_exit ?_
    exact oO hF [] [] rfl

def place_Text_R (ql : List api_Fix) (r : (List UInt8) × Int) : TV × Mem := (.tup [.one (.d (.str r.1)), .one (.d (.int .i64 r.2))], ⟨[], []⟩)

theorem place_Text_ok {ql : List api_Fix} {r} (hF : place_Text ql = some r) : Holds prog 10 [.v (.one (.d (.lst (List.map api_Fix.enc ql))))] ⟨[], []⟩ (Is (place_Text_R ql r)) := by
  unfold place_Text at hF
  refine holds_of_awp hΓ (fn := f10) (c := cB f10) (A := 0) (nx := 0) (by kernel_rfl) (by kernel_rfl) (by kernel_rfl) (by kernel_rfl) (by kernel_rfl) (by kernel_rfl) (lowc_of (by kernel_rfl)) ?_
  show Awp prog 0 48 (cB f10) _ _
  refine awp_seq ?_
  refine awp_region ?_
  refine aR 2 ?_
  refine aE ?_
  refine awp_seq ?_
  refine awp_seq ?_
  refine bE hF fun vr6 h1 hF => ?_
  refine awp_region ?_
  refine aR 1 ?_
  refine aC (place_CheckFixes_ok h1) [] [] [] ?_
  refine aR 1 ?_
  refine aE ?_
  refine awp_seq ?_
  refine awp_region ?_
  refine aR 2 ?_
  refine aE ?_
  refine cE hF (fun h2 hF => ?_) fun h2 hF => ?_
  · refine awp_true (by kernel_rfl) h2 ?_
    refine awp_seq ?_
    refine awp_region ?_
    refine aR 3 ?_
    refine aE ?_
    refine awp_ret ?_
    exact oF hF [] []
  · refine awp_false (by kernel_rfl) h2 ?_
    refine awp_skip ?_
    refine awp_seq ?_
    refine awp_region ?_
    refine aBl rfl ?_
    refine aE ?_
    refine awp_seq ?_
    refine awp_seq ?_
    refine awp_region ?_
    refine aR 1 ?_
    refine aL api_Fix.enc ql ?_
    refine aR 1 ?_
    refine aE ?_
    refine awp_block ?_
    refine awp_to (st' := place_Text_x1_H ql ([], 0)) (oT [(0, 7000)] [1]) ?_
    refine bE hF fun vout5_1 h13 hF => ?_
    refine awp_sub (awp_loop' (place_Text_x1_H ql) place_Text_x1_k (place_Text_x1_S ql) (by intro x; exact fun h => nomatch h) h13 (place_Text_x1_ok ql)) ?_
    refine awp_seq ?_
    refine awp_seq ?_
    refine bE hF fun _ h14 hF => ?_
    refine awp_region ?_
    refine aC (strings_Builder_Len_b0so_ok h14) [] [] [] ?_
    refine aR 1 ?_
    refine aE ?_
    refine cE hF (fun h15 hF => ?_) fun h15 hF => ?_
    · refine awp_true (by kernel_rfl) h15 ?_
      refine awp_seq ?_
      refine awp_region ?_
      refine aR 2 ?_
      refine aE ?_
      refine awp_ret ?_
      exact oF hF [] []
    · refine awp_false (by kernel_rfl) h15 ?_
      refine awp_skip ?_
      refine awp_seq ?_
      refine bE hF fun vr4 h16 hF => ?_
      refine awp_region ?_
      refine aC (strings_Builder_String_o_ok h16) [(1, 4)] [] [] ?_
      refine aR 2 ?_
      refine aE ?_
      refine awp_ret ?_
      exact oF hF [] []

/-! ### internal/stringslite.HasSuffix -/
def stringslite_HasSuffix_x1_k : Bool → AEx
  | _ => .normal

def stringslite_HasSuffix_x1_S (qs : List UInt8) (qsuffix : List UInt8) : Bool → St
  | vx => Mem.st ⟨[], []⟩ (tl [(4, .v (.one (.d (.bool vx))))]) 0

def stringslite_HasSuffix_x1_I (qs : List UInt8) (qsuffix : List UInt8) : St := Mem.st ⟨[], []⟩ (tl [(0, .v (.one (.d (.str qs)))), (1, .v (.one (.d (.str qsuffix))))]) 0

theorem stringslite_HasSuffix_x1_ok (qs : List UInt8) (qsuffix : List UInt8) {r} (hF : stringslite_HasSuffix_x1 qs qsuffix = some r) : Awp prog 0 21 (cL (cR (cB f250))) (Out 0 stringslite_HasSuffix_x1_k (stringslite_HasSuffix_x1_S qs qsuffix) r) (stringslite_HasSuffix_x1_I qs qsuffix) := by
  unfold stringslite_HasSuffix_x1 at hF
  refine cE hF (fun h1 hF => ?_) fun h1 hF => ?_
  · refine bE hF fun vs h2 hF => ?_
    refine awp_region ?_
    refine aR 4 ?_
    refine aB h1 ?_
    refine aR 7 ?_
    refine aX (x_sliceS h2) ?_
    refine aR 4 ?_
    refine aE ?_
    exact oO hF [] [] rfl
  · refine awp_region ?_
    refine aR 4 ?_
    refine aB h1 ?_
    refine aR 12 ?_
    refine aE ?_
    exact oO hF [] [] rfl

def stringslite_HasSuffix_R (qs : List UInt8) (qsuffix : List UInt8) (r : Bool) : TV × Mem := (.v (.one (.d (.bool r))), ⟨[], []⟩)

theorem stringslite_HasSuffix_ok {qs : List UInt8} {qsuffix : List UInt8} {r} (hF : stringslite_HasSuffix qs qsuffix = some r) : Holds prog 250 [.v (.one (.d (.str qs))), .v (.one (.d (.str qsuffix)))] ⟨[], []⟩ (Is (stringslite_HasSuffix_R qs qsuffix r)) := by
  unfold stringslite_HasSuffix at hF
  refine holds_of_awp hΓ (fn := f250) (c := cB f250) (A := 0) (nx := 0) (by kernel_rfl) (by kernel_rfl) (by kernel_rfl) (by kernel_rfl) (by kernel_rfl) (by kernel_rfl) (lowc_of (by kernel_rfl)) ?_
  show Awp prog 0 21 (cB f250) _ _
  refine awp_seq ?_
  refine awp_region ?_
  refine aR 1 ?_
  refine aE ?_
  refine awp_seq ?_
  refine awp_to (st' := stringslite_HasSuffix_x1_I qs qsuffix) (oT [] []) ?_
  refine bE hF fun vx1 h3 hF => ?_
  refine awp_sub (stringslite_HasSuffix_x1_ok qs qsuffix h3) ?_
  refine awp_ret ?_
  exact oF hF [] []

/-! ### internal/stringslite.CutSuffix -/
def stringslite_CutSuffix_R (qs : List UInt8) (qsuffix : List UInt8) (r : (List UInt8) × Bool) : TV × Mem := (.tup [.one (.d (.str r.1)), .one (.d (.bool r.2))], ⟨[], []⟩)

theorem stringslite_CutSuffix_ok {qs : List UInt8} {qsuffix : List UInt8} {r} (hF : stringslite_CutSuffix qs qsuffix = some r) : Holds prog 218 [.v (.one (.d (.str qs))), .v (.one (.d (.str qsuffix)))] ⟨[], []⟩ (Is (stringslite_CutSuffix_R qs qsuffix r)) := by
  unfold stringslite_CutSuffix at hF
  refine holds_of_awp hΓ (fn := f218) (c := cB f218) (A := 0) (nx := 0) (by kernel_rfl) (by kernel_rfl) (by kernel_rfl) (by kernel_rfl) (by kernel_rfl) (by kernel_rfl) (lowc_of (by kernel_rfl)) ?_
  show Awp prog 0 18 (cB f218) _ _
  refine awp_seq ?_
  refine awp_region ?_
  refine aR 2 ?_
  refine aE ?_
  refine awp_seq ?_
  refine awp_seq ?_
  refine bE hF fun vr h1 hF => ?_
  refine awp_region ?_
  refine aR 2 ?_
  refine aC (stringslite_HasSuffix_ok h1) [] [] [] ?_
  refine aR 1 ?_
  refine aE ?_
  refine cE hF (fun h2 hF => ?_) fun h2 hF => ?_
  · refine awp_true (by kernel_rfl) h2 ?_
    refine awp_seq ?_
    refine awp_region ?_
    refine aR 3 ?_
    refine aE ?_
    refine awp_ret ?_
    exact oF hF [] []
  · refine awp_false (by kernel_rfl) h2 ?_
    refine awp_skip ?_
    refine awp_seq ?_
    refine bE hF fun vs h3 hF => ?_
    refine awp_region ?_
    refine aR 6 ?_
    refine aX (x_sliceS h3) ?_
    refine aR 2 ?_
    refine aE ?_
    refine awp_ret ?_
    exact oF hF [] []

/-! ### strings.CutSuffix -/
def strings_CutSuffix_R (qs : List UInt8) (qsuffix : List UInt8) (r : (List UInt8) × Bool) : TV × Mem := (.tup [.one (.d (.str r.1)), .one (.d (.bool r.2))], ⟨[], []⟩)

theorem strings_CutSuffix_ok {qs : List UInt8} {qsuffix : List UInt8} {r} (hF : strings_CutSuffix qs qsuffix = some r) : Holds prog 174 [.v (.one (.d (.str qs))), .v (.one (.d (.str qsuffix)))] ⟨[], []⟩ (Is (strings_CutSuffix_R qs qsuffix r)) := by
  unfold strings_CutSuffix at hF
  refine holds_of_awp hΓ (fn := f174) (c := cB f174) (A := 0) (nx := 0) (by kernel_rfl) (by kernel_rfl) (by kernel_rfl) (by kernel_rfl) (by kernel_rfl) (by kernel_rfl) (lowc_of (by kernel_rfl)) ?_
  show Awp prog 0 11 (cB f174) _ _
  refine awp_seq ?_
  refine awp_region ?_
  refine aR 2 ?_
  refine aE ?_
  refine awp_seq ?_
  refine bE hF fun x h1 hF => ?_
  obtain ⟨vr1, vr2⟩ := x
  refine awp_region ?_
  refine aR 2 ?_
  refine aC (stringslite_CutSuffix_ok h1) [] [] [] ?_
  refine aR 4 ?_
  refine aE ?_
  refine awp_ret ?_
  exact oF hF [] []

/-! ### unicode/utf8.RuneCountInString -/
def utf8_RuneCountInString_x1_k : Int → AEx
  | _ => .exit 0

def utf8_RuneCountInString_x1_S (qs : List UInt8) : Int → St
  | vn1 => Mem.st ⟨[], []⟩ (tl [(2, .v (.one (.d (.int .i64 vn1))))]) 0

def utf8_RuneCountInString_x1_H (qs : List UInt8) : Nat × Int → St
  | (vpos, vn) => Mem.st ⟨[], [(0, [.iters qs vpos])]⟩ (tl [(2, .v (.one (.d (.int .i64 vn)))), (4, .v (.one (.box 0 0)))]) 1

theorem utf8_RuneCountInString_x1_ok (qs : List UInt8) (s : Nat × Int) (r : (Nat × Int) ⊕ (Int)) (hF : utf8_RuneCountInString_x1 qs s = some r) : Awp prog 0 10 (cL (cL (cR (cL (cR (cB f220)))))) (Out 0 (kk utf8_RuneCountInString_x1_k) (SS (utf8_RuneCountInString_x1_H qs) (utf8_RuneCountInString_x1_S qs)) r) (utf8_RuneCountInString_x1_H qs s) := by
  obtain ⟨vpos, vn⟩ := s
  unfold utf8_RuneCountInString_x1 at hF
  refine awp_seq ?_
  refine cE hF (fun h1 hF => ?_) fun h1 hF => ?_
  · refine bE hF fun vd1 h2 hF => ?_
    refine awp_region ?_
    refine aX (x_next 0 qs vpos h1 h2) ?_
    refine aR 1 ?_
    refine aE ?_
    refine awp_seq ?_
    refine awp_true (by kernel_rfl) rfl ?_
    refine awp_skip ?_
    refine awp_block ?_
    refine awp_region ?_
    refine aR 3 ?_
    refine aE ?_
    exact oO hF [] [] rfl
  · refine awp_region ?_
    refine aX (x_nextE 0 qs vpos h1) ?_
    refine aR 1 ?_
    refine aE ?_
    refine awp_seq ?_
    refine awp_false (by kernel_rfl) rfl ?_
    refine awp_exit ?_
    exact oO hF [] [] rfl

def utf8_RuneCountInString_R (qs : List UInt8) (r : Int) : TV × Mem := (.v (.one (.d (.int .i64 r))), ⟨[], []⟩)

theorem utf8_RuneCountInString_ok {qs : List UInt8} {r} (hF : utf8_RuneCountInString qs = some r) : Holds prog 220 [.v (.one (.d (.str qs)))] ⟨[], []⟩ (Is (utf8_RuneCountInString_R qs r)) := by
  unfold utf8_RuneCountInString at hF
  refine holds_of_awp hΓ (fn := f220) (c := cB f220) (A := 0) (nx := 0) (by kernel_rfl) (by kernel_rfl) (by kernel_rfl) (by kernel_rfl) (by kernel_rfl) (by kernel_rfl) (lowc_of (by kernel_rfl)) ?_
  show Awp prog 0 10 (cB f220) _ _
  refine awp_seq ?_
  refine awp_region ?_
  refine aR 1 ?_
  refine aE ?_
  refine awp_seq ?_
  refine awp_seq ?_
  refine awp_region ?_
  refine aR 2 ?_
  refine aE ?_
  refine awp_block ?_
  refine awp_to (st' := utf8_RuneCountInString_x1_H qs ((0 : Nat), 0)) (oT [(0, 2000)] []) ?_
  refine bE hF fun vn1_1 h3 hF => ?_
  refine awp_sub (awp_loop' (utf8_RuneCountInString_x1_H qs) utf8_RuneCountInString_x1_k (utf8_RuneCountInString_x1_S qs) (by intro x; exact fun h => nomatch h) h3 (utf8_RuneCountInString_x1_ok qs)) ?_
  refine awp_seq ?_
  refine awp_region ?_
  refine aR 2 ?_
  refine aE ?_
  refine awp_ret ?_
  exact oF hF [] []

/-! ### unicode/utf8.decodeRuneInStringSlow -/
def utf8_decodeRuneInStringSlow_R (qx : List UInt8) (r : Unit) : TV × Mem := (.tup [.one (.d (.int .i32 65533)), .one (.d (.int .i64 0))], ⟨[], []⟩)

theorem utf8_decodeRuneInStringSlow_ok {qx : List UInt8} {r} (hF : utf8_decodeRuneInStringSlow qx = some r) : Holds prog 254 [.v (.one (.d (.str qx)))] ⟨[], []⟩ (Is (utf8_decodeRuneInStringSlow_R qx r)) := by
  unfold utf8_decodeRuneInStringSlow at hF
  refine holds_of_awp hΓ (fn := f254) (c := cB f254) (A := 0) (nx := 0) (by kernel_rfl) (by kernel_rfl) (by kernel_rfl) (by kernel_rfl) (by kernel_rfl) (by kernel_rfl) (lowc_of (by kernel_rfl)) ?_
  show Awp prog 0 117 (cB f254) _ _
  refine awp_seq ?_
  refine awp_region ?_
  refine aR 2 ?_
  refine aE ?_
  refine awp_seq ?_
  refine awp_region ?_
  refine aR 3 ?_
  refine aE ?_
  refine awp_seq ?_
  refine awp_seq ?_
  refine awp_region ?_
  refine aR 2 ?_
  refine aE ?_
  refine cE hF (fun h1 hF => ?_) fun h1 hF => ?_
  · refine awp_true (by kernel_rfl) h1 ?_
    refine awp_seq ?_
    refine awp_region ?_
    refine aR 2 ?_
    refine aE ?_
    refine awp_ret ?_
    exact oF hF [] []
  · refine awp_false (by kernel_rfl) h1 ?_
    refine awp_skip ?_
    refine awp_seq ?_
    refine bE hF fun vc h2 hF => ?_
    refine awp_region ?_
    refine aR 1 ?_
    refine aX (x_idxS h2) ?_
    refine aR 1 ?_
    refine aE ?_
    refine awp_seq ?_
    exact nE hF

/-! ### unicode/utf8.DecodeRuneInString -/
def utf8_DecodeRuneInString_x1_k : Bool → AEx
  | _ => .normal

def utf8_DecodeRuneInString_x1_S (qs : List UInt8) : Bool → St
  | vx => Mem.st ⟨[], []⟩ (tl [(0, .v (.one (.d (.str qs)))), (10, .v (.one (.d (.bool vx))))]) 0

def utf8_DecodeRuneInString_x1_I (qs : List UInt8) : St := Mem.st ⟨[], []⟩ (tl [(0, .v (.one (.d (.str qs))))]) 0

theorem utf8_DecodeRuneInString_x1_ok (qs : List UInt8) {r} (hF : utf8_DecodeRuneInString_x1 qs = some r) : Awp prog 0 19 (cL (cL (cR (cB f221)))) (Out 0 utf8_DecodeRuneInString_x1_k (utf8_DecodeRuneInString_x1_S qs) r) (utf8_DecodeRuneInString_x1_I qs) := by
  unfold utf8_DecodeRuneInString_x1 at hF
  refine cE hF (fun h1 hF => ?_) fun h1 hF => ?_
  · refine bE hF fun vc h2 hF => ?_
    refine awp_region ?_
    refine aR 1 ?_
    refine aB h1 ?_
    refine aR 2 ?_
    refine aX (x_idxS h2) ?_
    refine aR 2 ?_
    refine aE ?_
    exact oO hF [] [] rfl
  · refine awp_region ?_
    refine aR 1 ?_
    refine aB h1 ?_
    refine aR 5 ?_
    refine aE ?_
    exact oO hF [] [] rfl

def utf8_DecodeRuneInString_R (qs : List UInt8) (r : Int × Int) : TV × Mem := (.tup [.one (.d (.int .i32 r.1)), .one (.d (.int .i64 r.2))], ⟨[], []⟩)

theorem utf8_DecodeRuneInString_ok {qs : List UInt8} {r} (hF : utf8_DecodeRuneInString qs = some r) : Holds prog 221 [.v (.one (.d (.str qs)))] ⟨[], []⟩ (Is (utf8_DecodeRuneInString_R qs r)) := by
  unfold utf8_DecodeRuneInString at hF
  refine holds_of_awp hΓ (fn := f221) (c := cB f221) (A := 0) (nx := 0) (by kernel_rfl) (by kernel_rfl) (by kernel_rfl) (by kernel_rfl) (by kernel_rfl) (by kernel_rfl) (lowc_of (by kernel_rfl)) ?_
  show Awp prog 0 19 (cB f221) _ _
  refine awp_seq ?_
  refine awp_region ?_
  refine aR 2 ?_
  refine aE ?_
  refine awp_seq ?_
  refine awp_seq ?_
  refine awp_to (st' := utf8_DecodeRuneInString_x1_I qs) (oT [] []) ?_
  refine bE hF fun vx1 h3 hF => ?_
  refine awp_sub (utf8_DecodeRuneInString_x1_ok qs h3) ?_
  refine cE hF (fun h4 hF => ?_) fun h4 hF => ?_
  · refine awp_true (by kernel_rfl) h4 ?_
    refine awp_seq ?_
    refine bE hF fun vc1 h5 hF => ?_
    refine awp_region ?_
    refine aR 1 ?_
    refine aX (x_idxS h5) ?_
    refine aR 3 ?_
    refine aE ?_
    refine awp_ret ?_
    exact oF hF [] []
  · refine awp_false (by kernel_rfl) h4 ?_
    refine bE hF fun _ h6 hF => ?_
    refine awp_region ?_
    refine aR 1 ?_
    refine aC (utf8_decodeRuneInStringSlow_ok h6) [] [] [] ?_
    refine aR 5 ?_
    refine aE ?_
    refine awp_ret ?_
    exact oF hF [] []

/-! ### strings.explode -/
def strings_explode_x2_k : Bool → AEx
  | _ => .normal

def strings_explode_x2_S (qs : List UInt8) (qn : Int) (vr : Int) : Bool → St
  | vx => Mem.st ⟨[], []⟩ (tl [(0, .v (.one (.d (.str qs)))), (1, .v (.one (.d (.int .i64 qn)))), (5, .v (.one (.d (.int .i64 vr)))), (18, .v (.one (.d (.bool vx))))]) 0

def strings_explode_x2_I (qs : List UInt8) (qn : Int) (vr : Int) : St := Mem.st ⟨[], []⟩ (tl [(0, .v (.one (.d (.str qs)))), (1, .v (.one (.d (.int .i64 qn)))), (5, .v (.one (.d (.int .i64 vr))))]) 0

theorem strings_explode_x2_ok (qs : List UInt8) (qn : Int) (vr : Int) {r} (hF : strings_explode_x2 qn vr = some r) : Awp prog 0 50 (cL (cL (cR (cR (cB f176))))) (Out 0 strings_explode_x2_k (strings_explode_x2_S qs qn vr) r) (strings_explode_x2_I qs qn vr) := by
  unfold strings_explode_x2 at hF
  refine cE hF (fun h2 hF => ?_) fun h2 hF => ?_
  · refine awp_region ?_
    refine aR 1 ?_
    refine aB h2 ?_
    refine aR 5 ?_
    refine aE ?_
    exact oO hF [] [] rfl
  · refine awp_region ?_
    refine aR 1 ?_
    refine aB h2 ?_
    refine aR 5 ?_
    refine aE ?_
    exact oO hF [] [] rfl

def strings_explode_x1_k : Int → AEx
  | _ => .normal

def strings_explode_x1_S (qs : List UInt8) (qn : Int) (vr : Int) : Int → St
  | vn => Mem.st ⟨[], []⟩ (tl [(0, .v (.one (.d (.str qs)))), (1, .v (.one (.d (.int .i64 vn))))]) 0

def strings_explode_x1_I (qs : List UInt8) (qn : Int) (vr : Int) : St := Mem.st ⟨[], []⟩ (tl [(0, .v (.one (.d (.str qs)))), (1, .v (.one (.d (.int .i64 qn)))), (5, .v (.one (.d (.int .i64 vr))))]) 0

theorem strings_explode_x1_ok (qs : List UInt8) (qn : Int) (vr : Int) {r} (hF : strings_explode_x1 qn vr = some r) : Awp prog 0 50 (cL (cR (cR (cB f176)))) (Out 0 strings_explode_x1_k (strings_explode_x1_S qs qn vr) r) (strings_explode_x1_I qs qn vr) := by
  unfold strings_explode_x1 at hF
  refine awp_seq ?_
  refine awp_to (st' := strings_explode_x2_I qs qn vr) (oT [] []) ?_
  refine bE hF fun vx1 h3 hF => ?_
  refine awp_sub (strings_explode_x2_ok qs qn vr h3) ?_
  refine cE hF (fun h4 hF => ?_) fun h4 hF => ?_
  · refine awp_true (by kernel_rfl) h4 ?_
    refine awp_region ?_
    refine aR 2 ?_
    refine aE ?_
    exact oO hF [] [] rfl
  · refine awp_false (by kernel_rfl) h4 ?_
    refine awp_skip ?_
    exact oO hF [] [] rfl

def strings_explode_x3_k : ((List UInt8) × (List (List UInt8))) → AEx
  | _ => .exit 0

def strings_explode_x3_S (vn1 : Int) : ((List UInt8) × (List (List UInt8))) → St
  | (vs5, va1) => Mem.st ⟨[(0, ⟨9, 1, List.map encS va1⟩)], []⟩ (tl [(0, .v (.one (.d (.str vs5)))), (1, .v (.one (.d (.int .i64 vn1)))), (6, .v (.one (.own 0 none)))]) 1

def strings_explode_x3_H (vn1 : Int) : (List UInt8) × (List (List UInt8)) × Int → St
  | (vs, va, vi) => Mem.st ⟨[(0, ⟨9, 1, List.map encS va⟩)], []⟩ (tl [(0, .v (.one (.d (.str vs)))), (1, .v (.one (.d (.int .i64 vn1)))), (6, .v (.one (.own 0 none))), (7, .v (.one (.d (.int .i64 vi))))]) 1

theorem strings_explode_x3_ok (vn1 : Int) (s : (List UInt8) × (List (List UInt8)) × Int) (r : ((List UInt8) × (List (List UInt8)) × Int) ⊕ (((List UInt8) × (List (List UInt8))))) (hF : strings_explode_x3 vn1 s = some r) : Awp prog 0 50 (cL (cL (cR (cL (cR (cR (cR (cR (cB f176))))))))) (Out 0 (kk strings_explode_x3_k) (SS (strings_explode_x3_H vn1) (strings_explode_x3_S vn1)) r) (strings_explode_x3_H vn1 s) := by
  obtain ⟨vs, va, vi⟩ := s
  unfold strings_explode_x3 at hF
  refine awp_seq ?_
  refine awp_seq ?_
  refine awp_region ?_
  refine aR 4 ?_
  refine aE ?_
  refine cE hF (fun h7 hF => ?_) fun h7 hF => ?_
  · refine awp_true (by kernel_rfl) h7 ?_
    refine awp_skip ?_
    refine awp_seq ?_
    refine awp_block ?_
    refine awp_seq ?_
    refine bE hF fun x h8 hF => ?_
    obtain ⟨vr2, vr1_2⟩ := x
    refine awp_region ?_
    refine aR 1 ?_
    refine aC (utf8_DecodeRuneInString_ok h8) [] [] [] ?_
    refine aR 5 ?_
    refine aE ?_
    refine awp_seq ?_
    refine bE hF fun vs3 h9 hF => ?_
    refine bE hF fun vy1 h10 hF => ?_
    refine awp_region ?_
    refine aR 4 ?_
    refine aX (x_sliceS h9) ?_
    refine aX (x_idxO encS 0 h10) ?_
    refine aX (x_stE encS vs3 h10) ?_
    refine aE ?_
    refine bE hF fun vs4 h11 hF => ?_
    refine awp_region ?_
    refine aR 2 ?_
    refine aX (x_sliceS h11) ?_
    refine aR 1 ?_
    refine aE ?_
    refine awp_region ?_
    refine aR 3 ?_
    refine aE ?_
    exact oO hF [] [] rfl
  · refine awp_false (by kernel_rfl) h7 ?_
    refine awp_exit ?_
    exact oO hF [] [] rfl

def strings_explode_x4_k : (List (List UInt8)) → AEx
  | _ => .normal

def strings_explode_x4_S (vn1 : Int) (vs5_1 : List UInt8) (va1_1 : List (List UInt8)) : (List (List UInt8)) → St
  | va2 => Mem.st ⟨[(0, ⟨9, 1, List.map encS va2⟩)], []⟩ (tl [(6, .v (.one (.own 0 none)))]) 1

def strings_explode_x4_I (vn1 : Int) (vs5_1 : List UInt8) (va1_1 : List (List UInt8)) : St := Mem.st ⟨[(0, ⟨9, 1, List.map encS va1_1⟩)], []⟩ (tl [(0, .v (.one (.d (.str vs5_1)))), (1, .v (.one (.d (.int .i64 vn1)))), (6, .v (.one (.own 0 none)))]) 1

theorem strings_explode_x4_ok (vn1 : Int) (vs5_1 : List UInt8) (va1_1 : List (List UInt8)) {r} (hF : strings_explode_x4 vn1 vs5_1 va1_1 = some r) : Awp prog 0 50 (cL (cR (cR (cR (cR (cR (cB f176))))))) (Out 0 strings_explode_x4_k (strings_explode_x4_S vn1 vs5_1 va1_1) r) (strings_explode_x4_I vn1 vs5_1 va1_1) := by
  unfold strings_explode_x4 at hF
  refine awp_seq ?_
  refine awp_region ?_
  refine aR 2 ?_
  refine aE ?_
  refine cE hF (fun h13 hF => ?_) fun h13 hF => ?_
  · refine awp_true (by kernel_rfl) h13 ?_
    refine bE hF fun vy2 h14 hF => ?_
    refine awp_region ?_
    refine aR 4 ?_
    refine aX (x_idxO encS 0 h14) ?_
    refine aX (x_stE encS vs5_1 h14) ?_
    refine aE ?_
    exact oO hF [] [] rfl
  · refine awp_false (by kernel_rfl) h13 ?_
    refine awp_skip ?_
    exact oO hF [] [] rfl

def strings_explode_R (qs : List UInt8) (qn : Int) (r : (List (List UInt8))) : TV × Mem := (.v (.one (.own 0 none)), ⟨[(0, ⟨9, 1, List.map encS r⟩)], []⟩)

theorem strings_explode_ok {qs : List UInt8} {qn : Int} {r} (hF : strings_explode qs qn = some r) : Holds prog 176 [.v (.one (.d (.str qs))), .v (.one (.d (.int .i64 qn)))] ⟨[], []⟩ (Is (strings_explode_R qs qn r)) := by
  unfold strings_explode at hF
  refine holds_of_awp hΓ (fn := f176) (c := cB f176) (A := 0) (nx := 0) (by kernel_rfl) (by kernel_rfl) (by kernel_rfl) (by kernel_rfl) (by kernel_rfl) (by kernel_rfl) (lowc_of (by kernel_rfl)) ?_
  show Awp prog 0 50 (cB f176) _ _
  refine awp_seq ?_
  refine awp_region ?_
  refine aR 1 ?_
  refine aE ?_
  refine awp_seq ?_
  refine bE hF fun vr h1 hF => ?_
  refine awp_region ?_
  refine aR 1 ?_
  refine aC (utf8_RuneCountInString_ok h1) [] [] [] ?_
  refine aR 1 ?_
  refine aE ?_
  refine awp_seq ?_
  refine awp_to (st' := strings_explode_x1_I qs qn vr) (oT [] []) ?_
  refine bE hF fun vn1 h5 hF => ?_
  refine awp_sub (strings_explode_x1_ok qs qn vr h5) ?_
  refine awp_seq ?_
  refine gE hF fun h6 hF => ?_
  refine awp_region ?_
  refine aR 1 ?_
  refine aX (x_mk encS ([] : List UInt8) h6) ?_
  refine aR 1 ?_
  refine aE ?_
  refine awp_seq ?_
  refine awp_seq ?_
  refine awp_region ?_
  refine aR 1 ?_
  refine aE ?_
  refine awp_block ?_
  refine awp_to (st' := strings_explode_x3_H vn1 (qs, List.replicate vn1.toNat ([] : List UInt8), 0)) (oT [(0, 1000)] []) ?_
  refine bE hF fun x h12 hF => ?_
  obtain ⟨vs5_1, va1_1⟩ := x
  refine awp_sub (awp_loop' (strings_explode_x3_H vn1) strings_explode_x3_k (strings_explode_x3_S vn1) (by intro x; exact fun h => nomatch h) h12 (strings_explode_x3_ok vn1)) ?_
  refine awp_seq ?_
  refine awp_to (st' := strings_explode_x4_I vn1 vs5_1 va1_1) (oT [] []) ?_
  refine bE hF fun va2_1 h15 hF => ?_
  refine awp_sub (strings_explode_x4_ok vn1 vs5_1 va1_1 h15) ?_
  refine awp_seq ?_
  refine awp_region ?_
  refine aR 2 ?_
  refine aE ?_
  refine awp_ret ?_
  exact oF hF [] []

/-! ### internal/stringslite.Index -/
def stringslite_Index_x1_k : Bool → AEx
  | _ => .normal

def stringslite_Index_x1_S (qx : List UInt8) (qx1 : List UInt8) : Bool → St
  | vx => Mem.st ⟨[], []⟩ (tl [(0, .v (.one (.d (.str qx)))), (1, .v (.one (.d (.str qx1)))), (5, .v (.one (.d (.int .i64 (qx1.length : Int))))), (16, .v (.one (.d (.bool vx))))]) 0

def stringslite_Index_x1_I (qx : List UInt8) (qx1 : List UInt8) : St := Mem.st ⟨[], []⟩ (tl [(0, .v (.one (.d (.str qx)))), (1, .v (.one (.d (.str qx1)))), (5, .v (.one (.d (.int .i64 (qx1.length : Int)))))]) 0

theorem stringslite_Index_x1_ok (qx : List UInt8) (qx1 : List UInt8) {r} (hF : stringslite_Index_x1 qx qx1 = some r) : Awp prog 0 143 (cL (cL (cL (cR (cR (cB f219)))))) (Out 0 stringslite_Index_x1_k (stringslite_Index_x1_S qx qx1) r) (stringslite_Index_x1_I qx qx1) := by
  unfold stringslite_Index_x1 at hF
  refine cE hF (fun h1 hF => ?_) fun h1 hF => ?_
  · refine awp_region ?_
    refine aR 1 ?_
    refine aB h1 ?_
    refine aR 6 ?_
    refine aE ?_
    exact oO hF [] [] rfl
  · refine awp_region ?_
    refine aR 1 ?_
    refine aB h1 ?_
    refine aR 6 ?_
    refine aE ?_
    exact oO hF [] [] rfl

def stringslite_Index_R (qx : List UInt8) (qx1 : List UInt8) (r : Int) : TV × Mem := (.v (.one (.d (.int .i64 r))), ⟨[], []⟩)

theorem stringslite_Index_ok {qx : List UInt8} {qx1 : List UInt8} {r} (hF : stringslite_Index qx qx1 = some r) : Holds prog 219 [.v (.one (.d (.str qx))), .v (.one (.d (.str qx1)))] ⟨[], []⟩ (Is (stringslite_Index_R qx qx1 r)) := by
  unfold stringslite_Index at hF
  refine holds_of_awp hΓ (fn := f219) (c := cB f219) (A := 0) (nx := 0) (by kernel_rfl) (by kernel_rfl) (by kernel_rfl) (by kernel_rfl) (by kernel_rfl) (by kernel_rfl) (lowc_of (by kernel_rfl)) ?_
  show Awp prog 0 143 (cB f219) _ _
  refine awp_seq ?_
  refine awp_region ?_
  refine aR 1 ?_
  refine aE ?_
  refine awp_seq ?_
  refine awp_region ?_
  refine aR 3 ?_
  refine aE ?_
  refine awp_seq ?_
  refine awp_block ?_
  refine awp_seq ?_
  refine awp_to (st' := stringslite_Index_x1_I qx qx1) (oT [] []) ?_
  refine bE hF fun vx1 h2 hF => ?_
  refine awp_sub (stringslite_Index_x1_ok qx qx1 h2) ?_
  refine cE hF (fun h3 hF => ?_) fun h3 hF => ?_
  · refine awp_true (by kernel_rfl) h3 ?_
    refine awp_seq ?_
    refine awp_region ?_
    refine aR 1 ?_
    refine aE ?_
    refine awp_ret ?_
    exact oF hF [] []
  · refine awp_false (by kernel_rfl) h3 ?_
    refine awp_seq ?_
    refine awp_region ?_
    refine aR 3 ?_
    refine aE ?_
    refine cE hF (fun h4 hF => ?_) fun h4 hF => ?_
    · refine awp_true (by kernel_rfl) h4 ?_
      refine awp_seq ?_
      refine bE hF fun vc h5 hF => ?_
      refine bE hF fun _ h6 hF => ?_
      refine awp_region ?_
      refine aR 2 ?_
      refine aX (x_idxS h5) ?_
      refine aC (stringslite_IndexByte_ok h6) [] [] [] ?_
      refine aR 1 ?_
      refine aE ?_
      refine awp_ret ?_
      exact oF hF [] []
    · refine awp_false (by kernel_rfl) h4 ?_
      refine awp_seq ?_
      refine awp_region ?_
      refine aR 5 ?_
      refine aE ?_
      refine cE hF (fun h7 hF => ?_) fun h7 hF => ?_
      · refine awp_true (by kernel_rfl) h7 ?_
        refine awp_seq ?_
        refine awp_region ?_
        refine aR 1 ?_
        refine aE ?_
        refine awp_ret ?_
        exact oF hF [] []
      · refine awp_false (by kernel_rfl) h7 ?_
        refine awp_seq ?_
        exact nE hF

/-! ### strings.Index -/
def strings_Index_R (qs : List UInt8) (qsubstr : List UInt8) (r : Int) : TV × Mem := (.v (.one (.d (.int .i64 r))), ⟨[], []⟩)

theorem strings_Index_ok {qs : List UInt8} {qsubstr : List UInt8} {r} (hF : strings_Index qs qsubstr = some r) : Holds prog 178 [.v (.one (.d (.str qs))), .v (.one (.d (.str qsubstr)))] ⟨[], []⟩ (Is (strings_Index_R qs qsubstr r)) := by
  unfold strings_Index at hF
  refine holds_of_awp hΓ (fn := f178) (c := cB f178) (A := 0) (nx := 0) (by kernel_rfl) (by kernel_rfl) (by kernel_rfl) (by kernel_rfl) (by kernel_rfl) (by kernel_rfl) (lowc_of (by kernel_rfl)) ?_
  show Awp prog 0 8 (cB f178) _ _
  refine awp_seq ?_
  refine awp_region ?_
  refine aR 1 ?_
  refine aE ?_
  refine awp_seq ?_
  refine bE hF fun vr h1 hF => ?_
  refine awp_region ?_
  refine aR 2 ?_
  refine aC (stringslite_Index_ok h1) [] [] [] ?_
  refine aR 1 ?_
  refine aE ?_
  refine awp_ret ?_
  exact oF hF [] []

/-! ### strings.Count -/
def strings_Count_x1_k : Int → AEx
  | _ => .ret

def strings_Count_x1_S (qsubstr : List UInt8) : Int → St
  | vx => Mem.st ⟨[], []⟩ (tl [(4, .v (.one (.d (.int .i64 vx))))]) 0

def strings_Count_x1_H (qsubstr : List UInt8) : (List UInt8) × Int → St
  | (vs, vn) => Mem.st ⟨[], []⟩ (tl [(0, .v (.one (.d (.str vs)))), (1, .v (.one (.d (.str qsubstr)))), (5, .v (.one (.d (.int .i64 vn))))]) 0

theorem strings_Count_x1_ok (qsubstr : List UInt8) (s : (List UInt8) × Int) (r : ((List UInt8) × Int) ⊕ (Int)) (hF : strings_Count_x1 qsubstr s = some r) : Awp prog 0 34 (cL (cL (cR (cR (cR (cR (cB f177))))))) (Out 0 (kk strings_Count_x1_k) (SS (strings_Count_x1_H qsubstr) (strings_Count_x1_S qsubstr)) r) (strings_Count_x1_H qsubstr s) := by
  obtain ⟨vs, vn⟩ := s
  unfold strings_Count_x1 at hF
  refine awp_block ?_
  refine awp_seq ?_
  refine bE hF fun vr1_1 h5 hF => ?_
  refine awp_region ?_
  refine aR 2 ?_
  refine aC (strings_Index_ok h5) [] [] [] ?_
  refine aR 1 ?_
  refine aE ?_
  refine awp_seq ?_
  refine awp_seq ?_
  refine awp_region ?_
  refine aR 2 ?_
  refine aE ?_
  refine cE hF (fun h6 hF => ?_) fun h6 hF => ?_
  · refine awp_true (by kernel_rfl) h6 ?_
    refine awp_seq ?_
    refine awp_region ?_
    refine aR 2 ?_
    refine aE ?_
    refine awp_ret ?_
    exact oO hF [] [] rfl
  · refine awp_false (by kernel_rfl) h6 ?_
    refine awp_skip ?_
    refine awp_seq ?_
    refine awp_region ?_
    refine aR 3 ?_
    refine aE ?_
    refine bE hF fun vs2 h7 hF => ?_
    refine awp_region ?_
    refine aR 5 ?_
    refine aX (x_sliceS h7) ?_
    refine aR 1 ?_
    refine aE ?_
    exact oO hF [] [] rfl

def strings_Count_R (qs : List UInt8) (qsubstr : List UInt8) (r : Int) : TV × Mem := (.v (.one (.d (.int .i64 r))), ⟨[], []⟩)

theorem strings_Count_ok {qs : List UInt8} {qsubstr : List UInt8} {r} (hF : strings_Count qs qsubstr = some r) : Holds prog 177 [.v (.one (.d (.str qs))), .v (.one (.d (.str qsubstr)))] ⟨[], []⟩ (Is (strings_Count_R qs qsubstr r)) := by
  unfold strings_Count at hF
  refine holds_of_awp hΓ (fn := f177) (c := cB f177) (A := 0) (nx := 0) (by kernel_rfl) (by kernel_rfl) (by kernel_rfl) (by kernel_rfl) (by kernel_rfl) (by kernel_rfl) (lowc_of (by kernel_rfl)) ?_
  show Awp prog 0 34 (cB f177) _ _
  refine awp_seq ?_
  refine awp_region ?_
  refine aR 1 ?_
  refine aE ?_
  refine awp_seq ?_
  refine awp_seq ?_
  refine awp_region ?_
  refine aR 3 ?_
  refine aE ?_
  refine cE hF (fun h1 hF => ?_) fun h1 hF => ?_
  · refine awp_true (by kernel_rfl) h1 ?_
    refine awp_seq ?_
    refine bE hF fun vr h2 hF => ?_
    refine awp_region ?_
    refine aR 1 ?_
    refine aC (utf8_RuneCountInString_ok h2) [] [] [] ?_
    refine aR 2 ?_
    refine aE ?_
    refine awp_ret ?_
    exact oF hF [] []
  · refine awp_false (by kernel_rfl) h1 ?_
    refine awp_skip ?_
    refine awp_seq ?_
    refine awp_seq ?_
    refine awp_region ?_
    refine aR 3 ?_
    refine aE ?_
    refine cE hF (fun h3 hF => ?_) fun h3 hF => ?_
    · refine awp_true (by kernel_rfl) h3 ?_
      refine awp_seq ?_
      refine bE hF fun vc h4 hF => ?_
      refine awp_region ?_
      refine aR 2 ?_
      refine aX (x_idxS h4) ?_
      refine aS (does_count (g := 222) (fn := f222) (a := qs) (c := (vc.toNat : Int)) rfl (by kernel_rfl) (by kernel_rfl) (by kernel_rfl) (by kernel_rfl) (by kernel_rfl) (by kernel_rfl)) ?_
      refine aR 1 ?_
      refine aE ?_
      refine awp_ret ?_
      exact oF hF [] []
    · refine awp_false (by kernel_rfl) h3 ?_
      refine awp_skip ?_
      refine awp_seq ?_
      refine awp_region ?_
      refine aR 1 ?_
      refine aE ?_
      refine awp_block ?_
      refine awp_to (st' := strings_Count_x1_H qsubstr (qs, 0)) (oT [] []) ?_
      refine bE hF fun vx1 h8 hF => ?_
      refine awp_sub (awp_loop' (strings_Count_x1_H qsubstr) strings_Count_x1_k (strings_Count_x1_S qsubstr) (by intro x; exact fun h => nomatch h) h8 (strings_Count_x1_ok qsubstr)) ?_
      exact oF hF [] []

/-! ### strings.genSplit -/
def strings_genSplit_x1_k : Int → AEx
  | _ => .normal

def strings_genSplit_x1_S (qx : List UInt8) (qx1 : List UInt8) (qx2 : Int) (qx3 : Int) : Int → St
  | vx => Mem.st ⟨[], []⟩ (tl [(0, .v (.one (.d (.str qx)))), (1, .v (.one (.d (.str qx1)))), (2, .v (.one (.d (.int .i64 qx2)))), (3, .v (.one (.d (.int .i64 vx))))]) 0

def strings_genSplit_x1_I (qx : List UInt8) (qx1 : List UInt8) (qx2 : Int) (qx3 : Int) : St := Mem.st ⟨[], []⟩ (tl [(0, .v (.one (.d (.str qx)))), (1, .v (.one (.d (.str qx1)))), (2, .v (.one (.d (.int .i64 qx2)))), (3, .v (.one (.d (.int .i64 qx3))))]) 0

theorem strings_genSplit_x1_ok (qx : List UInt8) (qx1 : List UInt8) (qx2 : Int) (qx3 : Int) {r} (hF : strings_genSplit_x1 qx qx1 qx3 = some r) : Awp prog 0 66 (cL (cR (cR (cR (cB f131))))) (Out 0 strings_genSplit_x1_k (strings_genSplit_x1_S qx qx1 qx2 qx3) r) (strings_genSplit_x1_I qx qx1 qx2 qx3) := by
  unfold strings_genSplit_x1 at hF
  refine awp_seq ?_
  refine awp_region ?_
  refine aR 2 ?_
  refine aE ?_
  refine cE hF (fun h4 hF => ?_) fun h4 hF => ?_
  · refine awp_true (by kernel_rfl) h4 ?_
    refine bE hF fun vr2 h5 hF => ?_
    refine awp_region ?_
    refine aR 2 ?_
    refine aC (strings_Count_ok h5) [] [] [] ?_
    refine aR 2 ?_
    refine aE ?_
    exact oO hF [] [] rfl
  · refine awp_false (by kernel_rfl) h4 ?_
    refine awp_skip ?_
    exact oO hF [] [] rfl

def strings_genSplit_x2_k : ((List UInt8) × (List (List UInt8)) × Int) → AEx
  | _ => .exit 0

def strings_genSplit_x2_S (qx : List UInt8) (qx1 : List UInt8) (qx2 : Int) (vx1 : Int) : ((List UInt8) × (List (List UInt8)) × Int) → St
  | (vx5, vx6, vx7) => Mem.st ⟨[(0, ⟨9, 1, List.map encS vx6⟩)], []⟩ (tl [(0, .v (.one (.d (.str vx5)))), (9, .v (.one (.own 0 none))), (10, .v (.one (.d (.int .i64 vx7))))]) 1

def strings_genSplit_x2_H (qx : List UInt8) (qx1 : List UInt8) (qx2 : Int) (vx1 : Int) : (List UInt8) × (List (List UInt8)) × Int → St
  | (vx2, vx3, vx4) => Mem.st ⟨[(0, ⟨9, 1, List.map encS vx3⟩)], []⟩ (tl [(0, .v (.one (.d (.str vx2)))), (1, .v (.one (.d (.str qx1)))), (2, .v (.one (.d (.int .i64 qx2)))), (3, .v (.one (.d (.int .i64 (IntKind.wrap .i64 ((imin vx1 (IntKind.wrap .i64 ((qx.length : Int) + 1))) - 1)))))), (9, .v (.one (.own 0 none))), (10, .v (.one (.d (.int .i64 vx4))))]) 1

theorem strings_genSplit_x2_ok (qx : List UInt8) (qx1 : List UInt8) (qx2 : Int) (vx1 : Int) (s : (List UInt8) × (List (List UInt8)) × Int) (r : ((List UInt8) × (List (List UInt8)) × Int) ⊕ (((List UInt8) × (List (List UInt8)) × Int))) (hF : strings_genSplit_x2 qx qx1 qx2 vx1 s = some r) : Awp prog 0 66 (cL (cL (cL (cR (cR (cR (cR (cR (cR (cR (cR (cB f131)))))))))))) (Out 0 (kk strings_genSplit_x2_k) (SS (strings_genSplit_x2_H qx qx1 qx2 vx1) (strings_genSplit_x2_S qx qx1 qx2 vx1)) r) (strings_genSplit_x2_H qx qx1 qx2 vx1 s) := by
  obtain ⟨vx2, vx3, vx4⟩ := s
  unfold strings_genSplit_x2 at hF
  refine awp_seq ?_
  refine awp_seq ?_
  refine awp_region ?_
  refine aR 3 ?_
  refine aE ?_
  refine cE hF (fun h8 hF => ?_) fun h8 hF => ?_
  · refine awp_true (by kernel_rfl) h8 ?_
    refine awp_skip ?_
    refine awp_block ?_
    refine awp_seq ?_
    refine bE hF fun vr1_1 h9 hF => ?_
    refine awp_region ?_
    refine aR 2 ?_
    refine aC (strings_Index_ok h9) [] [] [] ?_
    refine aR 1 ?_
    refine aE ?_
    refine awp_seq ?_
    refine awp_seq ?_
    refine awp_region ?_
    refine aR 2 ?_
    refine aE ?_
    refine cE hF (fun h10 hF => ?_) fun h10 hF => ?_
    · refine awp_true (by kernel_rfl) h10 ?_
      refine awp_exit ?_
      exact oO hF [] [] rfl
    · refine awp_false (by kernel_rfl) h10 ?_
      refine awp_skip ?_
      refine awp_seq ?_
      refine bE hF fun vs2 h11 hF => ?_
      refine bE hF fun vy1 h12 hF => ?_
      refine awp_region ?_
      refine aR 6 ?_
      refine aX (x_sliceS h11) ?_
      refine aX (x_idxO encS 0 h12) ?_
      refine aX (x_stE encS vs2 h12) ?_
      refine aE ?_
      refine awp_seq ?_
      refine bE hF fun vs3 h13 hF => ?_
      refine awp_region ?_
      refine aR 5 ?_
      refine aX (x_sliceS h13) ?_
      refine aR 1 ?_
      refine aE ?_
      refine awp_region ?_
      refine aR 3 ?_
      refine aE ?_
      exact oO hF [] [] rfl
  · refine awp_false (by kernel_rfl) h8 ?_
    refine awp_exit ?_
    exact oO hF [] [] rfl

def strings_genSplit_R (qx : List UInt8) (qx1 : List UInt8) (qx2 : Int) (qx3 : Int) (r : (List (List UInt8))) : TV × Mem := (.v (.one (.own 0 none)), ⟨[(0, ⟨9, 1, List.map encS r⟩)], []⟩)

theorem strings_genSplit_ok {qx : List UInt8} {qx1 : List UInt8} {qx2 : Int} {qx3 : Int} {r} (hF : strings_genSplit qx qx1 qx2 qx3 = some r) : Holds prog 131 [.v (.one (.d (.str qx))), .v (.one (.d (.str qx1))), .v (.one (.d (.int .i64 qx2))), .v (.one (.d (.int .i64 qx3)))] ⟨[], []⟩ (Is (strings_genSplit_R qx qx1 qx2 qx3 r)) := by
  unfold strings_genSplit at hF
  refine holds_of_awp hΓ (fn := f131) (c := cB f131) (A := 0) (nx := 0) (by kernel_rfl) (by kernel_rfl) (by kernel_rfl) (by kernel_rfl) (by kernel_rfl) (by kernel_rfl) (lowc_of (by kernel_rfl)) ?_
  show Awp prog 0 66 (cB f131) _ _
  refine awp_seq ?_
  refine awp_region ?_
  refine aR 1 ?_
  refine aE ?_
  refine awp_seq ?_
  refine awp_seq ?_
  refine awp_region ?_
  refine aR 2 ?_
  refine aE ?_
  refine cE hF (fun h1 hF => ?_) fun h1 hF => ?_
  · refine awp_true (by kernel_rfl) h1 ?_
    refine awp_seq ?_
    refine awp_region ?_
    refine aR 1 ?_
    refine aE ?_
    refine awp_ret ?_
    exact oF hF [] [0]
  · refine awp_false (by kernel_rfl) h1 ?_
    refine awp_skip ?_
    refine awp_seq ?_
    refine awp_seq ?_
    refine awp_region ?_
    refine aR 2 ?_
    refine aE ?_
    refine cE hF (fun h2 hF => ?_) fun h2 hF => ?_
    · refine awp_true (by kernel_rfl) h2 ?_
      refine awp_seq ?_
      refine bE hF fun vr3 h3 hF => ?_
      refine awp_region ?_
      refine aR 2 ?_
      refine aC (strings_explode_ok h3) [] [] [] ?_
      refine aR 1 ?_
      refine aE ?_
      refine awp_ret ?_
      exact oF hF [(0, 7000)] []
    · refine awp_false (by kernel_rfl) h2 ?_
      refine awp_skip ?_
      refine awp_seq ?_
      refine awp_to (st' := strings_genSplit_x1_I qx qx1 qx2 qx3) (oT [] []) ?_
      refine bE hF fun vx1 h6 hF => ?_
      refine awp_sub (strings_genSplit_x1_ok qx qx1 qx2 qx3 h6) ?_
      refine awp_seq ?_
      refine awp_region ?_
      refine aR 6 ?_
      refine aE ?_
      refine awp_seq ?_
      refine gE hF fun h7 hF => ?_
      refine awp_region ?_
      refine aR 1 ?_
      refine aX (x_mk encS ([] : List UInt8) h7) ?_
      refine aR 1 ?_
      refine aE ?_
      refine awp_seq ?_
      refine awp_region ?_
      refine aR 3 ?_
      refine aE ?_
      refine awp_seq ?_
      refine awp_region ?_
      refine aR 1 ?_
      refine aE ?_
      refine awp_seq ?_
      refine awp_block ?_
      refine awp_to (st' := strings_genSplit_x2_H qx qx1 qx2 vx1 (qx, List.replicate (imin vx1 (IntKind.wrap .i64 ((qx.length : Int) + 1))).toNat ([] : List UInt8), 0)) (oT [(0, 7000)] []) ?_
      refine bE hF fun x h14 hF => ?_
      obtain ⟨vx5_1, vx6_1, vx7_1⟩ := x
      refine awp_sub (awp_loop' (strings_genSplit_x2_H qx qx1 qx2 vx1) strings_genSplit_x2_k (strings_genSplit_x2_S qx qx1 qx2 vx1) (by intro x; exact fun h => nomatch h) h14 (strings_genSplit_x2_ok qx qx1 qx2 vx1)) ?_
      refine awp_seq ?_
      refine bE hF fun vy2 h15 hF => ?_
      refine awp_region ?_
      refine aR 3 ?_
      refine aX (x_idxO encS 0 h15) ?_
      refine aX (x_stE encS vx5_1 h15) ?_
      refine aE ?_
      refine awp_seq ?_
      refine gE hF fun h16 hF => ?_
      refine awp_region ?_
      refine aR 3 ?_
      refine aT encS 0 h16 rfl ?_
      refine aR 1 ?_
      refine aE ?_
      refine awp_ret ?_
      exact oF hF [(0, 8001)] []

/-! ### strings.Split -/
def strings_Split_R (qs : List UInt8) (qsep : List UInt8) (r : (List (List UInt8))) : TV × Mem := (.v (.one (.own 0 none)), ⟨[(0, ⟨9, 1, List.map encS r⟩)], []⟩)

theorem strings_Split_ok {qs : List UInt8} {qsep : List UInt8} {r} (hF : strings_Split qs qsep = some r) : Holds prog 71 [.v (.one (.d (.str qs))), .v (.one (.d (.str qsep)))] ⟨[], []⟩ (Is (strings_Split_R qs qsep r)) := by
  unfold strings_Split at hF
  refine holds_of_awp hΓ (fn := f71) (c := cB f71) (A := 0) (nx := 0) (by kernel_rfl) (by kernel_rfl) (by kernel_rfl) (by kernel_rfl) (by kernel_rfl) (by kernel_rfl) (lowc_of (by kernel_rfl)) ?_
  show Awp prog 0 8 (cB f71) _ _
  refine awp_seq ?_
  refine awp_region ?_
  refine aR 1 ?_
  refine aE ?_
  refine awp_seq ?_
  refine bE hF fun vr h1 hF => ?_
  refine awp_region ?_
  refine aR 2 ?_
  refine aC (strings_genSplit_ok h1) [] [] [] ?_
  refine aR 1 ?_
  refine aE ?_
  refine awp_ret ?_
  exact oF hF [(0, 3000)] []

/-! ### beaconfleet/base.Lines -/
def base_Lines_R (qs : List UInt8) (r : (List (List UInt8)) × Bool) : TV × Mem := (.tup [.one (.own 0 none), .one (.d (.bool r.2))], ⟨[(0, ⟨9, 1, List.map encS r.1⟩)], []⟩)

theorem base_Lines_ok {qs : List UInt8} {r} (hF : base_Lines qs = some r) : Holds prog 128 [.v (.one (.d (.str qs)))] ⟨[], []⟩ (Is (base_Lines_R qs r)) := by
  unfold base_Lines at hF
  refine holds_of_awp hΓ (fn := f128) (c := cB f128) (A := 0) (nx := 0) (by kernel_rfl) (by kernel_rfl) (by kernel_rfl) (by kernel_rfl) (by kernel_rfl) (by kernel_rfl) (lowc_of (by kernel_rfl)) ?_
  show Awp prog 0 15 (cB f128) _ _
  refine awp_seq ?_
  refine awp_region ?_
  refine aR 2 ?_
  refine aE ?_
  refine awp_seq ?_
  refine awp_seq ?_
  refine awp_region ?_
  refine aR 2 ?_
  refine aE ?_
  refine cE hF (fun h1 hF => ?_) fun h1 hF => ?_
  · refine awp_true (by kernel_rfl) h1 ?_
    refine awp_seq ?_
    refine awp_region ?_
    refine aR 2 ?_
    refine aE ?_
    refine awp_ret ?_
    exact oF hF [] [0]
  · refine awp_false (by kernel_rfl) h1 ?_
    refine awp_skip ?_
    refine awp_seq ?_
    refine bE hF fun x h2 hF => ?_
    obtain ⟨vr, vr3⟩ := x
    refine awp_region ?_
    refine aR 1 ?_
    refine aC (strings_CutSuffix_ok h2) [] [] [] ?_
    refine aR 5 ?_
    refine aE ?_
    refine awp_seq ?_
    refine bE hF fun vr1 h3 hF => ?_
    refine awp_region ?_
    refine aR 1 ?_
    refine aC (strings_Split_ok h3) [] [] [] ?_
    refine aR 3 ?_
    refine aE ?_
    refine awp_ret ?_
    exact oF hF [(0, 12000)] []

/-! ### beaconfleet/base.Words -/
def base_Words_x1_k : Unit ⊕ Unit → AEx
  | .inl _ => .exit 0
  | .inr _ => .ret

def base_Words_x1_S (vr1 : List (List UInt8)) : Unit ⊕ Unit → St
  | .inl _ => Mem.st ⟨[(0, ⟨9, 1, List.map encS vr1⟩)], []⟩ (tl [(6, .v (.one (.own 0 none)))]) 1
  | .inr _ => Mem.st ⟨[], []⟩ (tl [(4, .v (.one (.nil))), (5, .v (.one (.d (.bool false))))]) 0

def base_Words_x1_H (vr1 : List (List UInt8)) : Int → St
  | vx => Mem.st ⟨[(0, ⟨9, 1, List.map encS vr1⟩)], []⟩ (tl [(6, .v (.one (.own 0 none))), (15, .v (.one (.own 0 none))), (16, .v (.one (.d (.int .i64 (vr1.length : Int))))), (17, .v (.one (.d (.int .i64 vx))))]) 1

theorem base_Words_x1_ok (vr1 : List (List UInt8)) (vx : Int) (r : (Int) ⊕ (Unit ⊕ Unit)) (hF : base_Words_x1 vr1 vx = some r) : Awp prog 0 25 (cL (cL (cR (cL (cR (cR (cR (cB f67)))))))) (Out 0 (kk base_Words_x1_k) (SS (base_Words_x1_H vr1) (base_Words_x1_S vr1)) r) (base_Words_x1_H vr1 vx) := by
  unfold base_Words_x1 at hF
  refine awp_seq ?_
  refine awp_region ?_
  refine aR 1 ?_
  refine aE ?_
  refine awp_seq ?_
  refine cE hF (fun h3 hF => ?_) fun h3 hF => ?_
  · refine awp_true (by kernel_rfl) h3 ?_
    refine awp_skip ?_
    refine awp_seq ?_
    refine awp_block ?_
    refine awp_seq ?_
    refine bE hF fun vy1 h4 hF => ?_
    refine awp_region ?_
    refine aX (x_idxO encS 0 h4) ?_
    refine aX (x_ldE encS h4) ?_
    refine aR 1 ?_
    refine aE ?_
    refine awp_seq ?_
    refine awp_region ?_
    refine aR 2 ?_
    refine aE ?_
    refine cE hF (fun h5 hF => ?_) fun h5 hF => ?_
    · refine awp_true (by kernel_rfl) h5 ?_
      refine awp_seq ?_
      refine awp_region ?_
      refine aR 2 ?_
      refine aE ?_
      refine awp_ret ?_
      exact oO hF [] [] rfl
    · refine awp_false (by kernel_rfl) h5 ?_
      refine awp_skip ?_
      refine awp_region ?_
      refine aR 2 ?_
      refine aE ?_
      exact oO hF [] [] rfl
  · refine awp_false (by kernel_rfl) h3 ?_
    refine awp_exit ?_
    exact oO hF [] [] rfl

def base_Words_R (qline : List UInt8) (qmany : Int) (r : (List (List UInt8)) × Bool) : TV × Mem := (.tup [.one (.own 0 none), .one (.d (.bool r.2))], ⟨[(0, ⟨9, 1, List.map encS r.1⟩)], []⟩)

theorem base_Words_ok {qline : List UInt8} {qmany : Int} {r} (hF : base_Words qline qmany = some r) : Holds prog 67 [.v (.one (.d (.str qline))), .v (.one (.d (.int .i64 qmany)))] ⟨[], []⟩ (Is (base_Words_R qline qmany r)) := by
  unfold base_Words at hF
  refine holds_of_awp hΓ (fn := f67) (c := cB f67) (A := 0) (nx := 0) (by kernel_rfl) (by kernel_rfl) (by kernel_rfl) (by kernel_rfl) (by kernel_rfl) (by kernel_rfl) (lowc_of (by kernel_rfl)) ?_
  show Awp prog 0 25 (cB f67) _ _
  refine awp_seq ?_
  refine awp_region ?_
  refine aR 2 ?_
  refine aE ?_
  refine awp_seq ?_
  refine bE hF fun vr1 h1 hF => ?_
  refine awp_region ?_
  refine aR 1 ?_
  refine aC (strings_Split_ok h1) [] [] [] ?_
  refine aR 1 ?_
  refine aE ?_
  refine awp_seq ?_
  refine awp_seq ?_
  refine awp_region ?_
  refine aR 1 ?_
  refine aL encS vr1 ?_
  refine aR 2 ?_
  refine aE ?_
  refine cE hF (fun h2 hF => ?_) fun h2 hF => ?_
  · refine awp_true (by kernel_rfl) h2 ?_
    refine awp_seq ?_
    refine awp_region ?_
    refine aR 2 ?_
    refine aE ?_
    refine awp_ret ?_
    exact oF hF [] [0]
  · refine awp_false (by kernel_rfl) h2 ?_
    refine awp_skip ?_
    refine awp_seq ?_
    refine awp_seq ?_
    refine awp_region ?_
    refine aR 1 ?_
    refine aL encS vr1 ?_
    refine aR 1 ?_
    refine aE ?_
    refine awp_block ?_
    refine awp_to (st' := base_Words_x1_H vr1 0) (oT [(0, 3000)] []) ?_
    refine bE hF fun x h6 hF => ?_
    rcases x with _ | _
    · refine awp_sub (awp_loop' (base_Words_x1_H vr1) base_Words_x1_k (base_Words_x1_S vr1) (by intro x; rcases x with x | x <;> exact fun h => nomatch h) h6 (base_Words_x1_ok vr1)) ?_
      refine awp_seq ?_
      refine awp_region ?_
      refine aR 3 ?_
      refine aE ?_
      refine awp_ret ?_
      exact oF hF [] []
    · refine awp_sub (awp_loop' (base_Words_x1_H vr1) base_Words_x1_k (base_Words_x1_S vr1) (by intro x; rcases x with x | x <;> exact fun h => nomatch h) h6 (base_Words_x1_ok vr1)) ?_
      exact oF hF [] [0]

/-! ### internal/stringslite.HasPrefix -/
def stringslite_HasPrefix_x1_k : Bool → AEx
  | _ => .normal

def stringslite_HasPrefix_x1_S (qs : List UInt8) (qprefix : List UInt8) : Bool → St
  | vx => Mem.st ⟨[], []⟩ (tl [(4, .v (.one (.d (.bool vx))))]) 0

def stringslite_HasPrefix_x1_I (qs : List UInt8) (qprefix : List UInt8) : St := Mem.st ⟨[], []⟩ (tl [(0, .v (.one (.d (.str qs)))), (1, .v (.one (.d (.str qprefix))))]) 0

theorem stringslite_HasPrefix_x1_ok (qs : List UInt8) (qprefix : List UInt8) {r} (hF : stringslite_HasPrefix_x1 qs qprefix = some r) : Awp prog 0 18 (cL (cR (cB f223))) (Out 0 stringslite_HasPrefix_x1_k (stringslite_HasPrefix_x1_S qs qprefix) r) (stringslite_HasPrefix_x1_I qs qprefix) := by
  unfold stringslite_HasPrefix_x1 at hF
  refine cE hF (fun h1 hF => ?_) fun h1 hF => ?_
  · refine bE hF fun vs h2 hF => ?_
    refine awp_region ?_
    refine aR 4 ?_
    refine aB h1 ?_
    refine aR 4 ?_
    refine aX (x_sliceS h2) ?_
    refine aR 4 ?_
    refine aE ?_
    exact oO hF [] [] rfl
  · refine awp_region ?_
    refine aR 4 ?_
    refine aB h1 ?_
    refine aR 9 ?_
    refine aE ?_
    exact oO hF [] [] rfl

def stringslite_HasPrefix_R (qs : List UInt8) (qprefix : List UInt8) (r : Bool) : TV × Mem := (.v (.one (.d (.bool r))), ⟨[], []⟩)

theorem stringslite_HasPrefix_ok {qs : List UInt8} {qprefix : List UInt8} {r} (hF : stringslite_HasPrefix qs qprefix = some r) : Holds prog 223 [.v (.one (.d (.str qs))), .v (.one (.d (.str qprefix)))] ⟨[], []⟩ (Is (stringslite_HasPrefix_R qs qprefix r)) := by
  unfold stringslite_HasPrefix at hF
  refine holds_of_awp hΓ (fn := f223) (c := cB f223) (A := 0) (nx := 0) (by kernel_rfl) (by kernel_rfl) (by kernel_rfl) (by kernel_rfl) (by kernel_rfl) (by kernel_rfl) (lowc_of (by kernel_rfl)) ?_
  show Awp prog 0 18 (cB f223) _ _
  refine awp_seq ?_
  refine awp_region ?_
  refine aR 1 ?_
  refine aE ?_
  refine awp_seq ?_
  refine awp_to (st' := stringslite_HasPrefix_x1_I qs qprefix) (oT [] []) ?_
  refine bE hF fun vx1 h3 hF => ?_
  refine awp_sub (stringslite_HasPrefix_x1_ok qs qprefix h3) ?_
  refine awp_ret ?_
  exact oF hF [] []

/-! ### internal/stringslite.TrimPrefix -/
def stringslite_TrimPrefix_R (qs : List UInt8) (qprefix : List UInt8) (r : (List UInt8)) : TV × Mem := (.v (.one (.d (.str r))), ⟨[], []⟩)

theorem stringslite_TrimPrefix_ok {qs : List UInt8} {qprefix : List UInt8} {r} (hF : stringslite_TrimPrefix qs qprefix = some r) : Holds prog 179 [.v (.one (.d (.str qs))), .v (.one (.d (.str qprefix)))] ⟨[], []⟩ (Is (stringslite_TrimPrefix_R qs qprefix r)) := by
  unfold stringslite_TrimPrefix at hF
  refine holds_of_awp hΓ (fn := f179) (c := cB f179) (A := 0) (nx := 0) (by kernel_rfl) (by kernel_rfl) (by kernel_rfl) (by kernel_rfl) (by kernel_rfl) (by kernel_rfl) (lowc_of (by kernel_rfl)) ?_
  show Awp prog 0 13 (cB f179) _ _
  refine awp_seq ?_
  refine awp_region ?_
  refine aR 1 ?_
  refine aE ?_
  refine awp_seq ?_
  refine awp_seq ?_
  refine bE hF fun vr h1 hF => ?_
  refine awp_region ?_
  refine aR 2 ?_
  refine aC (stringslite_HasPrefix_ok h1) [] [] [] ?_
  refine aE ?_
  refine cE hF (fun h2 hF => ?_) fun h2 hF => ?_
  · refine awp_true (by kernel_rfl) h2 ?_
    refine awp_seq ?_
    refine bE hF fun vs h3 hF => ?_
    refine awp_region ?_
    refine aR 3 ?_
    refine aX (x_sliceS h3) ?_
    refine aR 1 ?_
    refine aE ?_
    refine awp_ret ?_
    exact oF hF [] []
  · refine awp_false (by kernel_rfl) h2 ?_
    refine awp_skip ?_
    refine awp_seq ?_
    refine awp_region ?_
    refine aR 2 ?_
    refine aE ?_
    refine awp_ret ?_
    exact oF hF [] []

/-! ### strings.TrimPrefix -/
def strings_TrimPrefix_R (qs : List UInt8) (qprefix : List UInt8) (r : (List UInt8)) : TV × Mem := (.v (.one (.d (.str r))), ⟨[], []⟩)

theorem strings_TrimPrefix_ok {qs : List UInt8} {qprefix : List UInt8} {r} (hF : strings_TrimPrefix qs qprefix = some r) : Holds prog 133 [.v (.one (.d (.str qs))), .v (.one (.d (.str qprefix)))] ⟨[], []⟩ (Is (strings_TrimPrefix_R qs qprefix r)) := by
  unfold strings_TrimPrefix at hF
  refine holds_of_awp hΓ (fn := f133) (c := cB f133) (A := 0) (nx := 0) (by kernel_rfl) (by kernel_rfl) (by kernel_rfl) (by kernel_rfl) (by kernel_rfl) (by kernel_rfl) (lowc_of (by kernel_rfl)) ?_
  show Awp prog 0 8 (cB f133) _ _
  refine awp_seq ?_
  refine awp_region ?_
  refine aR 1 ?_
  refine aE ?_
  refine awp_seq ?_
  refine bE hF fun vr1 h1 hF => ?_
  refine awp_region ?_
  refine aR 2 ?_
  refine aC (stringslite_TrimPrefix_ok h1) [] [] [] ?_
  refine aR 1 ?_
  refine aE ?_
  refine awp_ret ?_
  exact oF hF [] []

/-! ### internal/strconv.lower -/
def strconv_lower_R (qc : Int) (r : Unit) : TV × Mem := (.v (.one (.d (.int .u8 (ibits .or .u8 qc 32)))), ⟨[], []⟩)

theorem strconv_lower_ok {qc : Int} {r} (hF : strconv_lower qc = some r) : Holds prog 282 [.v (.one (.d (.int .u8 qc)))] ⟨[], []⟩ (Is (strconv_lower_R qc r)) := by
  unfold strconv_lower at hF
  refine holds_of_awp hΓ (fn := f282) (c := cB f282) (A := 0) (nx := 0) (by kernel_rfl) (by kernel_rfl) (by kernel_rfl) (by kernel_rfl) (by kernel_rfl) (by kernel_rfl) (lowc_of (by kernel_rfl)) ?_
  show Awp prog 0 5 (cB f282) _ _
  refine awp_seq ?_
  refine awp_region ?_
  refine aR 1 ?_
  refine aE ?_
  refine awp_seq ?_
  refine awp_region ?_
  refine aR 3 ?_
  refine aE ?_
  refine awp_ret ?_
  exact oF hF [] []

/-! ### internal/strconv.underscoreOK -/
def strconv_underscoreOK_x2_k : Bool → AEx
  | _ => .normal

def strconv_underscoreOK_x2_S (qx : List UInt8) : Bool → St
  | vx => Mem.st ⟨[], []⟩ (tl [(0, .v (.one (.d (.str qx)))), (3, .v (.one (.d (.int .i32 94)))), (4, .v (.one (.d (.int .i64 0)))), (18, .v (.one (.d (.bool vx))))]) 0

def strconv_underscoreOK_x2_I (qx : List UInt8) : St := Mem.st ⟨[], []⟩ (tl [(0, .v (.one (.d (.str qx)))), (3, .v (.one (.d (.int .i32 94)))), (4, .v (.one (.d (.int .i64 0))))]) 0

theorem strconv_underscoreOK_x2_ok (qx : List UInt8) {r} (hF : strconv_underscoreOK_x2 qx = some r) : Awp prog 0 94 (cL (cL (cR (cR (cR (cB f283)))))) (Out 0 strconv_underscoreOK_x2_k (strconv_underscoreOK_x2_S qx) r) (strconv_underscoreOK_x2_I qx) := by
  unfold strconv_underscoreOK_x2 at hF
  refine cE hF (fun h1 hF => ?_) fun h1 hF => ?_
  · refine bE hF fun vc h2 hF => ?_
    refine cE hF (fun h3 hF => ?_) fun h3 hF => ?_
    · refine awp_region ?_
      refine aR 2 ?_
      refine aB h1 ?_
      refine aR 2 ?_
      refine aX (x_idxS h2) ?_
      refine aB h3 ?_
      refine aR 6 ?_
      refine aE ?_
      exact oO hF [] [] rfl
    · refine awp_region ?_
      refine aR 2 ?_
      refine aB h1 ?_
      refine aR 2 ?_
      refine aX (x_idxS h2) ?_
      refine aB h3 ?_
      refine aR 2 ?_
      refine aX (x_idxS h2) ?_
      refine aR 3 ?_
      refine aE ?_
      exact oO hF [] [] rfl
  · refine awp_region ?_
    refine aR 2 ?_
    refine aB h1 ?_
    refine aR 10 ?_
    refine aE ?_
    exact oO hF [] [] rfl

def strconv_underscoreOK_x1_k : (List UInt8) → AEx
  | _ => .normal

def strconv_underscoreOK_x1_S (qx : List UInt8) : (List UInt8) → St
  | vx2 => Mem.st ⟨[], []⟩ (tl [(0, .v (.one (.d (.str vx2)))), (3, .v (.one (.d (.int .i32 94)))), (4, .v (.one (.d (.int .i64 0))))]) 0

def strconv_underscoreOK_x1_I (qx : List UInt8) : St := Mem.st ⟨[], []⟩ (tl [(0, .v (.one (.d (.str qx)))), (3, .v (.one (.d (.int .i32 94)))), (4, .v (.one (.d (.int .i64 0))))]) 0

theorem strconv_underscoreOK_x1_ok (qx : List UInt8) {r} (hF : strconv_underscoreOK_x1 qx = some r) : Awp prog 0 94 (cL (cR (cR (cR (cB f283))))) (Out 0 strconv_underscoreOK_x1_k (strconv_underscoreOK_x1_S qx) r) (strconv_underscoreOK_x1_I qx) := by
  unfold strconv_underscoreOK_x1 at hF
  refine awp_seq ?_
  refine awp_to (st' := strconv_underscoreOK_x2_I qx) (oT [] []) ?_
  refine bE hF fun vx1 h4 hF => ?_
  refine awp_sub (strconv_underscoreOK_x2_ok qx h4) ?_
  refine cE hF (fun h5 hF => ?_) fun h5 hF => ?_
  · refine awp_true (by kernel_rfl) h5 ?_
    refine bE hF fun vs h6 hF => ?_
    refine awp_region ?_
    refine aR 1 ?_
    refine aX (x_sliceS h6) ?_
    refine aR 1 ?_
    refine aE ?_
    exact oO hF [] [] rfl
  · refine awp_false (by kernel_rfl) h5 ?_
    refine awp_skip ?_
    exact oO hF [] [] rfl

def strconv_underscoreOK_x4_k : Bool → AEx
  | _ => .normal

def strconv_underscoreOK_x4_S (vx2_1 : List UInt8) : Bool → St
  | vx3 => Mem.st ⟨[], []⟩ (tl [(0, .v (.one (.d (.str vx2_1)))), (3, .v (.one (.d (.int .i32 94)))), (4, .v (.one (.d (.int .i64 0)))), (5, .v (.one (.d (.bool false)))), (46, .v (.one (.d (.bool vx3))))]) 0

def strconv_underscoreOK_x4_I (vx2_1 : List UInt8) : St := Mem.st ⟨[], []⟩ (tl [(0, .v (.one (.d (.str vx2_1)))), (3, .v (.one (.d (.int .i32 94)))), (4, .v (.one (.d (.int .i64 0)))), (5, .v (.one (.d (.bool false))))]) 0

theorem strconv_underscoreOK_x4_ok (vx2_1 : List UInt8) {r} (hF : strconv_underscoreOK_x4 vx2_1 = some r) : Awp prog 0 94 (cL (cL (cR (cR (cR (cR (cR (cB f283)))))))) (Out 0 strconv_underscoreOK_x4_k (strconv_underscoreOK_x4_S vx2_1) r) (strconv_underscoreOK_x4_I vx2_1) := by
  unfold strconv_underscoreOK_x4 at hF
  refine cE hF (fun h8 hF => ?_) fun h8 hF => ?_
  · refine bE hF fun vc1 h9 hF => ?_
    refine cE hF (fun h10 hF => ?_) fun h10 hF => ?_
    · refine bE hF fun vc2 h11 hF => ?_
      refine bE hF fun _ h12 hF => ?_
      refine cE hF (fun h13 hF => ?_) fun h13 hF => ?_
      · refine awp_region ?_
        refine aR 2 ?_
        refine aB h8 ?_
        refine aR 2 ?_
        refine aX (x_idxS h9) ?_
        refine aB h10 ?_
        refine aR 3 ?_
        refine aX (x_idxS h11) ?_
        refine aC (strconv_lower_ok h12) [] [] [] ?_
        refine aB h13 ?_
        refine aR 13 ?_
        refine aE ?_
        exact oO hF [] [] rfl
      · refine cE hF (fun h14 hF => ?_) fun h14 hF => ?_
        · refine awp_region ?_
          refine aR 2 ?_
          refine aB h8 ?_
          refine aR 2 ?_
          refine aX (x_idxS h9) ?_
          refine aB h10 ?_
          refine aR 3 ?_
          refine aX (x_idxS h11) ?_
          refine aC (strconv_lower_ok h12) [] [] [] ?_
          refine aB h13 ?_
          refine aR 2 ?_
          refine aX (x_idxS h11) ?_
          refine aC (strconv_lower_ok h12) [] [] [] ?_
          refine aB h14 ?_
          refine aR 8 ?_
          refine aE ?_
          exact oO hF [] [] rfl
        · refine awp_region ?_
          refine aR 2 ?_
          refine aB h8 ?_
          refine aR 2 ?_
          refine aX (x_idxS h9) ?_
          refine aB h10 ?_
          refine aR 3 ?_
          refine aX (x_idxS h11) ?_
          refine aC (strconv_lower_ok h12) [] [] [] ?_
          refine aB h13 ?_
          refine aR 2 ?_
          refine aX (x_idxS h11) ?_
          refine aC (strconv_lower_ok h12) [] [] [] ?_
          refine aB h14 ?_
          refine aR 3 ?_
          refine aX (x_idxS h11) ?_
          refine aC (strconv_lower_ok h12) [] [] [] ?_
          refine aR 3 ?_
          refine aE ?_
          exact oO hF [] [] rfl
    · refine awp_region ?_
      refine aR 2 ?_
      refine aB h8 ?_
      refine aR 2 ?_
      refine aX (x_idxS h9) ?_
      refine aB h10 ?_
      refine aR 19 ?_
      refine aE ?_
      exact oO hF [] [] rfl
  · refine awp_region ?_
    refine aR 2 ?_
    refine aB h8 ?_
    refine aR 23 ?_
    refine aE ?_
    exact oO hF [] [] rfl

def strconv_underscoreOK_x3_k : (Int × Int × Bool) → AEx
  | _ => .normal

def strconv_underscoreOK_x3_S (vx2_1 : List UInt8) : (Int × Int × Bool) → St
  | (vx4, vx5, vx6) => Mem.st ⟨[], []⟩ (tl [(0, .v (.one (.d (.str vx2_1)))), (3, .v (.one (.d (.int .i32 vx4)))), (4, .v (.one (.d (.int .i64 vx5)))), (5, .v (.one (.d (.bool vx6))))]) 0

def strconv_underscoreOK_x3_I (vx2_1 : List UInt8) : St := Mem.st ⟨[], []⟩ (tl [(0, .v (.one (.d (.str vx2_1)))), (3, .v (.one (.d (.int .i32 94)))), (4, .v (.one (.d (.int .i64 0)))), (5, .v (.one (.d (.bool false))))]) 0

theorem strconv_underscoreOK_x3_ok (vx2_1 : List UInt8) {r} (hF : strconv_underscoreOK_x3 vx2_1 = some r) : Awp prog 0 94 (cL (cR (cR (cR (cR (cR (cB f283))))))) (Out 0 strconv_underscoreOK_x3_k (strconv_underscoreOK_x3_S vx2_1) r) (strconv_underscoreOK_x3_I vx2_1) := by
  unfold strconv_underscoreOK_x3 at hF
  refine awp_seq ?_
  refine awp_to (st' := strconv_underscoreOK_x4_I vx2_1) (oT [] []) ?_
  refine bE hF fun vx3_1 h15 hF => ?_
  refine awp_sub (strconv_underscoreOK_x4_ok vx2_1 h15) ?_
  refine cE hF (fun h16 hF => ?_) fun h16 hF => ?_
  · refine awp_true (by kernel_rfl) h16 ?_
    refine awp_seq ?_
    refine awp_region ?_
    refine aR 1 ?_
    refine aE ?_
    refine awp_seq ?_
    refine awp_region ?_
    refine aR 1 ?_
    refine aE ?_
    refine bE hF fun vc3 h17 hF => ?_
    refine bE hF fun _ h18 hF => ?_
    refine awp_region ?_
    refine aR 1 ?_
    refine aX (x_idxS h17) ?_
    refine aC (strconv_lower_ok h18) [] [] [] ?_
    refine aR 2 ?_
    refine aE ?_
    exact oO hF [] [] rfl
  · refine awp_false (by kernel_rfl) h16 ?_
    refine awp_skip ?_
    exact oO hF [] [] rfl

def strconv_underscoreOK_x7_k : Bool → AEx
  | _ => .normal

def strconv_underscoreOK_x7_S (vx2_1 : List UInt8) (vx6_1 : Bool) (vx7 : Int) (vx8 : Int) : Bool → St
  | vx11 => Mem.st ⟨[], []⟩ (tl [(0, .v (.one (.d (.str vx2_1)))), (3, .v (.one (.d (.int .i32 vx7)))), (4, .v (.one (.d (.int .i64 vx8)))), (5, .v (.one (.d (.bool vx6_1)))), (83, .v (.one (.d (.bool vx11))))]) 0

def strconv_underscoreOK_x7_I (vx2_1 : List UInt8) (vx6_1 : Bool) (vx7 : Int) (vx8 : Int) : St := Mem.st ⟨[], []⟩ (tl [(0, .v (.one (.d (.str vx2_1)))), (3, .v (.one (.d (.int .i32 vx7)))), (4, .v (.one (.d (.int .i64 vx8)))), (5, .v (.one (.d (.bool vx6_1))))]) 0

theorem strconv_underscoreOK_x7_ok (vx2_1 : List UInt8) (vx6_1 : Bool) (vx7 : Int) (vx8 : Int) {r} (hF : strconv_underscoreOK_x7 vx2_1 vx6_1 vx8 = some r) : Awp prog 0 94 (cL (cL (cL (cL (cR (cL (cL (cL (cR (cR (cR (cR (cR (cR (cB f283))))))))))))))) (Out 0 strconv_underscoreOK_x7_k (strconv_underscoreOK_x7_S vx2_1 vx6_1 vx7 vx8) r) (strconv_underscoreOK_x7_I vx2_1 vx6_1 vx7 vx8) := by
  unfold strconv_underscoreOK_x7 at hF
  refine bE hF fun vc6 h21 hF => ?_
  refine cE hF (fun h22 hF => ?_) fun h22 hF => ?_
  · refine cE hF (fun h23 hF => ?_) fun h23 hF => ?_
    · refine awp_region ?_
      refine aR 2 ?_
      refine aX (x_idxS h21) ?_
      refine aB h22 ?_
      refine aR 3 ?_
      refine aX (x_idxS h21) ?_
      refine aB h23 ?_
      refine aR 18 ?_
      refine aE ?_
      exact oO hF [] [] rfl
    · refine cE hF (fun h24 hF => ?_) fun h24 hF => ?_
      · refine bE hF fun _ h25 hF => ?_
        refine cE hF (fun h26 hF => ?_) fun h26 hF => ?_
        · refine awp_region ?_
          refine aR 2 ?_
          refine aX (x_idxS h21) ?_
          refine aB h22 ?_
          refine aR 3 ?_
          refine aX (x_idxS h21) ?_
          refine aB h23 ?_
          refine aR 2 ?_
          refine aB h24 ?_
          refine aR 3 ?_
          refine aX (x_idxS h21) ?_
          refine aC (strconv_lower_ok h25) [] [] [] ?_
          refine aB h26 ?_
          refine aR 4 ?_
          refine aX (x_idxS h21) ?_
          refine aC (strconv_lower_ok h25) [] [] [] ?_
          refine aR 3 ?_
          refine aE ?_
          exact oO hF [] [] rfl
        · refine awp_region ?_
          refine aR 2 ?_
          refine aX (x_idxS h21) ?_
          refine aB h22 ?_
          refine aR 3 ?_
          refine aX (x_idxS h21) ?_
          refine aB h23 ?_
          refine aR 2 ?_
          refine aB h24 ?_
          refine aR 3 ?_
          refine aX (x_idxS h21) ?_
          refine aC (strconv_lower_ok h25) [] [] [] ?_
          refine aB h26 ?_
          refine aR 9 ?_
          refine aE ?_
          exact oO hF [] [] rfl
      · refine awp_region ?_
        refine aR 2 ?_
        refine aX (x_idxS h21) ?_
        refine aB h22 ?_
        refine aR 3 ?_
        refine aX (x_idxS h21) ?_
        refine aB h23 ?_
        refine aR 2 ?_
        refine aB h24 ?_
        refine aR 15 ?_
        refine aE ?_
        exact oO hF [] [] rfl
  · refine cE hF (fun h27 hF => ?_) fun h27 hF => ?_
    · refine bE hF fun _ h28 hF => ?_
      refine cE hF (fun h29 hF => ?_) fun h29 hF => ?_
      · refine awp_region ?_
        refine aR 2 ?_
        refine aX (x_idxS h21) ?_
        refine aB h22 ?_
        refine aR 7 ?_
        refine aB h27 ?_
        refine aR 3 ?_
        refine aX (x_idxS h21) ?_
        refine aC (strconv_lower_ok h28) [] [] [] ?_
        refine aB h29 ?_
        refine aR 4 ?_
        refine aX (x_idxS h21) ?_
        refine aC (strconv_lower_ok h28) [] [] [] ?_
        refine aR 3 ?_
        refine aE ?_
        exact oO hF [] [] rfl
      · refine awp_region ?_
        refine aR 2 ?_
        refine aX (x_idxS h21) ?_
        refine aB h22 ?_
        refine aR 7 ?_
        refine aB h27 ?_
        refine aR 3 ?_
        refine aX (x_idxS h21) ?_
        refine aC (strconv_lower_ok h28) [] [] [] ?_
        refine aB h29 ?_
        refine aR 9 ?_
        refine aE ?_
        exact oO hF [] [] rfl
    · refine awp_region ?_
      refine aR 2 ?_
      refine aX (x_idxS h21) ?_
      refine aB h22 ?_
      refine aR 7 ?_
      refine aB h27 ?_
      refine aR 15 ?_
      refine aE ?_
      exact oO hF [] [] rfl

def strconv_underscoreOK_x6_k : Int ⊕ Unit → AEx
  | .inl _ => .normal
  | .inr _ => .ret

def strconv_underscoreOK_x6_S (vx2_1 : List UInt8) (vx6_1 : Bool) (vx7 : Int) (vx8 : Int) : Int ⊕ Unit → St
  | .inl vx12 => Mem.st ⟨[], []⟩ (tl [(0, .v (.one (.d (.str vx2_1)))), (3, .v (.one (.d (.int .i32 vx12)))), (4, .v (.one (.d (.int .i64 vx8)))), (5, .v (.one (.d (.bool vx6_1))))]) 0
  | .inr _ => Mem.st ⟨[], []⟩ (tl [(2, .v (.one (.d (.bool false))))]) 0

def strconv_underscoreOK_x6_I (vx2_1 : List UInt8) (vx6_1 : Bool) (vx7 : Int) (vx8 : Int) : St := Mem.st ⟨[], []⟩ (tl [(0, .v (.one (.d (.str vx2_1)))), (3, .v (.one (.d (.int .i32 vx7)))), (4, .v (.one (.d (.int .i64 vx8)))), (5, .v (.one (.d (.bool vx6_1))))]) 0

theorem strconv_underscoreOK_x6_ok (vx2_1 : List UInt8) (vx6_1 : Bool) (vx7 : Int) (vx8 : Int) {r} (hF : strconv_underscoreOK_x6 vx2_1 vx6_1 vx7 vx8 = some r) : Awp prog 0 94 (cL (cR (cL (cL (cL (cR (cR (cR (cR (cR (cR (cB f283)))))))))))) (Out 0 strconv_underscoreOK_x6_k (strconv_underscoreOK_x6_S vx2_1 vx6_1 vx7 vx8) r) (strconv_underscoreOK_x6_I vx2_1 vx6_1 vx7 vx8) := by
  unfold strconv_underscoreOK_x6 at hF
  refine awp_block ?_
  refine awp_seq ?_
  refine awp_seq ?_
  refine awp_to (st' := strconv_underscoreOK_x7_I vx2_1 vx6_1 vx7 vx8) (oT [] []) ?_
  refine bE hF fun vx11_1 h30 hF => ?_
  refine awp_sub (strconv_underscoreOK_x7_ok vx2_1 vx6_1 vx7 vx8 h30) ?_
  refine cE hF (fun h31 hF => ?_) fun h31 hF => ?_
  · refine awp_true (by kernel_rfl) h31 ?_
    refine awp_seq ?_
    refine awp_region ?_
    refine aR 1 ?_
    refine aE ?_
    refine awp_exit ?_
    exact oO hF [] [] rfl
  · refine awp_false (by kernel_rfl) h31 ?_
    refine awp_skip ?_
    refine awp_seq ?_
    refine awp_seq ?_
    refine bE hF fun vc7 h32 hF => ?_
    refine awp_region ?_
    refine aR 2 ?_
    refine aX (x_idxS h32) ?_
    refine aR 1 ?_
    refine aE ?_
    refine cE hF (fun h33 hF => ?_) fun h33 hF => ?_
    · refine awp_true (by kernel_rfl) h33 ?_
      refine awp_seq ?_
      refine awp_seq ?_
      refine awp_region ?_
      refine aR 2 ?_
      refine aE ?_
      refine cE hF (fun h34 hF => ?_) fun h34 hF => ?_
      · refine awp_true (by kernel_rfl) h34 ?_
        refine awp_seq ?_
        refine awp_region ?_
        refine aR 1 ?_
        refine aE ?_
        refine awp_ret ?_
        exact oO hF [] [] rfl
      · refine awp_false (by kernel_rfl) h34 ?_
        refine awp_skip ?_
        refine awp_seq ?_
        refine awp_region ?_
        refine aR 1 ?_
        refine aE ?_
        refine awp_exit ?_
        exact oO hF [] [] rfl
    · refine awp_false (by kernel_rfl) h33 ?_
      refine awp_skip ?_
      refine awp_seq ?_
      refine awp_seq ?_
      refine awp_region ?_
      refine aR 2 ?_
      refine aE ?_
      refine cE hF (fun h35 hF => ?_) fun h35 hF => ?_
      · refine awp_true (by kernel_rfl) h35 ?_
        refine awp_seq ?_
        refine awp_region ?_
        refine aR 1 ?_
        refine aE ?_
        refine awp_ret ?_
        exact oO hF [] [] rfl
      · refine awp_false (by kernel_rfl) h35 ?_
        refine awp_skip ?_
        refine awp_region ?_
        refine aR 1 ?_
        refine aE ?_
        exact oO hF [] [] rfl

def strconv_underscoreOK_x5_k : Int ⊕ Unit → AEx
  | .inl _ => .exit 0
  | .inr _ => .ret

def strconv_underscoreOK_x5_S (vx2_1 : List UInt8) (vx6_1 : Bool) : Int ⊕ Unit → St
  | .inl vx13 => Mem.st ⟨[], []⟩ (tl [(3, .v (.one (.d (.int .i32 vx13))))]) 0
  | .inr _ => Mem.st ⟨[], []⟩ (tl [(2, .v (.one (.d (.bool false))))]) 0

def strconv_underscoreOK_x5_H (vx2_1 : List UInt8) (vx6_1 : Bool) : Int × Int → St
  | (vx7, vx8) => Mem.st ⟨[], []⟩ (tl [(0, .v (.one (.d (.str vx2_1)))), (3, .v (.one (.d (.int .i32 vx7)))), (4, .v (.one (.d (.int .i64 vx8)))), (5, .v (.one (.d (.bool vx6_1))))]) 0

theorem strconv_underscoreOK_x5_ok (vx2_1 : List UInt8) (vx6_1 : Bool) (s : Int × Int) (r : (Int × Int) ⊕ (Int ⊕ Unit)) (hF : strconv_underscoreOK_x5 vx2_1 vx6_1 s = some r) : Awp prog 0 94 (cL (cL (cL (cR (cR (cR (cR (cR (cR (cB f283)))))))))) (Out 0 (kk strconv_underscoreOK_x5_k) (SS (strconv_underscoreOK_x5_H vx2_1 vx6_1) (strconv_underscoreOK_x5_S vx2_1 vx6_1)) r) (strconv_underscoreOK_x5_H vx2_1 vx6_1 s) := by
  obtain ⟨vx7, vx8⟩ := s
  unfold strconv_underscoreOK_x5 at hF
  refine awp_seq ?_
  refine awp_seq ?_
  refine awp_region ?_
  refine aR 4 ?_
  refine aE ?_
  refine cE hF (fun h20 hF => ?_) fun h20 hF => ?_
  · refine awp_true (by kernel_rfl) h20 ?_
    refine awp_skip ?_
    refine awp_seq ?_
    refine awp_to (st' := strconv_underscoreOK_x6_I vx2_1 vx6_1 vx7 vx8) (oT [] []) ?_
    refine bE hF fun x h36 hF => ?_
    rcases x with vx12_1 | _
    · refine awp_sub (strconv_underscoreOK_x6_ok vx2_1 vx6_1 vx7 vx8 h36) ?_
      refine awp_region ?_
      refine aR 3 ?_
      refine aE ?_
      exact oO hF [] [] rfl
    · refine awp_sub (strconv_underscoreOK_x6_ok vx2_1 vx6_1 vx7 vx8 h36) ?_
      exact oO hF [] [] rfl
  · refine awp_false (by kernel_rfl) h20 ?_
    refine awp_exit ?_
    exact oO hF [] [] rfl

def strconv_underscoreOK_R (qx : List UInt8) (r : Bool) : TV × Mem := (.v (.one (.d (.bool r))), ⟨[], []⟩)

theorem strconv_underscoreOK_ok {qx : List UInt8} {r} (hF : strconv_underscoreOK qx = some r) : Holds prog 283 [.v (.one (.d (.str qx)))] ⟨[], []⟩ (Is (strconv_underscoreOK_R qx r)) := by
  unfold strconv_underscoreOK at hF
  refine holds_of_awp hΓ (fn := f283) (c := cB f283) (A := 0) (nx := 0) (by kernel_rfl) (by kernel_rfl) (by kernel_rfl) (by kernel_rfl) (by kernel_rfl) (by kernel_rfl) (lowc_of (by kernel_rfl)) ?_
  show Awp prog 0 94 (cB f283) _ _
  refine awp_seq ?_
  refine awp_region ?_
  refine aR 1 ?_
  refine aE ?_
  refine awp_seq ?_
  refine awp_region ?_
  refine aR 1 ?_
  refine aE ?_
  refine awp_seq ?_
  refine awp_region ?_
  refine aR 1 ?_
  refine aE ?_
  refine awp_seq ?_
  refine awp_to (st' := strconv_underscoreOK_x1_I qx) (oT [] []) ?_
  refine bE hF fun vx2_1 h7 hF => ?_
  refine awp_sub (strconv_underscoreOK_x1_ok qx h7) ?_
  refine awp_seq ?_
  refine awp_region ?_
  refine aR 1 ?_
  refine aE ?_
  refine awp_seq ?_
  refine awp_to (st' := strconv_underscoreOK_x3_I vx2_1) (oT [] []) ?_
  refine bE hF fun x h19 hF => ?_
  obtain ⟨vx4_1, vx5_1, vx6_1⟩ := x
  refine awp_sub (strconv_underscoreOK_x3_ok vx2_1 h19) ?_
  refine awp_seq ?_
  refine awp_block ?_
  refine awp_to (st' := strconv_underscoreOK_x5_H vx2_1 vx6_1 (vx4_1, vx5_1)) (oT [] []) ?_
  refine bE hF fun x h37 hF => ?_
  rcases x with vx13_1 | _
  · refine awp_sub (awp_loop' (strconv_underscoreOK_x5_H vx2_1 vx6_1) strconv_underscoreOK_x5_k (strconv_underscoreOK_x5_S vx2_1 vx6_1) (by intro x; rcases x with x | x <;> exact fun h => nomatch h) h37 (strconv_underscoreOK_x5_ok vx2_1 vx6_1)) ?_
    refine awp_seq ?_
    refine awp_region ?_
    refine aR 3 ?_
    refine aE ?_
    refine awp_ret ?_
    exact oF hF [] []
  · refine awp_sub (awp_loop' (strconv_underscoreOK_x5_H vx2_1 vx6_1) strconv_underscoreOK_x5_k (strconv_underscoreOK_x5_S vx2_1 vx6_1) (by intro x; rcases x with x | x <;> exact fun h => nomatch h) h37 (strconv_underscoreOK_x5_ok vx2_1 vx6_1)) ?_
    exact oF hF [] []

end Go.Eng
