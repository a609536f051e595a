/-
The code of the Go functions that the law FixesMerge reaches does what the plain functions say, part 1.
-/
import Derived.Test.YteniijgeaofngaaGenF

import Derived.Test.YteniijgeaofngaaEng2

import Derived.Test.YteniijgeaofngaaProg

import Derived.KernelRfl

namespace Go.Eng

open Go Go.Proofs.Try

set_option linter.unusedVariables false

set_option maxRecDepth 20000

set_option maxHeartbeats 0

def ti3 : TI := ⟨1, 8, [.d (.int .i64 0)], false, .int .i64⟩

def ti5 : TI := ⟨1, 1, [.d (.int .u8 0)], false, .int .u8⟩

def ti9 : TI := ⟨1, 16, [.d (.str [])], false, .str⟩

def ti22 : TI := ⟨1, 24, [.nil], false, .slice 3⟩

def ti25 : TI := ⟨2, 32, [.nil, .d (.int .i64 0)], true, .struct [(0, 22), (1, 3)]⟩

def ti26 : TI := ⟨1, 24, [.nil], false, .slice 33⟩

def ti33 : TI := ⟨5, 48, [.d (.str []), .d (.int .i64 0), .d (.int .i64 0), .d (.int .i64 0), .d (.int .i64 0)], true, .struct [(0, 9), (1, 3), (2, 3), (3, 3), (4, 3)]⟩

def ti35 : TI := ⟨1, 8, [.d (.int .i64 0)], false, .int .i64⟩

def ti69 : TI := ⟨1, 24, [.nil], false, .slice 9⟩

def ti73 : TI := ⟨2, 16, [.d (.int .i64 0), .d (.int .i64 0)], true, .struct [(0, 3), (1, 3)]⟩

def ti77 : TI := ⟨1, 24, [.nil], false, .slice 35⟩

def ti95 : TI := ⟨1, 24, [.nil], false, .slice 5⟩

def ti101 : TI := ⟨1, 24, [.nil], false, .slice 26⟩

def Γ : Types := [(3, ti3), (5, ti5), (9, ti9), (22, ti22), (25, ti25), (26, ti26), (33, ti33), (35, ti35), (69, ti69), (73, ti73), (77, ti77), (95, ti95), (101, ti101)]

theorem hΓ : TypesOk prog Γ := typesOk_of (by kernel_rfl)

instance : TOk prog Γ := ⟨hΓ⟩

theorem hm : prog.follows .mixedOrders = true := by kernel_rfl

instance : Mixed prog := ⟨hm⟩

/-! ### beaconfleet/fleetmake.Below -/
def fleetmake_Below_x1_k : Int → AEx
  | _ => .normal

def fleetmake_Below_x1_S (qx : Int) (qn : Int) : Int → St
  | vx => Mem.st ⟨[], []⟩ (tl [(0, .v (.one (.d (.int .i64 vx))))]) 0

def fleetmake_Below_x1_I (qx : Int) (qn : Int) : St := Mem.st ⟨[], []⟩ (tl [(0, .v (.one (.d (.int .i64 (qx.tmod qn))))), (1, .v (.one (.d (.int .i64 qn))))]) 0

theorem fleetmake_Below_x1_ok (qx : Int) (qn : Int) {r} (hF : fleetmake_Below_x1 qx qn = some r) : Awp prog 0 16 (cL (cR (cR (cR (cB f44))))) (Out 0 fleetmake_Below_x1_k (fleetmake_Below_x1_S qx qn) r) (fleetmake_Below_x1_I qx qn) := by
  unfold fleetmake_Below_x1 at hF
  refine awp_seq ?_
  refine awp_region ?_
  refine aR 2 ?_
  refine aE ?_
  refine cE hF (fun h3 hF => ?_) fun h3 hF => ?_
  · refine awp_true (by kernel_rfl) h3 ?_
    refine awp_region ?_
    refine aR 4 ?_
    refine aE ?_
    exact oO hF [] [] rfl
  · refine awp_false (by kernel_rfl) h3 ?_
    refine awp_skip ?_
    exact oO hF [] [] rfl

def fleetmake_Below_R (qx : Int) (qn : Int) (r : Int) : TV × Mem := (.v (.one (.d (.int .i64 r))), ⟨[], []⟩)

theorem fleetmake_Below_ok {qx : Int} {qn : Int} {r} (hF : fleetmake_Below qx qn = some r) : Holds prog 44 [.v (.one (.d (.int .i64 qx))), .v (.one (.d (.int .i64 qn)))] ⟨[], []⟩ (Is (fleetmake_Below_R qx qn r)) := by
  unfold fleetmake_Below at hF
  refine holds_of_awp hΓ (fn := f44) (c := cB f44) (A := 0) (nx := 0) (by kernel_rfl) (by kernel_rfl) (by kernel_rfl) (by kernel_rfl) (by kernel_rfl) (by kernel_rfl) (lowc_of (by kernel_rfl)) ?_
  show Awp prog 0 16 (cB f44) _ _
  refine awp_seq ?_
  refine awp_region ?_
  refine aR 1 ?_
  refine aE ?_
  refine awp_seq ?_
  refine awp_seq ?_
  refine awp_region ?_
  refine aR 2 ?_
  refine aE ?_
  refine cE hF (fun h1 hF => ?_) fun h1 hF => ?_
  · refine awp_true (by kernel_rfl) h1 ?_
    refine awp_seq ?_
    refine awp_region ?_
    refine aR 1 ?_
    refine aE ?_
    refine awp_ret ?_
    exact oF hF [] []
  · refine awp_false (by kernel_rfl) h1 ?_
    refine awp_skip ?_
    refine awp_seq ?_
    refine gE hF fun h2 hF => ?_
    refine awp_region ?_
    refine aR 2 ?_
    refine aX (x_rem h2) ?_
    refine aR 1 ?_
    refine aE ?_
    refine awp_seq ?_
    refine awp_to (st' := fleetmake_Below_x1_I qx qn) (oT [] []) ?_
    refine bE hF fun vx1 h4 hF => ?_
    refine awp_sub (fleetmake_Below_x1_ok qx qn h4) ?_
    refine awp_seq ?_
    refine awp_region ?_
    refine aR 2 ?_
    refine aE ?_
    refine awp_ret ?_
    exact oF hF [] []

/-! ### (*beaconfleet/fleetmake.Stream).Next -/
def fleetmake_Stream_Next_R (qs : fleetmake_Stream) (qn : Int) (r : Int) : TV × Mem := (.v (.one (.d (.int .i64 r))), ⟨[], [(0, [.d (.lst (List.map (encI .i64) qs.L)), .d (.int .i64 (IntKind.wrap .i64 (qs.at_ + 1)))])]⟩)

theorem fleetmake_Stream_Next_ok {qs : fleetmake_Stream} {qn : Int} {r} (hF : fleetmake_Stream_Next qs qn = some r) : Holds prog 10 [.v (.one (.box 0 0)), .v (.one (.d (.int .i64 qn)))] ⟨[], [(0, [.d (.lst (List.map (encI .i64) qs.L)), .d (.int .i64 qs.at_)])]⟩ (Is (fleetmake_Stream_Next_R qs qn r)) := by
  unfold fleetmake_Stream_Next at hF
  refine holds_of_awp hΓ (fn := f10) (c := cB f10) (A := 1) (nx := 1) (by kernel_rfl) (by kernel_rfl) (by kernel_rfl) (by kernel_rfl) (by kernel_rfl) (by kernel_rfl) (lowc_of (by kernel_rfl)) ?_
  show Awp prog 1 64 (cB f10) _ _
  refine awp_seq ?_
  refine awp_region ?_
  refine aR 1 ?_
  refine aE ?_
  refine awp_seq ?_
  refine awp_region ?_
  refine aR 8 ?_
  refine aE ?_
  refine awp_seq ?_
  refine awp_seq ?_
  refine awp_region ?_
  refine aR 4 ?_
  refine aL (encI .i64) qs.L ?_
  refine aR 1 ?_
  refine aE ?_
  refine cE hF (fun h1 hF => ?_) fun h1 hF => ?_
  · refine awp_true (by kernel_rfl) h1 ?_
    refine awp_seq ?_
    refine bE hF fun vr h2 hF => ?_
    refine awp_region ?_
    refine aR 6 ?_
    refine aC (fleetmake_Below_ok h2) [] [] [] ?_
    refine aR 1 ?_
    refine aE ?_
    refine awp_ret ?_
    exact oF hF [] []
  · refine awp_false (by kernel_rfl) h1 ?_
    refine awp_skip ?_
    refine awp_seq ?_
    refine gE hF fun h3 hF => ?_
    refine aD ?_
    refine dR 9 ?_
    refine dL (encI .i64) qs.L ?_
    refine dX (x_rem h3) ?_
    refine dR 1 ?_
    refine dE ?_
    refine awp_seq ?_
    refine aD ?_
    refine dR 9 ?_
    refine dL (encI .i64) qs.L ?_
    refine dX (x_quo h3) ?_
    refine dR 1 ?_
    refine dE ?_
    refine awp_seq ?_
    refine bE hF fun vy h4 hF => ?_
    refine bE hF fun vr1 h5 hF => ?_
    refine bE hF fun vr2 h6 hF => ?_
    refine awp_region ?_
    refine aR 5 ?_
    refine aX (x_idx (encI .i64) h4) ?_
    refine aR 1 ?_
    refine aC (fleetmake_Below_ok h5) [] [] [] ?_
    refine aR 6 ?_
    refine aC (fleetmake_Below_ok h6) [] [] [] ?_
    refine aR 1 ?_
    refine aE ?_
    refine awp_ret ?_
    exact oF hF [] []

/-! ### (*beaconfleet/fleetmake.Stream).Range -/
def fleetmake_Stream_Range_R (qs : fleetmake_Stream) (qlow : Int) (qhigh : Int) (r : fleetmake_Stream × Int) : TV × Mem := (.v (.one (.d (.int .i64 r.2))), ⟨[], [(0, [.d (.lst (List.map (encI .i64) r.1.L)), .d (.int .i64 r.1.at_)])]⟩)

theorem fleetmake_Stream_Range_ok {qs : fleetmake_Stream} {qlow : Int} {qhigh : Int} {r} (hF : fleetmake_Stream_Range qs qlow qhigh = some r) : Holds prog 6 [.v (.one (.box 0 0)), .v (.one (.d (.int .i64 qlow))), .v (.one (.d (.int .i64 qhigh)))] ⟨[], [(0, [.d (.lst (List.map (encI .i64) qs.L)), .d (.int .i64 qs.at_)])]⟩ (Is (fleetmake_Stream_Range_R qs qlow qhigh r)) := by
  unfold fleetmake_Stream_Range at hF
  refine holds_of_awp hΓ (fn := f6) (c := cB f6) (A := 1) (nx := 1) (by kernel_rfl) (by kernel_rfl) (by kernel_rfl) (by kernel_rfl) (by kernel_rfl) (by kernel_rfl) (lowc_of (by kernel_rfl)) ?_
  show Awp prog 1 19 (cB f6) _ _
  refine awp_seq ?_
  refine awp_region ?_
  refine aR 1 ?_
  refine aE ?_
  refine awp_seq ?_
  refine awp_seq ?_
  refine awp_region ?_
  refine aR 3 ?_
  refine aE ?_
  refine cE hF (fun h1 hF => ?_) fun h1 hF => ?_
  · refine awp_true (by kernel_rfl) h1 ?_
    refine awp_seq ?_
    refine awp_region ?_
    refine aR 2 ?_
    refine aE ?_
    refine awp_ret ?_
    exact oF hF [] []
  · refine awp_false (by kernel_rfl) h1 ?_
    refine awp_skip ?_
    refine awp_seq ?_
    refine bE hF fun vr3 h2 hF => ?_
    refine awp_region ?_
    refine aR 6 ?_
    refine aC (fleetmake_Stream_Next_ok h2) [] [] [] ?_
    refine aR 2 ?_
    refine aE ?_
    refine awp_ret ?_
    exact oF hF [] []

/-! ### (*beaconfleet/fleetmake.Stream).Some -/
def fleetmake_Stream_Some_o1_R (qs : fleetmake_Stream) (ql : List (List UInt8)) (r : (List UInt8)) : TV × Mem := (.v (.one (.d (.str r))), ⟨[], [(0, [.d (.lst (List.map (encI .i64) qs.L)), .d (.int .i64 (IntKind.wrap .i64 (qs.at_ + 1)))])]⟩)

theorem fleetmake_Stream_Some_o1_ok {qs : fleetmake_Stream} {ql : List (List UInt8)} {r} (hF : fleetmake_Stream_Some_o1 qs ql = some r) : Holds prog 7 [.v (.one (.box 0 0)), .v (.one (.own 1 none))] ⟨[(1, ⟨9, 1, List.map encS ql⟩)], [(0, [.d (.lst (List.map (encI .i64) qs.L)), .d (.int .i64 qs.at_)])]⟩ (Is (fleetmake_Stream_Some_o1_R qs ql r)) := by
  unfold fleetmake_Stream_Some_o1 at hF
  refine holds_of_awp hΓ (fn := f7) (c := cB f7) (A := 2) (nx := 2) (by kernel_rfl) (by kernel_rfl) (by kernel_rfl) (by kernel_rfl) (by kernel_rfl) (by kernel_rfl) (lowc_of (by kernel_rfl)) ?_
  show Awp prog 2 12 (cB f7) _ _
  refine awp_seq ?_
  refine awp_region ?_
  refine aR 1 ?_
  refine aE ?_
  refine awp_to (oT (m := ⟨[], [(0, [.d (.lst (List.map (encI .i64) qs.L)), .d (.int .i64 qs.at_)])]⟩) (ts := [(0, .v (.one (.box 0 0))), (1, .v (.one (.d (.lst (List.map encS ql)))))]) (nx := 2) [] []) ?_
  refine awp_seq ?_
  refine bE hF fun vr3 h1 hF => ?_
  refine bE hF fun vy h2 hF => ?_
  refine awp_region ?_
  refine aR 3 ?_
  refine aL encS ql ?_
  refine aC (fleetmake_Stream_Next_ok h1) [] [] [] ?_
  refine aX (x_idx encS h2) ?_
  refine aR 2 ?_
  refine aE ?_
  refine awp_ret ?_
  exact oF hF [] []

/-! ### (*beaconfleet/fleetmake.Stream).Pick -/
def fleetmake_Stream_Pick_o1_R (qs : fleetmake_Stream) (ql : List Int) (r : Int) : TV × Mem := (.v (.one (.d (.int .i64 r))), ⟨[], [(0, [.d (.lst (List.map (encI .i64) qs.L)), .d (.int .i64 (IntKind.wrap .i64 (qs.at_ + 1)))])]⟩)

theorem fleetmake_Stream_Pick_o1_ok {qs : fleetmake_Stream} {ql : List Int} {r} (hF : fleetmake_Stream_Pick_o1 qs ql = some r) : Holds prog 38 [.v (.one (.box 0 0)), .v (.one (.own 1 none))] ⟨[(1, ⟨3, 1, List.map (encI .i64) ql⟩)], [(0, [.d (.lst (List.map (encI .i64) qs.L)), .d (.int .i64 qs.at_)])]⟩ (Is (fleetmake_Stream_Pick_o1_R qs ql r)) := by
  unfold fleetmake_Stream_Pick_o1 at hF
  refine holds_of_awp hΓ (fn := f38) (c := cB f38) (A := 2) (nx := 2) (by kernel_rfl) (by kernel_rfl) (by kernel_rfl) (by kernel_rfl) (by kernel_rfl) (by kernel_rfl) (lowc_of (by kernel_rfl)) ?_
  show Awp prog 2 12 (cB f38) _ _
  refine awp_seq ?_
  refine awp_region ?_
  refine aR 1 ?_
  refine aE ?_
  refine awp_to (oT (m := ⟨[], [(0, [.d (.lst (List.map (encI .i64) qs.L)), .d (.int .i64 qs.at_)])]⟩) (ts := [(0, .v (.one (.box 0 0))), (1, .v (.one (.d (.lst (List.map (encI .i64) ql)))))]) (nx := 2) [] []) ?_
  refine awp_seq ?_
  refine bE hF fun vr3 h1 hF => ?_
  refine bE hF fun vy h2 hF => ?_
  refine awp_region ?_
  refine aR 3 ?_
  refine aL (encI .i64) ql ?_
  refine aC (fleetmake_Stream_Next_ok h1) [] [] [] ?_
  refine aX (x_idx (encI .i64) h2) ?_
  refine aR 2 ?_
  refine aE ?_
  refine awp_ret ?_
  exact oF hF [] []

/-! ### internal/bytealg.CompareString -/
def bytealg_CompareString_R (qa : List UInt8) (qb : List UInt8) (r : Unit) : TV × Mem := (.v (.one (.d (.int .i64 (Lib.compareBytes qa qb)))), ⟨[], []⟩)

theorem bytealg_CompareString_ok {qa : List UInt8} {qb : List UInt8} {r} (hF : bytealg_CompareString qa qb = some r) : Holds prog 96 [.v (.one (.d (.str qa))), .v (.one (.d (.str qb)))] ⟨[], []⟩ (Is (bytealg_CompareString_R qa qb r)) := by
  unfold bytealg_CompareString at hF
  refine holds_of_awp hΓ (fn := f96) (c := cB f96) (A := 0) (nx := 0) (by kernel_rfl) (by kernel_rfl) (by kernel_rfl) (by kernel_rfl) (by kernel_rfl) (by kernel_rfl) (lowc_of (by kernel_rfl)) ?_
  show Awp prog 0 8 (cB f96) _ _
  refine awp_seq ?_
  refine awp_region ?_
  refine aR 1 ?_
  refine aE ?_
  refine awp_seq ?_
  refine awp_region ?_
  refine aR 2 ?_
  refine aS (does_cmpstring (g := 114) (fn := f114) (a := qa) (b := qb) rfl (by kernel_rfl) (by kernel_rfl) (by kernel_rfl) (by kernel_rfl) (by kernel_rfl) (by kernel_rfl)) ?_
  refine aR 1 ?_
  refine aE ?_
  refine awp_ret ?_
  exact oF hF [] []

/-! ### strings.Compare -/
def strings_Compare_R (qa : List UInt8) (qb : List UInt8) (r : Unit) : TV × Mem := (.v (.one (.d (.int .i64 (Lib.compareBytes qa qb)))), ⟨[], []⟩)

theorem strings_Compare_ok {qa : List UInt8} {qb : List UInt8} {r} (hF : strings_Compare qa qb = some r) : Holds prog 81 [.v (.one (.d (.str qa))), .v (.one (.d (.str qb)))] ⟨[], []⟩ (Is (strings_Compare_R qa qb r)) := by
  unfold strings_Compare at hF
  refine holds_of_awp hΓ (fn := f81) (c := cB f81) (A := 0) (nx := 0) (by kernel_rfl) (by kernel_rfl) (by kernel_rfl) (by kernel_rfl) (by kernel_rfl) (by kernel_rfl) (lowc_of (by kernel_rfl)) ?_
  show Awp prog 0 8 (cB f81) _ _
  refine awp_seq ?_
  refine awp_region ?_
  refine aR 1 ?_
  refine aE ?_
  refine awp_seq ?_
  refine bE hF fun _ h1 hF => ?_
  refine awp_region ?_
  refine aR 2 ?_
  refine aC (bytealg_CompareString_ok h1) [] [] [] ?_
  refine aR 1 ?_
  refine aE ?_
  refine awp_ret ?_
  exact oF hF [] []

/-! ### beaconfleet/fleetref2.sign -/
def fleetref2_sign_R (qn : Int) (r : Int) : TV × Mem := (.v (.one (.d (.int .i64 r))), ⟨[], []⟩)

theorem fleetref2_sign_ok {qn : Int} {r} (hF : fleetref2_sign qn = some r) : Holds prog 82 [.v (.one (.d (.int .i64 qn)))] ⟨[], []⟩ (Is (fleetref2_sign_R qn r)) := by
  unfold fleetref2_sign at hF
  refine holds_of_awp hΓ (fn := f82) (c := cB f82) (A := 0) (nx := 0) (by kernel_rfl) (by kernel_rfl) (by kernel_rfl) (by kernel_rfl) (by kernel_rfl) (by kernel_rfl) (lowc_of (by kernel_rfl)) ?_
  show Awp prog 0 9 (cB f82) _ _
  refine awp_seq ?_
  refine awp_region ?_
  refine aR 1 ?_
  refine aE ?_
  refine awp_seq ?_
  refine awp_block ?_
  refine awp_seq ?_
  refine awp_region ?_
  refine aR 3 ?_
  refine aE ?_
  refine cE hF (fun h1 hF => ?_) fun h1 hF => ?_
  · refine awp_true (by kernel_rfl) h1 ?_
    refine awp_seq ?_
    refine awp_region ?_
    refine aR 1 ?_
    refine aE ?_
    refine awp_ret ?_
    exact oF hF [] []
  · refine awp_false (by kernel_rfl) h1 ?_
    refine awp_seq ?_
    refine awp_region ?_
    refine aR 3 ?_
    refine aE ?_
    refine cE hF (fun h2 hF => ?_) fun h2 hF => ?_
    · refine awp_true (by kernel_rfl) h2 ?_
      refine awp_seq ?_
      refine awp_region ?_
      refine aR 1 ?_
      refine aE ?_
      refine awp_ret ?_
      exact oF hF [] []
    · refine awp_false (by kernel_rfl) h2 ?_
      refine awp_skip ?_
      refine awp_seq ?_
      refine awp_region ?_
      refine aR 1 ?_
      refine aE ?_
      refine awp_ret ?_
      exact oF hF [] []

/-! ### beaconfleet/fleetref2.FixOrder -/
def fleetref2_FixOrder_R (qa : api_Fix) (qb : api_Fix) (r : Int) : TV × Mem := (.v (.one (.d (.int .i64 r))), ⟨[], []⟩)

theorem fleetref2_FixOrder_ok {qa : api_Fix} {qb : api_Fix} {r} (hF : fleetref2_FixOrder qa qb = some r) : Holds prog 40 [.v (.agg [.d (.str qa.Device), .d (.int .i64 qa.At), .d (.int .i64 qa.X), .d (.int .i64 qa.Y), .d (.int .i64 qa.Error)]), .v (.agg [.d (.str qb.Device), .d (.int .i64 qb.At), .d (.int .i64 qb.X), .d (.int .i64 qb.Y), .d (.int .i64 qb.Error)])] ⟨[], []⟩ (Is (fleetref2_FixOrder_R qa qb r)) := by
  unfold fleetref2_FixOrder at hF
  refine holds_of_awp hΓ (fn := f40) (c := cB f40) (A := 0) (nx := 0) (by kernel_rfl) (by kernel_rfl) (by kernel_rfl) (by kernel_rfl) (by kernel_rfl) (by kernel_rfl) (lowc_of (by kernel_rfl)) ?_
  show Awp prog 0 21 (cB f40) _ _
  refine awp_seq ?_
  refine awp_region ?_
  refine aR 3 ?_
  refine aE ?_
  refine awp_seq ?_
  refine awp_seq ?_
  refine awp_region ?_
  refine aR 5 ?_
  refine aE ?_
  refine cE hF (fun h1 hF => ?_) fun h1 hF => ?_
  · refine awp_true (by kernel_rfl) h1 ?_
    refine awp_seq ?_
    refine bE hF fun _ h2 hF => ?_
    refine awp_region ?_
    refine aR 4 ?_
    refine aC (strings_Compare_ok h2) [] [] [] ?_
    refine aR 1 ?_
    refine aE ?_
    refine awp_ret ?_
    exact oF hF [] []
  · refine awp_false (by kernel_rfl) h1 ?_
    refine awp_skip ?_
    refine awp_seq ?_
    refine bE hF fun vr h3 hF => ?_
    refine awp_region ?_
    refine aR 5 ?_
    refine aC (fleetref2_sign_ok h3) [] [] [] ?_
    refine aR 1 ?_
    refine aE ?_
    refine awp_ret ?_
    exact oF hF [] []

/-! ### slices.insertionSortCmpFunc[beaconfleet/api.Fix] -/
def slices_insertionSortCmpFunc_api_Fix_o0_f3_fleetref2_FixOrder_x3_k : Bool → AEx
  | _ => .normal

def slices_insertionSortCmpFunc_api_Fix_o0_f3_fleetref2_FixOrder_x3_S (qa : Int) (qb : Int) (vi : Int) (vl3 : List api_Fix) (vj1 : Int) : Bool → St
  | vx4 => Mem.st ⟨[(0, ⟨33, 5, List.map api_Fix.enc vl3⟩)], []⟩ (tl [(0, .v (.one (.own 0 none))), (1, .v (.one (.d (.int .i64 qa)))), (2, .v (.one (.d (.int .i64 qb)))), (3, .v (.one (.fn 40 []))), (8, .v (.one (.d (.int .i64 vi)))), (9, .v (.one (.d (.int .i64 vj1)))), (34, .v (.one (.d (.bool vx4))))]) 1

def slices_insertionSortCmpFunc_api_Fix_o0_f3_fleetref2_FixOrder_x3_I (qa : Int) (qb : Int) (vi : Int) (vl3 : List api_Fix) (vj1 : Int) : St := Mem.st ⟨[(0, ⟨33, 5, List.map api_Fix.enc vl3⟩)], []⟩ (tl [(0, .v (.one (.own 0 none))), (1, .v (.one (.d (.int .i64 qa)))), (2, .v (.one (.d (.int .i64 qb)))), (3, .v (.one (.fn 40 []))), (8, .v (.one (.d (.int .i64 vi)))), (9, .v (.one (.d (.int .i64 vj1))))]) 1

theorem slices_insertionSortCmpFunc_api_Fix_o0_f3_fleetref2_FixOrder_x3_ok (qa : Int) (qb : Int) (vi : Int) (vl3 : List api_Fix) (vj1 : Int) {r} (hF : slices_insertionSortCmpFunc_api_Fix_o0_f3_fleetref2_FixOrder_x3 qa vl3 vj1 = some r) : Awp prog 1 53 (cL (cL (cL (cL (cR (cL (cL (cR (cL (cL (cR (cB f94)))))))))))) (Out 1 slices_insertionSortCmpFunc_api_Fix_o0_f3_fleetref2_FixOrder_x3_k (slices_insertionSortCmpFunc_api_Fix_o0_f3_fleetref2_FixOrder_x3_S qa qb vi vl3 vj1) r) (slices_insertionSortCmpFunc_api_Fix_o0_f3_fleetref2_FixOrder_x3_I qa qb vi vl3 vj1) := by
  unfold slices_insertionSortCmpFunc_api_Fix_o0_f3_fleetref2_FixOrder_x3 at hF
  refine cE hF (fun h2 hF => ?_) fun h2 hF => ?_
  · refine bE hF fun vy15 h3 hF => ?_
    refine bE hF fun vy16 h4 hF => ?_
    refine bE hF fun vr1_3 h5 hF => ?_
    refine aD ?_
    refine dR 2 ?_
    refine dB h2 ?_
    refine dR 4 ?_
    refine dX (x_idxO api_Fix.enc 0 h3) ?_
    refine dX (x_ldE api_Fix.enc h3) ?_
    refine dR 3 ?_
    refine dX (x_idxO api_Fix.enc 0 h4) ?_
    refine dX (x_ldE api_Fix.enc h4) ?_
    refine dC (fleetref2_FixOrder_ok h5) [] [] [] ?_
    refine dR 2 ?_
    refine dE ?_
    exact oO hF [] [] rfl
  · refine aD ?_
    refine dR 2 ?_
    refine dB h2 ?_
    refine dR 14 ?_
    refine dE ?_
    exact oO hF [] [] rfl

def slices_insertionSortCmpFunc_api_Fix_o0_f3_fleetref2_FixOrder_x2_k : (List api_Fix) → AEx
  | _ => .exit 2

def slices_insertionSortCmpFunc_api_Fix_o0_f3_fleetref2_FixOrder_x2_S (qa : Int) (qb : Int) (vi : Int) : (List api_Fix) → St
  | vl4 => Mem.st ⟨[(0, ⟨33, 5, List.map api_Fix.enc vl4⟩)], []⟩ (tl [(0, .v (.one (.own 0 none))), (1, .v (.one (.d (.int .i64 qa)))), (2, .v (.one (.d (.int .i64 qb)))), (3, .v (.one (.fn 40 []))), (8, .v (.one (.d (.int .i64 vi))))]) 1

def slices_insertionSortCmpFunc_api_Fix_o0_f3_fleetref2_FixOrder_x2_H (qa : Int) (qb : Int) (vi : Int) : (List api_Fix) × Int → St
  | (vl3, vj1) => Mem.st ⟨[(0, ⟨33, 5, List.map api_Fix.enc vl3⟩)], []⟩ (tl [(0, .v (.one (.own 0 none))), (1, .v (.one (.d (.int .i64 qa)))), (2, .v (.one (.d (.int .i64 qb)))), (3, .v (.one (.fn 40 []))), (8, .v (.one (.d (.int .i64 vi)))), (9, .v (.one (.d (.int .i64 vj1))))]) 1

theorem slices_insertionSortCmpFunc_api_Fix_o0_f3_fleetref2_FixOrder_x2_ok (qa : Int) (qb : Int) (vi : Int) (s : (List api_Fix) × Int) (r : ((List api_Fix) × Int) ⊕ ((List api_Fix))) (hF : slices_insertionSortCmpFunc_api_Fix_o0_f3_fleetref2_FixOrder_x2 qa s = some r) : Awp prog 1 53 (cL (cL (cR (cL (cL (cR (cL (cL (cR (cB f94)))))))))) (Out 1 (kk slices_insertionSortCmpFunc_api_Fix_o0_f3_fleetref2_FixOrder_x2_k) (SS (slices_insertionSortCmpFunc_api_Fix_o0_f3_fleetref2_FixOrder_x2_H qa qb vi) (slices_insertionSortCmpFunc_api_Fix_o0_f3_fleetref2_FixOrder_x2_S qa qb vi)) r) (slices_insertionSortCmpFunc_api_Fix_o0_f3_fleetref2_FixOrder_x2_H qa qb vi s) := by
  obtain ⟨vl3, vj1⟩ := s
  unfold slices_insertionSortCmpFunc_api_Fix_o0_f3_fleetref2_FixOrder_x2 at hF
  refine awp_seq ?_
  refine awp_seq ?_
  refine awp_to (st' := slices_insertionSortCmpFunc_api_Fix_o0_f3_fleetref2_FixOrder_x3_I qa qb vi vl3 vj1) (oT [] []) ?_
  refine bE hF fun vx4_1 h6 hF => ?_
  refine awp_sub (slices_insertionSortCmpFunc_api_Fix_o0_f3_fleetref2_FixOrder_x3_ok qa qb vi vl3 vj1 h6) ?_
  refine cE hF (fun h7 hF => ?_) fun h7 hF => ?_
  · refine awp_true (by kernel_rfl) h7 ?_
    refine awp_skip ?_
    refine awp_seq ?_
    refine awp_block ?_
    refine bE hF fun vy17 h8 hF => ?_
    refine bE hF fun vy18 h9 hF => ?_
    refine bE hF fun vy19 h10 hF => ?_
    refine aDw [0] ?_
    refine dR 8 ?_
    refine dI api_Fix.enc 0 h8 rfl ?_
    refine dX (x_ldE api_Fix.enc h8) ?_
    refine dR 2 ?_
    refine dI api_Fix.enc 0 h9 rfl ?_
    refine dX (x_ldE api_Fix.enc h9) ?_
    refine dI api_Fix.enc 0 h9 rfl ?_
    refine dW api_Fix.enc vy17 h9 rfl ?_
    refine dI api_Fix.enc 0 h10 rfl ?_
    refine dW api_Fix.enc vy18 h10 rfl ?_
    refine dE ?_
    refine awp_region ?_
    refine aR 3 ?_
    refine aE ?_
    exact oO hF [] [] rfl
  · refine awp_false (by kernel_rfl) h7 ?_
    refine awp_exit ?_
    exact oO hF [] [] rfl

def slices_insertionSortCmpFunc_api_Fix_o0_f3_fleetref2_FixOrder_x1_k : (List api_Fix) → AEx
  | _ => .exit 0

def slices_insertionSortCmpFunc_api_Fix_o0_f3_fleetref2_FixOrder_x1_S (qa : Int) (qb : Int) : (List api_Fix) → St
  | vl5 => Mem.st ⟨[(0, ⟨33, 5, List.map api_Fix.enc vl5⟩)], []⟩ (tl []) 1

def slices_insertionSortCmpFunc_api_Fix_o0_f3_fleetref2_FixOrder_x1_H (qa : Int) (qb : Int) : (List api_Fix) × Int → St
  | (vl, vi) => Mem.st ⟨[(0, ⟨33, 5, List.map api_Fix.enc vl⟩)], []⟩ (tl [(0, .v (.one (.own 0 none))), (1, .v (.one (.d (.int .i64 qa)))), (2, .v (.one (.d (.int .i64 qb)))), (3, .v (.one (.fn 40 []))), (8, .v (.one (.d (.int .i64 vi))))]) 1

theorem slices_insertionSortCmpFunc_api_Fix_o0_f3_fleetref2_FixOrder_x1_ok (qa : Int) (qb : Int) (s : (List api_Fix) × Int) (r : ((List api_Fix) × Int) ⊕ ((List api_Fix))) (hF : slices_insertionSortCmpFunc_api_Fix_o0_f3_fleetref2_FixOrder_x1 qa qb s = some r) : Awp prog 1 53 (cL (cL (cR (cB f94)))) (Out 1 (kk slices_insertionSortCmpFunc_api_Fix_o0_f3_fleetref2_FixOrder_x1_k) (SS (slices_insertionSortCmpFunc_api_Fix_o0_f3_fleetref2_FixOrder_x1_H qa qb) (slices_insertionSortCmpFunc_api_Fix_o0_f3_fleetref2_FixOrder_x1_S qa qb)) r) (slices_insertionSortCmpFunc_api_Fix_o0_f3_fleetref2_FixOrder_x1_H qa qb s) := by
  obtain ⟨vl, vi⟩ := s
  unfold slices_insertionSortCmpFunc_api_Fix_o0_f3_fleetref2_FixOrder_x1 at hF
  refine awp_seq ?_
  refine awp_seq ?_
  refine awp_region ?_
  refine aR 3 ?_
  refine aE ?_
  refine cE hF (fun h1 hF => ?_) fun h1 hF => ?_
  · refine awp_true (by kernel_rfl) h1 ?_
    refine awp_skip ?_
    refine awp_seq ?_
    refine awp_block ?_
    refine awp_seq ?_
    refine awp_region ?_
    refine aR 2 ?_
    refine aE ?_
    refine awp_block ?_
    refine awp_to (st' := slices_insertionSortCmpFunc_api_Fix_o0_f3_fleetref2_FixOrder_x2_H qa qb vi (vl, vi)) (oT [] []) ?_
    refine bE hF fun vl4_1 h11 hF => ?_
    refine awp_sub (awp_loop' (slices_insertionSortCmpFunc_api_Fix_o0_f3_fleetref2_FixOrder_x2_H qa qb vi) slices_insertionSortCmpFunc_api_Fix_o0_f3_fleetref2_FixOrder_x2_k (slices_insertionSortCmpFunc_api_Fix_o0_f3_fleetref2_FixOrder_x2_S qa qb vi) (by intro x; exact fun h => nomatch h) h11 (slices_insertionSortCmpFunc_api_Fix_o0_f3_fleetref2_FixOrder_x2_ok qa qb vi)) ?_
    refine awp_region ?_
    refine aR 3 ?_
    refine aE ?_
    exact oO hF [] [] rfl
  · refine awp_false (by kernel_rfl) h1 ?_
    refine awp_exit ?_
    exact oO hF [] [] rfl

def slices_insertionSortCmpFunc_api_Fix_o0_f3_fleetref2_FixOrder_R (qdata : List api_Fix) (qa : Int) (qb : Int) (r : (List api_Fix)) : TV × Mem := (.tup [], ⟨[(0, ⟨33, 5, List.map api_Fix.enc r⟩)], []⟩)

theorem slices_insertionSortCmpFunc_api_Fix_o0_f3_fleetref2_FixOrder_ok {qdata : List api_Fix} {qa : Int} {qb : Int} {r} (hF : slices_insertionSortCmpFunc_api_Fix_o0_f3_fleetref2_FixOrder qdata qa qb = some r) : Holds prog 94 [.v (.one (.own 0 none)), .v (.one (.d (.int .i64 qa))), .v (.one (.d (.int .i64 qb))), .v (.one (.fn 40 []))] ⟨[(0, ⟨33, 5, List.map api_Fix.enc qdata⟩)], []⟩ (Is (slices_insertionSortCmpFunc_api_Fix_o0_f3_fleetref2_FixOrder_R qdata qa qb r)) := by
  unfold slices_insertionSortCmpFunc_api_Fix_o0_f3_fleetref2_FixOrder at hF
  refine holds_of_awp hΓ (fn := f94) (c := cB f94) (A := 1) (nx := 1) (by kernel_rfl) (by kernel_rfl) (by kernel_rfl) (by kernel_rfl) (by kernel_rfl) (by kernel_rfl) (lowc_of (by kernel_rfl)) ?_
  show Awp prog 1 53 (cB f94) _ _
  refine awp_seq ?_
  refine awp_region ?_
  refine aR 3 ?_
  refine aE ?_
  refine awp_block ?_
  refine awp_to (st' := slices_insertionSortCmpFunc_api_Fix_o0_f3_fleetref2_FixOrder_x1_H qa qb (qdata, IntKind.wrap .i64 (qa + 1))) (oT [] []) ?_
  refine bE hF fun vl5_1 h12 hF => ?_
  refine awp_sub (awp_loop' (slices_insertionSortCmpFunc_api_Fix_o0_f3_fleetref2_FixOrder_x1_H qa qb) slices_insertionSortCmpFunc_api_Fix_o0_f3_fleetref2_FixOrder_x1_k (slices_insertionSortCmpFunc_api_Fix_o0_f3_fleetref2_FixOrder_x1_S qa qb) (by intro x; exact fun h => nomatch h) h12 (slices_insertionSortCmpFunc_api_Fix_o0_f3_fleetref2_FixOrder_x1_ok qa qb)) ?_
  exact oF hF [] []

/-! ### slices.stableCmpFunc[beaconfleet/api.Fix] -/
def slices_stableCmpFunc_api_Fix_o0_f2_fleetref2_FixOrder_x1_k : ((List api_Fix) × Int) → AEx
  | _ => .exit 0

def slices_stableCmpFunc_api_Fix_o0_f2_fleetref2_FixOrder_x1_S (qn : Int) : ((List api_Fix) × Int) → St
  | (vl1, va1) => Mem.st ⟨[(0, ⟨33, 5, List.map api_Fix.enc vl1⟩)], []⟩ (tl [(0, .v (.one (.own 0 none))), (1, .v (.one (.d (.int .i64 qn)))), (2, .v (.one (.fn 40 []))), (6, .v (.one (.d (.int .i64 20)))), (7, .v (.one (.d (.int .i64 va1))))]) 1

def slices_stableCmpFunc_api_Fix_o0_f2_fleetref2_FixOrder_x1_H (qn : Int) : (List api_Fix) × Int × Int → St
  | (vl, va, vb) => Mem.st ⟨[(0, ⟨33, 5, List.map api_Fix.enc vl⟩)], []⟩ (tl [(0, .v (.one (.own 0 none))), (1, .v (.one (.d (.int .i64 qn)))), (2, .v (.one (.fn 40 []))), (6, .v (.one (.d (.int .i64 20)))), (7, .v (.one (.d (.int .i64 va)))), (8, .v (.one (.d (.int .i64 vb))))]) 1

theorem slices_stableCmpFunc_api_Fix_o0_f2_fleetref2_FixOrder_x1_ok (qn : Int) (s : (List api_Fix) × Int × Int) (r : ((List api_Fix) × Int × Int) ⊕ (((List api_Fix) × Int))) (hF : slices_stableCmpFunc_api_Fix_o0_f2_fleetref2_FixOrder_x1 qn s = some r) : Awp prog 1 63 (cL (cL (cL (cR (cR (cB f80)))))) (Out 1 (kk slices_stableCmpFunc_api_Fix_o0_f2_fleetref2_FixOrder_x1_k) (SS (slices_stableCmpFunc_api_Fix_o0_f2_fleetref2_FixOrder_x1_H qn) (slices_stableCmpFunc_api_Fix_o0_f2_fleetref2_FixOrder_x1_S qn)) r) (slices_stableCmpFunc_api_Fix_o0_f2_fleetref2_FixOrder_x1_H qn s) := by
  obtain ⟨vl, va, vb⟩ := s
  unfold slices_stableCmpFunc_api_Fix_o0_f2_fleetref2_FixOrder_x1 at hF
  refine awp_seq ?_
  refine awp_seq ?_
  refine awp_region ?_
  refine aR 3 ?_
  refine aE ?_
  refine cE hF (fun h1 hF => ?_) fun h1 hF => ?_
  · refine awp_true (by kernel_rfl) h1 ?_
    refine awp_skip ?_
    refine awp_block ?_
    refine awp_seq ?_
    refine bE hF fun vl6_1 h2 hF => ?_
    refine gE hF fun h3 hF => ?_
    refine awp_region ?_
    refine aR 4 ?_
    refine aCp (slices_insertionSortCmpFunc_api_Fix_o0_f3_fleetref2_FixOrder_ok h2) ⟨⟨rfl, rfl, pin1 h3⟩, trivial⟩ [] [] [] ?_
    refine aE ?_
    refine awp_seq ?_
    refine awp_region ?_
    refine aR 2 ?_
    refine aE ?_
    refine awp_region ?_
    refine aR 4 ?_
    refine aE ?_
    exact oO hF [] [] rfl
  · refine awp_false (by kernel_rfl) h1 ?_
    refine awp_exit ?_
    exact oO hF [] [] rfl

def slices_stableCmpFunc_api_Fix_o0_f2_fleetref2_FixOrder_x3_k : Unit → AEx
  | _ => .exit 4

def slices_stableCmpFunc_api_Fix_o0_f2_fleetref2_FixOrder_x3_S (qn : Int) (vl6_2 : List api_Fix) (vblockSize : Int) : Unit → St
  | _ => Mem.st ⟨[(0, ⟨33, 5, List.map api_Fix.enc vl6_2⟩)], []⟩ (tl [(0, .v (.one (.own 0 none))), (1, .v (.one (.d (.int .i64 qn)))), (2, .v (.one (.fn 40 []))), (6, .v (.one (.d (.int .i64 vblockSize)))), (7, .v (.one (.d (.int .i64 0))))]) 1

def slices_stableCmpFunc_api_Fix_o0_f2_fleetref2_FixOrder_x3_H (qn : Int) (vl6_2 : List api_Fix) (vblockSize : Int) : Unit → St
  | _ => Mem.st ⟨[(0, ⟨33, 5, List.map api_Fix.enc vl6_2⟩)], []⟩ (tl [(0, .v (.one (.own 0 none))), (1, .v (.one (.d (.int .i64 qn)))), (2, .v (.one (.fn 40 []))), (6, .v (.one (.d (.int .i64 vblockSize)))), (7, .v (.one (.d (.int .i64 0)))), (8, .v (.one (.d (.int .i64 (IntKind.wrap .i64 ((2 : Int) * vblockSize))))))]) 1

theorem slices_stableCmpFunc_api_Fix_o0_f2_fleetref2_FixOrder_x3_ok (qn : Int) (vl6_2 : List api_Fix) (vblockSize : Int) (s : Unit) (r : (Unit) ⊕ (Unit)) (hF : slices_stableCmpFunc_api_Fix_o0_f2_fleetref2_FixOrder_x3 qn vblockSize s = some r) : Awp prog 1 63 (cL (cL (cL (cR (cL (cR (cL (cL (cR (cR (cR (cR (cB f80))))))))))))) (Out 1 (kk slices_stableCmpFunc_api_Fix_o0_f2_fleetref2_FixOrder_x3_k) (SS (slices_stableCmpFunc_api_Fix_o0_f2_fleetref2_FixOrder_x3_H qn vl6_2 vblockSize) (slices_stableCmpFunc_api_Fix_o0_f2_fleetref2_FixOrder_x3_S qn vl6_2 vblockSize)) r) (slices_stableCmpFunc_api_Fix_o0_f2_fleetref2_FixOrder_x3_H qn vl6_2 vblockSize s) := by
  unfold slices_stableCmpFunc_api_Fix_o0_f2_fleetref2_FixOrder_x3 at hF
  refine awp_seq ?_
  refine awp_seq ?_
  refine awp_region ?_
  refine aR 3 ?_
  refine aE ?_
  refine cE hF (fun h8 hF => ?_) fun h8 hF => ?_
  · refine awp_true (by kernel_rfl) h8 ?_
    refine awp_skip ?_
    refine awp_block ?_
    refine awp_seq ?_
    exact nE hF
  · refine awp_false (by kernel_rfl) h8 ?_
    refine awp_exit ?_
    exact oO hF [] [] rfl

def slices_stableCmpFunc_api_Fix_o0_f2_fleetref2_FixOrder_x2_k : Unit → AEx
  | _ => .exit 2

def slices_stableCmpFunc_api_Fix_o0_f2_fleetref2_FixOrder_x2_S (qn : Int) (vl6_2 : List api_Fix) : Unit → St
  | _ => Mem.st ⟨[(0, ⟨33, 5, List.map api_Fix.enc vl6_2⟩)], []⟩ (tl []) 1

def slices_stableCmpFunc_api_Fix_o0_f2_fleetref2_FixOrder_x2_H (qn : Int) (vl6_2 : List api_Fix) : Int → St
  | vblockSize => Mem.st ⟨[(0, ⟨33, 5, List.map api_Fix.enc vl6_2⟩)], []⟩ (tl [(0, .v (.one (.own 0 none))), (1, .v (.one (.d (.int .i64 qn)))), (2, .v (.one (.fn 40 []))), (6, .v (.one (.d (.int .i64 vblockSize))))]) 1

theorem slices_stableCmpFunc_api_Fix_o0_f2_fleetref2_FixOrder_x2_ok (qn : Int) (vl6_2 : List api_Fix) (vblockSize : Int) (r : (Int) ⊕ (Unit)) (hF : slices_stableCmpFunc_api_Fix_o0_f2_fleetref2_FixOrder_x2 qn vblockSize = some r) : Awp prog 1 63 (cL (cL (cR (cR (cR (cR (cB f80))))))) (Out 1 (kk slices_stableCmpFunc_api_Fix_o0_f2_fleetref2_FixOrder_x2_k) (SS (slices_stableCmpFunc_api_Fix_o0_f2_fleetref2_FixOrder_x2_H qn vl6_2) (slices_stableCmpFunc_api_Fix_o0_f2_fleetref2_FixOrder_x2_S qn vl6_2)) r) (slices_stableCmpFunc_api_Fix_o0_f2_fleetref2_FixOrder_x2_H qn vl6_2 vblockSize) := by
  unfold slices_stableCmpFunc_api_Fix_o0_f2_fleetref2_FixOrder_x2 at hF
  refine awp_seq ?_
  refine awp_seq ?_
  refine awp_region ?_
  refine aR 3 ?_
  refine aE ?_
  refine cE hF (fun h7 hF => ?_) fun h7 hF => ?_
  · refine awp_true (by kernel_rfl) h7 ?_
    refine awp_skip ?_
    refine awp_block ?_
    refine awp_seq ?_
    refine awp_region ?_
    refine aR 4 ?_
    refine aE ?_
    refine awp_seq ?_
    refine awp_block ?_
    refine awp_to (st' := slices_stableCmpFunc_api_Fix_o0_f2_fleetref2_FixOrder_x3_H qn vl6_2 vblockSize ()) (oT [] []) ?_
    refine bE hF fun _ h10 hF => ?_
    refine awp_sub (awp_loop' (slices_stableCmpFunc_api_Fix_o0_f2_fleetref2_FixOrder_x3_H qn vl6_2 vblockSize) slices_stableCmpFunc_api_Fix_o0_f2_fleetref2_FixOrder_x3_k (slices_stableCmpFunc_api_Fix_o0_f2_fleetref2_FixOrder_x3_S qn vl6_2 vblockSize) (by intro x; exact fun h => nomatch h) h10 (slices_stableCmpFunc_api_Fix_o0_f2_fleetref2_FixOrder_x3_ok qn vl6_2 vblockSize)) ?_
    refine awp_seq ?_
    refine awp_seq ?_
    refine awp_region ?_
    refine aR 4 ?_
    refine aE ?_
    refine awp_seq ?_
    refine awp_region ?_
    refine aR 3 ?_
    refine aE ?_
    refine cE hF (fun h11 hF => ?_) fun h11 hF => ?_
    · refine awp_true (by kernel_rfl) h11 ?_
      exact nE hF
    · refine awp_false (by kernel_rfl) h11 ?_
      refine awp_skip ?_
      refine awp_region ?_
      refine aR 3 ?_
      refine aE ?_
      exact oO hF [] [] rfl
  · refine awp_false (by kernel_rfl) h7 ?_
    refine awp_exit ?_
    exact oO hF [] [] rfl

def slices_stableCmpFunc_api_Fix_o0_f2_fleetref2_FixOrder_R (qdata : List api_Fix) (qn : Int) (r : (List api_Fix)) : TV × Mem := (.tup [], ⟨[(0, ⟨33, 5, List.map api_Fix.enc r⟩)], []⟩)

theorem slices_stableCmpFunc_api_Fix_o0_f2_fleetref2_FixOrder_ok {qdata : List api_Fix} {qn : Int} {r} (hF : slices_stableCmpFunc_api_Fix_o0_f2_fleetref2_FixOrder qdata qn = some r) : Holds prog 80 [.v (.one (.own 0 none)), .v (.one (.d (.int .i64 qn))), .v (.one (.fn 40 []))] ⟨[(0, ⟨33, 5, List.map api_Fix.enc qdata⟩)], []⟩ (Is (slices_stableCmpFunc_api_Fix_o0_f2_fleetref2_FixOrder_R qdata qn r)) := by
  unfold slices_stableCmpFunc_api_Fix_o0_f2_fleetref2_FixOrder at hF
  refine holds_of_awp hΓ (fn := f80) (c := cB f80) (A := 1) (nx := 1) (by kernel_rfl) (by kernel_rfl) (by kernel_rfl) (by kernel_rfl) (by kernel_rfl) (by kernel_rfl) (lowc_of (by kernel_rfl)) ?_
  show Awp prog 1 63 (cB f80) _ _
  refine awp_seq ?_
  refine awp_region ?_
  refine aR 1 ?_
  refine aE ?_
  refine awp_seq ?_
  refine awp_region ?_
  refine aR 3 ?_
  refine aE ?_
  refine awp_seq ?_
  refine awp_block ?_
  refine awp_to (st' := slices_stableCmpFunc_api_Fix_o0_f2_fleetref2_FixOrder_x1_H qn (qdata, 0, 20)) (oT [] []) ?_
  refine bE hF fun x h4 hF => ?_
  obtain ⟨vl1_1, va1_1⟩ := x
  refine awp_sub (awp_loop' (slices_stableCmpFunc_api_Fix_o0_f2_fleetref2_FixOrder_x1_H qn) slices_stableCmpFunc_api_Fix_o0_f2_fleetref2_FixOrder_x1_k (slices_stableCmpFunc_api_Fix_o0_f2_fleetref2_FixOrder_x1_S qn) (by intro x; exact fun h => nomatch h) h4 (slices_stableCmpFunc_api_Fix_o0_f2_fleetref2_FixOrder_x1_ok qn)) ?_
  refine awp_seq ?_
  refine bE hF fun vl6_2 h5 hF => ?_
  refine gE hF fun h6 hF => ?_
  refine awp_region ?_
  refine aR 4 ?_
  refine aCp (slices_insertionSortCmpFunc_api_Fix_o0_f3_fleetref2_FixOrder_ok h5) ⟨⟨rfl, rfl, pin1 h6⟩, trivial⟩ [] [] [] ?_
  refine aE ?_
  refine awp_block ?_
  refine awp_to (st' := slices_stableCmpFunc_api_Fix_o0_f2_fleetref2_FixOrder_x2_H qn vl6_2 20) (oT [] []) ?_
  refine bE hF fun _ h13 hF => ?_
  refine awp_sub (awp_loop' (slices_stableCmpFunc_api_Fix_o0_f2_fleetref2_FixOrder_x2_H qn vl6_2) slices_stableCmpFunc_api_Fix_o0_f2_fleetref2_FixOrder_x2_k (slices_stableCmpFunc_api_Fix_o0_f2_fleetref2_FixOrder_x2_S qn vl6_2) (by intro x; exact fun h => nomatch h) h13 (slices_stableCmpFunc_api_Fix_o0_f2_fleetref2_FixOrder_x2_ok qn vl6_2)) ?_
  exact oF hF [] []

/-! ### slices.SortStableFunc[[]beaconfleet/api.Fix,beaconfleet/api.Fix] -/
def slices_SortStableFunc_api_Fix_api_Fix_o0_f1_fleetref2_FixOrder_R (qx : List api_Fix) (r : (List api_Fix)) : TV × Mem := (.tup [], ⟨[(0, ⟨33, 5, List.map api_Fix.enc r⟩)], []⟩)

theorem slices_SortStableFunc_api_Fix_api_Fix_o0_f1_fleetref2_FixOrder_ok {qx : List api_Fix} {r} (hF : slices_SortStableFunc_api_Fix_api_Fix_o0_f1_fleetref2_FixOrder qx = some r) : Holds prog 39 [.v (.one (.own 0 none)), .v (.one (.fn 40 []))] ⟨[(0, ⟨33, 5, List.map api_Fix.enc qx⟩)], []⟩ (Is (slices_SortStableFunc_api_Fix_api_Fix_o0_f1_fleetref2_FixOrder_R qx r)) := by
  unfold slices_SortStableFunc_api_Fix_api_Fix_o0_f1_fleetref2_FixOrder at hF
  refine holds_of_awp hΓ (fn := f39) (c := cB f39) (A := 1) (nx := 1) (by kernel_rfl) (by kernel_rfl) (by kernel_rfl) (by kernel_rfl) (by kernel_rfl) (by kernel_rfl) (lowc_of (by kernel_rfl)) ?_
  show Awp prog 1 9 (cB f39) _ _
  refine bE hF fun vl2 h1 hF => ?_
  refine gE hF fun h2 hF => ?_
  refine awp_region ?_
  refine aR 2 ?_
  refine aL api_Fix.enc qx ?_
  refine aR 1 ?_
  refine aCp (slices_stableCmpFunc_api_Fix_o0_f2_fleetref2_FixOrder_ok h1) ⟨⟨rfl, rfl, pin1 h2⟩, trivial⟩ [] [] [] ?_
  refine aE ?_
  exact oF hF [] []

/-! ### (*beaconfleet/fleetmake.Stream).Flip -/
def fleetmake_Stream_Flip_R (qs : fleetmake_Stream) (qn : Int) (r : Bool) : TV × Mem := (.v (.one (.d (.bool r))), ⟨[], [(0, [.d (.lst (List.map (encI .i64) qs.L)), .d (.int .i64 (IntKind.wrap .i64 (qs.at_ + 1)))])]⟩)

theorem fleetmake_Stream_Flip_ok {qs : fleetmake_Stream} {qn : Int} {r} (hF : fleetmake_Stream_Flip qs qn = some r) : Holds prog 8 [.v (.one (.box 0 0)), .v (.one (.d (.int .i64 qn)))] ⟨[], [(0, [.d (.lst (List.map (encI .i64) qs.L)), .d (.int .i64 qs.at_)])]⟩ (Is (fleetmake_Stream_Flip_R qs qn r)) := by
  unfold fleetmake_Stream_Flip at hF
  refine holds_of_awp hΓ (fn := f8) (c := cB f8) (A := 1) (nx := 1) (by kernel_rfl) (by kernel_rfl) (by kernel_rfl) (by kernel_rfl) (by kernel_rfl) (by kernel_rfl) (lowc_of (by kernel_rfl)) ?_
  show Awp prog 1 9 (cB f8) _ _
  refine awp_seq ?_
  refine awp_region ?_
  refine aR 1 ?_
  refine aE ?_
  refine awp_seq ?_
  refine bE hF fun vr3 h1 hF => ?_
  refine awp_region ?_
  refine aR 2 ?_
  refine aC (fleetmake_Stream_Next_ok h1) [] [] [] ?_
  refine aR 2 ?_
  refine aE ?_
  refine awp_ret ?_
  exact oF hF [] []

/-! ### (*beaconfleet/fleetmake.Stream).Fixes$1 -/
def fleetmake_Stream_Fixes_1_R (qa : api_Fix) (qb : api_Fix) (r : Bool) : TV × Mem := (.v (.one (.d (.bool r))), ⟨[], []⟩)

theorem fleetmake_Stream_Fixes_1_ok {qa : api_Fix} {qb : api_Fix} {r} (hF : fleetmake_Stream_Fixes_1 qa qb = some r) : Holds prog 42 [.v (.agg [.d (.str qa.Device), .d (.int .i64 qa.At), .d (.int .i64 qa.X), .d (.int .i64 qa.Y), .d (.int .i64 qa.Error)]), .v (.agg [.d (.str qb.Device), .d (.int .i64 qb.At), .d (.int .i64 qb.X), .d (.int .i64 qb.Y), .d (.int .i64 qb.Error)])] ⟨[], []⟩ (Is (fleetmake_Stream_Fixes_1_R qa qb r)) := by
  unfold fleetmake_Stream_Fixes_1 at hF
  refine holds_of_awp hΓ (fn := f42) (c := cB f42) (A := 0) (nx := 0) (by kernel_rfl) (by kernel_rfl) (by kernel_rfl) (by kernel_rfl) (by kernel_rfl) (by kernel_rfl) (lowc_of (by kernel_rfl)) ?_
  show Awp prog 0 9 (cB f42) _ _
  refine awp_seq ?_
  refine awp_region ?_
  refine aR 3 ?_
  refine aE ?_
  refine awp_seq ?_
  refine bE hF fun vr1 h1 hF => ?_
  refine awp_region ?_
  refine aR 2 ?_
  refine aC (fleetref2_FixOrder_ok h1) [] [] [] ?_
  refine aR 2 ?_
  refine aE ?_
  refine awp_ret ?_
  exact oF hF [] []

/-! ### slices.CompactFunc[[]beaconfleet/api.Fix,beaconfleet/api.Fix] -/
def slices_CompactFunc_api_Fix_api_Fix_o0_f1_fleetmake_Stream_Fixes_1_x3_k : ((List api_Fix) × Int) → AEx
  | _ => .normal

def slices_CompactFunc_api_Fix_api_Fix_o0_f1_fleetmake_Stream_Fixes_1_x3_S (qx : List api_Fix) (vx : Int) (vl4 : List api_Fix) (vx6 : Int) (vx7 : Int) : ((List api_Fix) × Int) → St
  | (vl6, vx9) => Mem.st ⟨[(0, ⟨33, 5, List.map api_Fix.enc vl6⟩)], []⟩ (tl [(0, .v (.one (.own 0 none))), (1, .v (.one (.fn 42 []))), (5, .v (.one (.d (.int .i64 vx9)))), (6, .v (.one (.view 0 vx.toNat ((qx.length : Int).toNat - vx.toNat)))), (7, .v (.one (.d (.int .i64 vx7))))]) 1

def slices_CompactFunc_api_Fix_api_Fix_o0_f1_fleetmake_Stream_Fixes_1_x3_I (qx : List api_Fix) (vx : Int) (vl4 : List api_Fix) (vx6 : Int) (vx7 : Int) : St := Mem.st ⟨[(0, ⟨33, 5, List.map api_Fix.enc vl4⟩)], []⟩ (tl [(0, .v (.one (.own 0 none))), (1, .v (.one (.fn 42 []))), (5, .v (.one (.d (.int .i64 vx6)))), (6, .v (.one (.view 0 vx.toNat ((qx.length : Int).toNat - vx.toNat)))), (7, .v (.one (.d (.int .i64 vx7))))]) 1

theorem slices_CompactFunc_api_Fix_api_Fix_o0_f1_fleetmake_Stream_Fixes_1_x3_ok (qx : List api_Fix) (vx : Int) (vl4 : List api_Fix) (vx6 : Int) (vx7 : Int) {r} (hF : slices_CompactFunc_api_Fix_api_Fix_o0_f1_fleetmake_Stream_Fixes_1_x3 qx vx vl4 vx6 vx7 = some r) : Awp prog 1 66 (cL (cR (cL (cL (cR (cL (cR (cL (cR (cL (cL (cR (cL (cL (cR (cL (cR (cR (cB f41))))))))))))))))))) (Out 1 slices_CompactFunc_api_Fix_api_Fix_o0_f1_fleetmake_Stream_Fixes_1_x3_k (slices_CompactFunc_api_Fix_api_Fix_o0_f1_fleetmake_Stream_Fixes_1_x3_S qx vx vl4 vx6 vx7) r) (slices_CompactFunc_api_Fix_api_Fix_o0_f1_fleetmake_Stream_Fixes_1_x3_I qx vx vl4 vx6 vx7) := by
  unfold slices_CompactFunc_api_Fix_api_Fix_o0_f1_fleetmake_Stream_Fixes_1_x3 at hF
  refine awp_block ?_
  refine awp_seq ?_
  refine gE hF fun h9 hF => ?_
  refine bE hF fun vy13 h10 hF => ?_
  refine gE hF fun h11 hF => ?_
  refine bE hF fun vy14 h12 hF => ?_
  refine bE hF fun vr5 h13 hF => ?_
  refine aD ?_
  refine dR 3 ?_
  refine dX (x_idxV api_Fix.enc 0 h9 h10) ?_
  refine dX (x_ldE api_Fix.enc h10) ?_
  refine dR 3 ?_
  refine dX (x_idxV api_Fix.enc 0 h11 h12) ?_
  refine dX (x_ldE api_Fix.enc h12) ?_
  refine dC (fleetmake_Stream_Fixes_1_ok h13) [] [] [] ?_
  refine dR 1 ?_
  refine dE ?_
  refine cE hF (fun h14 hF => ?_) fun h14 hF => ?_
  · refine awp_true (by kernel_rfl) h14 ?_
    refine awp_seq ?_
    refine bE hF fun vy15 h15 hF => ?_
    refine awp_region ?_
    refine aR 4 ?_
    refine aX (x_idxV api_Fix.enc 0 h9 h10) ?_
    refine aX (x_ldE api_Fix.enc h10) ?_
    refine aX (x_idxO api_Fix.enc 0 h15) ?_
    refine aX (x_stE api_Fix.enc vy13 h15) ?_
    refine aE ?_
    refine awp_region ?_
    refine aR 3 ?_
    refine aE ?_
    exact oO hF [] [] rfl
  · refine awp_false (by kernel_rfl) h14 ?_
    refine awp_skip ?_
    exact oO hF [] [] rfl

def slices_CompactFunc_api_Fix_api_Fix_o0_f1_fleetmake_Stream_Fixes_1_x2_k : ((List api_Fix) × Int) → AEx
  | _ => .exit 2

def slices_CompactFunc_api_Fix_api_Fix_o0_f1_fleetmake_Stream_Fixes_1_x2_S (qx : List api_Fix) (vx : Int) : ((List api_Fix) × Int) → St
  | (vl7, vx10) => Mem.st ⟨[(0, ⟨33, 5, List.map api_Fix.enc vl7⟩)], []⟩ (tl [(0, .v (.one (.own 0 none))), (5, .v (.one (.d (.int .i64 vx10))))]) 1

def slices_CompactFunc_api_Fix_api_Fix_o0_f1_fleetmake_Stream_Fixes_1_x2_H (qx : List api_Fix) (vx : Int) : (List api_Fix) × Int × Int → St
  | (vl4, vx6, vx7) => Mem.st ⟨[(0, ⟨33, 5, List.map api_Fix.enc vl4⟩)], []⟩ (tl [(0, .v (.one (.own 0 none))), (1, .v (.one (.fn 42 []))), (5, .v (.one (.d (.int .i64 vx6)))), (6, .v (.one (.view 0 vx.toNat ((qx.length : Int).toNat - vx.toNat)))), (7, .v (.one (.d (.int .i64 vx7))))]) 1

theorem slices_CompactFunc_api_Fix_api_Fix_o0_f1_fleetmake_Stream_Fixes_1_x2_ok (qx : List api_Fix) (vx : Int) (s : (List api_Fix) × Int × Int) (r : ((List api_Fix) × Int × Int) ⊕ (((List api_Fix) × Int))) (hF : slices_CompactFunc_api_Fix_api_Fix_o0_f1_fleetmake_Stream_Fixes_1_x2 qx vx s = some r) : Awp prog 1 66 (cL (cL (cR (cL (cR (cL (cR (cL (cL (cR (cL (cL (cR (cL (cR (cR (cB f41))))))))))))))))) (Out 1 (kk slices_CompactFunc_api_Fix_api_Fix_o0_f1_fleetmake_Stream_Fixes_1_x2_k) (SS (slices_CompactFunc_api_Fix_api_Fix_o0_f1_fleetmake_Stream_Fixes_1_x2_H qx vx) (slices_CompactFunc_api_Fix_api_Fix_o0_f1_fleetmake_Stream_Fixes_1_x2_S qx vx)) r) (slices_CompactFunc_api_Fix_api_Fix_o0_f1_fleetmake_Stream_Fixes_1_x2_H qx vx s) := by
  obtain ⟨vl4, vx6, vx7⟩ := s
  unfold slices_CompactFunc_api_Fix_api_Fix_o0_f1_fleetmake_Stream_Fixes_1_x2 at hF
  refine awp_seq ?_
  refine awp_seq ?_
  refine awp_region ?_
  refine aR 4 ?_
  refine aE ?_
  refine cE hF (fun h8 hF => ?_) fun h8 hF => ?_
  · refine awp_true (by kernel_rfl) h8 ?_
    refine awp_skip ?_
    refine awp_seq ?_
    refine awp_to (st' := slices_CompactFunc_api_Fix_api_Fix_o0_f1_fleetmake_Stream_Fixes_1_x3_I qx vx vl4 vx6 vx7) (oT [] []) ?_
    refine bE hF fun x h16 hF => ?_
    obtain ⟨vl6_1, vx9_1⟩ := x
    refine awp_sub (slices_CompactFunc_api_Fix_api_Fix_o0_f1_fleetmake_Stream_Fixes_1_x3_ok qx vx vl4 vx6 vx7 h16) ?_
    refine awp_region ?_
    refine aR 3 ?_
    refine aE ?_
    exact oO hF [] [] rfl
  · refine awp_false (by kernel_rfl) h8 ?_
    refine awp_exit ?_
    exact oO hF [] [] rfl

def slices_CompactFunc_api_Fix_api_Fix_o0_f1_fleetmake_Stream_Fixes_1_x1_k : Unit ⊕ (List api_Fix) → AEx
  | .inl _ => .exit 0
  | .inr _ => .ret

def slices_CompactFunc_api_Fix_api_Fix_o0_f1_fleetmake_Stream_Fixes_1_x1_S (qx : List api_Fix) : Unit ⊕ (List api_Fix) → St
  | .inl _ => Mem.st ⟨[(0, ⟨33, 5, List.map api_Fix.enc qx⟩)], []⟩ (tl [(0, .v (.one (.own 0 none)))]) 1
  | .inr vx11 => Mem.st ⟨[(1, ⟨33, 5, List.map api_Fix.enc vx11⟩)], []⟩ (tl [(4, .v (.one (.own 1 none)))]) 2

def slices_CompactFunc_api_Fix_api_Fix_o0_f1_fleetmake_Stream_Fixes_1_x1_H (qx : List api_Fix) : Int → St
  | vx => Mem.st ⟨[(0, ⟨33, 5, List.map api_Fix.enc qx⟩)], []⟩ (tl [(0, .v (.one (.own 0 none))), (1, .v (.one (.fn 42 []))), (5, .v (.one (.d (.int .i64 vx))))]) 1

theorem slices_CompactFunc_api_Fix_api_Fix_o0_f1_fleetmake_Stream_Fixes_1_x1_ok (qx : List api_Fix) (vx : Int) (r : (Int) ⊕ (Unit ⊕ (List api_Fix))) (hF : slices_CompactFunc_api_Fix_api_Fix_o0_f1_fleetmake_Stream_Fixes_1_x1 qx vx = some r) : Awp prog 1 66 (cL (cL (cR (cL (cR (cR (cB f41))))))) (Out 1 (kk slices_CompactFunc_api_Fix_api_Fix_o0_f1_fleetmake_Stream_Fixes_1_x1_k) (SS (slices_CompactFunc_api_Fix_api_Fix_o0_f1_fleetmake_Stream_Fixes_1_x1_H qx) (slices_CompactFunc_api_Fix_api_Fix_o0_f1_fleetmake_Stream_Fixes_1_x1_S qx)) r) (slices_CompactFunc_api_Fix_api_Fix_o0_f1_fleetmake_Stream_Fixes_1_x1_H qx vx) := by
  unfold slices_CompactFunc_api_Fix_api_Fix_o0_f1_fleetmake_Stream_Fixes_1_x1 at hF
  refine awp_seq ?_
  refine awp_seq ?_
  refine awp_region ?_
  refine aR 2 ?_
  refine aL api_Fix.enc qx ?_
  refine aR 1 ?_
  refine aE ?_
  refine cE hF (fun h2 hF => ?_) fun h2 hF => ?_
  · refine awp_true (by kernel_rfl) h2 ?_
    refine awp_skip ?_
    refine awp_seq ?_
    refine awp_block ?_
    refine awp_seq ?_
    refine bE hF fun vy8 h3 hF => ?_
    refine bE hF fun vy9 h4 hF => ?_
    refine bE hF fun vr3 h5 hF => ?_
    refine aD ?_
    refine dR 3 ?_
    refine dX (x_idxO api_Fix.enc 0 h3) ?_
    refine dX (x_ldE api_Fix.enc h3) ?_
    refine dR 3 ?_
    refine dX (x_idxO api_Fix.enc 0 h4) ?_
    refine dX (x_ldE api_Fix.enc h4) ?_
    refine dC (fleetmake_Stream_Fixes_1_ok h5) [] [] [] ?_
    refine dE ?_
    refine cE hF (fun h6 hF => ?_) fun h6 hF => ?_
    · refine awp_true (by kernel_rfl) h6 ?_
      refine awp_seq ?_
      refine gE hF fun h7 hF => ?_
      refine awp_region ?_
      refine aR 2 ?_
      refine aX (x_viewN api_Fix.enc 0 h7) ?_
      refine aR 1 ?_
      refine aE ?_
      refine awp_seq ?_
      refine awp_seq ?_
      refine awp_region ?_
      refine aR 1 ?_
      refine aE ?_
      refine awp_block ?_
      refine awp_to (st' := slices_CompactFunc_api_Fix_api_Fix_o0_f1_fleetmake_Stream_Fixes_1_x2_H qx vx (qx, vx, 1)) (oT [] []) ?_
      refine bE hF fun x h17 hF => ?_
      obtain ⟨vl7_1, vx10_1⟩ := x
      refine awp_sub (awp_loop' (slices_CompactFunc_api_Fix_api_Fix_o0_f1_fleetmake_Stream_Fixes_1_x2_H qx vx) slices_CompactFunc_api_Fix_api_Fix_o0_f1_fleetmake_Stream_Fixes_1_x2_k (slices_CompactFunc_api_Fix_api_Fix_o0_f1_fleetmake_Stream_Fixes_1_x2_S qx vx) (by intro x; exact fun h => nomatch h) h17 (slices_CompactFunc_api_Fix_api_Fix_o0_f1_fleetmake_Stream_Fixes_1_x2_ok qx vx)) ?_
      refine awp_seq ?_
      refine gE hF fun h18 hF => ?_
      refine awp_region ?_
      refine aR 2 ?_
      refine aX (x_viewN api_Fix.enc 0 h18) ?_
      refine aCl api_Fix.enc 0 (xs := vl7_1) (y := api_Fix.mk ([] : List UInt8) 0 0 0 0) (lo := vx10_1) (hi := (vl7_1.length : Int)) rfl ?_
      refine aE ?_
      refine awp_seq ?_
      refine gE hF fun h19 hF => ?_
      refine awp_region ?_
      refine aR 2 ?_
      refine aT api_Fix.enc 0 h19 rfl ?_
      refine aR 1 ?_
      refine aE ?_
      refine awp_ret ?_
      exact oO hF [(1, 6001)] [] rfl
    · refine awp_false (by kernel_rfl) h6 ?_
      refine awp_skip ?_
      refine awp_region ?_
      refine aR 3 ?_
      refine aE ?_
      exact oO hF [] [] rfl
  · refine awp_false (by kernel_rfl) h2 ?_
    refine awp_exit ?_
    exact oO hF [] [] rfl

def slices_CompactFunc_api_Fix_api_Fix_o0_f1_fleetmake_Stream_Fixes_1_R (qx : List api_Fix) (r : (List api_Fix)) : TV × Mem := (.v (.one (.own 1 none)), ⟨[(1, ⟨33, 5, List.map api_Fix.enc r⟩)], []⟩)

theorem slices_CompactFunc_api_Fix_api_Fix_o0_f1_fleetmake_Stream_Fixes_1_ok {qx : List api_Fix} {r} (hF : slices_CompactFunc_api_Fix_api_Fix_o0_f1_fleetmake_Stream_Fixes_1 qx = some r) : Holds prog 41 [.v (.one (.own 0 none)), .v (.one (.fn 42 []))] ⟨[(0, ⟨33, 5, List.map api_Fix.enc qx⟩)], []⟩ (Is (slices_CompactFunc_api_Fix_api_Fix_o0_f1_fleetmake_Stream_Fixes_1_R qx r)) := by
  unfold slices_CompactFunc_api_Fix_api_Fix_o0_f1_fleetmake_Stream_Fixes_1 at hF
  refine holds_of_awp hΓ (fn := f41) (c := cB f41) (A := 1) (nx := 1) (by kernel_rfl) (by kernel_rfl) (by kernel_rfl) (by kernel_rfl) (by kernel_rfl) (by kernel_rfl) (lowc_of (by kernel_rfl)) ?_
  show Awp prog 1 66 (cB f41) _ _
  refine awp_seq ?_
  refine awp_region ?_
  refine aR 1 ?_
  refine aE ?_
  refine awp_seq ?_
  refine awp_seq ?_
  refine awp_region ?_
  refine aR 1 ?_
  refine aL api_Fix.enc qx ?_
  refine aR 1 ?_
  refine aE ?_
  refine cE hF (fun h1 hF => ?_) fun h1 hF => ?_
  · refine awp_true (by kernel_rfl) h1 ?_
    refine awp_seq ?_
    refine awp_region ?_
    refine aR 2 ?_
    refine aE ?_
    refine awp_ret ?_
    exact oF hF [(1, 0)] []
  · refine awp_false (by kernel_rfl) h1 ?_
    refine awp_skip ?_
    refine awp_seq ?_
    refine awp_seq ?_
    refine awp_region ?_
    refine aR 1 ?_
    refine aE ?_
    refine awp_block ?_
    refine awp_to (st' := slices_CompactFunc_api_Fix_api_Fix_o0_f1_fleetmake_Stream_Fixes_1_x1_H qx 1) (oT [] []) ?_
    refine bE hF fun x h20 hF => ?_
    rcases x with _ | vx11_1
    · refine awp_sub (awp_loop' (slices_CompactFunc_api_Fix_api_Fix_o0_f1_fleetmake_Stream_Fixes_1_x1_H qx) slices_CompactFunc_api_Fix_api_Fix_o0_f1_fleetmake_Stream_Fixes_1_x1_k (slices_CompactFunc_api_Fix_api_Fix_o0_f1_fleetmake_Stream_Fixes_1_x1_S qx) (by intro x; rcases x with x | x <;> exact fun h => nomatch h) h20 (slices_CompactFunc_api_Fix_api_Fix_o0_f1_fleetmake_Stream_Fixes_1_x1_ok qx)) ?_
      refine awp_seq ?_
      refine awp_region ?_
      refine aR 2 ?_
      refine aE ?_
      refine awp_ret ?_
      exact oF hF [(1, 0)] []
    · refine awp_sub (awp_loop' (slices_CompactFunc_api_Fix_api_Fix_o0_f1_fleetmake_Stream_Fixes_1_x1_H qx) slices_CompactFunc_api_Fix_api_Fix_o0_f1_fleetmake_Stream_Fixes_1_x1_k (slices_CompactFunc_api_Fix_api_Fix_o0_f1_fleetmake_Stream_Fixes_1_x1_S qx) (by intro x; rcases x with x | x <;> exact fun h => nomatch h) h20 (slices_CompactFunc_api_Fix_api_Fix_o0_f1_fleetmake_Stream_Fixes_1_x1_ok qx)) ?_
      exact oF hF [] []

/-! ### (*beaconfleet/fleetmake.Stream).Odd -/
def fleetmake_Stream_Odd_R (qs : fleetmake_Stream) (qlow : Int) (qhigh : Int) (r : fleetmake_Stream × Int) : TV × Mem := (.v (.one (.d (.int .i64 r.2))), ⟨[], [(0, [.d (.lst (List.map (encI .i64) r.1.L)), .d (.int .i64 r.1.at_)])]⟩)

theorem fleetmake_Stream_Odd_ok {qs : fleetmake_Stream} {qlow : Int} {qhigh : Int} {r} (hF : fleetmake_Stream_Odd qs qlow qhigh = some r) : Holds prog 43 [.v (.one (.box 0 0)), .v (.one (.d (.int .i64 qlow))), .v (.one (.d (.int .i64 qhigh)))] ⟨[], [(0, [.d (.lst (List.map (encI .i64) qs.L)), .d (.int .i64 qs.at_)])]⟩ (Is (fleetmake_Stream_Odd_R qs qlow qhigh r)) := by
  unfold fleetmake_Stream_Odd at hF
  refine holds_of_awp hΓ (fn := f43) (c := cB f43) (A := 1) (nx := 1) (by kernel_rfl) (by kernel_rfl) (by kernel_rfl) (by kernel_rfl) (by kernel_rfl) (by kernel_rfl) (lowc_of (by kernel_rfl)) ?_
  show Awp prog 1 22 (cB f43) _ _
  refine awp_seq ?_
  refine awp_region ?_
  refine aR 1 ?_
  refine aE ?_
  refine awp_seq ?_
  refine awp_seq ?_
  refine bE hF fun vr h1 hF => ?_
  refine awp_region ?_
  refine aR 1 ?_
  refine aC (fleetmake_Stream_Flip_ok h1) [] [] [] ?_
  refine aE ?_
  refine cE hF (fun h2 hF => ?_) fun h2 hF => ?_
  · refine awp_true (by kernel_rfl) h2 ?_
    refine awp_seq ?_
    refine bE hF fun vr1 h3 hF => ?_
    refine awp_region ?_
    refine aR 8 ?_
    refine aC (fleetmake_Stream_Pick_o1_ok h3) [(1, 10001)] [] [] ?_
    refine aR 1 ?_
    refine aE ?_
    refine awp_ret ?_
    exact oF hF [] []
  · refine awp_false (by kernel_rfl) h2 ?_
    refine awp_skip ?_
    refine awp_seq ?_
    refine bE hF fun x h4 hF => ?_
    obtain ⟨vs, vr2⟩ := x
    refine awp_region ?_
    refine aR 3 ?_
    refine aC (fleetmake_Stream_Range_ok h4) [] [] [] ?_
    refine aR 1 ?_
    refine aE ?_
    refine awp_ret ?_
    exact oF hF [] []

/-! ### (*beaconfleet/fleetmake.Stream).Fixes -/
def fleetmake_Stream_Fixes_x1_k : (fleetmake_Stream × (List api_Fix)) → AEx
  | _ => .exit 0

def fleetmake_Stream_Fixes_x1_S (qx1 : Int) : (fleetmake_Stream × (List api_Fix)) → St
  | (vs1, vx2) => Mem.st ⟨[(1, ⟨33, 5, List.map api_Fix.enc vx2⟩)], [(0, [.d (.lst (List.map (encI .i64) vs1.L)), .d (.int .i64 vs1.at_)])]⟩ (tl [(0, .v (.one (.box 0 0))), (5, .v (.one (.own 1 none)))]) 2

def fleetmake_Stream_Fixes_x1_H (qx1 : Int) : fleetmake_Stream × (List api_Fix) × Int → St
  | (vs, vx, vx1) => Mem.st ⟨[(1, ⟨33, 5, List.map api_Fix.enc vx⟩)], [(0, [.d (.lst (List.map (encI .i64) vs.L)), .d (.int .i64 vs.at_)])]⟩ (tl [(0, .v (.one (.box 0 0))), (5, .v (.one (.own 1 none))), (7, .v (.one (.d (.int .i64 qx1)))), (8, .v (.one (.d (.int .i64 vx1))))]) 2

theorem fleetmake_Stream_Fixes_x1_ok (qx1 : Int) (s : fleetmake_Stream × (List api_Fix) × Int) (r : (fleetmake_Stream × (List api_Fix) × Int) ⊕ ((fleetmake_Stream × (List api_Fix)))) (hF : fleetmake_Stream_Fixes_x1 qx1 s = some r) : Awp prog 1 68 (cL (cL (cR (cL (cR (cR (cB f5))))))) (Out 1 (kk fleetmake_Stream_Fixes_x1_k) (SS (fleetmake_Stream_Fixes_x1_H qx1) (fleetmake_Stream_Fixes_x1_S qx1)) r) (fleetmake_Stream_Fixes_x1_H qx1 s) := by
  obtain ⟨vs, vx, vx1⟩ := s
  unfold fleetmake_Stream_Fixes_x1 at hF
  refine awp_seq ?_
  refine awp_region ?_
  refine aR 1 ?_
  refine aE ?_
  refine awp_seq ?_
  refine cE hF (fun h1 hF => ?_) fun h1 hF => ?_
  · refine awp_true (by kernel_rfl) h1 ?_
    refine awp_skip ?_
    refine awp_seq ?_
    refine awp_block ?_
    refine bE hF fun vr4 h2 hF => ?_
    refine bE hF fun vr5 h3 hF => ?_
    refine bE hF fun vr6 h4 hF => ?_
    refine bE hF fun vr7 h5 hF => ?_
    refine gE hF fun h6 hF => ?_
    refine awp_region ?_
    refine aR 3 ?_
    refine aC (fleetmake_Stream_Some_o1_ok h2) [(1, 3002)] [] [] ?_
    refine aR 2 ?_
    refine aC (fleetmake_Stream_Pick_o1_ok h3) [(1, 6002)] [] [] ?_
    refine aR 2 ?_
    refine aC (fleetmake_Stream_Pick_o1_ok h4) [(1, 9002)] [] [] ?_
    refine aR 2 ?_
    refine aC (fleetmake_Stream_Pick_o1_ok h5) [(1, 12002)] [] [] ?_
    refine aR 2 ?_
    refine aX (x_app api_Fix.enc 1 h6) ?_
    refine aR 1 ?_
    refine aE ?_
    refine awp_region ?_
    refine aR 2 ?_
    refine aE ?_
    exact oO hF [(1, 16002)] [] rfl
  · refine awp_false (by kernel_rfl) h1 ?_
    refine awp_exit ?_
    exact oO hF [] [] rfl

def fleetmake_Stream_Fixes_x2_k : (List api_Fix) → AEx
  | _ => .normal

def fleetmake_Stream_Fixes_x2_S (vs1_1 : fleetmake_Stream) (vl : List api_Fix) : (List api_Fix) → St
  | vx3 => Mem.st ⟨[(1, ⟨33, 5, List.map api_Fix.enc vx3⟩)], [(0, [.d (.lst (List.map (encI .i64) vs1_1.L)), .d (.int .i64 (IntKind.wrap .i64 (vs1_1.at_ + 1)))])]⟩ (tl [(0, .v (.one (.box 0 0))), (5, .v (.one (.own 1 none)))]) 2

def fleetmake_Stream_Fixes_x2_I (vs1_1 : fleetmake_Stream) (vl : List api_Fix) : St := Mem.st ⟨[(1, ⟨33, 5, List.map api_Fix.enc vl⟩)], [(0, [.d (.lst (List.map (encI .i64) vs1_1.L)), .d (.int .i64 vs1_1.at_)])]⟩ (tl [(0, .v (.one (.box 0 0))), (5, .v (.one (.own 1 none)))]) 2

theorem fleetmake_Stream_Fixes_x2_ok (vs1_1 : fleetmake_Stream) (vl : List api_Fix) {r} (hF : fleetmake_Stream_Fixes_x2 vs1_1 vl = some r) : Awp prog 1 68 (cL (cR (cR (cR (cR (cB f5)))))) (Out 1 fleetmake_Stream_Fixes_x2_k (fleetmake_Stream_Fixes_x2_S vs1_1 vl) r) (fleetmake_Stream_Fixes_x2_I vs1_1 vl) := by
  unfold fleetmake_Stream_Fixes_x2 at hF
  refine awp_seq ?_
  refine bE hF fun vr8 h10 hF => ?_
  refine awp_region ?_
  refine aR 1 ?_
  refine aC (fleetmake_Stream_Flip_ok h10) [] [] [] ?_
  refine aR 1 ?_
  refine aE ?_
  refine cE hF (fun h11 hF => ?_) fun h11 hF => ?_
  · refine awp_true (by kernel_rfl) h11 ?_
    refine bE hF fun vr6_1 h12 hF => ?_
    refine awp_region ?_
    refine aR 1 ?_
    refine aC (slices_CompactFunc_api_Fix_api_Fix_o0_f1_fleetmake_Stream_Fixes_1_ok h12) [(0, 1)] [] [] ?_
    refine aR 1 ?_
    refine aE ?_
    exact oO hF [(1, 4003)] [] rfl
  · refine awp_false (by kernel_rfl) h11 ?_
    refine awp_skip ?_
    exact oO hF [] [] rfl

def fleetmake_Stream_Fixes_x4_k : (fleetmake_Stream × Bool) → AEx
  | _ => .normal

def fleetmake_Stream_Fixes_x4_S (vs1_1 : fleetmake_Stream) (vx3_1 : List api_Fix) : (fleetmake_Stream × Bool) → St
  | (vs2, vx4) => Mem.st ⟨[(1, ⟨33, 5, List.map api_Fix.enc vx3_1⟩)], [(0, [.d (.lst (List.map (encI .i64) vs2.L)), .d (.int .i64 vs2.at_)])]⟩ (tl [(0, .v (.one (.box 0 0))), (5, .v (.one (.own 1 none))), (40, .v (.one (.d (.bool vx4))))]) 2

def fleetmake_Stream_Fixes_x4_I (vs1_1 : fleetmake_Stream) (vx3_1 : List api_Fix) : St := Mem.st ⟨[(1, ⟨33, 5, List.map api_Fix.enc vx3_1⟩)], [(0, [.d (.lst (List.map (encI .i64) vs1_1.L)), .d (.int .i64 (IntKind.wrap .i64 (vs1_1.at_ + 1)))])]⟩ (tl [(0, .v (.one (.box 0 0))), (5, .v (.one (.own 1 none)))]) 2

theorem fleetmake_Stream_Fixes_x4_ok (vs1_1 : fleetmake_Stream) (vx3_1 : List api_Fix) {r} (hF : fleetmake_Stream_Fixes_x4 vs1_1 vx3_1 = some r) : Awp prog 1 68 (cL (cL (cR (cR (cR (cR (cR (cB f5)))))))) (Out 1 fleetmake_Stream_Fixes_x4_k (fleetmake_Stream_Fixes_x4_S vs1_1 vx3_1) r) (fleetmake_Stream_Fixes_x4_I vs1_1 vx3_1) := by
  unfold fleetmake_Stream_Fixes_x4 at hF
  refine cE hF (fun h14 hF => ?_) fun h14 hF => ?_
  · refine bE hF fun vr9 h15 hF => ?_
    refine awp_region ?_
    refine aR 1 ?_
    refine aL api_Fix.enc vx3_1 ?_
    refine aB h14 ?_
    refine aR 2 ?_
    refine aC (fleetmake_Stream_Flip_ok h15) [] [] [] ?_
    refine aR 1 ?_
    refine aE ?_
    exact oO hF [] [] rfl
  · refine awp_region ?_
    refine aR 1 ?_
    refine aL api_Fix.enc vx3_1 ?_
    refine aB h14 ?_
    refine aR 4 ?_
    refine aE ?_
    exact oO hF [] [] rfl

def fleetmake_Stream_Fixes_x3_k : (fleetmake_Stream × (List api_Fix)) → AEx
  | _ => .normal

def fleetmake_Stream_Fixes_x3_S (vs1_1 : fleetmake_Stream) (vx3_1 : List api_Fix) : (fleetmake_Stream × (List api_Fix)) → St
  | (vs3, vx5) => Mem.st ⟨[(1, ⟨33, 5, List.map api_Fix.enc vx5⟩)], [(0, [.d (.lst (List.map (encI .i64) vs3.L)), .d (.int .i64 vs3.at_)])]⟩ (tl [(5, .v (.one (.own 1 none)))]) 2

def fleetmake_Stream_Fixes_x3_I (vs1_1 : fleetmake_Stream) (vx3_1 : List api_Fix) : St := Mem.st ⟨[(1, ⟨33, 5, List.map api_Fix.enc vx3_1⟩)], [(0, [.d (.lst (List.map (encI .i64) vs1_1.L)), .d (.int .i64 (IntKind.wrap .i64 (vs1_1.at_ + 1)))])]⟩ (tl [(0, .v (.one (.box 0 0))), (5, .v (.one (.own 1 none)))]) 2

theorem fleetmake_Stream_Fixes_x3_ok (vs1_1 : fleetmake_Stream) (vx3_1 : List api_Fix) {r} (hF : fleetmake_Stream_Fixes_x3 vs1_1 vx3_1 = some r) : Awp prog 1 68 (cL (cR (cR (cR (cR (cR (cB f5))))))) (Out 1 fleetmake_Stream_Fixes_x3_k (fleetmake_Stream_Fixes_x3_S vs1_1 vx3_1) r) (fleetmake_Stream_Fixes_x3_I vs1_1 vx3_1) := by
  unfold fleetmake_Stream_Fixes_x3 at hF
  refine awp_seq ?_
  refine awp_to (st' := fleetmake_Stream_Fixes_x4_I vs1_1 vx3_1) (oT [] []) ?_
  refine bE hF fun x h16 hF => ?_
  obtain ⟨vs2_1, vx4_1⟩ := x
  refine awp_sub (fleetmake_Stream_Fixes_x4_ok vs1_1 vx3_1 h16) ?_
  refine cE hF (fun h17 hF => ?_) fun h17 hF => ?_
  · refine awp_true (by kernel_rfl) h17 ?_
    refine awp_seq ?_
    refine bE hF fun vr3_1 h18 hF => ?_
    refine bE hF fun vy h19 hF => ?_
    refine awp_region ?_
    refine aR 3 ?_
    refine aL api_Fix.enc vx3_1 ?_
    refine aC (fleetmake_Stream_Next_ok h18) [] [] [] ?_
    refine aX (x_idxO api_Fix.enc 1 h19) ?_
    refine aR 1 ?_
    refine aE ?_
    refine bE hF fun vr10 h20 hF => ?_
    refine bE hF fun x h21 hF => ?_
    obtain ⟨vs1_2, vr3_2⟩ := x
    refine bE hF fun x h22 hF => ?_
    obtain ⟨vs1_3, vr3_3⟩ := x
    refine awp_region ?_
    refine aR 7 ?_
    refine aX (x_ldE api_Fix.enc h19) ?_
    refine aR 1 ?_
    refine aC (fleetmake_Stream_Some_o1_ok h20) [(1, 15002)] [] [] ?_
    refine aR 1 ?_
    refine aC (fleetmake_Stream_Odd_ok h21) [] [] [] ?_
    refine aR 1 ?_
    refine aC (fleetmake_Stream_Odd_ok h22) [] [] [] ?_
    refine aR 2 ?_
    refine aX (x_stE api_Fix.enc (api_Fix.mk vr10 vy.At vy.X vy.Y vy.Error) h19) ?_
    refine aR 2 ?_
    refine aX (x_stE api_Fix.enc (api_Fix.mk vr10 vr3_2 vy.X vy.Y vy.Error) (at_set (z := (api_Fix.mk vr10 vy.At vy.X vy.Y vy.Error)) h19)) ?_
    refine aR 2 ?_
    refine aX (x_stE api_Fix.enc (api_Fix.mk vr10 vr3_2 vy.X vr3_3 vy.Error) (at_set (z := (api_Fix.mk vr10 vr3_2 vy.X vy.Y vy.Error)) (at_set (z := (api_Fix.mk vr10 vy.At vy.X vy.Y vy.Error)) h19))) ?_
    refine aE ?_
    exact oO hF [] [] rfl
  · refine awp_false (by kernel_rfl) h17 ?_
    refine awp_skip ?_
    exact oO hF [] [] rfl

def fleetmake_Stream_Fixes_R (qx : fleetmake_Stream) (qx1 : Int) (r : fleetmake_Stream × (List api_Fix)) : TV × Mem := (.v (.one (.own 1 none)), ⟨[(1, ⟨33, 5, List.map api_Fix.enc r.2⟩)], [(0, [.d (.lst (List.map (encI .i64) r.1.L)), .d (.int .i64 r.1.at_)])]⟩)

theorem fleetmake_Stream_Fixes_ok {qx : fleetmake_Stream} {qx1 : Int} {r} (hF : fleetmake_Stream_Fixes qx qx1 = some r) : Holds prog 5 [.v (.one (.box 0 0)), .v (.one (.d (.int .i64 qx1)))] ⟨[], [(0, [.d (.lst (List.map (encI .i64) qx.L)), .d (.int .i64 qx.at_)])]⟩ (Is (fleetmake_Stream_Fixes_R qx qx1 r)) := by
  unfold fleetmake_Stream_Fixes at hF
  refine holds_of_awp hΓ (fn := f5) (c := cB f5) (A := 1) (nx := 1) (by kernel_rfl) (by kernel_rfl) (by kernel_rfl) (by kernel_rfl) (by kernel_rfl) (by kernel_rfl) (lowc_of (by kernel_rfl)) ?_
  show Awp prog 1 68 (cB f5) _ _
  refine awp_seq ?_
  refine awp_region ?_
  refine aR 1 ?_
  refine aE ?_
  refine awp_seq ?_
  refine awp_region ?_
  refine aR 1 ?_
  refine aE ?_
  refine awp_seq ?_
  refine awp_seq ?_
  refine awp_region ?_
  refine aR 2 ?_
  refine aE ?_
  refine awp_block ?_
  refine awp_to (st' := fleetmake_Stream_Fixes_x1_H qx1 (qx, [], 0)) (oT [] [1]) ?_
  refine bE hF fun x h7 hF => ?_
  obtain ⟨vs1_1, vx2_1⟩ := x
  refine awp_sub (awp_loop' (fleetmake_Stream_Fixes_x1_H qx1) fleetmake_Stream_Fixes_x1_k (fleetmake_Stream_Fixes_x1_S qx1) (by intro x; exact fun h => nomatch h) h7 (fleetmake_Stream_Fixes_x1_ok qx1)) ?_
  refine awp_seq ?_
  refine bE hF fun vl h8 hF => ?_
  refine gE hF fun h9 hF => ?_
  refine awp_region ?_
  refine aR 1 ?_
  refine aCp (slices_SortStableFunc_api_Fix_api_Fix_o0_f1_fleetref2_FixOrder_ok h8) ⟨⟨rfl, rfl, pin1 h9⟩, trivial⟩ [(0, 1)] [] [] ?_
  refine aE ?_
  refine awp_seq ?_
  refine awp_to (st' := fleetmake_Stream_Fixes_x2_I vs1_1 vl) (oT [] []) ?_
  refine bE hF fun vx3_1 h13 hF => ?_
  refine awp_sub (fleetmake_Stream_Fixes_x2_ok vs1_1 vl h13) ?_
  refine awp_seq ?_
  refine awp_to (st' := fleetmake_Stream_Fixes_x3_I vs1_1 vx3_1) (oT [] []) ?_
  refine bE hF fun x h23 hF => ?_
  obtain ⟨vs3_1, vx5_1⟩ := x
  refine awp_sub (fleetmake_Stream_Fixes_x3_ok vs1_1 vx3_1 h23) ?_
  refine awp_seq ?_
  refine awp_region ?_
  refine aR 2 ?_
  refine aE ?_
  refine awp_ret ?_
  exact oF hF [] []

/-! ### slices.Clone[[]beaconfleet/api.Fix,beaconfleet/api.Fix] -/
def slices_Clone_api_Fix_api_Fix_R (qs : List api_Fix) (r : List api_Fix) : TV × Mem := (.v (.one (.own 0 none)), ⟨[(0, ⟨33, 5, List.map api_Fix.enc r⟩)], []⟩)

theorem slices_Clone_api_Fix_api_Fix_ok {qs : List api_Fix} {r} (hF : slices_Clone_api_Fix_api_Fix qs = some r) : Holds prog 9 [.v (.one (.d (.lst (List.map api_Fix.enc qs))))] ⟨[], []⟩ (Is (slices_Clone_api_Fix_api_Fix_R qs r)) := by
  unfold slices_Clone_api_Fix_api_Fix at hF
  refine gE hF fun h1 hF => ?_
  refine holds_of_awp hΓ (fn := f9) (c := cB f9) (A := 0) (nx := 0) (by kernel_rfl) (by kernel_rfl) (by kernel_rfl) (by kernel_rfl) (by kernel_rfl) (by kernel_rfl) (lowc_of (by kernel_rfl)) ?_
  show Awp prog 0 8 (cB f9) _ _
  refine awp_seq ?_
  refine awp_region ?_
  refine aR 1 ?_
  refine aE ?_
  refine awp_seq ?_
  refine awp_seq ?_
  refine awp_region ?_
  refine aR 1 ?_
  refine aN api_Fix.enc qs (fun b hb => ?_) rfl
  refine aE ?_
  cases b with
  | true =>
    obtain rfl := hb rfl
    refine awp_true (by kernel_rfl) rfl ?_
    refine awp_seq ?_
    refine awp_region ?_
    refine aR 1 ?_
    refine aE ?_
    refine awp_ret ?_
    exact oF hF [] [0]
  | false =>
    refine awp_false (by kernel_rfl) rfl ?_
    refine awp_skip ?_
    refine awp_seq ?_
    refine awp_region ?_
    refine aR 2 ?_
    refine aX (x_app api_Fix.enc 3000 h1) ?_
    refine aR 1 ?_
    refine aE ?_
    refine awp_ret ?_
    exact oF hF [(0, 5000)] []

/-! ### beaconfleet/base.Key -/
def base_Key_x1_k : Bool → AEx
  | _ => .normal

def base_Key_x1_S (qs : List UInt8) : Bool → St
  | vx => Mem.st ⟨[], []⟩ (tl [(0, .v (.one (.d (.str qs)))), (21, .v (.one (.d (.bool vx))))]) 0

def base_Key_x1_I (qs : List UInt8) : St := Mem.st ⟨[], []⟩ (tl [(0, .v (.one (.d (.str qs))))]) 0

theorem base_Key_x1_ok (qs : List UInt8) {r} (hF : base_Key_x1 qs = some r) : Awp prog 0 54 (cL (cL (cR (cB f49)))) (Out 0 base_Key_x1_k (base_Key_x1_S qs) r) (base_Key_x1_I qs) := by
  unfold base_Key_x1 at hF
  refine cE hF (fun h1 hF => ?_) fun h1 hF => ?_
  · refine awp_region ?_
    refine aR 1 ?_
    refine aB h1 ?_
    refine aR 15 ?_
    refine aE ?_
    exact oO hF [] [] rfl
  · refine cE hF (fun h2 hF => ?_) fun h2 hF => ?_
    · refine awp_region ?_
      refine aR 1 ?_
      refine aB h1 ?_
      refine aR 3 ?_
      refine aB h2 ?_
      refine aR 11 ?_
      refine aE ?_
      exact oO hF [] [] rfl
    · refine bE hF fun vc h3 hF => ?_
      refine cE hF (fun h4 hF => ?_) fun h4 hF => ?_
      · refine awp_region ?_
        refine aR 1 ?_
        refine aB h1 ?_
        refine aR 3 ?_
        refine aB h2 ?_
        refine aR 3 ?_
        refine aX (x_idxS h3) ?_
        refine aB h4 ?_
        refine aR 6 ?_
        refine aE ?_
        exact oO hF [] [] rfl
      · refine awp_region ?_
        refine aR 1 ?_
        refine aB h1 ?_
        refine aR 3 ?_
        refine aB h2 ?_
        refine aR 3 ?_
        refine aX (x_idxS h3) ?_
        refine aB h4 ?_
        refine aR 3 ?_
        refine aX (x_idxS h3) ?_
        refine aR 2 ?_
        refine aE ?_
        exact oO hF [] [] rfl

def base_Key_x3_k : Bool → AEx
  | _ => .normal

def base_Key_x3_S (qs : List UInt8) (vx2 : Int) (vc2 : UInt8) : Bool → St
  | vx4 => Mem.st ⟨[], []⟩ (tl [(0, .v (.one (.d (.str qs)))), (23, .v (.one (.d (.int .i64 (qs.length : Int))))), (24, .v (.one (.d (.int .i64 vx2)))), (52, .v (.one (.d (.bool vx4))))]) 0

def base_Key_x3_I (qs : List UInt8) (vx2 : Int) (vc2 : UInt8) : St := Mem.st ⟨[], []⟩ (tl [(0, .v (.one (.d (.str qs)))), (4, .v (.one (.d (.int .u8 (vc2.toNat : Int))))), (23, .v (.one (.d (.int .i64 (qs.length : Int))))), (24, .v (.one (.d (.int .i64 vx2))))]) 0

theorem base_Key_x3_ok (qs : List UInt8) (vx2 : Int) (vc2 : UInt8) {r} (hF : base_Key_x3 vc2 = some r) : Awp prog 0 54 (cL (cR (cR (cL (cL (cR (cR (cL (cL (cR (cL (cR (cR (cB f49)))))))))))))) (Out 0 base_Key_x3_k (base_Key_x3_S qs vx2 vc2) r) (base_Key_x3_I qs vx2 vc2) := by
  unfold base_Key_x3 at hF
  refine cE hF (fun h9 hF => ?_) fun h9 hF => ?_
  · refine cE hF (fun h10 hF => ?_) fun h10 hF => ?_
    · refine awp_region ?_
      refine aR 1 ?_
      refine aB h9 ?_
      refine aR 2 ?_
      refine aB h10 ?_
      refine aR 18 ?_
      refine aE ?_
      exact oO hF [] [] rfl
    · refine cE hF (fun h11 hF => ?_) fun h11 hF => ?_
      · refine cE hF (fun h12 hF => ?_) fun h12 hF => ?_
        · refine awp_region ?_
          refine aR 1 ?_
          refine aB h9 ?_
          refine aR 2 ?_
          refine aB h10 ?_
          refine aR 3 ?_
          refine aB h11 ?_
          refine aR 2 ?_
          refine aB h12 ?_
          refine aR 11 ?_
          refine aE ?_
          exact oO hF [] [] rfl
        · refine cE hF (fun h13 hF => ?_) fun h13 hF => ?_
          · refine awp_region ?_
            refine aR 1 ?_
            refine aB h9 ?_
            refine aR 2 ?_
            refine aB h10 ?_
            refine aR 3 ?_
            refine aB h11 ?_
            refine aR 2 ?_
            refine aB h12 ?_
            refine aR 4 ?_
            refine aB h13 ?_
            refine aR 6 ?_
            refine aE ?_
            exact oO hF [] [] rfl
          · refine awp_region ?_
            refine aR 1 ?_
            refine aB h9 ?_
            refine aR 2 ?_
            refine aB h10 ?_
            refine aR 3 ?_
            refine aB h11 ?_
            refine aR 2 ?_
            refine aB h12 ?_
            refine aR 4 ?_
            refine aB h13 ?_
            refine aR 6 ?_
            refine aE ?_
            exact oO hF [] [] rfl
      · refine cE hF (fun h14 hF => ?_) fun h14 hF => ?_
        · refine awp_region ?_
          refine aR 1 ?_
          refine aB h9 ?_
          refine aR 2 ?_
          refine aB h10 ?_
          refine aR 3 ?_
          refine aB h11 ?_
          refine aR 7 ?_
          refine aB h14 ?_
          refine aR 6 ?_
          refine aE ?_
          exact oO hF [] [] rfl
        · refine awp_region ?_
          refine aR 1 ?_
          refine aB h9 ?_
          refine aR 2 ?_
          refine aB h10 ?_
          refine aR 3 ?_
          refine aB h11 ?_
          refine aR 7 ?_
          refine aB h14 ?_
          refine aR 6 ?_
          refine aE ?_
          exact oO hF [] [] rfl
  · refine cE hF (fun h15 hF => ?_) fun h15 hF => ?_
    · refine cE hF (fun h16 hF => ?_) fun h16 hF => ?_
      · refine awp_region ?_
        refine aR 1 ?_
        refine aB h9 ?_
        refine aR 6 ?_
        refine aB h15 ?_
        refine aR 2 ?_
        refine aB h16 ?_
        refine aR 11 ?_
        refine aE ?_
        exact oO hF [] [] rfl
      · refine cE hF (fun h17 hF => ?_) fun h17 hF => ?_
        · refine awp_region ?_
          refine aR 1 ?_
          refine aB h9 ?_
          refine aR 6 ?_
          refine aB h15 ?_
          refine aR 2 ?_
          refine aB h16 ?_
          refine aR 4 ?_
          refine aB h17 ?_
          refine aR 6 ?_
          refine aE ?_
          exact oO hF [] [] rfl
        · refine awp_region ?_
          refine aR 1 ?_
          refine aB h9 ?_
          refine aR 6 ?_
          refine aB h15 ?_
          refine aR 2 ?_
          refine aB h16 ?_
          refine aR 4 ?_
          refine aB h17 ?_
          refine aR 6 ?_
          refine aE ?_
          exact oO hF [] [] rfl
    · refine cE hF (fun h18 hF => ?_) fun h18 hF => ?_
      · refine awp_region ?_
        refine aR 1 ?_
        refine aB h9 ?_
        refine aR 6 ?_
        refine aB h15 ?_
        refine aR 7 ?_
        refine aB h18 ?_
        refine aR 6 ?_
        refine aE ?_
        exact oO hF [] [] rfl
      · refine awp_region ?_
        refine aR 1 ?_
        refine aB h9 ?_
        refine aR 6 ?_
        refine aB h15 ?_
        refine aR 7 ?_
        refine aB h18 ?_
        refine aR 6 ?_
        refine aE ?_
        exact oO hF [] [] rfl

def base_Key_x2_k : Unit ⊕ Unit → AEx
  | .inl _ => .exit 0
  | .inr _ => .ret

def base_Key_x2_S (qs : List UInt8) : Unit ⊕ Unit → St
  | .inl _ => Mem.st ⟨[], []⟩ (tl []) 0
  | .inr _ => Mem.st ⟨[], []⟩ (tl [(2, .v (.one (.d (.bool false))))]) 0

def base_Key_x2_H (qs : List UInt8) : Int → St
  | vx2 => Mem.st ⟨[], []⟩ (tl [(0, .v (.one (.d (.str qs)))), (23, .v (.one (.d (.int .i64 (qs.length : Int))))), (24, .v (.one (.d (.int .i64 vx2))))]) 0

theorem base_Key_x2_ok (qs : List UInt8) (vx2 : Int) (r : (Int) ⊕ (Unit ⊕ Unit)) (hF : base_Key_x2 qs vx2 = some r) : Awp prog 0 54 (cL (cL (cR (cL (cR (cR (cB f49))))))) (Out 0 (kk base_Key_x2_k) (SS (base_Key_x2_H qs) (base_Key_x2_S qs)) r) (base_Key_x2_H qs vx2) := by
  unfold base_Key_x2 at hF
  refine awp_seq ?_
  refine awp_region ?_
  refine aR 1 ?_
  refine aE ?_
  refine awp_seq ?_
  refine cE hF (fun h7 hF => ?_) fun h7 hF => ?_
  · refine awp_true (by kernel_rfl) h7 ?_
    refine awp_skip ?_
    refine awp_seq ?_
    refine awp_block ?_
    refine awp_seq ?_
    refine awp_region ?_
    refine aR 2 ?_
    refine aE ?_
    refine awp_seq ?_
    refine bE hF fun vc2 h8 hF => ?_
    refine awp_region ?_
    refine aR 2 ?_
    refine aX (x_idxS h8) ?_
    refine aR 1 ?_
    refine aE ?_
    refine awp_seq ?_
    refine awp_to (st' := base_Key_x3_I qs vx2 vc2) (oT [] []) ?_
    refine bE hF fun vx4_1 h19 hF => ?_
    refine awp_sub (base_Key_x3_ok qs vx2 vc2 h19) ?_
    refine cE hF (fun h20 hF => ?_) fun h20 hF => ?_
    · refine awp_true (by kernel_rfl) h20 ?_
      refine awp_seq ?_
      refine awp_region ?_
      refine aR 1 ?_
      refine aE ?_
      refine awp_ret ?_
      exact oO hF [] [] rfl
    · refine awp_false (by kernel_rfl) h20 ?_
      refine awp_skip ?_
      refine awp_region ?_
      refine aR 2 ?_
      refine aE ?_
      exact oO hF [] [] rfl
  · refine awp_false (by kernel_rfl) h7 ?_
    refine awp_exit ?_
    exact oO hF [] [] rfl

def base_Key_R (qs : List UInt8) (r : Bool) : TV × Mem := (.v (.one (.d (.bool r))), ⟨[], []⟩)

theorem base_Key_ok {qs : List UInt8} {r} (hF : base_Key qs = some r) : Holds prog 49 [.v (.one (.d (.str qs)))] ⟨[], []⟩ (Is (base_Key_R qs r)) := by
  unfold base_Key at hF
  refine holds_of_awp hΓ (fn := f49) (c := cB f49) (A := 0) (nx := 0) (by kernel_rfl) (by kernel_rfl) (by kernel_rfl) (by kernel_rfl) (by kernel_rfl) (by kernel_rfl) (lowc_of (by kernel_rfl)) ?_
  show Awp prog 0 54 (cB f49) _ _
  refine awp_seq ?_
  refine awp_region ?_
  refine aR 1 ?_
  refine aE ?_
  refine awp_seq ?_
  refine awp_seq ?_
  refine awp_to (st' := base_Key_x1_I qs) (oT [] []) ?_
  refine bE hF fun vx1 h5 hF => ?_
  refine awp_sub (base_Key_x1_ok qs h5) ?_
  refine cE hF (fun h6 hF => ?_) fun h6 hF => ?_
  · refine awp_true (by kernel_rfl) h6 ?_
    refine awp_seq ?_
    refine awp_region ?_
    refine aR 1 ?_
    refine aE ?_
    refine awp_ret ?_
    exact oF hF [] []
  · refine awp_false (by kernel_rfl) h6 ?_
    refine awp_skip ?_
    refine awp_seq ?_
    refine awp_seq ?_
    refine awp_region ?_
    refine aR 3 ?_
    refine aE ?_
    refine awp_block ?_
    refine awp_to (st' := base_Key_x2_H qs 0) (oT [] []) ?_
    refine bE hF fun x h21 hF => ?_
    rcases x with _ | _
    · refine awp_sub (awp_loop' (base_Key_x2_H qs) base_Key_x2_k (base_Key_x2_S qs) (by intro x; rcases x with x | x <;> exact fun h => nomatch h) h21 (base_Key_x2_ok qs)) ?_
      refine awp_seq ?_
      refine awp_region ?_
      refine aR 1 ?_
      refine aE ?_
      refine awp_ret ?_
      exact oF hF [] []
    · refine awp_sub (awp_loop' (base_Key_x2_H qs) base_Key_x2_k (base_Key_x2_S qs) (by intro x; rcases x with x | x <;> exact fun h => nomatch h) h21 (base_Key_x2_ok qs)) ?_
      exact oF hF [] []

/-! ### beaconfleet/base.Out -/
def base_Out_x1_k : Bool → AEx
  | _ => .normal

def base_Out_x1_S (qn : Int) (qlow : Int) (qhigh : Int) : Bool → St
  | vx => Mem.st ⟨[], []⟩ (tl [(6, .v (.one (.d (.bool vx))))]) 0

def base_Out_x1_I (qn : Int) (qlow : Int) (qhigh : Int) : St := Mem.st ⟨[], []⟩ (tl [(0, .v (.one (.d (.int .i64 qn)))), (1, .v (.one (.d (.int .i64 qlow)))), (2, .v (.one (.d (.int .i64 qhigh))))]) 0

theorem base_Out_x1_ok (qn : Int) (qlow : Int) (qhigh : Int) {r} (hF : base_Out_x1 qn qlow qhigh = some r) : Awp prog 0 15 (cL (cR (cB f57))) (Out 0 base_Out_x1_k (base_Out_x1_S qn qlow qhigh) r) (base_Out_x1_I qn qlow qhigh) := by
  unfold base_Out_x1 at hF
  refine cE hF (fun h1 hF => ?_) fun h1 hF => ?_
  · refine awp_region ?_
    refine aR 2 ?_
    refine aB h1 ?_
    refine aR 6 ?_
    refine aE ?_
    exact oO hF [] [] rfl
  · refine awp_region ?_
    refine aR 2 ?_
    refine aB h1 ?_
    refine aR 6 ?_
    refine aE ?_
    exact oO hF [] [] rfl

def base_Out_R (qn : Int) (qlow : Int) (qhigh : Int) (r : Bool) : TV × Mem := (.v (.one (.d (.bool r))), ⟨[], []⟩)

theorem base_Out_ok {qn : Int} {qlow : Int} {qhigh : Int} {r} (hF : base_Out qn qlow qhigh = some r) : Holds prog 57 [.v (.one (.d (.int .i64 qn))), .v (.one (.d (.int .i64 qlow))), .v (.one (.d (.int .i64 qhigh)))] ⟨[], []⟩ (Is (base_Out_R qn qlow qhigh r)) := by
  unfold base_Out at hF
  refine holds_of_awp hΓ (fn := f57) (c := cB f57) (A := 0) (nx := 0) (by kernel_rfl) (by kernel_rfl) (by kernel_rfl) (by kernel_rfl) (by kernel_rfl) (by kernel_rfl) (lowc_of (by kernel_rfl)) ?_
  show Awp prog 0 15 (cB f57) _ _
  refine awp_seq ?_
  refine awp_region ?_
  refine aR 1 ?_
  refine aE ?_
  refine awp_seq ?_
  refine awp_to (st' := base_Out_x1_I qn qlow qhigh) (oT [] []) ?_
  refine bE hF fun vx1 h2 hF => ?_
  refine awp_sub (base_Out_x1_ok qn qlow qhigh h2) ?_
  refine awp_ret ?_
  exact oF hF [] []

/-! ### beaconfleet/base.Moment -/
def base_Moment_R (qn : Int) (r : Bool) : TV × Mem := (.v (.one (.d (.bool r))), ⟨[], []⟩)

theorem base_Moment_ok {qn : Int} {r} (hF : base_Moment qn = some r) : Holds prog 54 [.v (.one (.d (.int .i64 qn)))] ⟨[], []⟩ (Is (base_Moment_R qn r)) := by
  unfold base_Moment at hF
  refine holds_of_awp hΓ (fn := f54) (c := cB f54) (A := 0) (nx := 0) (by kernel_rfl) (by kernel_rfl) (by kernel_rfl) (by kernel_rfl) (by kernel_rfl) (by kernel_rfl) (lowc_of (by kernel_rfl)) ?_
  show Awp prog 0 6 (cB f54) _ _
  refine awp_seq ?_
  refine awp_region ?_
  refine aR 1 ?_
  refine aE ?_
  refine awp_seq ?_
  refine bE hF fun vr h1 hF => ?_
  refine awp_region ?_
  refine aR 1 ?_
  refine aC (base_Out_ok h1) [] [] [] ?_
  refine aR 2 ?_
  refine aE ?_
  refine awp_ret ?_
  exact oF hF [] []

/-! ### beaconfleet/place.spot -/
def place_spot_R (qx : api_Fix) (r : Unit) : TV × Mem := (.v (.agg [.d (.int .i64 qx.X), .d (.int .i64 qx.Y)]), ⟨[], []⟩)

theorem place_spot_ok {qx : api_Fix} {r} (hF : place_spot qx = some r) : Holds prog 56 [.v (.agg [.d (.str qx.Device), .d (.int .i64 qx.At), .d (.int .i64 qx.X), .d (.int .i64 qx.Y), .d (.int .i64 qx.Error)])] ⟨[], []⟩ (Is (place_spot_R qx r)) := by
  unfold place_spot at hF
  refine holds_of_awp hΓ (fn := f56) (c := cB f56) (A := 0) (nx := 0) (by kernel_rfl) (by kernel_rfl) (by kernel_rfl) (by kernel_rfl) (by kernel_rfl) (by kernel_rfl) (lowc_of (by kernel_rfl)) ?_
  show Awp prog 0 8 (cB f56) _ _
  refine awp_seq ?_
  refine awp_region ?_
  refine aR 2 ?_
  refine aE ?_
  refine awp_seq ?_
  refine awp_region ?_
  refine aR 6 ?_
  refine aE ?_
  refine awp_ret ?_
  exact oF hF [] []

/-! ### beaconfleet/place.isSpot -/
def place_isSpot_x1_k : Bool → AEx
  | _ => .normal

def place_isSpot_x1_S (qs : api_Spot) : Bool → St
  | vx => Mem.st ⟨[], []⟩ (tl [(2, .v (.one (.d (.bool vx))))]) 0

def place_isSpot_x1_I (qs : api_Spot) : St := Mem.st ⟨[], [(0, [.d (.int .i64 qs.X), .d (.int .i64 qs.Y)])]⟩ (tl [(1, .v (.one (.box 0 0)))]) 1

theorem place_isSpot_x1_ok (qs : api_Spot) {r} (hF : place_isSpot_x1 qs = some r) : Awp prog 0 13 (cL (cR (cB f55))) (Out 0 place_isSpot_x1_k (place_isSpot_x1_S qs) r) (place_isSpot_x1_I qs) := by
  unfold place_isSpot_x1 at hF
  refine bE hF fun vr h1 hF => ?_
  refine cE hF (fun h2 hF => ?_) fun h2 hF => ?_
  · refine bE hF fun vr1 h3 hF => ?_
    refine awp_region ?_
    refine aR 2 ?_
    refine aC (base_Out_ok h1) [] [] [] ?_
    refine aB h2 ?_
    refine aR 3 ?_
    refine aC (base_Out_ok h3) [] [] [] ?_
    refine aR 3 ?_
    refine aE ?_
    exact oO hF [] [] rfl
  · refine awp_region ?_
    refine aR 2 ?_
    refine aC (base_Out_ok h1) [] [] [] ?_
    refine aB h2 ?_
    refine aR 7 ?_
    refine aE ?_
    exact oO hF [] [] rfl

def place_isSpot_R (qs : api_Spot) (r : Bool) : TV × Mem := (.v (.one (.d (.bool r))), ⟨[], []⟩)

theorem place_isSpot_ok {qs : api_Spot} {r} (hF : place_isSpot qs = some r) : Holds prog 55 [.v (.agg [.d (.int .i64 qs.X), .d (.int .i64 qs.Y)])] ⟨[], []⟩ (Is (place_isSpot_R qs r)) := by
  unfold place_isSpot at hF
  refine holds_of_awp hΓ (fn := f55) (c := cB f55) (A := 0) (nx := 0) (by kernel_rfl) (by kernel_rfl) (by kernel_rfl) (by kernel_rfl) (by kernel_rfl) (by kernel_rfl) (lowc_of (by kernel_rfl)) ?_
  show Awp prog 0 13 (cB f55) _ _
  refine awp_seq ?_
  refine awp_region ?_
  refine aR 2 ?_
  refine aE ?_
  refine awp_seq ?_
  refine awp_to (st' := place_isSpot_x1_I qs) (oT [] []) ?_
  refine bE hF fun vx1 h4 hF => ?_
  refine awp_sub (place_isSpot_x1_ok qs h4) ?_
  refine awp_ret ?_
  exact oF hF [] []

/-! ### cmp.isNaN[int] -/
def cmp_isNaN_int_R (qx : Int) (r : Unit) : TV × Mem := (.v (.one (.d (.bool (!decide (qx = qx))))), ⟨[], []⟩)

theorem cmp_isNaN_int_ok {qx : Int} {r} (hF : cmp_isNaN_int qx = some r) : Holds prog 97 [.v (.one (.d (.int .i64 qx)))] ⟨[], []⟩ (Is (cmp_isNaN_int_R qx r)) := by
  unfold cmp_isNaN_int at hF
  refine holds_of_awp hΓ (fn := f97) (c := cB f97) (A := 0) (nx := 0) (by kernel_rfl) (by kernel_rfl) (by kernel_rfl) (by kernel_rfl) (by kernel_rfl) (by kernel_rfl) (lowc_of (by kernel_rfl)) ?_
  show Awp prog 0 6 (cB f97) _ _
  refine awp_seq ?_
  refine awp_region ?_
  refine aR 1 ?_
  refine aE ?_
  refine awp_seq ?_
  refine awp_region ?_
  refine aR 4 ?_
  refine aE ?_
  refine awp_ret ?_
  exact oF hF [] []

/-! ### cmp.Compare[int] -/
def cmp_Compare_int_R (qx : Int) (qy : Int) (r : Int) : TV × Mem := (.v (.one (.d (.int .i64 r))), ⟨[], []⟩)

theorem cmp_Compare_int_ok {qx : Int} {qy : Int} {r} (hF : cmp_Compare_int qx qy = some r) : Holds prog 85 [.v (.one (.d (.int .i64 qx))), .v (.one (.d (.int .i64 qy)))] ⟨[], []⟩ (Is (cmp_Compare_int_R qx qy r)) := by
  unfold cmp_Compare_int at hF
  refine holds_of_awp hΓ (fn := f85) (c := cB f85) (A := 0) (nx := 0) (by kernel_rfl) (by kernel_rfl) (by kernel_rfl) (by kernel_rfl) (by kernel_rfl) (by kernel_rfl) (lowc_of (by kernel_rfl)) ?_
  show Awp prog 0 20 (cB f85) _ _
  refine awp_seq ?_
  refine awp_region ?_
  refine aR 1 ?_
  refine aE ?_
  refine awp_seq ?_
  refine bE hF fun _ h1 hF => ?_
  refine awp_region ?_
  refine aR 1 ?_
  refine aC (cmp_isNaN_int_ok h1) [] [] [] ?_
  refine aR 1 ?_
  refine aE ?_
  refine awp_seq ?_
  refine bE hF fun _ h2 hF => ?_
  refine awp_region ?_
  refine aR 1 ?_
  refine aC (cmp_isNaN_int_ok h2) [] [] [] ?_
  refine aR 1 ?_
  refine aE ?_
  refine awp_seq ?_
  refine awp_seq ?_
  refine awp_region ?_
  refine aR 1 ?_
  refine aE ?_
  refine cE hF (fun h3 hF => ?_) fun h3 hF => ?_
  · refine awp_true (by kernel_rfl) h3 ?_
    refine awp_seq ?_
    refine awp_seq ?_
    refine awp_region ?_
    refine aR 1 ?_
    refine aE ?_
    refine cE hF (fun h4 hF => ?_) fun h4 hF => ?_
    · refine awp_true (by kernel_rfl) h4 ?_
      refine awp_seq ?_
      refine awp_region ?_
      refine aR 1 ?_
      refine aE ?_
      refine awp_ret ?_
      exact oF hF [] []
    · refine awp_false (by kernel_rfl) h4 ?_
      refine awp_skip ?_
      refine awp_seq ?_
      refine awp_region ?_
      refine aR 1 ?_
      refine aE ?_
      refine awp_ret ?_
      exact oF hF [] []
  · refine awp_false (by kernel_rfl) h3 ?_
    refine awp_skip ?_
    refine awp_seq ?_
    refine awp_seq ?_
    refine awp_region ?_
    refine aR 1 ?_
    refine aE ?_
    refine cE hF (fun h5 hF => ?_) fun h5 hF => ?_
    · refine awp_true (by kernel_rfl) h5 ?_
      refine awp_seq ?_
      refine awp_region ?_
      refine aR 1 ?_
      refine aE ?_
      refine awp_ret ?_
      exact oF hF [] []
    · refine awp_false (by kernel_rfl) h5 ?_
      refine awp_skip ?_
      refine awp_seq ?_
      refine awp_seq ?_
      refine awp_region ?_
      refine aR 3 ?_
      refine aE ?_
      refine cE hF (fun h6 hF => ?_) fun h6 hF => ?_
      · refine awp_true (by kernel_rfl) h6 ?_
        refine awp_seq ?_
        refine awp_region ?_
        refine aR 1 ?_
        refine aE ?_
        refine awp_ret ?_
        exact oF hF [] []
      · refine awp_false (by kernel_rfl) h6 ?_
        refine awp_skip ?_
        refine awp_seq ?_
        refine awp_seq ?_
        refine awp_region ?_
        refine aR 3 ?_
        refine aE ?_
        refine cE hF (fun h7 hF => ?_) fun h7 hF => ?_
        · refine awp_true (by kernel_rfl) h7 ?_
          refine awp_seq ?_
          refine awp_region ?_
          refine aR 1 ?_
          refine aE ?_
          refine awp_ret ?_
          exact oF hF [] []
        · refine awp_false (by kernel_rfl) h7 ?_
          refine awp_skip ?_
          refine awp_seq ?_
          refine awp_region ?_
          refine aR 1 ?_
          refine aE ?_
          refine awp_ret ?_
          exact oF hF [] []

/-! ### cmp.Or[int] -/
def cmp_Or_int_x1_k : Unit ⊕ Int → AEx
  | .inl _ => .exit 0
  | .inr _ => .ret

def cmp_Or_int_x1_S (qvals : List Int) : Unit ⊕ Int → St
  | .inl _ => Mem.st ⟨[], []⟩ (tl [(3, .v (.one (.d (.int .i64 0))))]) 0
  | .inr vx1 => Mem.st ⟨[], []⟩ (tl [(2, .v (.one (.d (.int .i64 vx1))))]) 0

def cmp_Or_int_x1_H (qvals : List Int) : Int → St
  | vx => Mem.st ⟨[], []⟩ (tl [(3, .v (.one (.d (.int .i64 0)))), (6, .v (.one (.d (.lst (List.map (encI .i64) qvals))))), (7, .v (.one (.d (.int .i64 (qvals.length : Int))))), (8, .v (.one (.d (.int .i64 vx))))]) 0

theorem cmp_Or_int_x1_ok (qvals : List Int) (vx : Int) (r : (Int) ⊕ (Unit ⊕ Int)) (hF : cmp_Or_int_x1 qvals vx = some r) : Awp prog 0 18 (cL (cL (cR (cL (cR (cR (cB f84))))))) (Out 0 (kk cmp_Or_int_x1_k) (SS (cmp_Or_int_x1_H qvals) (cmp_Or_int_x1_S qvals)) r) (cmp_Or_int_x1_H qvals vx) := by
  unfold cmp_Or_int_x1 at hF
  refine awp_seq ?_
  refine awp_region ?_
  refine aR 1 ?_
  refine aE ?_
  refine awp_seq ?_
  refine cE hF (fun h1 hF => ?_) fun h1 hF => ?_
  · refine awp_true (by kernel_rfl) h1 ?_
    refine awp_skip ?_
    refine awp_seq ?_
    refine awp_block ?_
    refine awp_seq ?_
    refine bE hF fun vy1 h2 hF => ?_
    refine awp_region ?_
    refine aX (x_idx (encI .i64) h2) ?_
    refine aR 2 ?_
    refine aE ?_
    refine awp_seq ?_
    refine awp_region ?_
    refine aR 3 ?_
    refine aE ?_
    refine cE hF (fun h3 hF => ?_) fun h3 hF => ?_
    · refine awp_true (by kernel_rfl) h3 ?_
      refine awp_seq ?_
      refine awp_region ?_
      refine aR 2 ?_
      refine aE ?_
      refine awp_ret ?_
      exact oO hF [] [] rfl
    · refine awp_false (by kernel_rfl) h3 ?_
      refine awp_skip ?_
      refine awp_region ?_
      refine aR 2 ?_
      refine aE ?_
      exact oO hF [] [] rfl
  · refine awp_false (by kernel_rfl) h1 ?_
    refine awp_exit ?_
    exact oO hF [] [] rfl

def cmp_Or_int_R (qvals : List Int) (r : Int) : TV × Mem := (.v (.one (.d (.int .i64 r))), ⟨[], []⟩)

theorem cmp_Or_int_ok {qvals : List Int} {r} (hF : cmp_Or_int qvals = some r) : Holds prog 84 [.v (.one (.d (.lst (List.map (encI .i64) qvals))))] ⟨[], []⟩ (Is (cmp_Or_int_R qvals r)) := by
  unfold cmp_Or_int at hF
  refine holds_of_awp hΓ (fn := f84) (c := cB f84) (A := 0) (nx := 0) (by kernel_rfl) (by kernel_rfl) (by kernel_rfl) (by kernel_rfl) (by kernel_rfl) (by kernel_rfl) (lowc_of (by kernel_rfl)) ?_
  show Awp prog 0 18 (cB f84) _ _
  refine awp_seq ?_
  refine awp_region ?_
  refine aR 1 ?_
  refine aE ?_
  refine awp_seq ?_
  refine awp_region ?_
  refine aR 1 ?_
  refine aE ?_
  refine awp_seq ?_
  refine awp_seq ?_
  refine awp_region ?_
  refine aR 1 ?_
  refine aL (encI .i64) qvals ?_
  refine aR 1 ?_
  refine aE ?_
  refine awp_block ?_
  refine awp_to (st' := cmp_Or_int_x1_H qvals 0) (oT [] []) ?_
  refine bE hF fun x h4 hF => ?_
  rcases x with _ | vx1_1
  · refine awp_sub (awp_loop' (cmp_Or_int_x1_H qvals) cmp_Or_int_x1_k (cmp_Or_int_x1_S qvals) (by intro x; rcases x with x | x <;> exact fun h => nomatch h) h4 (cmp_Or_int_x1_ok qvals)) ?_
    refine awp_seq ?_
    refine awp_region ?_
    refine aR 2 ?_
    refine aE ?_
    refine awp_ret ?_
    exact oF hF [] []
  · refine awp_sub (awp_loop' (cmp_Or_int_x1_H qvals) cmp_Or_int_x1_k (cmp_Or_int_x1_S qvals) (by intro x; rcases x with x | x <;> exact fun h => nomatch h) h4 (cmp_Or_int_x1_ok qvals)) ?_
    exact oF hF [] []

/-! ### beaconfleet/place.byDevice -/
def place_byDevice_R (qa : api_Fix) (qb : api_Fix) (r : Int) : TV × Mem := (.v (.one (.d (.int .i64 r))), ⟨[], []⟩)

theorem place_byDevice_ok {qa : api_Fix} {qb : api_Fix} {r} (hF : place_byDevice qa qb = some r) : Holds prog 47 [.v (.agg [.d (.str qa.Device), .d (.int .i64 qa.At), .d (.int .i64 qa.X), .d (.int .i64 qa.Y), .d (.int .i64 qa.Error)]), .v (.agg [.d (.str qb.Device), .d (.int .i64 qb.At), .d (.int .i64 qb.X), .d (.int .i64 qb.Y), .d (.int .i64 qb.Error)])] ⟨[], []⟩ (Is (place_byDevice_R qa qb r)) := by
  unfold place_byDevice at hF
  refine holds_of_awp hΓ (fn := f47) (c := cB f47) (A := 0) (nx := 0) (by kernel_rfl) (by kernel_rfl) (by kernel_rfl) (by kernel_rfl) (by kernel_rfl) (by kernel_rfl) (lowc_of (by kernel_rfl)) ?_
  show Awp prog 0 17 (cB f47) _ _
  refine awp_seq ?_
  refine awp_region ?_
  refine aR 3 ?_
  refine aE ?_
  refine awp_seq ?_
  refine bE hF fun _ h1 hF => ?_
  refine bE hF fun vr h2 hF => ?_
  refine bE hF fun vr1 h3 hF => ?_
  refine aD ?_
  refine dR 4 ?_
  refine dC (strings_Compare_ok h1) [] [] [] ?_
  refine dR 4 ?_
  refine dC (cmp_Compare_int_ok h2) [] [] [] ?_
  refine dR 1 ?_
  refine dC (cmp_Or_int_ok h3) [] [] [13000] ?_
  refine dR 1 ?_
  refine dE ?_
  refine awp_ret ?_
  exact oF hF [] []

/-! ### beaconfleet/place.CheckFixes -/
def place_CheckFixes_x2_k : Bool → AEx
  | _ => .normal

def place_CheckFixes_x2_S (ql : List api_Fix) (vx : Int) (vy2 : api_Fix) : Bool → St
  | vx3 => Mem.st ⟨[], [(0, [.d (.str vy2.Device), .d (.int .i64 vy2.At), .d (.int .i64 vy2.X), .d (.int .i64 vy2.Y), .d (.int .i64 vy2.Error)])]⟩ (tl [(0, .v (.one (.d (.lst (List.map api_Fix.enc ql))))), (3, .v (.one (.d (.int .i64 vx)))), (4, .v (.one (.box 0 0))), (8, .v (.one (.d (.lst (List.map api_Fix.enc ql))))), (9, .v (.one (.d (.int .i64 (ql.length : Int))))), (10, .v (.one (.d (.int .i64 vx)))), (20, .v (.one (.d (.bool vx3))))]) 1

def place_CheckFixes_x2_I (ql : List api_Fix) (vx : Int) (vy2 : api_Fix) : St := Mem.st ⟨[], [(0, [.d (.str vy2.Device), .d (.int .i64 vy2.At), .d (.int .i64 vy2.X), .d (.int .i64 vy2.Y), .d (.int .i64 vy2.Error)])]⟩ (tl [(0, .v (.one (.d (.lst (List.map api_Fix.enc ql))))), (3, .v (.one (.d (.int .i64 vx)))), (4, .v (.one (.box 0 0))), (8, .v (.one (.d (.lst (List.map api_Fix.enc ql))))), (9, .v (.one (.d (.int .i64 (ql.length : Int))))), (10, .v (.one (.d (.int .i64 vx))))]) 1

theorem place_CheckFixes_x2_ok (ql : List api_Fix) (vx : Int) (vy2 : api_Fix) {r} (hF : place_CheckFixes_x2 vy2 = some r) : Awp prog 0 50 (cL (cR (cR (cL (cR (cL (cL (cR (cR (cL (cL (cR (cL (cR (cR (cB f14)))))))))))))))) (Out 0 place_CheckFixes_x2_k (place_CheckFixes_x2_S ql vx vy2) r) (place_CheckFixes_x2_I ql vx vy2) := by
  unfold place_CheckFixes_x2 at hF
  refine bE hF fun vr1_1 h6 hF => ?_
  refine cE hF (fun h7 hF => ?_) fun h7 hF => ?_
  · refine awp_region ?_
    refine aR 2 ?_
    refine aC (base_Moment_ok h6) [] [] [] ?_
    refine aB h7 ?_
    refine aR 12 ?_
    refine aE ?_
    exact oO hF [] [] rfl
  · refine bE hF fun _ h8 hF => ?_
    refine bE hF fun vr2_2 h9 hF => ?_
    refine cE hF (fun h10 hF => ?_) fun h10 hF => ?_
    · refine awp_region ?_
      refine aR 2 ?_
      refine aC (base_Moment_ok h6) [] [] [] ?_
      refine aB h7 ?_
      refine aR 2 ?_
      refine aC (place_spot_ok h8) [] [] [] ?_
      refine aC (place_isSpot_ok h9) [] [] [] ?_
      refine aB h10 ?_
      refine aR 7 ?_
      refine aE ?_
      exact oO hF [] [] rfl
    · refine bE hF fun vr5 h11 hF => ?_
      refine awp_region ?_
      refine aR 2 ?_
      refine aC (base_Moment_ok h6) [] [] [] ?_
      refine aB h7 ?_
      refine aR 2 ?_
      refine aC (place_spot_ok h8) [] [] [] ?_
      refine aC (place_isSpot_ok h9) [] [] [] ?_
      refine aB h10 ?_
      refine aR 4 ?_
      refine aC (base_Out_ok h11) [] [] [] ?_
      refine aR 2 ?_
      refine aE ?_
      exact oO hF [] [] rfl

def place_CheckFixes_x3_k : Bool → AEx
  | _ => .normal

def place_CheckFixes_x3_S (ql : List api_Fix) (vx : Int) (vy2 : api_Fix) : Bool → St
  | vx4 => Mem.st ⟨[], []⟩ (tl [(0, .v (.one (.d (.lst (List.map api_Fix.enc ql))))), (8, .v (.one (.d (.lst (List.map api_Fix.enc ql))))), (9, .v (.one (.d (.int .i64 (ql.length : Int))))), (10, .v (.one (.d (.int .i64 vx)))), (36, .v (.one (.d (.bool vx4))))]) 0

def place_CheckFixes_x3_I (ql : List api_Fix) (vx : Int) (vy2 : api_Fix) : St := Mem.st ⟨[], [(0, [.d (.str vy2.Device), .d (.int .i64 vy2.At), .d (.int .i64 vy2.X), .d (.int .i64 vy2.Y), .d (.int .i64 vy2.Error)])]⟩ (tl [(0, .v (.one (.d (.lst (List.map api_Fix.enc ql))))), (3, .v (.one (.d (.int .i64 vx)))), (4, .v (.one (.box 0 0))), (8, .v (.one (.d (.lst (List.map api_Fix.enc ql))))), (9, .v (.one (.d (.int .i64 (ql.length : Int))))), (10, .v (.one (.d (.int .i64 vx))))]) 1

theorem place_CheckFixes_x3_ok (ql : List api_Fix) (vx : Int) (vy2 : api_Fix) {r} (hF : place_CheckFixes_x3 ql vx vy2 = some r) : Awp prog 0 50 (cL (cR (cR (cR (cR (cL (cR (cL (cL (cR (cR (cL (cL (cR (cL (cR (cR (cB f14)))))))))))))))))) (Out 0 place_CheckFixes_x3_k (place_CheckFixes_x3_S ql vx vy2) r) (place_CheckFixes_x3_I ql vx vy2) := by
  unfold place_CheckFixes_x3 at hF
  refine cE hF (fun h14 hF => ?_) fun h14 hF => ?_
  · refine bE hF fun vy3 h15 hF => ?_
    refine bE hF fun vr2_3 h16 hF => ?_
    refine aD ?_
    refine dR 1 ?_
    refine dB h14 ?_
    refine dR 5 ?_
    refine dX (x_idx api_Fix.enc h15) ?_
    refine dR 1 ?_
    refine dC (place_byDevice_ok h16) [] [] [] ?_
    refine dR 3 ?_
    refine dE ?_
    exact oO hF [] [] rfl
  · refine aD ?_
    refine dR 1 ?_
    refine dB h14 ?_
    refine dR 11 ?_
    refine dE ?_
    exact oO hF [] [] rfl

def place_CheckFixes_x1_k : Unit ⊕ Int → AEx
  | .inl _ => .exit 0
  | .inr _ => .ret

def place_CheckFixes_x1_S (ql : List api_Fix) : Unit ⊕ Int → St
  | .inl _ => Mem.st ⟨[], []⟩ (tl []) 0
  | .inr vx5 => Mem.st ⟨[], []⟩ (tl [(2, .v (.one (.d (.int .i64 vx5))))]) 0

def place_CheckFixes_x1_H (ql : List api_Fix) : Int → St
  | vx => Mem.st ⟨[], []⟩ (tl [(0, .v (.one (.d (.lst (List.map api_Fix.enc ql))))), (8, .v (.one (.d (.lst (List.map api_Fix.enc ql))))), (9, .v (.one (.d (.int .i64 (ql.length : Int))))), (10, .v (.one (.d (.int .i64 vx))))]) 0

theorem place_CheckFixes_x1_ok (ql : List api_Fix) (vx : Int) (r : (Int) ⊕ (Unit ⊕ Int)) (hF : place_CheckFixes_x1 ql vx = some r) : Awp prog 0 50 (cL (cL (cR (cL (cR (cR (cB f14))))))) (Out 0 (kk place_CheckFixes_x1_k) (SS (place_CheckFixes_x1_H ql) (place_CheckFixes_x1_S ql)) r) (place_CheckFixes_x1_H ql vx) := by
  unfold place_CheckFixes_x1 at hF
  refine awp_seq ?_
  refine awp_region ?_
  refine aR 1 ?_
  refine aE ?_
  refine awp_seq ?_
  refine cE hF (fun h2 hF => ?_) fun h2 hF => ?_
  · refine awp_true (by kernel_rfl) h2 ?_
    refine awp_skip ?_
    refine awp_seq ?_
    refine awp_block ?_
    refine awp_seq ?_
    refine bE hF fun vy2 h3 hF => ?_
    refine awp_region ?_
    refine aR 1 ?_
    refine aX (x_idx api_Fix.enc h3) ?_
    refine aR 4 ?_
    refine aE ?_
    refine awp_block ?_
    refine awp_seq ?_
    refine bE hF fun vr4 h4 hF => ?_
    refine awp_region ?_
    refine aR 2 ?_
    refine aC (base_Key_ok h4) [] [] [] ?_
    refine aR 2 ?_
    refine aE ?_
    refine cE hF (fun h5 hF => ?_) fun h5 hF => ?_
    · refine awp_true (by kernel_rfl) h5 ?_
      refine awp_seq ?_
      refine awp_region ?_
      refine aR 1 ?_
      refine aE ?_
      refine awp_ret ?_
      exact oO hF [] [] rfl
    · refine awp_false (by kernel_rfl) h5 ?_
      refine awp_seq ?_
      refine awp_to (st' := place_CheckFixes_x2_I ql vx vy2) (oT [(0, 4000)] []) ?_
      refine bE hF fun vx3_1 h12 hF => ?_
      refine awp_sub (place_CheckFixes_x2_ok ql vx vy2 h12) ?_
      refine cE hF (fun h13 hF => ?_) fun h13 hF => ?_
      · refine awp_true (by kernel_rfl) h13 ?_
        refine awp_seq ?_
        refine awp_region ?_
        refine aR 1 ?_
        refine aE ?_
        refine awp_ret ?_
        exact oO hF [] [] rfl
      · refine awp_false (by kernel_rfl) h13 ?_
        refine awp_seq ?_
        refine awp_to (st' := place_CheckFixes_x3_I ql vx vy2) (oT [] []) ?_
        refine bE hF fun vx4_1 h17 hF => ?_
        refine awp_sub (place_CheckFixes_x3_ok ql vx vy2 h17) ?_
        refine cE hF (fun h18 hF => ?_) fun h18 hF => ?_
        · refine awp_true (by kernel_rfl) h18 ?_
          refine awp_seq ?_
          refine awp_region ?_
          refine aR 1 ?_
          refine aE ?_
          refine awp_ret ?_
          exact oO hF [] [] rfl
        · refine awp_false (by kernel_rfl) h18 ?_
          refine awp_skip ?_
          refine awp_region ?_
          refine aR 2 ?_
          refine aE ?_
          exact oO hF [] [] rfl
  · refine awp_false (by kernel_rfl) h2 ?_
    refine awp_exit ?_
    exact oO hF [] [] rfl

def place_CheckFixes_R (ql : List api_Fix) (r : Int) : TV × Mem := (.v (.one (.d (.int .i64 r))), ⟨[], []⟩)

theorem place_CheckFixes_ok {ql : List api_Fix} {r} (hF : place_CheckFixes ql = some r) : Holds prog 14 [.v (.one (.d (.lst (List.map api_Fix.enc ql))))] ⟨[], []⟩ (Is (place_CheckFixes_R ql r)) := by
  unfold place_CheckFixes at hF
  refine holds_of_awp hΓ (fn := f14) (c := cB f14) (A := 0) (nx := 0) (by kernel_rfl) (by kernel_rfl) (by kernel_rfl) (by kernel_rfl) (by kernel_rfl) (by kernel_rfl) (lowc_of (by kernel_rfl)) ?_
  show Awp prog 0 50 (cB f14) _ _
  refine awp_seq ?_
  refine awp_region ?_
  refine aR 1 ?_
  refine aE ?_
  refine awp_seq ?_
  refine awp_seq ?_
  refine awp_region ?_
  refine aR 1 ?_
  refine aL api_Fix.enc ql ?_
  refine aR 1 ?_
  refine aE ?_
  refine cE hF (fun h1 hF => ?_) fun h1 hF => ?_
  · refine awp_true (by kernel_rfl) h1 ?_
    refine awp_seq ?_
    refine awp_region ?_
    refine aR 1 ?_
    refine aE ?_
    refine awp_ret ?_
    exact oF hF [] []
  · refine awp_false (by kernel_rfl) h1 ?_
    refine awp_skip ?_
    refine awp_seq ?_
    refine awp_seq ?_
    refine awp_region ?_
    refine aR 1 ?_
    refine aL api_Fix.enc ql ?_
    refine aR 1 ?_
    refine aE ?_
    refine awp_block ?_
    refine awp_to (st' := place_CheckFixes_x1_H ql 0) (oT [] []) ?_
    refine bE hF fun x h19 hF => ?_
    rcases x with _ | vx5_1
    · refine awp_sub (awp_loop' (place_CheckFixes_x1_H ql) place_CheckFixes_x1_k (place_CheckFixes_x1_S ql) (by intro x; rcases x with x | x <;> exact fun h => nomatch h) h19 (place_CheckFixes_x1_ok ql)) ?_
      refine awp_seq ?_
      refine awp_region ?_
      refine aR 1 ?_
      refine aE ?_
      refine awp_ret ?_
      exact oF hF [] []
    · refine awp_sub (awp_loop' (place_CheckFixes_x1_H ql) place_CheckFixes_x1_k (place_CheckFixes_x1_S ql) (by intro x; rcases x with x | x <;> exact fun h => nomatch h) h19 (place_CheckFixes_x1_ok ql)) ?_
      exact oF hF [] []

/-! ### beaconfleet/base.First -/
def base_First_x1_k : Unit ⊕ Int → AEx
  | .inl _ => .exit 0
  | .inr _ => .ret

def base_First_x1_S (ql : List Int) : Unit ⊕ Int → St
  | .inl _ => Mem.st ⟨[], []⟩ (tl []) 0
  | .inr vx1 => Mem.st ⟨[], []⟩ (tl [(2, .v (.one (.d (.int .i64 vx1))))]) 0

def base_First_x1_H (ql : List Int) : Int → St
  | vx => Mem.st ⟨[], []⟩ (tl [(5, .v (.one (.d (.lst (List.map (encI .i64) ql))))), (6, .v (.one (.d (.int .i64 (ql.length : Int))))), (7, .v (.one (.d (.int .i64 vx))))]) 0

theorem base_First_x1_ok (ql : List Int) (vx : Int) (r : (Int) ⊕ (Unit ⊕ Int)) (hF : base_First_x1 ql vx = some r) : Awp prog 0 15 (cL (cL (cR (cL (cR (cB f45)))))) (Out 0 (kk base_First_x1_k) (SS (base_First_x1_H ql) (base_First_x1_S ql)) r) (base_First_x1_H ql vx) := by
  unfold base_First_x1 at hF
  refine awp_seq ?_
  refine awp_region ?_
  refine aR 1 ?_
  refine aE ?_
  refine awp_seq ?_
  refine cE hF (fun h1 hF => ?_) fun h1 hF => ?_
  · refine awp_true (by kernel_rfl) h1 ?_
    refine awp_skip ?_
    refine awp_seq ?_
    refine awp_block ?_
    refine awp_seq ?_
    refine bE hF fun vy1 h2 hF => ?_
    refine awp_region ?_
    refine aX (x_idx (encI .i64) h2) ?_
    refine aR 2 ?_
    refine aE ?_
    refine awp_seq ?_
    refine awp_region ?_
    refine aR 2 ?_
    refine aE ?_
    refine cE hF (fun h3 hF => ?_) fun h3 hF => ?_
    · refine awp_true (by kernel_rfl) h3 ?_
      refine awp_seq ?_
      refine awp_region ?_
      refine aR 2 ?_
      refine aE ?_
      refine awp_ret ?_
      exact oO hF [] [] rfl
    · refine awp_false (by kernel_rfl) h3 ?_
      refine awp_skip ?_
      refine awp_region ?_
      refine aR 2 ?_
      refine aE ?_
      exact oO hF [] [] rfl
  · refine awp_false (by kernel_rfl) h1 ?_
    refine awp_exit ?_
    exact oO hF [] [] rfl

def base_First_R (ql : List Int) (r : Int) : TV × Mem := (.v (.one (.d (.int .i64 r))), ⟨[], []⟩)

theorem base_First_ok {ql : List Int} {r} (hF : base_First ql = some r) : Holds prog 45 [.v (.one (.d (.lst (List.map (encI .i64) ql))))] ⟨[], []⟩ (Is (base_First_R ql r)) := by
  unfold base_First at hF
  refine holds_of_awp hΓ (fn := f45) (c := cB f45) (A := 0) (nx := 0) (by kernel_rfl) (by kernel_rfl) (by kernel_rfl) (by kernel_rfl) (by kernel_rfl) (by kernel_rfl) (lowc_of (by kernel_rfl)) ?_
  show Awp prog 0 15 (cB f45) _ _
  refine awp_seq ?_
  refine awp_region ?_
  refine aR 1 ?_
  refine aE ?_
  refine awp_seq ?_
  refine awp_seq ?_
  refine awp_region ?_
  refine aR 1 ?_
  refine aL (encI .i64) ql ?_
  refine aR 1 ?_
  refine aE ?_
  refine awp_block ?_
  refine awp_to (st' := base_First_x1_H ql 0) (oT [] []) ?_
  refine bE hF fun x h4 hF => ?_
  rcases x with _ | vx1_1
  · refine awp_sub (awp_loop' (base_First_x1_H ql) base_First_x1_k (base_First_x1_S ql) (by intro x; rcases x with x | x <;> exact fun h => nomatch h) h4 (base_First_x1_ok ql)) ?_
    refine awp_seq ?_
    refine awp_region ?_
    refine aR 1 ?_
    refine aE ?_
    refine awp_ret ?_
    exact oF hF [] []
  · refine awp_sub (awp_loop' (base_First_x1_H ql) base_First_x1_k (base_First_x1_S ql) (by intro x; rcases x with x | x <;> exact fun h => nomatch h) h4 (base_First_x1_ok ql)) ?_
    exact oF hF [] []

/-! ### slices.Grow[[]beaconfleet/api.Fix,beaconfleet/api.Fix] -/
def slices_Grow_api_Fix_api_Fix_n0_x1_k : (List api_Fix) → AEx
  | _ => .normal

def slices_Grow_api_Fix_api_Fix_n0_x1_S (qn : Int) : (List api_Fix) → St
  | vs => Mem.st ⟨[(0, ⟨33, 5, List.map api_Fix.enc vs⟩)], []⟩ (tl [(0, .v (.one (.own 0 none)))]) 1

def slices_Grow_api_Fix_api_Fix_n0_x1_I (qn : Int) : St := Mem.st ⟨[], []⟩ (tl [(0, .v (.one (.nil))), (1, .v (.one (.d (.int .i64 qn))))]) 0

theorem slices_Grow_api_Fix_api_Fix_n0_x1_ok (qn : Int) {r} (hF : slices_Grow_api_Fix_api_Fix_n0_x1 qn = some r) : Awp prog 0 27 (cL (cR (cR (cB f83)))) (Out 0 slices_Grow_api_Fix_api_Fix_n0_x1_k (slices_Grow_api_Fix_api_Fix_n0_x1_S qn) r) (slices_Grow_api_Fix_api_Fix_n0_x1_I qn) := by
  unfold slices_Grow_api_Fix_api_Fix_n0_x1 at hF
  refine awp_seq ?_
  refine awp_region ?_
  refine aR 2 ?_
  refine aK rfl ?_
  refine aR 5 ?_
  refine aE ?_
  refine awp_seq ?_
  refine awp_region ?_
  refine aR 2 ?_
  refine aE ?_
  refine cE hF (fun h3 hF => ?_) fun h3 hF => ?_
  · refine awp_true (by kernel_rfl) h3 ?_
    refine gE hF fun h4 hF => ?_
    refine gE hF fun h5 hF => ?_
    refine awp_region ?_
    refine aR 2 ?_
    refine aK rfl ?_
    refine aSn rfl ?_
    refine aR 1 ?_
    refine aZ api_Fix.enc (api_Fix.mk ([] : List UInt8) 0 0 0 0) h4 rfl ?_
    refine aR 2 ?_
    refine aT api_Fix.enc 15000 h5 rfl ?_
    refine aR 1 ?_
    refine aE ?_
    exact oO hF [(0, 18000)] [] rfl
  · refine awp_false (by kernel_rfl) h3 ?_
    refine awp_skip ?_
    exact oO hF [] [0] rfl

def slices_Grow_api_Fix_api_Fix_n0_R (qn : Int) (r : (List api_Fix)) : TV × Mem := (.v (.one (.own 0 none)), ⟨[(0, ⟨33, 5, List.map api_Fix.enc r⟩)], []⟩)

theorem slices_Grow_api_Fix_api_Fix_n0_ok {qn : Int} {r} (hF : slices_Grow_api_Fix_api_Fix_n0 qn = some r) : Holds prog 83 [.v (.one (.nil)), .v (.one (.d (.int .i64 qn)))] ⟨[], []⟩ (Is (slices_Grow_api_Fix_api_Fix_n0_R qn r)) := by
  unfold slices_Grow_api_Fix_api_Fix_n0 at hF
  refine holds_of_awp hΓ (fn := f83) (c := cB f83) (A := 0) (nx := 0) (by kernel_rfl) (by kernel_rfl) (by kernel_rfl) (by kernel_rfl) (by kernel_rfl) (by kernel_rfl) (lowc_of (by kernel_rfl)) ?_
  show Awp prog 0 27 (cB f83) _ _
  refine awp_seq ?_
  refine awp_region ?_
  refine aR 1 ?_
  refine aE ?_
  refine awp_seq ?_
  refine awp_seq ?_
  refine awp_region ?_
  refine aR 2 ?_
  refine aE ?_
  refine cE hF (fun h1 hF => ?_) fun h1 hF => ?_
  · refine awp_true (by kernel_rfl) h1 ?_
    exact nE hF
  · refine awp_false (by kernel_rfl) h1 ?_
    refine awp_skip ?_
    refine awp_seq ?_
    refine awp_to (st' := slices_Grow_api_Fix_api_Fix_n0_x1_I qn) (oT [] []) ?_
    refine bE hF fun vs1 h6 hF => ?_
    refine awp_sub (slices_Grow_api_Fix_api_Fix_n0_x1_ok qn h6) ?_
    refine awp_seq ?_
    refine awp_region ?_
    refine aR 2 ?_
    refine aE ?_
    refine awp_ret ?_
    exact oF hF [] []

/-! ### slices.Concat[[]beaconfleet/api.Fix,beaconfleet/api.Fix] -/
def slices_Concat_api_Fix_api_Fix_o0_x1_k : Int → AEx
  | _ => .exit 0

def slices_Concat_api_Fix_api_Fix_o0_x1_S (qslices : List (List api_Fix)) : Int → St
  | vsize1 => Mem.st ⟨[], []⟩ (tl [(0, .v (.one (.d (.lst (List.map (encL api_Fix.enc) qslices))))), (3, .v (.one (.d (.int .i64 vsize1))))]) 1

def slices_Concat_api_Fix_api_Fix_o0_x1_H (qslices : List (List api_Fix)) : Int × Int → St
  | (vsize, vx) => Mem.st ⟨[], []⟩ (tl [(0, .v (.one (.d (.lst (List.map (encL api_Fix.enc) qslices))))), (3, .v (.one (.d (.int .i64 vsize)))), (9, .v (.one (.d (.lst (List.map (encL api_Fix.enc) qslices))))), (10, .v (.one (.d (.int .i64 (qslices.length : Int))))), (11, .v (.one (.d (.int .i64 vx))))]) 1

theorem slices_Concat_api_Fix_api_Fix_o0_x1_ok (qslices : List (List api_Fix)) (s : Int × Int) (r : (Int × Int) ⊕ (Int)) (hF : slices_Concat_api_Fix_api_Fix_o0_x1 qslices s = some r) : Awp prog 1 36 (cL (cL (cR (cL (cR (cR (cB f46))))))) (Out 1 (kk slices_Concat_api_Fix_api_Fix_o0_x1_k) (SS (slices_Concat_api_Fix_api_Fix_o0_x1_H qslices) (slices_Concat_api_Fix_api_Fix_o0_x1_S qslices)) r) (slices_Concat_api_Fix_api_Fix_o0_x1_H qslices s) := by
  obtain ⟨vsize, vx⟩ := s
  unfold slices_Concat_api_Fix_api_Fix_o0_x1 at hF
  refine awp_seq ?_
  refine awp_region ?_
  refine aR 1 ?_
  refine aE ?_
  refine awp_seq ?_
  refine cE hF (fun h1 hF => ?_) fun h1 hF => ?_
  · refine awp_true (by kernel_rfl) h1 ?_
    refine awp_skip ?_
    refine awp_seq ?_
    refine awp_block ?_
    refine awp_seq ?_
    refine bE hF fun vy1 h2 hF => ?_
    refine awp_region ?_
    refine aX (x_idx (encL api_Fix.enc) h2) ?_
    refine aR 2 ?_
    refine aE ?_
    refine awp_seq ?_
    refine awp_region ?_
    refine aR 2 ?_
    refine aL api_Fix.enc vy1 ?_
    refine aR 2 ?_
    refine aE ?_
    refine awp_seq ?_
    refine awp_region ?_
    refine aR 2 ?_
    refine aE ?_
    refine cE hF (fun h3 hF => ?_) fun h3 hF => ?_
    · refine awp_true (by kernel_rfl) h3 ?_
      exact nE hF
    · refine awp_false (by kernel_rfl) h3 ?_
      refine awp_skip ?_
      refine awp_region ?_
      refine aR 2 ?_
      refine aE ?_
      exact oO hF [] [] rfl
  · refine awp_false (by kernel_rfl) h1 ?_
    refine awp_exit ?_
    exact oO hF [] [] rfl

def slices_Concat_api_Fix_api_Fix_o0_x2_k : (List api_Fix) → AEx
  | _ => .exit 2

def slices_Concat_api_Fix_api_Fix_o0_x2_S (qslices : List (List api_Fix)) : (List api_Fix) → St
  | vnewslice1 => Mem.st ⟨[(1, ⟨33, 5, List.map api_Fix.enc vnewslice1⟩)], []⟩ (tl [(6, .v (.one (.own 1 none)))]) 2

def slices_Concat_api_Fix_api_Fix_o0_x2_H (qslices : List (List api_Fix)) : (List api_Fix) × Int → St
  | (vnewslice, vx1) => Mem.st ⟨[(1, ⟨33, 5, List.map api_Fix.enc vnewslice⟩)], []⟩ (tl [(6, .v (.one (.own 1 none))), (25, .v (.one (.d (.lst (List.map (encL api_Fix.enc) qslices))))), (26, .v (.one (.d (.int .i64 (qslices.length : Int))))), (27, .v (.one (.d (.int .i64 vx1))))]) 2

theorem slices_Concat_api_Fix_api_Fix_o0_x2_ok (qslices : List (List api_Fix)) (s : (List api_Fix) × Int) (r : ((List api_Fix) × Int) ⊕ ((List api_Fix))) (hF : slices_Concat_api_Fix_api_Fix_o0_x2 qslices s = some r) : Awp prog 1 36 (cL (cL (cR (cL (cR (cR (cR (cR (cB f46))))))))) (Out 1 (kk slices_Concat_api_Fix_api_Fix_o0_x2_k) (SS (slices_Concat_api_Fix_api_Fix_o0_x2_H qslices) (slices_Concat_api_Fix_api_Fix_o0_x2_S qslices)) r) (slices_Concat_api_Fix_api_Fix_o0_x2_H qslices s) := by
  obtain ⟨vnewslice, vx1⟩ := s
  unfold slices_Concat_api_Fix_api_Fix_o0_x2 at hF
  refine awp_seq ?_
  refine awp_region ?_
  refine aR 1 ?_
  refine aE ?_
  refine awp_seq ?_
  refine cE hF (fun h7 hF => ?_) fun h7 hF => ?_
  · refine awp_true (by kernel_rfl) h7 ?_
    refine awp_skip ?_
    refine awp_seq ?_
    refine awp_block ?_
    refine awp_seq ?_
    refine bE hF fun vy3 h8 hF => ?_
    refine awp_region ?_
    refine aX (x_idx (encL api_Fix.enc) h8) ?_
    refine aR 2 ?_
    refine aE ?_
    refine gE hF fun h9 hF => ?_
    refine awp_region ?_
    refine aR 2 ?_
    refine aX (x_app api_Fix.enc 1 h9) ?_
    refine aR 1 ?_
    refine aE ?_
    refine awp_region ?_
    refine aR 2 ?_
    refine aE ?_
    exact oO hF [(1, 6002)] [] rfl
  · refine awp_false (by kernel_rfl) h7 ?_
    refine awp_exit ?_
    exact oO hF [] [] rfl

def slices_Concat_api_Fix_api_Fix_o0_R (qslices : List (List api_Fix)) (r : (List api_Fix)) : TV × Mem := (.v (.one (.own 1 none)), ⟨[(1, ⟨33, 5, List.map api_Fix.enc r⟩)], []⟩)

theorem slices_Concat_api_Fix_api_Fix_o0_ok {qslices : List (List api_Fix)} {r} (hF : slices_Concat_api_Fix_api_Fix_o0 qslices = some r) : Holds prog 46 [.v (.one (.own 0 none))] ⟨[(0, ⟨26, 1, List.map (encL api_Fix.enc) qslices⟩)], []⟩ (Is (slices_Concat_api_Fix_api_Fix_o0_R qslices r)) := by
  unfold slices_Concat_api_Fix_api_Fix_o0 at hF
  refine holds_of_awp hΓ (fn := f46) (c := cB f46) (A := 1) (nx := 1) (by kernel_rfl) (by kernel_rfl) (by kernel_rfl) (by kernel_rfl) (by kernel_rfl) (by kernel_rfl) (lowc_of (by kernel_rfl)) ?_
  show Awp prog 1 36 (cB f46) _ _
  refine awp_seq ?_
  refine awp_region ?_
  refine aR 1 ?_
  refine aE ?_
  refine awp_to (oT (m := ⟨[], []⟩) (ts := [(0, .v (.one (.d (.lst (List.map (encL api_Fix.enc) qslices)))))]) (nx := 1) [] []) ?_
  refine awp_seq ?_
  refine awp_region ?_
  refine aR 1 ?_
  refine aE ?_
  refine awp_seq ?_
  refine awp_seq ?_
  refine awp_region ?_
  refine aR 1 ?_
  refine aL (encL api_Fix.enc) qslices ?_
  refine aR 1 ?_
  refine aE ?_
  refine awp_block ?_
  refine awp_to (st' := slices_Concat_api_Fix_api_Fix_o0_x1_H qslices (0, 0)) (oT [] []) ?_
  refine bE hF fun vsize1_1 h5 hF => ?_
  refine awp_sub (awp_loop' (slices_Concat_api_Fix_api_Fix_o0_x1_H qslices) slices_Concat_api_Fix_api_Fix_o0_x1_k (slices_Concat_api_Fix_api_Fix_o0_x1_S qslices) (by intro x; exact fun h => nomatch h) h5 (slices_Concat_api_Fix_api_Fix_o0_x1_ok qslices)) ?_
  refine awp_seq ?_
  refine bE hF fun vr h6 hF => ?_
  refine awp_region ?_
  refine aR 1 ?_
  refine aC (slices_Grow_api_Fix_api_Fix_n0_ok h6) [] [] [] ?_
  refine aR 1 ?_
  refine aE ?_
  refine awp_seq ?_
  refine awp_seq ?_
  refine awp_region ?_
  refine aR 1 ?_
  refine aL (encL api_Fix.enc) qslices ?_
  refine aR 1 ?_
  refine aE ?_
  refine awp_block ?_
  refine awp_to (st' := slices_Concat_api_Fix_api_Fix_o0_x2_H qslices (vr, 0)) (oT [(1, 1001)] []) ?_
  refine bE hF fun vnewslice1_1 h10 hF => ?_
  refine awp_sub (awp_loop' (slices_Concat_api_Fix_api_Fix_o0_x2_H qslices) slices_Concat_api_Fix_api_Fix_o0_x2_k (slices_Concat_api_Fix_api_Fix_o0_x2_S qslices) (by intro x; exact fun h => nomatch h) h10 (slices_Concat_api_Fix_api_Fix_o0_x2_ok qslices)) ?_
  refine awp_seq ?_
  refine awp_region ?_
  refine aR 2 ?_
  refine aE ?_
  refine awp_ret ?_
  exact oF hF [] []

/-! ### slices.insertionSortCmpFunc[beaconfleet/api.Fix] -/
def slices_insertionSortCmpFunc_api_Fix_o0_f3_place_byDevice_x3_k : Bool → AEx
  | _ => .normal

def slices_insertionSortCmpFunc_api_Fix_o0_f3_place_byDevice_x3_S (qa : Int) (qb : Int) (vi : Int) (vl3 : List api_Fix) (vj1 : Int) : Bool → St
  | vx4 => Mem.st ⟨[(0, ⟨33, 5, List.map api_Fix.enc vl3⟩)], []⟩ (tl [(0, .v (.one (.own 0 none))), (1, .v (.one (.d (.int .i64 qa)))), (2, .v (.one (.d (.int .i64 qb)))), (3, .v (.one (.fn 47 []))), (8, .v (.one (.d (.int .i64 vi)))), (9, .v (.one (.d (.int .i64 vj1)))), (34, .v (.one (.d (.bool vx4))))]) 1

def slices_insertionSortCmpFunc_api_Fix_o0_f3_place_byDevice_x3_I (qa : Int) (qb : Int) (vi : Int) (vl3 : List api_Fix) (vj1 : Int) : St := Mem.st ⟨[(0, ⟨33, 5, List.map api_Fix.enc vl3⟩)], []⟩ (tl [(0, .v (.one (.own 0 none))), (1, .v (.one (.d (.int .i64 qa)))), (2, .v (.one (.d (.int .i64 qb)))), (3, .v (.one (.fn 47 []))), (8, .v (.one (.d (.int .i64 vi)))), (9, .v (.one (.d (.int .i64 vj1))))]) 1

theorem slices_insertionSortCmpFunc_api_Fix_o0_f3_place_byDevice_x3_ok (qa : Int) (qb : Int) (vi : Int) (vl3 : List api_Fix) (vj1 : Int) {r} (hF : slices_insertionSortCmpFunc_api_Fix_o0_f3_place_byDevice_x3 qa vl3 vj1 = some r) : Awp prog 1 53 (cL (cL (cL (cL (cR (cL (cL (cR (cL (cL (cR (cB f94)))))))))))) (Out 1 slices_insertionSortCmpFunc_api_Fix_o0_f3_place_byDevice_x3_k (slices_insertionSortCmpFunc_api_Fix_o0_f3_place_byDevice_x3_S qa qb vi vl3 vj1) r) (slices_insertionSortCmpFunc_api_Fix_o0_f3_place_byDevice_x3_I qa qb vi vl3 vj1) := by
  unfold slices_insertionSortCmpFunc_api_Fix_o0_f3_place_byDevice_x3 at hF
  refine cE hF (fun h2 hF => ?_) fun h2 hF => ?_
  · refine bE hF fun vy15 h3 hF => ?_
    refine bE hF fun vy16 h4 hF => ?_
    refine bE hF fun vr2_3 h5 hF => ?_
    refine aD ?_
    refine dR 2 ?_
    refine dB h2 ?_
    refine dR 4 ?_
    refine dX (x_idxO api_Fix.enc 0 h3) ?_
    refine dX (x_ldE api_Fix.enc h3) ?_
    refine dR 3 ?_
    refine dX (x_idxO api_Fix.enc 0 h4) ?_
    refine dX (x_ldE api_Fix.enc h4) ?_
    refine dC (place_byDevice_ok h5) [] [] [] ?_
    refine dR 2 ?_
    refine dE ?_
    exact oO hF [] [] rfl
  · refine aD ?_
    refine dR 2 ?_
    refine dB h2 ?_
    refine dR 14 ?_
    refine dE ?_
    exact oO hF [] [] rfl

def slices_insertionSortCmpFunc_api_Fix_o0_f3_place_byDevice_x2_k : (List api_Fix) → AEx
  | _ => .exit 2

def slices_insertionSortCmpFunc_api_Fix_o0_f3_place_byDevice_x2_S (qa : Int) (qb : Int) (vi : Int) : (List api_Fix) → St
  | vl4 => Mem.st ⟨[(0, ⟨33, 5, List.map api_Fix.enc vl4⟩)], []⟩ (tl [(0, .v (.one (.own 0 none))), (1, .v (.one (.d (.int .i64 qa)))), (2, .v (.one (.d (.int .i64 qb)))), (3, .v (.one (.fn 47 []))), (8, .v (.one (.d (.int .i64 vi))))]) 1

def slices_insertionSortCmpFunc_api_Fix_o0_f3_place_byDevice_x2_H (qa : Int) (qb : Int) (vi : Int) : (List api_Fix) × Int → St
  | (vl3, vj1) => Mem.st ⟨[(0, ⟨33, 5, List.map api_Fix.enc vl3⟩)], []⟩ (tl [(0, .v (.one (.own 0 none))), (1, .v (.one (.d (.int .i64 qa)))), (2, .v (.one (.d (.int .i64 qb)))), (3, .v (.one (.fn 47 []))), (8, .v (.one (.d (.int .i64 vi)))), (9, .v (.one (.d (.int .i64 vj1))))]) 1

theorem slices_insertionSortCmpFunc_api_Fix_o0_f3_place_byDevice_x2_ok (qa : Int) (qb : Int) (vi : Int) (s : (List api_Fix) × Int) (r : ((List api_Fix) × Int) ⊕ ((List api_Fix))) (hF : slices_insertionSortCmpFunc_api_Fix_o0_f3_place_byDevice_x2 qa s = some r) : Awp prog 1 53 (cL (cL (cR (cL (cL (cR (cL (cL (cR (cB f94)))))))))) (Out 1 (kk slices_insertionSortCmpFunc_api_Fix_o0_f3_place_byDevice_x2_k) (SS (slices_insertionSortCmpFunc_api_Fix_o0_f3_place_byDevice_x2_H qa qb vi) (slices_insertionSortCmpFunc_api_Fix_o0_f3_place_byDevice_x2_S qa qb vi)) r) (slices_insertionSortCmpFunc_api_Fix_o0_f3_place_byDevice_x2_H qa qb vi s) := by
  obtain ⟨vl3, vj1⟩ := s
  unfold slices_insertionSortCmpFunc_api_Fix_o0_f3_place_byDevice_x2 at hF
  refine awp_seq ?_
  refine awp_seq ?_
  refine awp_to (st' := slices_insertionSortCmpFunc_api_Fix_o0_f3_place_byDevice_x3_I qa qb vi vl3 vj1) (oT [] []) ?_
  refine bE hF fun vx4_1 h6 hF => ?_
  refine awp_sub (slices_insertionSortCmpFunc_api_Fix_o0_f3_place_byDevice_x3_ok qa qb vi vl3 vj1 h6) ?_
  refine cE hF (fun h7 hF => ?_) fun h7 hF => ?_
  · refine awp_true (by kernel_rfl) h7 ?_
    refine awp_skip ?_
    refine awp_seq ?_
    refine awp_block ?_
    refine bE hF fun vy17 h8 hF => ?_
    refine bE hF fun vy18 h9 hF => ?_
    refine bE hF fun vy19 h10 hF => ?_
    refine aDw [0] ?_
    refine dR 8 ?_
    refine dI api_Fix.enc 0 h8 rfl ?_
    refine dX (x_ldE api_Fix.enc h8) ?_
    refine dR 2 ?_
    refine dI api_Fix.enc 0 h9 rfl ?_
    refine dX (x_ldE api_Fix.enc h9) ?_
    refine dI api_Fix.enc 0 h9 rfl ?_
    refine dW api_Fix.enc vy17 h9 rfl ?_
    refine dI api_Fix.enc 0 h10 rfl ?_
    refine dW api_Fix.enc vy18 h10 rfl ?_
    refine dE ?_
    refine awp_region ?_
    refine aR 3 ?_
    refine aE ?_
    exact oO hF [] [] rfl
  · refine awp_false (by kernel_rfl) h7 ?_
    refine awp_exit ?_
    exact oO hF [] [] rfl

def slices_insertionSortCmpFunc_api_Fix_o0_f3_place_byDevice_x1_k : (List api_Fix) → AEx
  | _ => .exit 0

def slices_insertionSortCmpFunc_api_Fix_o0_f3_place_byDevice_x1_S (qa : Int) (qb : Int) : (List api_Fix) → St
  | vl5 => Mem.st ⟨[(0, ⟨33, 5, List.map api_Fix.enc vl5⟩)], []⟩ (tl []) 1

def slices_insertionSortCmpFunc_api_Fix_o0_f3_place_byDevice_x1_H (qa : Int) (qb : Int) : (List api_Fix) × Int → St
  | (vl, vi) => Mem.st ⟨[(0, ⟨33, 5, List.map api_Fix.enc vl⟩)], []⟩ (tl [(0, .v (.one (.own 0 none))), (1, .v (.one (.d (.int .i64 qa)))), (2, .v (.one (.d (.int .i64 qb)))), (3, .v (.one (.fn 47 []))), (8, .v (.one (.d (.int .i64 vi))))]) 1

theorem slices_insertionSortCmpFunc_api_Fix_o0_f3_place_byDevice_x1_ok (qa : Int) (qb : Int) (s : (List api_Fix) × Int) (r : ((List api_Fix) × Int) ⊕ ((List api_Fix))) (hF : slices_insertionSortCmpFunc_api_Fix_o0_f3_place_byDevice_x1 qa qb s = some r) : Awp prog 1 53 (cL (cL (cR (cB f94)))) (Out 1 (kk slices_insertionSortCmpFunc_api_Fix_o0_f3_place_byDevice_x1_k) (SS (slices_insertionSortCmpFunc_api_Fix_o0_f3_place_byDevice_x1_H qa qb) (slices_insertionSortCmpFunc_api_Fix_o0_f3_place_byDevice_x1_S qa qb)) r) (slices_insertionSortCmpFunc_api_Fix_o0_f3_place_byDevice_x1_H qa qb s) := by
  obtain ⟨vl, vi⟩ := s
  unfold slices_insertionSortCmpFunc_api_Fix_o0_f3_place_byDevice_x1 at hF
  refine awp_seq ?_
  refine awp_seq ?_
  refine awp_region ?_
  refine aR 3 ?_
  refine aE ?_
  refine cE hF (fun h1 hF => ?_) fun h1 hF => ?_
  · refine awp_true (by kernel_rfl) h1 ?_
    refine awp_skip ?_
    refine awp_seq ?_
    refine awp_block ?_
    refine awp_seq ?_
    refine awp_region ?_
    refine aR 2 ?_
    refine aE ?_
    refine awp_block ?_
    refine awp_to (st' := slices_insertionSortCmpFunc_api_Fix_o0_f3_place_byDevice_x2_H qa qb vi (vl, vi)) (oT [] []) ?_
    refine bE hF fun vl4_1 h11 hF => ?_
    refine awp_sub (awp_loop' (slices_insertionSortCmpFunc_api_Fix_o0_f3_place_byDevice_x2_H qa qb vi) slices_insertionSortCmpFunc_api_Fix_o0_f3_place_byDevice_x2_k (slices_insertionSortCmpFunc_api_Fix_o0_f3_place_byDevice_x2_S qa qb vi) (by intro x; exact fun h => nomatch h) h11 (slices_insertionSortCmpFunc_api_Fix_o0_f3_place_byDevice_x2_ok qa qb vi)) ?_
    refine awp_region ?_
    refine aR 3 ?_
    refine aE ?_
    exact oO hF [] [] rfl
  · refine awp_false (by kernel_rfl) h1 ?_
    refine awp_exit ?_
    exact oO hF [] [] rfl

def slices_insertionSortCmpFunc_api_Fix_o0_f3_place_byDevice_R (qdata : List api_Fix) (qa : Int) (qb : Int) (r : (List api_Fix)) : TV × Mem := (.tup [], ⟨[(0, ⟨33, 5, List.map api_Fix.enc r⟩)], []⟩)

theorem slices_insertionSortCmpFunc_api_Fix_o0_f3_place_byDevice_ok {qdata : List api_Fix} {qa : Int} {qb : Int} {r} (hF : slices_insertionSortCmpFunc_api_Fix_o0_f3_place_byDevice qdata qa qb = some r) : Holds prog 94 [.v (.one (.own 0 none)), .v (.one (.d (.int .i64 qa))), .v (.one (.d (.int .i64 qb))), .v (.one (.fn 47 []))] ⟨[(0, ⟨33, 5, List.map api_Fix.enc qdata⟩)], []⟩ (Is (slices_insertionSortCmpFunc_api_Fix_o0_f3_place_byDevice_R qdata qa qb r)) := by
  unfold slices_insertionSortCmpFunc_api_Fix_o0_f3_place_byDevice at hF
  refine holds_of_awp hΓ (fn := f94) (c := cB f94) (A := 1) (nx := 1) (by kernel_rfl) (by kernel_rfl) (by kernel_rfl) (by kernel_rfl) (by kernel_rfl) (by kernel_rfl) (lowc_of (by kernel_rfl)) ?_
  show Awp prog 1 53 (cB f94) _ _
  refine awp_seq ?_
  refine awp_region ?_
  refine aR 3 ?_
  refine aE ?_
  refine awp_block ?_
  refine awp_to (st' := slices_insertionSortCmpFunc_api_Fix_o0_f3_place_byDevice_x1_H qa qb (qdata, IntKind.wrap .i64 (qa + 1))) (oT [] []) ?_
  refine bE hF fun vl5_1 h12 hF => ?_
  refine awp_sub (awp_loop' (slices_insertionSortCmpFunc_api_Fix_o0_f3_place_byDevice_x1_H qa qb) slices_insertionSortCmpFunc_api_Fix_o0_f3_place_byDevice_x1_k (slices_insertionSortCmpFunc_api_Fix_o0_f3_place_byDevice_x1_S qa qb) (by intro x; exact fun h => nomatch h) h12 (slices_insertionSortCmpFunc_api_Fix_o0_f3_place_byDevice_x1_ok qa qb)) ?_
  exact oF hF [] []

/-! ### slices.stableCmpFunc[beaconfleet/api.Fix] -/
def slices_stableCmpFunc_api_Fix_o0_f2_place_byDevice_x1_k : ((List api_Fix) × Int) → AEx
  | _ => .exit 0

def slices_stableCmpFunc_api_Fix_o0_f2_place_byDevice_x1_S (qn : Int) : ((List api_Fix) × Int) → St
  | (vl1, va1) => Mem.st ⟨[(0, ⟨33, 5, List.map api_Fix.enc vl1⟩)], []⟩ (tl [(0, .v (.one (.own 0 none))), (1, .v (.one (.d (.int .i64 qn)))), (2, .v (.one (.fn 47 []))), (6, .v (.one (.d (.int .i64 20)))), (7, .v (.one (.d (.int .i64 va1))))]) 1

def slices_stableCmpFunc_api_Fix_o0_f2_place_byDevice_x1_H (qn : Int) : (List api_Fix) × Int × Int → St
  | (vl, va, vb) => Mem.st ⟨[(0, ⟨33, 5, List.map api_Fix.enc vl⟩)], []⟩ (tl [(0, .v (.one (.own 0 none))), (1, .v (.one (.d (.int .i64 qn)))), (2, .v (.one (.fn 47 []))), (6, .v (.one (.d (.int .i64 20)))), (7, .v (.one (.d (.int .i64 va)))), (8, .v (.one (.d (.int .i64 vb))))]) 1

theorem slices_stableCmpFunc_api_Fix_o0_f2_place_byDevice_x1_ok (qn : Int) (s : (List api_Fix) × Int × Int) (r : ((List api_Fix) × Int × Int) ⊕ (((List api_Fix) × Int))) (hF : slices_stableCmpFunc_api_Fix_o0_f2_place_byDevice_x1 qn s = some r) : Awp prog 1 63 (cL (cL (cL (cR (cR (cB f80)))))) (Out 1 (kk slices_stableCmpFunc_api_Fix_o0_f2_place_byDevice_x1_k) (SS (slices_stableCmpFunc_api_Fix_o0_f2_place_byDevice_x1_H qn) (slices_stableCmpFunc_api_Fix_o0_f2_place_byDevice_x1_S qn)) r) (slices_stableCmpFunc_api_Fix_o0_f2_place_byDevice_x1_H qn s) := by
  obtain ⟨vl, va, vb⟩ := s
  unfold slices_stableCmpFunc_api_Fix_o0_f2_place_byDevice_x1 at hF
  refine awp_seq ?_
  refine awp_seq ?_
  refine awp_region ?_
  refine aR 3 ?_
  refine aE ?_
  refine cE hF (fun h1 hF => ?_) fun h1 hF => ?_
  · refine awp_true (by kernel_rfl) h1 ?_
    refine awp_skip ?_
    refine awp_block ?_
    refine awp_seq ?_
    refine bE hF fun vl6_1 h2 hF => ?_
    refine gE hF fun h3 hF => ?_
    refine awp_region ?_
    refine aR 4 ?_
    refine aCp (slices_insertionSortCmpFunc_api_Fix_o0_f3_place_byDevice_ok h2) ⟨⟨rfl, rfl, pin1 h3⟩, trivial⟩ [] [] [] ?_
    refine aE ?_
    refine awp_seq ?_
    refine awp_region ?_
    refine aR 2 ?_
    refine aE ?_
    refine awp_region ?_
    refine aR 4 ?_
    refine aE ?_
    exact oO hF [] [] rfl
  · refine awp_false (by kernel_rfl) h1 ?_
    refine awp_exit ?_
    exact oO hF [] [] rfl

def slices_stableCmpFunc_api_Fix_o0_f2_place_byDevice_x3_k : Unit → AEx
  | _ => .exit 4

def slices_stableCmpFunc_api_Fix_o0_f2_place_byDevice_x3_S (qn : Int) (vl6_2 : List api_Fix) (vblockSize : Int) : Unit → St
  | _ => Mem.st ⟨[(0, ⟨33, 5, List.map api_Fix.enc vl6_2⟩)], []⟩ (tl [(0, .v (.one (.own 0 none))), (1, .v (.one (.d (.int .i64 qn)))), (2, .v (.one (.fn 47 []))), (6, .v (.one (.d (.int .i64 vblockSize)))), (7, .v (.one (.d (.int .i64 0))))]) 1

def slices_stableCmpFunc_api_Fix_o0_f2_place_byDevice_x3_H (qn : Int) (vl6_2 : List api_Fix) (vblockSize : Int) : Unit → St
  | _ => Mem.st ⟨[(0, ⟨33, 5, List.map api_Fix.enc vl6_2⟩)], []⟩ (tl [(0, .v (.one (.own 0 none))), (1, .v (.one (.d (.int .i64 qn)))), (2, .v (.one (.fn 47 []))), (6, .v (.one (.d (.int .i64 vblockSize)))), (7, .v (.one (.d (.int .i64 0)))), (8, .v (.one (.d (.int .i64 (IntKind.wrap .i64 ((2 : Int) * vblockSize))))))]) 1

theorem slices_stableCmpFunc_api_Fix_o0_f2_place_byDevice_x3_ok (qn : Int) (vl6_2 : List api_Fix) (vblockSize : Int) (s : Unit) (r : (Unit) ⊕ (Unit)) (hF : slices_stableCmpFunc_api_Fix_o0_f2_place_byDevice_x3 qn vblockSize s = some r) : Awp prog 1 63 (cL (cL (cL (cR (cL (cR (cL (cL (cR (cR (cR (cR (cB f80))))))))))))) (Out 1 (kk slices_stableCmpFunc_api_Fix_o0_f2_place_byDevice_x3_k) (SS (slices_stableCmpFunc_api_Fix_o0_f2_place_byDevice_x3_H qn vl6_2 vblockSize) (slices_stableCmpFunc_api_Fix_o0_f2_place_byDevice_x3_S qn vl6_2 vblockSize)) r) (slices_stableCmpFunc_api_Fix_o0_f2_place_byDevice_x3_H qn vl6_2 vblockSize s) := by
  unfold slices_stableCmpFunc_api_Fix_o0_f2_place_byDevice_x3 at hF
  refine awp_seq ?_
  refine awp_seq ?_
  refine awp_region ?_
  refine aR 3 ?_
  refine aE ?_
  refine cE hF (fun h8 hF => ?_) fun h8 hF => ?_
  · refine awp_true (by kernel_rfl) h8 ?_
    refine awp_skip ?_
    refine awp_block ?_
    refine awp_seq ?_
    exact nE hF
  · refine awp_false (by kernel_rfl) h8 ?_
    refine awp_exit ?_
    exact oO hF [] [] rfl

def slices_stableCmpFunc_api_Fix_o0_f2_place_byDevice_x2_k : Unit → AEx
  | _ => .exit 2

def slices_stableCmpFunc_api_Fix_o0_f2_place_byDevice_x2_S (qn : Int) (vl6_2 : List api_Fix) : Unit → St
  | _ => Mem.st ⟨[(0, ⟨33, 5, List.map api_Fix.enc vl6_2⟩)], []⟩ (tl []) 1

def slices_stableCmpFunc_api_Fix_o0_f2_place_byDevice_x2_H (qn : Int) (vl6_2 : List api_Fix) : Int → St
  | vblockSize => Mem.st ⟨[(0, ⟨33, 5, List.map api_Fix.enc vl6_2⟩)], []⟩ (tl [(0, .v (.one (.own 0 none))), (1, .v (.one (.d (.int .i64 qn)))), (2, .v (.one (.fn 47 []))), (6, .v (.one (.d (.int .i64 vblockSize))))]) 1

theorem slices_stableCmpFunc_api_Fix_o0_f2_place_byDevice_x2_ok (qn : Int) (vl6_2 : List api_Fix) (vblockSize : Int) (r : (Int) ⊕ (Unit)) (hF : slices_stableCmpFunc_api_Fix_o0_f2_place_byDevice_x2 qn vblockSize = some r) : Awp prog 1 63 (cL (cL (cR (cR (cR (cR (cB f80))))))) (Out 1 (kk slices_stableCmpFunc_api_Fix_o0_f2_place_byDevice_x2_k) (SS (slices_stableCmpFunc_api_Fix_o0_f2_place_byDevice_x2_H qn vl6_2) (slices_stableCmpFunc_api_Fix_o0_f2_place_byDevice_x2_S qn vl6_2)) r) (slices_stableCmpFunc_api_Fix_o0_f2_place_byDevice_x2_H qn vl6_2 vblockSize) := by
  unfold slices_stableCmpFunc_api_Fix_o0_f2_place_byDevice_x2 at hF
  refine awp_seq ?_
  refine awp_seq ?_
  refine awp_region ?_
  refine aR 3 ?_
  refine aE ?_
  refine cE hF (fun h7 hF => ?_) fun h7 hF => ?_
  · refine awp_true (by kernel_rfl) h7 ?_
    refine awp_skip ?_
    refine awp_block ?_
    refine awp_seq ?_
    refine awp_region ?_
    refine aR 4 ?_
    refine aE ?_
    refine awp_seq ?_
    refine awp_block ?_
    refine awp_to (st' := slices_stableCmpFunc_api_Fix_o0_f2_place_byDevice_x3_H qn vl6_2 vblockSize ()) (oT [] []) ?_
    refine bE hF fun _ h10 hF => ?_
    refine awp_sub (awp_loop' (slices_stableCmpFunc_api_Fix_o0_f2_place_byDevice_x3_H qn vl6_2 vblockSize) slices_stableCmpFunc_api_Fix_o0_f2_place_byDevice_x3_k (slices_stableCmpFunc_api_Fix_o0_f2_place_byDevice_x3_S qn vl6_2 vblockSize) (by intro x; exact fun h => nomatch h) h10 (slices_stableCmpFunc_api_Fix_o0_f2_place_byDevice_x3_ok qn vl6_2 vblockSize)) ?_
    refine awp_seq ?_
    refine awp_seq ?_
    refine awp_region ?_
    refine aR 4 ?_
    refine aE ?_
    refine awp_seq ?_
    refine awp_region ?_
    refine aR 3 ?_
    refine aE ?_
    refine cE hF (fun h11 hF => ?_) fun h11 hF => ?_
    · refine awp_true (by kernel_rfl) h11 ?_
      exact nE hF
    · refine awp_false (by kernel_rfl) h11 ?_
      refine awp_skip ?_
      refine awp_region ?_
      refine aR 3 ?_
      refine aE ?_
      exact oO hF [] [] rfl
  · refine awp_false (by kernel_rfl) h7 ?_
    refine awp_exit ?_
    exact oO hF [] [] rfl

def slices_stableCmpFunc_api_Fix_o0_f2_place_byDevice_R (qdata : List api_Fix) (qn : Int) (r : (List api_Fix)) : TV × Mem := (.tup [], ⟨[(0, ⟨33, 5, List.map api_Fix.enc r⟩)], []⟩)

theorem slices_stableCmpFunc_api_Fix_o0_f2_place_byDevice_ok {qdata : List api_Fix} {qn : Int} {r} (hF : slices_stableCmpFunc_api_Fix_o0_f2_place_byDevice qdata qn = some r) : Holds prog 80 [.v (.one (.own 0 none)), .v (.one (.d (.int .i64 qn))), .v (.one (.fn 47 []))] ⟨[(0, ⟨33, 5, List.map api_Fix.enc qdata⟩)], []⟩ (Is (slices_stableCmpFunc_api_Fix_o0_f2_place_byDevice_R qdata qn r)) := by
  unfold slices_stableCmpFunc_api_Fix_o0_f2_place_byDevice at hF
  refine holds_of_awp hΓ (fn := f80) (c := cB f80) (A := 1) (nx := 1) (by kernel_rfl) (by kernel_rfl) (by kernel_rfl) (by kernel_rfl) (by kernel_rfl) (by kernel_rfl) (lowc_of (by kernel_rfl)) ?_
  show Awp prog 1 63 (cB f80) _ _
  refine awp_seq ?_
  refine awp_region ?_
  refine aR 1 ?_
  refine aE ?_
  refine awp_seq ?_
  refine awp_region ?_
  refine aR 3 ?_
  refine aE ?_
  refine awp_seq ?_
  refine awp_block ?_
  refine awp_to (st' := slices_stableCmpFunc_api_Fix_o0_f2_place_byDevice_x1_H qn (qdata, 0, 20)) (oT [] []) ?_
  refine bE hF fun x h4 hF => ?_
  obtain ⟨vl1_1, va1_1⟩ := x
  refine awp_sub (awp_loop' (slices_stableCmpFunc_api_Fix_o0_f2_place_byDevice_x1_H qn) slices_stableCmpFunc_api_Fix_o0_f2_place_byDevice_x1_k (slices_stableCmpFunc_api_Fix_o0_f2_place_byDevice_x1_S qn) (by intro x; exact fun h => nomatch h) h4 (slices_stableCmpFunc_api_Fix_o0_f2_place_byDevice_x1_ok qn)) ?_
  refine awp_seq ?_
  refine bE hF fun vl6_2 h5 hF => ?_
  refine gE hF fun h6 hF => ?_
  refine awp_region ?_
  refine aR 4 ?_
  refine aCp (slices_insertionSortCmpFunc_api_Fix_o0_f3_place_byDevice_ok h5) ⟨⟨rfl, rfl, pin1 h6⟩, trivial⟩ [] [] [] ?_
  refine aE ?_
  refine awp_block ?_
  refine awp_to (st' := slices_stableCmpFunc_api_Fix_o0_f2_place_byDevice_x2_H qn vl6_2 20) (oT [] []) ?_
  refine bE hF fun _ h13 hF => ?_
  refine awp_sub (awp_loop' (slices_stableCmpFunc_api_Fix_o0_f2_place_byDevice_x2_H qn vl6_2) slices_stableCmpFunc_api_Fix_o0_f2_place_byDevice_x2_k (slices_stableCmpFunc_api_Fix_o0_f2_place_byDevice_x2_S qn vl6_2) (by intro x; exact fun h => nomatch h) h13 (slices_stableCmpFunc_api_Fix_o0_f2_place_byDevice_x2_ok qn vl6_2)) ?_
  exact oF hF [] []

/-! ### slices.SortStableFunc[[]beaconfleet/api.Fix,beaconfleet/api.Fix] -/
def slices_SortStableFunc_api_Fix_api_Fix_o0_f1_place_byDevice_R (qx : List api_Fix) (r : (List api_Fix)) : TV × Mem := (.tup [], ⟨[(0, ⟨33, 5, List.map api_Fix.enc r⟩)], []⟩)

theorem slices_SortStableFunc_api_Fix_api_Fix_o0_f1_place_byDevice_ok {qx : List api_Fix} {r} (hF : slices_SortStableFunc_api_Fix_api_Fix_o0_f1_place_byDevice qx = some r) : Holds prog 39 [.v (.one (.own 0 none)), .v (.one (.fn 47 []))] ⟨[(0, ⟨33, 5, List.map api_Fix.enc qx⟩)], []⟩ (Is (slices_SortStableFunc_api_Fix_api_Fix_o0_f1_place_byDevice_R qx r)) := by
  unfold slices_SortStableFunc_api_Fix_api_Fix_o0_f1_place_byDevice at hF
  refine holds_of_awp hΓ (fn := f39) (c := cB f39) (A := 1) (nx := 1) (by kernel_rfl) (by kernel_rfl) (by kernel_rfl) (by kernel_rfl) (by kernel_rfl) (by kernel_rfl) (lowc_of (by kernel_rfl)) ?_
  show Awp prog 1 9 (cB f39) _ _
  refine bE hF fun vl2 h1 hF => ?_
  refine gE hF fun h2 hF => ?_
  refine awp_region ?_
  refine aR 2 ?_
  refine aL api_Fix.enc qx ?_
  refine aR 1 ?_
  refine aCp (slices_stableCmpFunc_api_Fix_o0_f2_place_byDevice_ok h1) ⟨⟨rfl, rfl, pin1 h2⟩, trivial⟩ [] [] [] ?_
  refine aE ?_
  exact oF hF [] []

/-! ### slices.Compact[[]beaconfleet/api.Fix,beaconfleet/api.Fix] -/
def slices_Compact_api_Fix_api_Fix_o0_x3_k : ((List api_Fix) × Int) → AEx
  | _ => .normal

def slices_Compact_api_Fix_api_Fix_o0_x3_S (qs : List api_Fix) (vk : Int) (vl4 : List api_Fix) (vk6 : Int) (vk2_1 : Int) : ((List api_Fix) × Int) → St
  | (vl6, vk8) => Mem.st ⟨[(0, ⟨33, 5, List.map api_Fix.enc vl6⟩)], []⟩ (tl [(0, .v (.one (.own 0 none))), (3, .v (.one (.d (.int .i64 vk8)))), (4, .v (.one (.view 0 vk.toNat ((qs.length : Int).toNat - vk.toNat)))), (5, .v (.one (.d (.int .i64 vk2_1))))]) 1

def slices_Compact_api_Fix_api_Fix_o0_x3_I (qs : List api_Fix) (vk : Int) (vl4 : List api_Fix) (vk6 : Int) (vk2_1 : Int) : St := Mem.st ⟨[(0, ⟨33, 5, List.map api_Fix.enc vl4⟩)], []⟩ (tl [(0, .v (.one (.own 0 none))), (3, .v (.one (.d (.int .i64 vk6)))), (4, .v (.one (.view 0 vk.toNat ((qs.length : Int).toNat - vk.toNat)))), (5, .v (.one (.d (.int .i64 vk2_1))))]) 1

theorem slices_Compact_api_Fix_api_Fix_o0_x3_ok (qs : List api_Fix) (vk : Int) (vl4 : List api_Fix) (vk6 : Int) (vk2_1 : Int) {r} (hF : slices_Compact_api_Fix_api_Fix_o0_x3 qs vk vl4 vk6 vk2_1 = some r) : Awp prog 1 61 (cL (cR (cL (cL (cR (cL (cR (cL (cR (cL (cL (cR (cL (cL (cR (cL (cR (cR (cB f48))))))))))))))))))) (Out 1 slices_Compact_api_Fix_api_Fix_o0_x3_k (slices_Compact_api_Fix_api_Fix_o0_x3_S qs vk vl4 vk6 vk2_1) r) (slices_Compact_api_Fix_api_Fix_o0_x3_I qs vk vl4 vk6 vk2_1) := by
  unfold slices_Compact_api_Fix_api_Fix_o0_x3 at hF
  refine awp_block ?_
  refine awp_seq ?_
  refine gE hF fun h8 hF => ?_
  refine bE hF fun vy13 h9 hF => ?_
  refine gE hF fun h10 hF => ?_
  refine bE hF fun vy14 h11 hF => ?_
  refine aD ?_
  refine dR 2 ?_
  refine dX (x_idxV api_Fix.enc 0 h8 h9) ?_
  refine dX (x_ldE api_Fix.enc h9) ?_
  refine dR 3 ?_
  refine dX (x_idxV api_Fix.enc 0 h10 h11) ?_
  refine dX (x_ldE api_Fix.enc h11) ?_
  refine dS (U := []) (stable_eqS (op := .neq) (xs := [.str vy13.Device, .int .i64 vy13.At, .int .i64 vy13.X, .int .i64 vy13.Y, .int .i64 vy13.Error]) (ys := [.str vy14.Device, .int .i64 vy14.At, .int .i64 vy14.X, .int .i64 vy14.Y, .int .i64 vy14.Error]) (b := (decide (vy13.Device = vy14.Device) && (decide (vy13.At = vy14.At) && (decide (vy13.X = vy14.X) && (decide (vy13.Y = vy14.Y) && (decide (vy13.Error = vy14.Error) && true)))))) (c := (!(decide (vy13.Device = vy14.Device) && (decide (vy13.At = vy14.At) && (decide (vy13.X = vy14.X) && (decide (vy13.Y = vy14.Y) && (decide (vy13.Error = vy14.Error) && true))))))) rfl (.inr ⟨rfl, rfl⟩) (by kernel_rfl) (by kernel_rfl) (by kernel_rfl) (by kernel_rfl) (by kernel_rfl) (by kernel_rfl)) ?_
  refine dE ?_
  refine cE hF (fun h12 hF => ?_) fun h12 hF => ?_
  · refine awp_true (by kernel_rfl) h12 ?_
    refine awp_seq ?_
    refine bE hF fun vy15 h13 hF => ?_
    refine awp_region ?_
    refine aR 4 ?_
    refine aX (x_idxV api_Fix.enc 0 h8 h9) ?_
    refine aX (x_ldE api_Fix.enc h9) ?_
    refine aX (x_idxO api_Fix.enc 0 h13) ?_
    refine aX (x_stE api_Fix.enc vy13 h13) ?_
    refine aE ?_
    refine awp_region ?_
    refine aR 3 ?_
    refine aE ?_
    exact oO hF [] [] rfl
  · refine awp_false (by kernel_rfl) h12 ?_
    refine awp_skip ?_
    exact oO hF [] [] rfl

def slices_Compact_api_Fix_api_Fix_o0_x2_k : ((List api_Fix) × Int) → AEx
  | _ => .exit 2

def slices_Compact_api_Fix_api_Fix_o0_x2_S (qs : List api_Fix) (vk : Int) : ((List api_Fix) × Int) → St
  | (vl7, vk9) => Mem.st ⟨[(0, ⟨33, 5, List.map api_Fix.enc vl7⟩)], []⟩ (tl [(0, .v (.one (.own 0 none))), (3, .v (.one (.d (.int .i64 vk9))))]) 1

def slices_Compact_api_Fix_api_Fix_o0_x2_H (qs : List api_Fix) (vk : Int) : (List api_Fix) × Int × Int → St
  | (vl4, vk6, vk2_1) => Mem.st ⟨[(0, ⟨33, 5, List.map api_Fix.enc vl4⟩)], []⟩ (tl [(0, .v (.one (.own 0 none))), (3, .v (.one (.d (.int .i64 vk6)))), (4, .v (.one (.view 0 vk.toNat ((qs.length : Int).toNat - vk.toNat)))), (5, .v (.one (.d (.int .i64 vk2_1))))]) 1

theorem slices_Compact_api_Fix_api_Fix_o0_x2_ok (qs : List api_Fix) (vk : Int) (s : (List api_Fix) × Int × Int) (r : ((List api_Fix) × Int × Int) ⊕ (((List api_Fix) × Int))) (hF : slices_Compact_api_Fix_api_Fix_o0_x2 qs vk s = some r) : Awp prog 1 61 (cL (cL (cR (cL (cR (cL (cR (cL (cL (cR (cL (cL (cR (cL (cR (cR (cB f48))))))))))))))))) (Out 1 (kk slices_Compact_api_Fix_api_Fix_o0_x2_k) (SS (slices_Compact_api_Fix_api_Fix_o0_x2_H qs vk) (slices_Compact_api_Fix_api_Fix_o0_x2_S qs vk)) r) (slices_Compact_api_Fix_api_Fix_o0_x2_H qs vk s) := by
  obtain ⟨vl4, vk6, vk2_1⟩ := s
  unfold slices_Compact_api_Fix_api_Fix_o0_x2 at hF
  refine awp_seq ?_
  refine awp_seq ?_
  refine awp_region ?_
  refine aR 4 ?_
  refine aE ?_
  refine cE hF (fun h7 hF => ?_) fun h7 hF => ?_
  · refine awp_true (by kernel_rfl) h7 ?_
    refine awp_skip ?_
    refine awp_seq ?_
    refine awp_to (st' := slices_Compact_api_Fix_api_Fix_o0_x3_I qs vk vl4 vk6 vk2_1) (oT [] []) ?_
    refine bE hF fun x h14 hF => ?_
    obtain ⟨vl6_1, vk8_1⟩ := x
    refine awp_sub (slices_Compact_api_Fix_api_Fix_o0_x3_ok qs vk vl4 vk6 vk2_1 h14) ?_
    refine awp_region ?_
    refine aR 3 ?_
    refine aE ?_
    exact oO hF [] [] rfl
  · refine awp_false (by kernel_rfl) h7 ?_
    refine awp_exit ?_
    exact oO hF [] [] rfl

def slices_Compact_api_Fix_api_Fix_o0_x1_k : Unit ⊕ (List api_Fix) → AEx
  | .inl _ => .exit 0
  | .inr _ => .ret

def slices_Compact_api_Fix_api_Fix_o0_x1_S (qs : List api_Fix) : Unit ⊕ (List api_Fix) → St
  | .inl _ => Mem.st ⟨[(0, ⟨33, 5, List.map api_Fix.enc qs⟩)], []⟩ (tl [(0, .v (.one (.own 0 none)))]) 1
  | .inr vx => Mem.st ⟨[(1, ⟨33, 5, List.map api_Fix.enc vx⟩)], []⟩ (tl [(2, .v (.one (.own 1 none)))]) 2

def slices_Compact_api_Fix_api_Fix_o0_x1_H (qs : List api_Fix) : Int → St
  | vk => Mem.st ⟨[(0, ⟨33, 5, List.map api_Fix.enc qs⟩)], []⟩ (tl [(0, .v (.one (.own 0 none))), (3, .v (.one (.d (.int .i64 vk))))]) 1

theorem slices_Compact_api_Fix_api_Fix_o0_x1_ok (qs : List api_Fix) (vk : Int) (r : (Int) ⊕ (Unit ⊕ (List api_Fix))) (hF : slices_Compact_api_Fix_api_Fix_o0_x1 qs vk = some r) : Awp prog 1 61 (cL (cL (cR (cL (cR (cR (cB f48))))))) (Out 1 (kk slices_Compact_api_Fix_api_Fix_o0_x1_k) (SS (slices_Compact_api_Fix_api_Fix_o0_x1_H qs) (slices_Compact_api_Fix_api_Fix_o0_x1_S qs)) r) (slices_Compact_api_Fix_api_Fix_o0_x1_H qs vk) := by
  unfold slices_Compact_api_Fix_api_Fix_o0_x1 at hF
  refine awp_seq ?_
  refine awp_seq ?_
  refine awp_region ?_
  refine aR 2 ?_
  refine aL api_Fix.enc qs ?_
  refine aR 1 ?_
  refine aE ?_
  refine cE hF (fun h2 hF => ?_) fun h2 hF => ?_
  · refine awp_true (by kernel_rfl) h2 ?_
    refine awp_skip ?_
    refine awp_seq ?_
    refine awp_block ?_
    refine awp_seq ?_
    refine bE hF fun vy8 h3 hF => ?_
    refine bE hF fun vy9 h4 hF => ?_
    refine aD ?_
    refine dR 2 ?_
    refine dX (x_idxO api_Fix.enc 0 h3) ?_
    refine dX (x_ldE api_Fix.enc h3) ?_
    refine dR 3 ?_
    refine dX (x_idxO api_Fix.enc 0 h4) ?_
    refine dX (x_ldE api_Fix.enc h4) ?_
    refine dS (U := []) (stable_eqS (op := .eql) (xs := [.str vy8.Device, .int .i64 vy8.At, .int .i64 vy8.X, .int .i64 vy8.Y, .int .i64 vy8.Error]) (ys := [.str vy9.Device, .int .i64 vy9.At, .int .i64 vy9.X, .int .i64 vy9.Y, .int .i64 vy9.Error]) (b := (decide (vy8.Device = vy9.Device) && (decide (vy8.At = vy9.At) && (decide (vy8.X = vy9.X) && (decide (vy8.Y = vy9.Y) && (decide (vy8.Error = vy9.Error) && true)))))) (c := (decide (vy8.Device = vy9.Device) && (decide (vy8.At = vy9.At) && (decide (vy8.X = vy9.X) && (decide (vy8.Y = vy9.Y) && (decide (vy8.Error = vy9.Error) && true)))))) rfl (.inl ⟨rfl, rfl⟩) (by kernel_rfl) (by kernel_rfl) (by kernel_rfl) (by kernel_rfl) (by kernel_rfl) (by kernel_rfl)) ?_
    refine dE ?_
    refine cE hF (fun h5 hF => ?_) fun h5 hF => ?_
    · refine awp_true (by kernel_rfl) h5 ?_
      refine awp_seq ?_
      refine gE hF fun h6 hF => ?_
      refine awp_region ?_
      refine aR 2 ?_
      refine aX (x_viewN api_Fix.enc 0 h6) ?_
      refine aR 1 ?_
      refine aE ?_
      refine awp_seq ?_
      refine awp_seq ?_
      refine awp_region ?_
      refine aR 1 ?_
      refine aE ?_
      refine awp_block ?_
      refine awp_to (st' := slices_Compact_api_Fix_api_Fix_o0_x2_H qs vk (qs, vk, 1)) (oT [] []) ?_
      refine bE hF fun x h15 hF => ?_
      obtain ⟨vl7_1, vk9_1⟩ := x
      refine awp_sub (awp_loop' (slices_Compact_api_Fix_api_Fix_o0_x2_H qs vk) slices_Compact_api_Fix_api_Fix_o0_x2_k (slices_Compact_api_Fix_api_Fix_o0_x2_S qs vk) (by intro x; exact fun h => nomatch h) h15 (slices_Compact_api_Fix_api_Fix_o0_x2_ok qs vk)) ?_
      refine awp_seq ?_
      refine gE hF fun h16 hF => ?_
      refine awp_region ?_
      refine aR 2 ?_
      refine aX (x_viewN api_Fix.enc 0 h16) ?_
      refine aCl api_Fix.enc 0 (xs := vl7_1) (y := api_Fix.mk ([] : List UInt8) 0 0 0 0) (lo := vk9_1) (hi := (vl7_1.length : Int)) rfl ?_
      refine aE ?_
      refine awp_seq ?_
      refine gE hF fun h17 hF => ?_
      refine awp_region ?_
      refine aR 2 ?_
      refine aT api_Fix.enc 0 h17 rfl ?_
      refine aR 1 ?_
      refine aE ?_
      refine awp_ret ?_
      exact oO hF [(1, 6001)] [] rfl
    · refine awp_false (by kernel_rfl) h5 ?_
      refine awp_skip ?_
      refine awp_region ?_
      refine aR 3 ?_
      refine aE ?_
      exact oO hF [] [] rfl
  · refine awp_false (by kernel_rfl) h2 ?_
    refine awp_exit ?_
    exact oO hF [] [] rfl

def slices_Compact_api_Fix_api_Fix_o0_R (qs : List api_Fix) (r : (List api_Fix)) : TV × Mem := (.v (.one (.own 1 none)), ⟨[(1, ⟨33, 5, List.map api_Fix.enc r⟩)], []⟩)

theorem slices_Compact_api_Fix_api_Fix_o0_ok {qs : List api_Fix} {r} (hF : slices_Compact_api_Fix_api_Fix_o0 qs = some r) : Holds prog 48 [.v (.one (.own 0 none))] ⟨[(0, ⟨33, 5, List.map api_Fix.enc qs⟩)], []⟩ (Is (slices_Compact_api_Fix_api_Fix_o0_R qs r)) := by
  unfold slices_Compact_api_Fix_api_Fix_o0 at hF
  refine holds_of_awp hΓ (fn := f48) (c := cB f48) (A := 1) (nx := 1) (by kernel_rfl) (by kernel_rfl) (by kernel_rfl) (by kernel_rfl) (by kernel_rfl) (by kernel_rfl) (lowc_of (by kernel_rfl)) ?_
  show Awp prog 1 61 (cB f48) _ _
  refine awp_seq ?_
  refine awp_region ?_
  refine aR 1 ?_
  refine aE ?_
  refine awp_seq ?_
  refine awp_seq ?_
  refine awp_region ?_
  refine aR 1 ?_
  refine aL api_Fix.enc qs ?_
  refine aR 1 ?_
  refine aE ?_
  refine cE hF (fun h1 hF => ?_) fun h1 hF => ?_
  · refine awp_true (by kernel_rfl) h1 ?_
    refine awp_seq ?_
    refine awp_region ?_
    refine aR 2 ?_
    refine aE ?_
    refine awp_ret ?_
    exact oF hF [(1, 0)] []
  · refine awp_false (by kernel_rfl) h1 ?_
    refine awp_skip ?_
    refine awp_seq ?_
    refine awp_seq ?_
    refine awp_region ?_
    refine aR 1 ?_
    refine aE ?_
    refine awp_block ?_
    refine awp_to (st' := slices_Compact_api_Fix_api_Fix_o0_x1_H qs 1) (oT [] []) ?_
    refine bE hF fun x h18 hF => ?_
    rcases x with _ | vx1
    · refine awp_sub (awp_loop' (slices_Compact_api_Fix_api_Fix_o0_x1_H qs) slices_Compact_api_Fix_api_Fix_o0_x1_k (slices_Compact_api_Fix_api_Fix_o0_x1_S qs) (by intro x; rcases x with x | x <;> exact fun h => nomatch h) h18 (slices_Compact_api_Fix_api_Fix_o0_x1_ok qs)) ?_
      refine awp_seq ?_
      refine awp_region ?_
      refine aR 2 ?_
      refine aE ?_
      refine awp_ret ?_
      exact oF hF [(1, 0)] []
    · refine awp_sub (awp_loop' (slices_Compact_api_Fix_api_Fix_o0_x1_H qs) slices_Compact_api_Fix_api_Fix_o0_x1_k (slices_Compact_api_Fix_api_Fix_o0_x1_S qs) (by intro x; rcases x with x | x <;> exact fun h => nomatch h) h18 (slices_Compact_api_Fix_api_Fix_o0_x1_ok qs)) ?_
      exact oF hF [] []

/-! ### beaconfleet/place.Merge -/
def place_Merge_x1_k : Unit ⊕ Unit → AEx
  | .inl _ => .exit 0
  | .inr _ => .ret

def place_Merge_x1_S (vr2 : List api_Fix) : Unit ⊕ Unit → St
  | .inl _ => Mem.st ⟨[(0, ⟨33, 5, List.map api_Fix.enc vr2⟩)], []⟩ (tl [(7, .v (.one (.own 0 none)))]) 1
  | .inr _ => Mem.st ⟨[], []⟩ (tl [(4, .v (.one (.nil))), (5, .v (.one (.d (.int .i64 13))))]) 0

def place_Merge_x1_H (vr2 : List api_Fix) : Int → St
  | vi => Mem.st ⟨[(0, ⟨33, 5, List.map api_Fix.enc vr2⟩)], []⟩ (tl [(7, .v (.one (.own 0 none))), (8, .v (.one (.d (.int .i64 vi))))]) 1

theorem place_Merge_x1_ok (vr2 : List api_Fix) (vi : Int) (r : (Int) ⊕ (Unit ⊕ Unit)) (hF : place_Merge_x1 vr2 vi = some r) : Awp prog 0 47 (cL (cL (cR (cL (cR (cR (cR (cR (cR (cB f11)))))))))) (Out 0 (kk place_Merge_x1_k) (SS (place_Merge_x1_H vr2) (place_Merge_x1_S vr2)) r) (place_Merge_x1_H vr2 vi) := by
  unfold place_Merge_x1 at hF
  refine awp_seq ?_
  refine awp_seq ?_
  refine awp_region ?_
  refine aR 2 ?_
  refine aL api_Fix.enc vr2 ?_
  refine aR 1 ?_
  refine aE ?_
  refine cE hF (fun h9 hF => ?_) fun h9 hF => ?_
  · refine awp_true (by kernel_rfl) h9 ?_
    refine awp_skip ?_
    refine awp_seq ?_
    refine awp_block ?_
    refine awp_seq ?_
    refine bE hF fun vy2 h10 hF => ?_
    refine bE hF fun vy3 h11 hF => ?_
    refine bE hF fun vr2_2 h12 hF => ?_
    refine aD ?_
    refine dR 3 ?_
    refine dX (x_idxO api_Fix.enc 0 h10) ?_
    refine dX (x_ldE api_Fix.enc h10) ?_
    refine dR 2 ?_
    refine dX (x_idxO api_Fix.enc 0 h11) ?_
    refine dX (x_ldE api_Fix.enc h11) ?_
    refine dC (place_byDevice_ok h12) [] [] [] ?_
    refine dR 1 ?_
    refine dE ?_
    refine cE hF (fun h13 hF => ?_) fun h13 hF => ?_
    · refine awp_true (by kernel_rfl) h13 ?_
      refine awp_seq ?_
      refine awp_region ?_
      refine aR 2 ?_
      refine aE ?_
      refine awp_ret ?_
      exact oO hF [] [] rfl
    · refine awp_false (by kernel_rfl) h13 ?_
      refine awp_skip ?_
      refine awp_region ?_
      refine aR 3 ?_
      refine aE ?_
      exact oO hF [] [] rfl
  · refine awp_false (by kernel_rfl) h9 ?_
    refine awp_exit ?_
    exact oO hF [] [] rfl

def place_Merge_R (qa : List api_Fix) (qb : List api_Fix) (r : (List api_Fix) × Int) : TV × Mem := (.tup [.one (.own 0 none), .one (.d (.int .i64 r.2))], ⟨[(0, ⟨33, 5, List.map api_Fix.enc r.1⟩)], []⟩)

theorem place_Merge_ok {qa : List api_Fix} {qb : List api_Fix} {r} (hF : place_Merge qa qb = some r) : Holds prog 11 [.v (.one (.d (.lst (List.map api_Fix.enc qa)))), .v (.one (.d (.lst (List.map api_Fix.enc qb))))] ⟨[], []⟩ (Is (place_Merge_R qa qb r)) := by
  unfold place_Merge at hF
  refine holds_of_awp hΓ (fn := f11) (c := cB f11) (A := 0) (nx := 0) (by kernel_rfl) (by kernel_rfl) (by kernel_rfl) (by kernel_rfl) (by kernel_rfl) (by kernel_rfl) (lowc_of (by kernel_rfl)) ?_
  show Awp prog 0 47 (cB f11) _ _
  refine awp_seq ?_
  refine awp_region ?_
  refine aR 2 ?_
  refine aE ?_
  refine awp_seq ?_
  refine awp_seq ?_
  refine bE hF fun vr6 h1 hF => ?_
  refine bE hF fun vr6_1 h2 hF => ?_
  refine bE hF fun vr h3 hF => ?_
  refine awp_region ?_
  refine aR 1 ?_
  refine aC (place_CheckFixes_ok h1) [] [] [] ?_
  refine aR 1 ?_
  refine aC (place_CheckFixes_ok h2) [] [] [] ?_
  refine aR 1 ?_
  refine aC (base_First_ok h3) [] [] [6000] ?_
  refine aR 1 ?_
  refine aE ?_
  refine awp_seq ?_
  refine awp_region ?_
  refine aR 2 ?_
  refine aE ?_
  refine cE hF (fun h4 hF => ?_) fun h4 hF => ?_
  · refine awp_true (by kernel_rfl) h4 ?_
    refine awp_seq ?_
    refine awp_region ?_
    refine aR 3 ?_
    refine aE ?_
    refine awp_ret ?_
    exact oF hF [] [0]
  · refine awp_false (by kernel_rfl) h4 ?_
    refine awp_skip ?_
    refine awp_seq ?_
    refine bE hF fun vr1 h5 hF => ?_
    refine awp_region ?_
    refine aR 3 ?_
    refine aC (slices_Concat_api_Fix_api_Fix_o0_ok h5) [(0, 13000)] [] [] ?_
    refine aR 1 ?_
    refine aE ?_
    refine awp_seq ?_
    refine bE hF fun vl h6 hF => ?_
    refine gE hF fun h7 hF => ?_
    refine awp_region ?_
    refine aR 1 ?_
    refine aCp (slices_SortStableFunc_api_Fix_api_Fix_o0_f1_place_byDevice_ok h6) ⟨⟨rfl, rfl, pin1 h7⟩, trivial⟩ [(0, 14001)] [] [] ?_
    refine aE ?_
    refine awp_seq ?_
    refine bE hF fun vr2 h8 hF => ?_
    refine awp_region ?_
    refine aR 1 ?_
    refine aC (slices_Compact_api_Fix_api_Fix_o0_ok h8) [(0, 14001)] [] [] ?_
    refine aR 1 ?_
    refine aE ?_
    refine awp_seq ?_
    refine awp_seq ?_
    refine awp_region ?_
    refine aR 1 ?_
    refine aE ?_
    refine awp_block ?_
    refine awp_to (st' := place_Merge_x1_H vr2 1) (oT [(0, 19001)] []) ?_
    refine bE hF fun x h14 hF => ?_
    rcases x with _ | _
    · refine awp_sub (awp_loop' (place_Merge_x1_H vr2) place_Merge_x1_k (place_Merge_x1_S vr2) (by intro x; rcases x with x | x <;> exact fun h => nomatch h) h14 (place_Merge_x1_ok vr2)) ?_
      refine awp_seq ?_
      refine awp_seq ?_
      refine awp_region ?_
      refine aR 1 ?_
      refine aL api_Fix.enc vr2 ?_
      refine aR 1 ?_
      refine aE ?_
      refine cE hF (fun h15 hF => ?_) fun h15 hF => ?_
      · refine awp_true (by kernel_rfl) h15 ?_
        refine awp_seq ?_
        refine awp_region ?_
        refine aR 2 ?_
        refine aE ?_
        refine awp_ret ?_
        exact oF hF [] [0]
      · refine awp_false (by kernel_rfl) h15 ?_
        refine awp_skip ?_
        refine awp_seq ?_
        refine awp_region ?_
        refine aR 3 ?_
        refine aE ?_
        refine awp_ret ?_
        exact oF hF [] []
    · refine awp_sub (awp_loop' (place_Merge_x1_H vr2) place_Merge_x1_k (place_Merge_x1_S vr2) (by intro x; rcases x with x | x <;> exact fun h => nomatch h) h14 (place_Merge_x1_ok vr2)) ?_
      exact oF hF [] [0]

/-! ### beaconfleet/place.Of -/
def place_Of_x2_k : (List api_Fix) → AEx
  | _ => .normal

def place_Of_x2_S (ql : List api_Fix) (qdevice : List UInt8) (vout : List api_Fix) (vx : Int) : (List api_Fix) → St
  | vout2 => Mem.st ⟨[(0, ⟨33, 5, List.map api_Fix.enc vout2⟩)], []⟩ (tl [(1, .v (.one (.d (.str qdevice)))), (7, .v (.one (.own 0 none))), (18, .v (.one (.d (.lst (List.map api_Fix.enc ql))))), (19, .v (.one (.d (.int .i64 (ql.length : Int))))), (20, .v (.one (.d (.int .i64 vx))))]) 1

def place_Of_x2_I (ql : List api_Fix) (qdevice : List UInt8) (vout : List api_Fix) (vx : Int) : St := Mem.st ⟨[(0, ⟨33, 5, List.map api_Fix.enc vout⟩)], []⟩ (tl [(1, .v (.one (.d (.str qdevice)))), (7, .v (.one (.own 0 none))), (18, .v (.one (.d (.lst (List.map api_Fix.enc ql))))), (19, .v (.one (.d (.int .i64 (ql.length : Int))))), (20, .v (.one (.d (.int .i64 vx))))]) 1

theorem place_Of_x2_ok (ql : List api_Fix) (qdevice : List UInt8) (vout : List api_Fix) (vx : Int) {r} (hF : place_Of_x2 ql qdevice vout vx = some r) : Awp prog 0 34 (cL (cR (cR (cL (cL (cR (cL (cR (cR (cR (cR (cB f12)))))))))))) (Out 0 place_Of_x2_k (place_Of_x2_S ql qdevice vout vx) r) (place_Of_x2_I ql qdevice vout vx) := by
  unfold place_Of_x2 at hF
  refine awp_block ?_
  refine awp_seq ?_
  refine bE hF fun vy1 h6 hF => ?_
  refine awp_region ?_
  refine aX (x_idx api_Fix.enc h6) ?_
  refine aR 3 ?_
  refine aE ?_
  refine awp_seq ?_
  refine awp_region ?_
  refine aR 4 ?_
  refine aE ?_
  refine cE hF (fun h7 hF => ?_) fun h7 hF => ?_
  · refine awp_true (by kernel_rfl) h7 ?_
    refine gE hF fun h8 hF => ?_
    refine awp_region ?_
    refine aR 3 ?_
    refine aX (x_app api_Fix.enc 0 h8) ?_
    refine aR 1 ?_
    refine aE ?_
    exact oO hF [(0, 11001)] [] rfl
  · refine awp_false (by kernel_rfl) h7 ?_
    refine awp_skip ?_
    exact oO hF [] [] rfl

def place_Of_x1_k : (List api_Fix) → AEx
  | _ => .exit 0

def place_Of_x1_S (ql : List api_Fix) (qdevice : List UInt8) : (List api_Fix) → St
  | vout3 => Mem.st ⟨[(0, ⟨33, 5, List.map api_Fix.enc vout3⟩)], []⟩ (tl [(7, .v (.one (.own 0 none)))]) 1

def place_Of_x1_H (ql : List api_Fix) (qdevice : List UInt8) : (List api_Fix) × Int → St
  | (vout, vx) => Mem.st ⟨[(0, ⟨33, 5, List.map api_Fix.enc vout⟩)], []⟩ (tl [(1, .v (.one (.d (.str qdevice)))), (7, .v (.one (.own 0 none))), (18, .v (.one (.d (.lst (List.map api_Fix.enc ql))))), (19, .v (.one (.d (.int .i64 (ql.length : Int))))), (20, .v (.one (.d (.int .i64 vx))))]) 1

theorem place_Of_x1_ok (ql : List api_Fix) (qdevice : List UInt8) (s : (List api_Fix) × Int) (r : ((List api_Fix) × Int) ⊕ ((List api_Fix))) (hF : place_Of_x1 ql qdevice s = some r) : Awp prog 0 34 (cL (cL (cR (cL (cR (cR (cR (cR (cB f12))))))))) (Out 0 (kk place_Of_x1_k) (SS (place_Of_x1_H ql qdevice) (place_Of_x1_S ql qdevice)) r) (place_Of_x1_H ql qdevice s) := by
  obtain ⟨vout, vx⟩ := s
  unfold place_Of_x1 at hF
  refine awp_seq ?_
  refine awp_region ?_
  refine aR 1 ?_
  refine aE ?_
  refine awp_seq ?_
  refine cE hF (fun h5 hF => ?_) fun h5 hF => ?_
  · refine awp_true (by kernel_rfl) h5 ?_
    refine awp_skip ?_
    refine awp_seq ?_
    refine awp_to (st' := place_Of_x2_I ql qdevice vout vx) (oT [] []) ?_
    refine bE hF fun vout2_1 h9 hF => ?_
    refine awp_sub (place_Of_x2_ok ql qdevice vout vx h9) ?_
    refine awp_region ?_
    refine aR 2 ?_
    refine aE ?_
    exact oO hF [] [] rfl
  · refine awp_false (by kernel_rfl) h5 ?_
    refine awp_exit ?_
    exact oO hF [] [] rfl

def place_Of_R (ql : List api_Fix) (qdevice : List UInt8) (r : (List api_Fix) × Int) : TV × Mem := (.tup [.one (.own 0 none), .one (.d (.int .i64 r.2))], ⟨[(0, ⟨33, 5, List.map api_Fix.enc r.1⟩)], []⟩)

theorem place_Of_ok {ql : List api_Fix} {qdevice : List UInt8} {r} (hF : place_Of ql qdevice = some r) : Holds prog 12 [.v (.one (.d (.lst (List.map api_Fix.enc ql)))), .v (.one (.d (.str qdevice)))] ⟨[], []⟩ (Is (place_Of_R ql qdevice r)) := by
  unfold place_Of at hF
  refine holds_of_awp hΓ (fn := f12) (c := cB f12) (A := 0) (nx := 0) (by kernel_rfl) (by kernel_rfl) (by kernel_rfl) (by kernel_rfl) (by kernel_rfl) (by kernel_rfl) (lowc_of (by kernel_rfl)) ?_
  show Awp prog 0 34 (cB f12) _ _
  refine awp_seq ?_
  refine awp_region ?_
  refine aR 2 ?_
  refine aE ?_
  refine awp_seq ?_
  refine awp_seq ?_
  refine bE hF fun vr6 h1 hF => ?_
  refine awp_region ?_
  refine aR 1 ?_
  refine aC (place_CheckFixes_ok h1) [] [] [] ?_
  refine aR 1 ?_
  refine aE ?_
  refine awp_seq ?_
  refine awp_region ?_
  refine aR 2 ?_
  refine aE ?_
  refine cE hF (fun h2 hF => ?_) fun h2 hF => ?_
  · refine awp_true (by kernel_rfl) h2 ?_
    refine awp_seq ?_
    refine awp_region ?_
    refine aR 3 ?_
    refine aE ?_
    refine awp_ret ?_
    exact oF hF [] [0]
  · refine awp_false (by kernel_rfl) h2 ?_
    refine awp_skip ?_
    refine awp_seq ?_
    refine awp_seq ?_
    refine bE hF fun vr h3 hF => ?_
    refine awp_region ?_
    refine aR 1 ?_
    refine aC (base_Key_ok h3) [] [] [] ?_
    refine aR 1 ?_
    refine aE ?_
    refine cE hF (fun h4 hF => ?_) fun h4 hF => ?_
    · refine awp_true (by kernel_rfl) h4 ?_
      refine awp_seq ?_
      refine awp_region ?_
      refine aR 2 ?_
      refine aE ?_
      refine awp_ret ?_
      exact oF hF [] [0]
    · refine awp_false (by kernel_rfl) h4 ?_
      refine awp_skip ?_
      refine awp_seq ?_
      refine awp_region ?_
      refine aR 1 ?_
      refine aE ?_
      refine awp_seq ?_
      refine awp_seq ?_
      refine awp_region ?_
      refine aR 1 ?_
      refine aL api_Fix.enc ql ?_
      refine aR 1 ?_
      refine aE ?_
      refine awp_block ?_
      refine awp_to (st' := place_Of_x1_H ql qdevice ([], 0)) (oT [] [0]) ?_
      refine bE hF fun vout3_1 h10 hF => ?_
      refine awp_sub (awp_loop' (place_Of_x1_H ql qdevice) place_Of_x1_k (place_Of_x1_S ql qdevice) (by intro x; exact fun h => nomatch h) h10 (place_Of_x1_ok ql qdevice)) ?_
      refine awp_seq ?_
      refine awp_region ?_
      refine aR 3 ?_
      refine aE ?_
      refine awp_ret ?_
      exact oF hF [] []

/-! ### beaconfleet/fleetref2.in -/
def fleetref2_in_x1_k : Bool → AEx
  | _ => .normal

def fleetref2_in_x1_S (qn : Int) (qlow : Int) (qhigh : Int) : Bool → St
  | vx => Mem.st ⟨[], []⟩ (tl [(6, .v (.one (.d (.bool vx))))]) 0

def fleetref2_in_x1_I (qn : Int) (qlow : Int) (qhigh : Int) : St := Mem.st ⟨[], []⟩ (tl [(0, .v (.one (.d (.int .i64 qn)))), (1, .v (.one (.d (.int .i64 qlow)))), (2, .v (.one (.d (.int .i64 qhigh))))]) 0

theorem fleetref2_in_x1_ok (qn : Int) (qlow : Int) (qhigh : Int) {r} (hF : fleetref2_in_x1 qn qlow qhigh = some r) : Awp prog 0 15 (cL (cR (cB f53))) (Out 0 fleetref2_in_x1_k (fleetref2_in_x1_S qn qlow qhigh) r) (fleetref2_in_x1_I qn qlow qhigh) := by
  unfold fleetref2_in_x1 at hF
  refine cE hF (fun h1 hF => ?_) fun h1 hF => ?_
  · refine awp_region ?_
    refine aR 2 ?_
    refine aB h1 ?_
    refine aR 6 ?_
    refine aE ?_
    exact oO hF [] [] rfl
  · refine awp_region ?_
    refine aR 2 ?_
    refine aB h1 ?_
    refine aR 6 ?_
    refine aE ?_
    exact oO hF [] [] rfl

def fleetref2_in_R (qn : Int) (qlow : Int) (qhigh : Int) (r : Bool) : TV × Mem := (.v (.one (.d (.bool r))), ⟨[], []⟩)

theorem fleetref2_in_ok {qn : Int} {qlow : Int} {qhigh : Int} {r} (hF : fleetref2_in qn qlow qhigh = some r) : Holds prog 53 [.v (.one (.d (.int .i64 qn))), .v (.one (.d (.int .i64 qlow))), .v (.one (.d (.int .i64 qhigh)))] ⟨[], []⟩ (Is (fleetref2_in_R qn qlow qhigh r)) := by
  unfold fleetref2_in at hF
  refine holds_of_awp hΓ (fn := f53) (c := cB f53) (A := 0) (nx := 0) (by kernel_rfl) (by kernel_rfl) (by kernel_rfl) (by kernel_rfl) (by kernel_rfl) (by kernel_rfl) (lowc_of (by kernel_rfl)) ?_
  show Awp prog 0 15 (cB f53) _ _
  refine awp_seq ?_
  refine awp_region ?_
  refine aR 1 ?_
  refine aE ?_
  refine awp_seq ?_
  refine awp_to (st' := fleetref2_in_x1_I qn qlow qhigh) (oT [] []) ?_
  refine bE hF fun vx1 h2 hF => ?_
  refine awp_sub (fleetref2_in_x1_ok qn qlow qhigh h2) ?_
  refine awp_ret ?_
  exact oF hF [] []

/-! ### internal/stringslite.IndexByte -/
def stringslite_IndexByte_R (qs : List UInt8) (qc : Int) (r : Unit) : TV × Mem := (.v (.one (.d (.int .i64 (Lib.indexByte qs qc.toNat.toUInt8)))), ⟨[], []⟩)

theorem stringslite_IndexByte_ok {qs : List UInt8} {qc : Int} {r} (hF : stringslite_IndexByte qs qc = some r) : Holds prog 98 [.v (.one (.d (.str qs))), .v (.one (.d (.int .u8 qc)))] ⟨[], []⟩ (Is (stringslite_IndexByte_R qs qc r)) := by
  unfold stringslite_IndexByte at hF
  refine holds_of_awp hΓ (fn := f98) (c := cB f98) (A := 0) (nx := 0) (by kernel_rfl) (by kernel_rfl) (by kernel_rfl) (by kernel_rfl) (by kernel_rfl) (by kernel_rfl) (lowc_of (by kernel_rfl)) ?_
  show Awp prog 0 8 (cB f98) _ _
  refine awp_seq ?_
  refine awp_region ?_
  refine aR 1 ?_
  refine aE ?_
  refine awp_seq ?_
  refine awp_region ?_
  refine aR 2 ?_
  refine aS (does_indexByte (g := 115) (fn := f115) (a := qs) (c := qc) rfl (by kernel_rfl) (by kernel_rfl) (by kernel_rfl) (by kernel_rfl) (by kernel_rfl) (by kernel_rfl)) ?_
  refine aR 1 ?_
  refine aE ?_
  refine awp_ret ?_
  exact oF hF [] []

/-! ### strings.IndexByte -/
def strings_IndexByte_R (qs : List UInt8) (qc : Int) (r : Unit) : TV × Mem := (.v (.one (.d (.int .i64 (Lib.indexByte qs qc.toNat.toUInt8)))), ⟨[], []⟩)

theorem strings_IndexByte_ok {qs : List UInt8} {qc : Int} {r} (hF : strings_IndexByte qs qc = some r) : Holds prog 86 [.v (.one (.d (.str qs))), .v (.one (.d (.int .u8 qc)))] ⟨[], []⟩ (Is (strings_IndexByte_R qs qc r)) := by
  unfold strings_IndexByte at hF
  refine holds_of_awp hΓ (fn := f86) (c := cB f86) (A := 0) (nx := 0) (by kernel_rfl) (by kernel_rfl) (by kernel_rfl) (by kernel_rfl) (by kernel_rfl) (by kernel_rfl) (lowc_of (by kernel_rfl)) ?_
  show Awp prog 0 8 (cB f86) _ _
  refine awp_seq ?_
  refine awp_region ?_
  refine aR 1 ?_
  refine aE ?_
  refine awp_seq ?_
  refine bE hF fun _ h1 hF => ?_
  refine awp_region ?_
  refine aR 2 ?_
  refine aC (stringslite_IndexByte_ok h1) [] [] [] ?_
  refine aR 1 ?_
  refine aE ?_
  refine awp_ret ?_
  exact oF hF [] []

/-! ### beaconfleet/fleetref2.only -/
def fleetref2_only_x1_k : Unit ⊕ Unit → AEx
  | .inl _ => .exit 0
  | .inr _ => .ret

def fleetref2_only_x1_S (qs : List UInt8) (qsome : List UInt8) : Unit ⊕ Unit → St
  | .inl _ => Mem.st ⟨[], []⟩ (tl []) 0
  | .inr _ => Mem.st ⟨[], []⟩ (tl [(4, .v (.one (.d (.bool false))))]) 0

def fleetref2_only_x1_H (qs : List UInt8) (qsome : List UInt8) : Int → St
  | vx => Mem.st ⟨[], []⟩ (tl [(0, .v (.one (.d (.str qs)))), (1, .v (.one (.d (.str qsome)))), (7, .v (.one (.d (.int .i64 (qs.length : Int))))), (8, .v (.one (.d (.int .i64 vx))))]) 0

theorem fleetref2_only_x1_ok (qs : List UInt8) (qsome : List UInt8) (vx : Int) (r : (Int) ⊕ (Unit ⊕ Unit)) (hF : fleetref2_only_x1 qs qsome vx = some r) : Awp prog 0 18 (cL (cL (cR (cL (cR (cB f58)))))) (Out 0 (kk fleetref2_only_x1_k) (SS (fleetref2_only_x1_H qs qsome) (fleetref2_only_x1_S qs qsome)) r) (fleetref2_only_x1_H qs qsome vx) := by
  unfold fleetref2_only_x1 at hF
  refine awp_seq ?_
  refine awp_region ?_
  refine aR 1 ?_
  refine aE ?_
  refine awp_seq ?_
  refine cE hF (fun h1 hF => ?_) fun h1 hF => ?_
  · refine awp_true (by kernel_rfl) h1 ?_
    refine awp_skip ?_
    refine awp_seq ?_
    refine awp_block ?_
    refine awp_seq ?_
    refine awp_region ?_
    refine aR 2 ?_
    refine aE ?_
    refine awp_seq ?_
    refine bE hF fun vc1 h2 hF => ?_
    refine bE hF fun _ h3 hF => ?_
    refine awp_region ?_
    refine aR 3 ?_
    refine aX (x_idxS h2) ?_
    refine aC (strings_IndexByte_ok h3) [] [] [] ?_
    refine aR 1 ?_
    refine aE ?_
    refine cE hF (fun h4 hF => ?_) fun h4 hF => ?_
    · refine awp_true (by kernel_rfl) h4 ?_
      refine awp_seq ?_
      refine awp_region ?_
      refine aR 1 ?_
      refine aE ?_
      refine awp_ret ?_
      exact oO hF [] [] rfl
    · refine awp_false (by kernel_rfl) h4 ?_
      refine awp_skip ?_
      refine awp_region ?_
      refine aR 2 ?_
      refine aE ?_
      exact oO hF [] [] rfl
  · refine awp_false (by kernel_rfl) h1 ?_
    refine awp_exit ?_
    exact oO hF [] [] rfl

def fleetref2_only_R (qs : List UInt8) (qsome : List UInt8) (r : Bool) : TV × Mem := (.v (.one (.d (.bool r))), ⟨[], []⟩)

theorem fleetref2_only_ok {qs : List UInt8} {qsome : List UInt8} {r} (hF : fleetref2_only qs qsome = some r) : Holds prog 58 [.v (.one (.d (.str qs))), .v (.one (.d (.str qsome)))] ⟨[], []⟩ (Is (fleetref2_only_R qs qsome r)) := by
  unfold fleetref2_only at hF
  refine holds_of_awp hΓ (fn := f58) (c := cB f58) (A := 0) (nx := 0) (by kernel_rfl) (by kernel_rfl) (by kernel_rfl) (by kernel_rfl) (by kernel_rfl) (by kernel_rfl) (lowc_of (by kernel_rfl)) ?_
  show Awp prog 0 18 (cB f58) _ _
  refine awp_seq ?_
  refine awp_region ?_
  refine aR 1 ?_
  refine aE ?_
  refine awp_seq ?_
  refine awp_seq ?_
  refine awp_region ?_
  refine aR 3 ?_
  refine aE ?_
  refine awp_block ?_
  refine awp_to (st' := fleetref2_only_x1_H qs qsome 0) (oT [] []) ?_
  refine bE hF fun x h5 hF => ?_
  rcases x with _ | _
  · refine awp_sub (awp_loop' (fleetref2_only_x1_H qs qsome) fleetref2_only_x1_k (fleetref2_only_x1_S qs qsome) (by intro x; rcases x with x | x <;> exact fun h => nomatch h) h5 (fleetref2_only_x1_ok qs qsome)) ?_
    refine awp_seq ?_
    refine awp_region ?_
    refine aR 1 ?_
    refine aE ?_
    refine awp_ret ?_
    exact oF hF [] []
  · refine awp_sub (awp_loop' (fleetref2_only_x1_H qs qsome) fleetref2_only_x1_k (fleetref2_only_x1_S qs qsome) (by intro x; rcases x with x | x <;> exact fun h => nomatch h) h5 (fleetref2_only_x1_ok qs qsome)) ?_
    exact oF hF [] []

/-! ### beaconfleet/fleetref2.Key -/
def fleetref2_Key_x1_k : Bool → AEx
  | _ => .normal

def fleetref2_Key_x1_S (qs : List UInt8) : Bool → St
  | vx => Mem.st ⟨[], []⟩ (tl [(2, .v (.one (.d (.bool vx))))]) 0

def fleetref2_Key_x1_I (qs : List UInt8) : St := Mem.st ⟨[], []⟩ (tl [(0, .v (.one (.d (.str qs))))]) 0

theorem fleetref2_Key_x1_ok (qs : List UInt8) {r} (hF : fleetref2_Key_x1 qs = some r) : Awp prog 0 15 (cL (cR (cB f17))) (Out 0 fleetref2_Key_x1_k (fleetref2_Key_x1_S qs) r) (fleetref2_Key_x1_I qs) := by
  unfold fleetref2_Key_x1 at hF
  refine bE hF fun vr h1 hF => ?_
  refine cE hF (fun h2 hF => ?_) fun h2 hF => ?_
  · refine bE hF fun vs h3 hF => ?_
    refine bE hF fun vr1 h4 hF => ?_
    refine cE hF (fun h5 hF => ?_) fun h5 hF => ?_
    · refine bE hF fun vr2 h6 hF => ?_
      refine awp_region ?_
      refine aR 2 ?_
      refine aCb (fleetref2_in_ok h1) [] [] [] h2 ?_
      refine aR 2 ?_
      refine aX (x_sliceS h3) ?_
      refine aCb (fleetref2_only_ok h4) [] [] [] h5 ?_
      refine aR 3 ?_
      refine aC (fleetref2_only_ok h6) [] [] [] ?_
      refine aR 2 ?_
      refine aE ?_
      exact oO hF [] [] rfl
    · refine awp_region ?_
      refine aR 2 ?_
      refine aCb (fleetref2_in_ok h1) [] [] [] h2 ?_
      refine aR 2 ?_
      refine aX (x_sliceS h3) ?_
      refine aCb (fleetref2_only_ok h4) [] [] [] h5 ?_
      refine aR 6 ?_
      refine aE ?_
      exact oO hF [] [] rfl
  · refine awp_region ?_
    refine aR 2 ?_
    refine aCb (fleetref2_in_ok h1) [] [] [] h2 ?_
    refine aR 10 ?_
    refine aE ?_
    exact oO hF [] [] rfl

def fleetref2_Key_R (qs : List UInt8) (r : Bool) : TV × Mem := (.v (.one (.d (.bool r))), ⟨[], []⟩)

theorem fleetref2_Key_ok {qs : List UInt8} {r} (hF : fleetref2_Key qs = some r) : Holds prog 17 [.v (.one (.d (.str qs)))] ⟨[], []⟩ (Is (fleetref2_Key_R qs r)) := by
  unfold fleetref2_Key at hF
  refine holds_of_awp hΓ (fn := f17) (c := cB f17) (A := 0) (nx := 0) (by kernel_rfl) (by kernel_rfl) (by kernel_rfl) (by kernel_rfl) (by kernel_rfl) (by kernel_rfl) (lowc_of (by kernel_rfl)) ?_
  show Awp prog 0 15 (cB f17) _ _
  refine awp_seq ?_
  refine awp_region ?_
  refine aR 1 ?_
  refine aE ?_
  refine awp_seq ?_
  refine awp_to (st' := fleetref2_Key_x1_I qs) (oT [] []) ?_
  refine bE hF fun vx1 h7 hF => ?_
  refine awp_sub (fleetref2_Key_x1_ok qs h7) ?_
  refine awp_ret ?_
  exact oF hF [] []

/-! ### beaconfleet/fleetref2.Moment -/
def fleetref2_Moment_R (qat : Int) (r : Bool) : TV × Mem := (.v (.one (.d (.bool r))), ⟨[], []⟩)

theorem fleetref2_Moment_ok {qat : Int} {r} (hF : fleetref2_Moment qat = some r) : Holds prog 50 [.v (.one (.d (.int .i64 qat)))] ⟨[], []⟩ (Is (fleetref2_Moment_R qat r)) := by
  unfold fleetref2_Moment at hF
  refine holds_of_awp hΓ (fn := f50) (c := cB f50) (A := 0) (nx := 0) (by kernel_rfl) (by kernel_rfl) (by kernel_rfl) (by kernel_rfl) (by kernel_rfl) (by kernel_rfl) (lowc_of (by kernel_rfl)) ?_
  show Awp prog 0 5 (cB f50) _ _
  refine awp_seq ?_
  refine awp_region ?_
  refine aR 1 ?_
  refine aE ?_
  refine awp_seq ?_
  refine bE hF fun vr h1 hF => ?_
  refine awp_region ?_
  refine aR 1 ?_
  refine aC (fleetref2_in_ok h1) [] [] [] ?_
  refine aR 1 ?_
  refine aE ?_
  refine awp_ret ?_
  exact oF hF [] []

/-! ### beaconfleet/fleetref2.spotOf -/
def fleetref2_spotOf_R (qx : api_Fix) (r : Unit) : TV × Mem := (.v (.agg [.d (.int .i64 qx.X), .d (.int .i64 qx.Y)]), ⟨[], []⟩)

theorem fleetref2_spotOf_ok {qx : api_Fix} {r} (hF : fleetref2_spotOf qx = some r) : Holds prog 52 [.v (.agg [.d (.str qx.Device), .d (.int .i64 qx.At), .d (.int .i64 qx.X), .d (.int .i64 qx.Y), .d (.int .i64 qx.Error)])] ⟨[], []⟩ (Is (fleetref2_spotOf_R qx r)) := by
  unfold fleetref2_spotOf at hF
  refine holds_of_awp hΓ (fn := f52) (c := cB f52) (A := 0) (nx := 0) (by kernel_rfl) (by kernel_rfl) (by kernel_rfl) (by kernel_rfl) (by kernel_rfl) (by kernel_rfl) (lowc_of (by kernel_rfl)) ?_
  show Awp prog 0 8 (cB f52) _ _
  refine awp_seq ?_
  refine awp_region ?_
  refine aR 2 ?_
  refine aE ?_
  refine awp_seq ?_
  refine awp_region ?_
  refine aR 6 ?_
  refine aE ?_
  refine awp_ret ?_
  exact oF hF [] []

/-! ### beaconfleet/fleetref2.SpotFault -/
def fleetref2_SpotFault_x1_k : Bool → AEx
  | _ => .normal

def fleetref2_SpotFault_x1_S (qs : api_Spot) : Bool → St
  | vx => Mem.st ⟨[], []⟩ (tl [(12, .v (.one (.d (.bool vx))))]) 0

def fleetref2_SpotFault_x1_I (qs : api_Spot) : St := Mem.st ⟨[], [(0, [.d (.int .i64 qs.X), .d (.int .i64 qs.Y)])]⟩ (tl [(1, .v (.one (.box 0 0)))]) 1

theorem fleetref2_SpotFault_x1_ok (qs : api_Spot) {r} (hF : fleetref2_SpotFault_x1 qs = some r) : Awp prog 0 13 (cL (cL (cR (cB f51)))) (Out 0 fleetref2_SpotFault_x1_k (fleetref2_SpotFault_x1_S qs) r) (fleetref2_SpotFault_x1_I qs) := by
  unfold fleetref2_SpotFault_x1 at hF
  refine bE hF fun vr h1 hF => ?_
  refine cE hF (fun h2 hF => ?_) fun h2 hF => ?_
  · refine awp_region ?_
    refine aR 2 ?_
    refine aC (fleetref2_in_ok h1) [] [] [] ?_
    refine aB h2 ?_
    refine aR 6 ?_
    refine aE ?_
    exact oO hF [] [] rfl
  · refine bE hF fun vr1 h3 hF => ?_
    refine awp_region ?_
    refine aR 2 ?_
    refine aC (fleetref2_in_ok h1) [] [] [] ?_
    refine aB h2 ?_
    refine aR 3 ?_
    refine aC (fleetref2_in_ok h3) [] [] [] ?_
    refine aR 2 ?_
    refine aE ?_
    exact oO hF [] [] rfl

def fleetref2_SpotFault_R (qs : api_Spot) (r : Int) : TV × Mem := (.v (.one (.d (.int .i64 r))), ⟨[], []⟩)

theorem fleetref2_SpotFault_ok {qs : api_Spot} {r} (hF : fleetref2_SpotFault qs = some r) : Holds prog 51 [.v (.agg [.d (.int .i64 qs.X), .d (.int .i64 qs.Y)])] ⟨[], []⟩ (Is (fleetref2_SpotFault_R qs r)) := by
  unfold fleetref2_SpotFault at hF
  refine holds_of_awp hΓ (fn := f51) (c := cB f51) (A := 0) (nx := 0) (by kernel_rfl) (by kernel_rfl) (by kernel_rfl) (by kernel_rfl) (by kernel_rfl) (by kernel_rfl) (lowc_of (by kernel_rfl)) ?_
  show Awp prog 0 13 (cB f51) _ _
  refine awp_seq ?_
  refine awp_region ?_
  refine aR 2 ?_
  refine aE ?_
  refine awp_seq ?_
  refine awp_seq ?_
  refine awp_to (st' := fleetref2_SpotFault_x1_I qs) (oT [] []) ?_
  refine bE hF fun vx1 h4 hF => ?_
  refine awp_sub (fleetref2_SpotFault_x1_ok qs h4) ?_
  refine cE hF (fun h5 hF => ?_) fun h5 hF => ?_
  · refine awp_true (by kernel_rfl) h5 ?_
    refine awp_seq ?_
    refine awp_region ?_
    refine aR 1 ?_
    refine aE ?_
    refine awp_ret ?_
    exact oF hF [] []
  · refine awp_false (by kernel_rfl) h5 ?_
    refine awp_skip ?_
    refine awp_seq ?_
    refine awp_region ?_
    refine aR 1 ?_
    refine aE ?_
    refine awp_ret ?_
    exact oF hF [] []

/-! ### beaconfleet/fleetref2.FixesFault -/
def fleetref2_FixesFault_x2_k : Bool → AEx
  | _ => .normal

def fleetref2_FixesFault_x2_S (ql : List api_Fix) (vx : Int) (vy2 : api_Fix) : Bool → St
  | vx3 => Mem.st ⟨[], [(0, [.d (.str vy2.Device), .d (.int .i64 vy2.At), .d (.int .i64 vy2.X), .d (.int .i64 vy2.Y), .d (.int .i64 vy2.Error)])]⟩ (tl [(0, .v (.one (.d (.lst (List.map api_Fix.enc ql))))), (3, .v (.one (.d (.int .i64 vx)))), (4, .v (.one (.box 0 0))), (8, .v (.one (.d (.lst (List.map api_Fix.enc ql))))), (9, .v (.one (.d (.int .i64 (ql.length : Int))))), (10, .v (.one (.d (.int .i64 vx)))), (20, .v (.one (.d (.bool vx3))))]) 1

def fleetref2_FixesFault_x2_I (ql : List api_Fix) (vx : Int) (vy2 : api_Fix) : St := Mem.st ⟨[], [(0, [.d (.str vy2.Device), .d (.int .i64 vy2.At), .d (.int .i64 vy2.X), .d (.int .i64 vy2.Y), .d (.int .i64 vy2.Error)])]⟩ (tl [(0, .v (.one (.d (.lst (List.map api_Fix.enc ql))))), (3, .v (.one (.d (.int .i64 vx)))), (4, .v (.one (.box 0 0))), (8, .v (.one (.d (.lst (List.map api_Fix.enc ql))))), (9, .v (.one (.d (.int .i64 (ql.length : Int))))), (10, .v (.one (.d (.int .i64 vx))))]) 1

theorem fleetref2_FixesFault_x2_ok (ql : List api_Fix) (vx : Int) (vy2 : api_Fix) {r} (hF : fleetref2_FixesFault_x2 vy2 = some r) : Awp prog 0 51 (cL (cR (cR (cL (cR (cL (cL (cR (cR (cL (cL (cR (cL (cR (cR (cB f13)))))))))))))))) (Out 0 fleetref2_FixesFault_x2_k (fleetref2_FixesFault_x2_S ql vx vy2) r) (fleetref2_FixesFault_x2_I ql vx vy2) := by
  unfold fleetref2_FixesFault_x2 at hF
  refine bE hF fun vr1_2 h6 hF => ?_
  refine cE hF (fun h7 hF => ?_) fun h7 hF => ?_
  · refine awp_region ?_
    refine aR 2 ?_
    refine aC (fleetref2_Moment_ok h6) [] [] [] ?_
    refine aB h7 ?_
    refine aR 13 ?_
    refine aE ?_
    exact oO hF [] [] rfl
  · refine bE hF fun _ h8 hF => ?_
    refine bE hF fun vr2_1 h9 hF => ?_
    refine cE hF (fun h10 hF => ?_) fun h10 hF => ?_
    · refine awp_region ?_
      refine aR 2 ?_
      refine aC (fleetref2_Moment_ok h6) [] [] [] ?_
      refine aB h7 ?_
      refine aR 2 ?_
      refine aC (fleetref2_spotOf_ok h8) [] [] [] ?_
      refine aC (fleetref2_SpotFault_ok h9) [] [] [] ?_
      refine aB h10 ?_
      refine aR 8 ?_
      refine aE ?_
      exact oO hF [] [] rfl
    · refine bE hF fun vr4 h11 hF => ?_
      refine awp_region ?_
      refine aR 2 ?_
      refine aC (fleetref2_Moment_ok h6) [] [] [] ?_
      refine aB h7 ?_
      refine aR 2 ?_
      refine aC (fleetref2_spotOf_ok h8) [] [] [] ?_
      refine aC (fleetref2_SpotFault_ok h9) [] [] [] ?_
      refine aB h10 ?_
      refine aR 4 ?_
      refine aC (fleetref2_in_ok h11) [] [] [] ?_
      refine aR 3 ?_
      refine aE ?_
      exact oO hF [] [] rfl

def fleetref2_FixesFault_x3_k : Bool → AEx
  | _ => .normal

def fleetref2_FixesFault_x3_S (ql : List api_Fix) (vx : Int) (vy2 : api_Fix) : Bool → St
  | vx4 => Mem.st ⟨[], []⟩ (tl [(0, .v (.one (.d (.lst (List.map api_Fix.enc ql))))), (8, .v (.one (.d (.lst (List.map api_Fix.enc ql))))), (9, .v (.one (.d (.int .i64 (ql.length : Int))))), (10, .v (.one (.d (.int .i64 vx)))), (37, .v (.one (.d (.bool vx4))))]) 0

def fleetref2_FixesFault_x3_I (ql : List api_Fix) (vx : Int) (vy2 : api_Fix) : St := Mem.st ⟨[], [(0, [.d (.str vy2.Device), .d (.int .i64 vy2.At), .d (.int .i64 vy2.X), .d (.int .i64 vy2.Y), .d (.int .i64 vy2.Error)])]⟩ (tl [(0, .v (.one (.d (.lst (List.map api_Fix.enc ql))))), (3, .v (.one (.d (.int .i64 vx)))), (4, .v (.one (.box 0 0))), (8, .v (.one (.d (.lst (List.map api_Fix.enc ql))))), (9, .v (.one (.d (.int .i64 (ql.length : Int))))), (10, .v (.one (.d (.int .i64 vx))))]) 1

theorem fleetref2_FixesFault_x3_ok (ql : List api_Fix) (vx : Int) (vy2 : api_Fix) {r} (hF : fleetref2_FixesFault_x3 ql vx vy2 = some r) : Awp prog 0 51 (cL (cR (cR (cR (cR (cL (cR (cL (cL (cR (cR (cL (cL (cR (cL (cR (cR (cB f13)))))))))))))))))) (Out 0 fleetref2_FixesFault_x3_k (fleetref2_FixesFault_x3_S ql vx vy2) r) (fleetref2_FixesFault_x3_I ql vx vy2) := by
  unfold fleetref2_FixesFault_x3 at hF
  refine cE hF (fun h14 hF => ?_) fun h14 hF => ?_
  · refine bE hF fun vy3 h15 hF => ?_
    refine bE hF fun vr1_3 h16 hF => ?_
    refine aD ?_
    refine dR 1 ?_
    refine dB h14 ?_
    refine dR 4 ?_
    refine dX (x_idx api_Fix.enc h15) ?_
    refine dR 2 ?_
    refine dC (fleetref2_FixOrder_ok h16) [] [] [] ?_
    refine dR 3 ?_
    refine dE ?_
    exact oO hF [] [] rfl
  · refine aD ?_
    refine dR 1 ?_
    refine dB h14 ?_
    refine dR 11 ?_
    refine dE ?_
    exact oO hF [] [] rfl

def fleetref2_FixesFault_x1_k : Unit ⊕ Int → AEx
  | .inl _ => .exit 0
  | .inr _ => .ret

def fleetref2_FixesFault_x1_S (ql : List api_Fix) : Unit ⊕ Int → St
  | .inl _ => Mem.st ⟨[], []⟩ (tl []) 0
  | .inr vx5 => Mem.st ⟨[], []⟩ (tl [(2, .v (.one (.d (.int .i64 vx5))))]) 0

def fleetref2_FixesFault_x1_H (ql : List api_Fix) : Int → St
  | vx => Mem.st ⟨[], []⟩ (tl [(0, .v (.one (.d (.lst (List.map api_Fix.enc ql))))), (8, .v (.one (.d (.lst (List.map api_Fix.enc ql))))), (9, .v (.one (.d (.int .i64 (ql.length : Int))))), (10, .v (.one (.d (.int .i64 vx))))]) 0

theorem fleetref2_FixesFault_x1_ok (ql : List api_Fix) (vx : Int) (r : (Int) ⊕ (Unit ⊕ Int)) (hF : fleetref2_FixesFault_x1 ql vx = some r) : Awp prog 0 51 (cL (cL (cR (cL (cR (cR (cB f13))))))) (Out 0 (kk fleetref2_FixesFault_x1_k) (SS (fleetref2_FixesFault_x1_H ql) (fleetref2_FixesFault_x1_S ql)) r) (fleetref2_FixesFault_x1_H ql vx) := by
  unfold fleetref2_FixesFault_x1 at hF
  refine awp_seq ?_
  refine awp_region ?_
  refine aR 1 ?_
  refine aE ?_
  refine awp_seq ?_
  refine cE hF (fun h2 hF => ?_) fun h2 hF => ?_
  · refine awp_true (by kernel_rfl) h2 ?_
    refine awp_skip ?_
    refine awp_seq ?_
    refine awp_block ?_
    refine awp_seq ?_
    refine bE hF fun vy2 h3 hF => ?_
    refine awp_region ?_
    refine aR 1 ?_
    refine aX (x_idx api_Fix.enc h3) ?_
    refine aR 4 ?_
    refine aE ?_
    refine awp_block ?_
    refine awp_seq ?_
    refine bE hF fun vr3_1 h4 hF => ?_
    refine awp_region ?_
    refine aR 2 ?_
    refine aC (fleetref2_Key_ok h4) [] [] [] ?_
    refine aR 2 ?_
    refine aE ?_
    refine cE hF (fun h5 hF => ?_) fun h5 hF => ?_
    · refine awp_true (by kernel_rfl) h5 ?_
      refine awp_seq ?_
      refine awp_region ?_
      refine aR 1 ?_
      refine aE ?_
      refine awp_ret ?_
      exact oO hF [] [] rfl
    · refine awp_false (by kernel_rfl) h5 ?_
      refine awp_seq ?_
      refine awp_to (st' := fleetref2_FixesFault_x2_I ql vx vy2) (oT [(0, 4000)] []) ?_
      refine bE hF fun vx3_1 h12 hF => ?_
      refine awp_sub (fleetref2_FixesFault_x2_ok ql vx vy2 h12) ?_
      refine cE hF (fun h13 hF => ?_) fun h13 hF => ?_
      · refine awp_true (by kernel_rfl) h13 ?_
        refine awp_seq ?_
        refine awp_region ?_
        refine aR 1 ?_
        refine aE ?_
        refine awp_ret ?_
        exact oO hF [] [] rfl
      · refine awp_false (by kernel_rfl) h13 ?_
        refine awp_seq ?_
        refine awp_to (st' := fleetref2_FixesFault_x3_I ql vx vy2) (oT [] []) ?_
        refine bE hF fun vx4_1 h17 hF => ?_
        refine awp_sub (fleetref2_FixesFault_x3_ok ql vx vy2 h17) ?_
        refine cE hF (fun h18 hF => ?_) fun h18 hF => ?_
        · refine awp_true (by kernel_rfl) h18 ?_
          refine awp_seq ?_
          refine awp_region ?_
          refine aR 1 ?_
          refine aE ?_
          refine awp_ret ?_
          exact oO hF [] [] rfl
        · refine awp_false (by kernel_rfl) h18 ?_
          refine awp_skip ?_
          refine awp_region ?_
          refine aR 2 ?_
          refine aE ?_
          exact oO hF [] [] rfl
  · refine awp_false (by kernel_rfl) h2 ?_
    refine awp_exit ?_
    exact oO hF [] [] rfl

def fleetref2_FixesFault_R (ql : List api_Fix) (r : Int) : TV × Mem := (.v (.one (.d (.int .i64 r))), ⟨[], []⟩)

theorem fleetref2_FixesFault_ok {ql : List api_Fix} {r} (hF : fleetref2_FixesFault ql = some r) : Holds prog 13 [.v (.one (.d (.lst (List.map api_Fix.enc ql))))] ⟨[], []⟩ (Is (fleetref2_FixesFault_R ql r)) := by
  unfold fleetref2_FixesFault at hF
  refine holds_of_awp hΓ (fn := f13) (c := cB f13) (A := 0) (nx := 0) (by kernel_rfl) (by kernel_rfl) (by kernel_rfl) (by kernel_rfl) (by kernel_rfl) (by kernel_rfl) (lowc_of (by kernel_rfl)) ?_
  show Awp prog 0 51 (cB f13) _ _
  refine awp_seq ?_
  refine awp_region ?_
  refine aR 1 ?_
  refine aE ?_
  refine awp_seq ?_
  refine awp_seq ?_
  refine awp_region ?_
  refine aR 1 ?_
  refine aL api_Fix.enc ql ?_
  refine aR 1 ?_
  refine aE ?_
  refine cE hF (fun h1 hF => ?_) fun h1 hF => ?_
  · refine awp_true (by kernel_rfl) h1 ?_
    refine awp_seq ?_
    refine awp_region ?_
    refine aR 1 ?_
    refine aE ?_
    refine awp_ret ?_
    exact oF hF [] []
  · refine awp_false (by kernel_rfl) h1 ?_
    refine awp_skip ?_
    refine awp_seq ?_
    refine awp_seq ?_
    refine awp_region ?_
    refine aR 1 ?_
    refine aL api_Fix.enc ql ?_
    refine aR 1 ?_
    refine aE ?_
    refine awp_block ?_
    refine awp_to (st' := fleetref2_FixesFault_x1_H ql 0) (oT [] []) ?_
    refine bE hF fun x h19 hF => ?_
    rcases x with _ | vx5_1
    · refine awp_sub (awp_loop' (fleetref2_FixesFault_x1_H ql) fleetref2_FixesFault_x1_k (fleetref2_FixesFault_x1_S ql) (by intro x; rcases x with x | x <;> exact fun h => nomatch h) h19 (fleetref2_FixesFault_x1_ok ql)) ?_
      refine awp_seq ?_
      refine awp_region ?_
      refine aR 1 ?_
      refine aE ?_
      refine awp_ret ?_
      exact oF hF [] []
    · refine awp_sub (awp_loop' (fleetref2_FixesFault_x1_H ql) fleetref2_FixesFault_x1_k (fleetref2_FixesFault_x1_S ql) (by intro x; rcases x with x | x <;> exact fun h => nomatch h) h19 (fleetref2_FixesFault_x1_ok ql)) ?_
      exact oF hF [] []

/-! ### beaconfleet/fleetlaw2.when -/
def fleetlaw2_when_R (qis : Bool) (qe : Int) (r : Int) : TV × Mem := (.v (.one (.d (.int .i64 r))), ⟨[], []⟩)

theorem fleetlaw2_when_ok {qis : Bool} {qe : Int} {r} (hF : fleetlaw2_when qis qe = some r) : Holds prog 16 [.v (.one (.d (.bool qis))), .v (.one (.d (.int .i64 qe)))] ⟨[], []⟩ (Is (fleetlaw2_when_R qis qe r)) := by
  unfold fleetlaw2_when at hF
  refine holds_of_awp hΓ (fn := f16) (c := cB f16) (A := 0) (nx := 0) (by kernel_rfl) (by kernel_rfl) (by kernel_rfl) (by kernel_rfl) (by kernel_rfl) (by kernel_rfl) (lowc_of (by kernel_rfl)) ?_
  show Awp prog 0 7 (cB f16) _ _
  refine awp_seq ?_
  refine awp_region ?_
  refine aR 1 ?_
  refine aE ?_
  refine awp_seq ?_
  refine awp_seq ?_
  refine awp_region ?_
  refine aR 1 ?_
  refine aE ?_
  refine cE hF (fun h1 hF => ?_) fun h1 hF => ?_
  · refine awp_true (by kernel_rfl) h1 ?_
    refine awp_seq ?_
    refine awp_region ?_
    refine aR 2 ?_
    refine aE ?_
    refine awp_ret ?_
    exact oF hF [] []
  · refine awp_false (by kernel_rfl) h1 ?_
    refine awp_skip ?_
    refine awp_seq ?_
    refine awp_region ?_
    refine aR 1 ?_
    refine aE ?_
    refine awp_ret ?_
    exact oF hF [] []

/-! ### beaconfleet/fleetlaw2.errs -/
def fleetlaw2_errs_x1_k : Unit ⊕ Int → AEx
  | .inl _ => .exit 0
  | .inr _ => .ret

def fleetlaw2_errs_x1_S (ql : List Int) : Unit ⊕ Int → St
  | .inl _ => Mem.st ⟨[], []⟩ (tl []) 0
  | .inr vx1 => Mem.st ⟨[], []⟩ (tl [(2, .v (.one (.d (.int .i64 vx1))))]) 0

def fleetlaw2_errs_x1_H (ql : List Int) : Int → St
  | vx => Mem.st ⟨[], []⟩ (tl [(5, .v (.one (.d (.lst (List.map (encI .i64) ql))))), (6, .v (.one (.d (.int .i64 (ql.length : Int))))), (7, .v (.one (.d (.int .i64 vx))))]) 0

theorem fleetlaw2_errs_x1_ok (ql : List Int) (vx : Int) (r : (Int) ⊕ (Unit ⊕ Int)) (hF : fleetlaw2_errs_x1 ql vx = some r) : Awp prog 0 15 (cL (cL (cR (cL (cR (cB f15)))))) (Out 0 (kk fleetlaw2_errs_x1_k) (SS (fleetlaw2_errs_x1_H ql) (fleetlaw2_errs_x1_S ql)) r) (fleetlaw2_errs_x1_H ql vx) := by
  unfold fleetlaw2_errs_x1 at hF
  refine awp_seq ?_
  refine awp_region ?_
  refine aR 1 ?_
  refine aE ?_
  refine awp_seq ?_
  refine cE hF (fun h1 hF => ?_) fun h1 hF => ?_
  · refine awp_true (by kernel_rfl) h1 ?_
    refine awp_skip ?_
    refine awp_seq ?_
    refine awp_block ?_
    refine awp_seq ?_
    refine bE hF fun vy1 h2 hF => ?_
    refine awp_region ?_
    refine aX (x_idx (encI .i64) h2) ?_
    refine aR 2 ?_
    refine aE ?_
    refine awp_seq ?_
    refine awp_region ?_
    refine aR 2 ?_
    refine aE ?_
    refine cE hF (fun h3 hF => ?_) fun h3 hF => ?_
    · refine awp_true (by kernel_rfl) h3 ?_
      refine awp_seq ?_
      refine awp_region ?_
      refine aR 2 ?_
      refine aE ?_
      refine awp_ret ?_
      exact oO hF [] [] rfl
    · refine awp_false (by kernel_rfl) h3 ?_
      refine awp_skip ?_
      refine awp_region ?_
      refine aR 2 ?_
      refine aE ?_
      exact oO hF [] [] rfl
  · refine awp_false (by kernel_rfl) h1 ?_
    refine awp_exit ?_
    exact oO hF [] [] rfl

def fleetlaw2_errs_R (ql : List Int) (r : Int) : TV × Mem := (.v (.one (.d (.int .i64 r))), ⟨[], []⟩)

theorem fleetlaw2_errs_ok {ql : List Int} {r} (hF : fleetlaw2_errs ql = some r) : Holds prog 15 [.v (.one (.d (.lst (List.map (encI .i64) ql))))] ⟨[], []⟩ (Is (fleetlaw2_errs_R ql r)) := by
  unfold fleetlaw2_errs at hF
  refine holds_of_awp hΓ (fn := f15) (c := cB f15) (A := 0) (nx := 0) (by kernel_rfl) (by kernel_rfl) (by kernel_rfl) (by kernel_rfl) (by kernel_rfl) (by kernel_rfl) (lowc_of (by kernel_rfl)) ?_
  show Awp prog 0 15 (cB f15) _ _
  refine awp_seq ?_
  refine awp_region ?_
  refine aR 1 ?_
  refine aE ?_
  refine awp_seq ?_
  refine awp_seq ?_
  refine awp_region ?_
  refine aR 1 ?_
  refine aL (encI .i64) ql ?_
  refine aR 1 ?_
  refine aE ?_
  refine awp_block ?_
  refine awp_to (st' := fleetlaw2_errs_x1_H ql 0) (oT [] []) ?_
  refine bE hF fun x h4 hF => ?_
  rcases x with _ | vx1_1
  · refine awp_sub (awp_loop' (fleetlaw2_errs_x1_H ql) fleetlaw2_errs_x1_k (fleetlaw2_errs_x1_S ql) (by intro x; rcases x with x | x <;> exact fun h => nomatch h) h4 (fleetlaw2_errs_x1_ok ql)) ?_
    refine awp_seq ?_
    refine awp_region ?_
    refine aR 1 ?_
    refine aE ?_
    refine awp_ret ?_
    exact oF hF [] []
  · refine awp_sub (awp_loop' (fleetlaw2_errs_x1_H ql) fleetlaw2_errs_x1_k (fleetlaw2_errs_x1_S ql) (by intro x; rcases x with x | x <;> exact fun h => nomatch h) h4 (fleetlaw2_errs_x1_ok ql)) ?_
    exact oF hF [] []

/-! ### beaconfleet/fleetref2.FixesOf -/
def fleetref2_FixesOf_x2_k : Bool → AEx
  | _ => .normal

def fleetref2_FixesOf_x2_S (vr : List api_Fix) (vx : Int) : Bool → St
  | vx2 => Mem.st ⟨[(0, ⟨33, 5, List.map api_Fix.enc vr⟩)], []⟩ (tl [(6, .v (.one (.own 0 none))), (17, .v (.one (.d (.int .i64 (vr.length : Int))))), (18, .v (.one (.d (.int .i64 vx)))), (35, .v (.one (.d (.bool vx2))))]) 1

def fleetref2_FixesOf_x2_I (vr : List api_Fix) (vx : Int) : St := Mem.st ⟨[(0, ⟨33, 5, List.map api_Fix.enc vr⟩)], []⟩ (tl [(6, .v (.one (.own 0 none))), (7, .v (.one (.d (.int .i64 vx)))), (17, .v (.one (.d (.int .i64 (vr.length : Int))))), (18, .v (.one (.d (.int .i64 vx))))]) 1

theorem fleetref2_FixesOf_x2_ok (vr : List api_Fix) (vx : Int) {r} (hF : fleetref2_FixesOf_x2 vr vx = some r) : Awp prog 0 41 (cL (cR (cL (cL (cR (cR (cL (cL (cR (cL (cR (cR (cR (cR (cB f18))))))))))))))) (Out 0 fleetref2_FixesOf_x2_k (fleetref2_FixesOf_x2_S vr vx) r) (fleetref2_FixesOf_x2_I vr vx) := by
  unfold fleetref2_FixesOf_x2 at hF
  refine cE hF (fun h6 hF => ?_) fun h6 hF => ?_
  · refine bE hF fun vy2 h7 hF => ?_
    refine bE hF fun vy3 h8 hF => ?_
    refine bE hF fun vr1_2 h9 hF => ?_
    refine aD ?_
    refine dR 1 ?_
    refine dB h6 ?_
    refine dR 4 ?_
    refine dX (x_idxO api_Fix.enc 0 h7) ?_
    refine dX (x_ldE api_Fix.enc h7) ?_
    refine dR 2 ?_
    refine dX (x_idxO api_Fix.enc 0 h8) ?_
    refine dX (x_ldE api_Fix.enc h8) ?_
    refine dC (fleetref2_FixOrder_ok h9) [] [] [] ?_
    refine dR 2 ?_
    refine dE ?_
    exact oO hF [] [] rfl
  · refine aD ?_
    refine dR 1 ?_
    refine dB h6 ?_
    refine dR 13 ?_
    refine dE ?_
    exact oO hF [] [] rfl

def fleetref2_FixesOf_x1_k : Unit ⊕ Unit → AEx
  | .inl _ => .exit 0
  | .inr _ => .ret

def fleetref2_FixesOf_x1_S (vr : List api_Fix) : Unit ⊕ Unit → St
  | .inl _ => Mem.st ⟨[(0, ⟨33, 5, List.map api_Fix.enc vr⟩)], []⟩ (tl [(6, .v (.one (.own 0 none)))]) 1
  | .inr _ => Mem.st ⟨[], []⟩ (tl [(4, .v (.one (.nil))), (5, .v (.one (.d (.int .i64 13))))]) 0

def fleetref2_FixesOf_x1_H (vr : List api_Fix) : Int → St
  | vx => Mem.st ⟨[(0, ⟨33, 5, List.map api_Fix.enc vr⟩)], []⟩ (tl [(6, .v (.one (.own 0 none))), (17, .v (.one (.d (.int .i64 (vr.length : Int))))), (18, .v (.one (.d (.int .i64 vx))))]) 1

theorem fleetref2_FixesOf_x1_ok (vr : List api_Fix) (vx : Int) (r : (Int) ⊕ (Unit ⊕ Unit)) (hF : fleetref2_FixesOf_x1 vr vx = some r) : Awp prog 0 41 (cL (cL (cR (cL (cR (cR (cR (cR (cB f18))))))))) (Out 0 (kk fleetref2_FixesOf_x1_k) (SS (fleetref2_FixesOf_x1_H vr) (fleetref2_FixesOf_x1_S vr)) r) (fleetref2_FixesOf_x1_H vr vx) := by
  unfold fleetref2_FixesOf_x1 at hF
  refine awp_seq ?_
  refine awp_region ?_
  refine aR 1 ?_
  refine aE ?_
  refine awp_seq ?_
  refine cE hF (fun h5 hF => ?_) fun h5 hF => ?_
  · refine awp_true (by kernel_rfl) h5 ?_
    refine awp_skip ?_
    refine awp_seq ?_
    refine awp_block ?_
    refine awp_seq ?_
    refine awp_region ?_
    refine aR 2 ?_
    refine aE ?_
    refine awp_seq ?_
    refine awp_to (st' := fleetref2_FixesOf_x2_I vr vx) (oT [] []) ?_
    refine bE hF fun vx2_1 h10 hF => ?_
    refine awp_sub (fleetref2_FixesOf_x2_ok vr vx h10) ?_
    refine cE hF (fun h11 hF => ?_) fun h11 hF => ?_
    · refine awp_true (by kernel_rfl) h11 ?_
      refine awp_seq ?_
      refine awp_region ?_
      refine aR 2 ?_
      refine aE ?_
      refine awp_ret ?_
      exact oO hF [] [] rfl
    · refine awp_false (by kernel_rfl) h11 ?_
      refine awp_skip ?_
      refine awp_region ?_
      refine aR 2 ?_
      refine aE ?_
      exact oO hF [] [] rfl
  · refine awp_false (by kernel_rfl) h5 ?_
    refine awp_exit ?_
    exact oO hF [] [] rfl

def fleetref2_FixesOf_R (qa : List api_Fix) (qb : List api_Fix) (r : (List api_Fix) × Int) : TV × Mem := (.tup [.one (.own 0 none), .one (.d (.int .i64 r.2))], ⟨[(0, ⟨33, 5, List.map api_Fix.enc r.1⟩)], []⟩)

theorem fleetref2_FixesOf_ok {qa : List api_Fix} {qb : List api_Fix} {r} (hF : fleetref2_FixesOf qa qb = some r) : Holds prog 18 [.v (.one (.d (.lst (List.map api_Fix.enc qa)))), .v (.one (.d (.lst (List.map api_Fix.enc qb))))] ⟨[], []⟩ (Is (fleetref2_FixesOf_R qa qb r)) := by
  unfold fleetref2_FixesOf at hF
  refine holds_of_awp hΓ (fn := f18) (c := cB f18) (A := 0) (nx := 0) (by kernel_rfl) (by kernel_rfl) (by kernel_rfl) (by kernel_rfl) (by kernel_rfl) (by kernel_rfl) (lowc_of (by kernel_rfl)) ?_
  show Awp prog 0 41 (cB f18) _ _
  refine awp_seq ?_
  refine awp_region ?_
  refine aR 2 ?_
  refine aE ?_
  refine awp_seq ?_
  refine bE hF fun vr1 h1 hF => ?_
  refine awp_region ?_
  refine aR 3 ?_
  refine aC (slices_Concat_api_Fix_api_Fix_o0_ok h1) [(0, 4000)] [] [] ?_
  refine aR 1 ?_
  refine aE ?_
  refine awp_seq ?_
  refine bE hF fun vl h2 hF => ?_
  refine gE hF fun h3 hF => ?_
  refine awp_region ?_
  refine aR 1 ?_
  refine aCp (slices_SortStableFunc_api_Fix_api_Fix_o0_f1_fleetref2_FixOrder_ok h2) ⟨⟨rfl, rfl, pin1 h3⟩, trivial⟩ [(0, 5001)] [] [] ?_
  refine aE ?_
  refine awp_seq ?_
  refine bE hF fun vr h4 hF => ?_
  refine awp_region ?_
  refine aR 1 ?_
  refine aC (slices_Compact_api_Fix_api_Fix_o0_ok h4) [(0, 5001)] [] [] ?_
  refine aR 1 ?_
  refine aE ?_
  refine awp_seq ?_
  refine awp_seq ?_
  refine awp_region ?_
  refine aR 1 ?_
  refine aL api_Fix.enc vr ?_
  refine aR 1 ?_
  refine aE ?_
  refine awp_block ?_
  refine awp_to (st' := fleetref2_FixesOf_x1_H vr 0) (oT [(0, 10001)] []) ?_
  refine bE hF fun x h12 hF => ?_
  rcases x with _ | _
  · refine awp_sub (awp_loop' (fleetref2_FixesOf_x1_H vr) fleetref2_FixesOf_x1_k (fleetref2_FixesOf_x1_S vr) (by intro x; rcases x with x | x <;> exact fun h => nomatch h) h12 (fleetref2_FixesOf_x1_ok vr)) ?_
    refine awp_seq ?_
    refine awp_seq ?_
    refine awp_region ?_
    refine aR 1 ?_
    refine aL api_Fix.enc vr ?_
    refine aR 1 ?_
    refine aE ?_
    refine cE hF (fun h13 hF => ?_) fun h13 hF => ?_
    · refine awp_true (by kernel_rfl) h13 ?_
      refine awp_seq ?_
      refine awp_region ?_
      refine aR 2 ?_
      refine aE ?_
      refine awp_ret ?_
      exact oF hF [] [0]
    · refine awp_false (by kernel_rfl) h13 ?_
      refine awp_skip ?_
      refine awp_seq ?_
      refine awp_region ?_
      refine aR 3 ?_
      refine aE ?_
      refine awp_ret ?_
      exact oF hF [] []
  · refine awp_sub (awp_loop' (fleetref2_FixesOf_x1_H vr) fleetref2_FixesOf_x1_k (fleetref2_FixesOf_x1_S vr) (by intro x; rcases x with x | x <;> exact fun h => nomatch h) h12 (fleetref2_FixesOf_x1_ok vr)) ?_
    exact oF hF [] [0]

/-! ### beaconfleet/fleetlaw2.FixesMerge$1 -/
def fleetlaw2_FixesMerge_1_R (qz : api_Fix) (qx : List UInt8) (r : Unit) : TV × Mem := (.v (.one (.d (.bool (!decide (qz.Device = qx))))), ⟨[], [(0, [.d (.str qx)])]⟩)

theorem fleetlaw2_FixesMerge_1_ok {qz : api_Fix} {qx : List UInt8} {r} (hF : fleetlaw2_FixesMerge_1 qz qx = some r) : Holds prog 20 [.v (.agg [.d (.str qz.Device), .d (.int .i64 qz.At), .d (.int .i64 qz.X), .d (.int .i64 qz.Y), .d (.int .i64 qz.Error)]), .v (.one (.box 0 0))] ⟨[], [(0, [.d (.str qx)])]⟩ (Is (fleetlaw2_FixesMerge_1_R qz qx r)) := by
  unfold fleetlaw2_FixesMerge_1 at hF
  refine holds_of_awp hΓ (fn := f20) (c := cB f20) (A := 1) (nx := 1) (by kernel_rfl) (by kernel_rfl) (by kernel_rfl) (by kernel_rfl) (by kernel_rfl) (by kernel_rfl) (lowc_of (by kernel_rfl)) ?_
  show Awp prog 1 8 (cB f20) _ _
  refine awp_seq ?_
  refine awp_region ?_
  refine aR 2 ?_
  refine aE ?_
  refine awp_seq ?_
  refine awp_region ?_
  refine aR 5 ?_
  refine aE ?_
  refine awp_ret ?_
  exact oF hF [] []

/-! ### slices.IndexFunc[[]beaconfleet/api.Fix,beaconfleet/api.Fix] -/
def slices_IndexFunc_api_Fix_api_Fix_f1_fleetlaw2_FixesMerge_1_x1_k : Unit ⊕ Int → AEx
  | .inl _ => .exit 0
  | .inr _ => .ret

def slices_IndexFunc_api_Fix_api_Fix_f1_fleetlaw2_FixesMerge_1_x1_S (qs : List api_Fix) (qf : List UInt8) : Unit ⊕ Int → St
  | .inl _ => Mem.st ⟨[], [(0, [.d (.str qf)])]⟩ (tl []) 1
  | .inr vx1 => Mem.st ⟨[], [(0, [.d (.str qf)])]⟩ (tl [(4, .v (.one (.d (.int .i64 vx1))))]) 1

def slices_IndexFunc_api_Fix_api_Fix_f1_fleetlaw2_FixesMerge_1_x1_H (qs : List api_Fix) (qf : List UInt8) : Int → St
  | vx => Mem.st ⟨[], [(0, [.d (.str qf)])]⟩ (tl [(0, .v (.one (.d (.lst (List.map api_Fix.enc qs))))), (1, .v (.one (.fn 20 [0]))), (7, .v (.one (.d (.int .i64 (qs.length : Int))))), (8, .v (.one (.d (.int .i64 vx))))]) 1

theorem slices_IndexFunc_api_Fix_api_Fix_f1_fleetlaw2_FixesMerge_1_x1_ok (qs : List api_Fix) (qf : List UInt8) (vx : Int) (r : (Int) ⊕ (Unit ⊕ Int)) (hF : slices_IndexFunc_api_Fix_api_Fix_f1_fleetlaw2_FixesMerge_1_x1 qs qf vx = some r) : Awp prog 1 19 (cL (cL (cR (cL (cR (cB f59)))))) (Out 1 (kk slices_IndexFunc_api_Fix_api_Fix_f1_fleetlaw2_FixesMerge_1_x1_k) (SS (slices_IndexFunc_api_Fix_api_Fix_f1_fleetlaw2_FixesMerge_1_x1_H qs qf) (slices_IndexFunc_api_Fix_api_Fix_f1_fleetlaw2_FixesMerge_1_x1_S qs qf)) r) (slices_IndexFunc_api_Fix_api_Fix_f1_fleetlaw2_FixesMerge_1_x1_H qs qf vx) := by
  unfold slices_IndexFunc_api_Fix_api_Fix_f1_fleetlaw2_FixesMerge_1_x1 at hF
  refine awp_seq ?_
  refine awp_region ?_
  refine aR 1 ?_
  refine aE ?_
  refine awp_seq ?_
  refine cE hF (fun h1 hF => ?_) fun h1 hF => ?_
  · refine awp_true (by kernel_rfl) h1 ?_
    refine awp_skip ?_
    refine awp_seq ?_
    refine awp_block ?_
    refine awp_seq ?_
    refine awp_region ?_
    refine aR 2 ?_
    refine aE ?_
    refine awp_seq ?_
    refine bE hF fun vy1 h2 hF => ?_
    refine bE hF fun _ h3 hF => ?_
    refine awp_region ?_
    refine aR 3 ?_
    refine aX (x_idx api_Fix.enc h2) ?_
    refine aR 1 ?_
    refine aC (fleetlaw2_FixesMerge_1_ok h3) [] [] [] ?_
    refine aE ?_
    refine cE hF (fun h4 hF => ?_) fun h4 hF => ?_
    · refine awp_true (by kernel_rfl) h4 ?_
      refine awp_seq ?_
      refine awp_region ?_
      refine aR 2 ?_
      refine aE ?_
      refine awp_ret ?_
      exact oO hF [] [] rfl
    · refine awp_false (by kernel_rfl) h4 ?_
      refine awp_skip ?_
      refine awp_region ?_
      refine aR 2 ?_
      refine aE ?_
      exact oO hF [] [] rfl
  · refine awp_false (by kernel_rfl) h1 ?_
    refine awp_exit ?_
    exact oO hF [] [] rfl

def slices_IndexFunc_api_Fix_api_Fix_f1_fleetlaw2_FixesMerge_1_R (qs : List api_Fix) (qf : List UInt8) (r : Int) : TV × Mem := (.v (.one (.d (.int .i64 r))), ⟨[], [(0, [.d (.str qf)])]⟩)

theorem slices_IndexFunc_api_Fix_api_Fix_f1_fleetlaw2_FixesMerge_1_ok {qs : List api_Fix} {qf : List UInt8} {r} (hF : slices_IndexFunc_api_Fix_api_Fix_f1_fleetlaw2_FixesMerge_1 qs qf = some r) : Holds prog 59 [.v (.one (.d (.lst (List.map api_Fix.enc qs)))), .v (.one (.fn 20 [0]))] ⟨[], [(0, [.d (.str qf)])]⟩ (Is (slices_IndexFunc_api_Fix_api_Fix_f1_fleetlaw2_FixesMerge_1_R qs qf r)) := by
  unfold slices_IndexFunc_api_Fix_api_Fix_f1_fleetlaw2_FixesMerge_1 at hF
  refine holds_of_awp hΓ (fn := f59) (c := cB f59) (A := 1) (nx := 1) (by kernel_rfl) (by kernel_rfl) (by kernel_rfl) (by kernel_rfl) (by kernel_rfl) (by kernel_rfl) (lowc_of (by kernel_rfl)) ?_
  show Awp prog 1 19 (cB f59) _ _
  refine awp_seq ?_
  refine awp_region ?_
  refine aR 1 ?_
  refine aE ?_
  refine awp_seq ?_
  refine awp_seq ?_
  refine awp_region ?_
  refine aR 1 ?_
  refine aL api_Fix.enc qs ?_
  refine aR 1 ?_
  refine aE ?_
  refine awp_block ?_
  refine awp_to (st' := slices_IndexFunc_api_Fix_api_Fix_f1_fleetlaw2_FixesMerge_1_x1_H qs qf 0) (oT [] []) ?_
  refine bE hF fun x h5 hF => ?_
  rcases x with _ | vx1_1
  · refine awp_sub (awp_loop' (slices_IndexFunc_api_Fix_api_Fix_f1_fleetlaw2_FixesMerge_1_x1_H qs qf) slices_IndexFunc_api_Fix_api_Fix_f1_fleetlaw2_FixesMerge_1_x1_k (slices_IndexFunc_api_Fix_api_Fix_f1_fleetlaw2_FixesMerge_1_x1_S qs qf) (by intro x; rcases x with x | x <;> exact fun h => nomatch h) h5 (slices_IndexFunc_api_Fix_api_Fix_f1_fleetlaw2_FixesMerge_1_x1_ok qs qf)) ?_
    refine awp_seq ?_
    refine awp_region ?_
    refine aR 1 ?_
    refine aE ?_
    refine awp_ret ?_
    exact oF hF [] []
  · refine awp_sub (awp_loop' (slices_IndexFunc_api_Fix_api_Fix_f1_fleetlaw2_FixesMerge_1_x1_H qs qf) slices_IndexFunc_api_Fix_api_Fix_f1_fleetlaw2_FixesMerge_1_x1_k (slices_IndexFunc_api_Fix_api_Fix_f1_fleetlaw2_FixesMerge_1_x1_S qs qf) (by intro x; rcases x with x | x <;> exact fun h => nomatch h) h5 (slices_IndexFunc_api_Fix_api_Fix_f1_fleetlaw2_FixesMerge_1_x1_ok qs qf)) ?_
    exact oF hF [] []

/-! ### slices.DeleteFunc[[]beaconfleet/api.Fix,beaconfleet/api.Fix] -/
def slices_DeleteFunc_api_Fix_api_Fix_o0_f1_fleetlaw2_FixesMerge_1_x2_k : ((List api_Fix) × Int) → AEx
  | _ => .normal

def slices_DeleteFunc_api_Fix_api_Fix_o0_f1_fleetlaw2_FixesMerge_1_x2_S (qdel : List UInt8) (vl : List api_Fix) (vi : Int) (vj : Int) : ((List api_Fix) × Int) → St
  | (vl2, vi2) => Mem.st ⟨[(1, ⟨33, 5, List.map api_Fix.enc vl2⟩)], [(0, [.d (.str qdel)])]⟩ (tl [(0, .v (.one (.own 1 none))), (1, .v (.one (.fn 20 [0]))), (5, .v (.one (.d (.int .i64 vi2)))), (6, .v (.one (.d (.int .i64 vj))))]) 2

def slices_DeleteFunc_api_Fix_api_Fix_o0_f1_fleetlaw2_FixesMerge_1_x2_I (qdel : List UInt8) (vl : List api_Fix) (vi : Int) (vj : Int) : St := Mem.st ⟨[(1, ⟨33, 5, List.map api_Fix.enc vl⟩)], [(0, [.d (.str qdel)])]⟩ (tl [(0, .v (.one (.own 1 none))), (1, .v (.one (.fn 20 [0]))), (5, .v (.one (.d (.int .i64 vi)))), (6, .v (.one (.d (.int .i64 vj))))]) 2

theorem slices_DeleteFunc_api_Fix_api_Fix_o0_f1_fleetlaw2_FixesMerge_1_x2_ok (qdel : List UInt8) (vl : List api_Fix) (vi : Int) (vj : Int) {r} (hF : slices_DeleteFunc_api_Fix_api_Fix_o0_f1_fleetlaw2_FixesMerge_1_x2 qdel vl vi vj = some r) : Awp prog 2 42 (cL (cR (cL (cL (cR (cL (cR (cR (cR (cB f19)))))))))) (Out 2 slices_DeleteFunc_api_Fix_api_Fix_o0_f1_fleetlaw2_FixesMerge_1_x2_k (slices_DeleteFunc_api_Fix_api_Fix_o0_f1_fleetlaw2_FixesMerge_1_x2_S qdel vl vi vj) r) (slices_DeleteFunc_api_Fix_api_Fix_o0_f1_fleetlaw2_FixesMerge_1_x2_I qdel vl vi vj) := by
  unfold slices_DeleteFunc_api_Fix_api_Fix_o0_f1_fleetlaw2_FixesMerge_1_x2 at hF
  refine awp_block ?_
  refine awp_seq ?_
  refine bE hF fun vy2 h4 hF => ?_
  refine awp_region ?_
  refine aR 2 ?_
  refine aX (x_idxO api_Fix.enc 1 h4) ?_
  refine aX (x_ldE api_Fix.enc h4) ?_
  refine aR 2 ?_
  refine aE ?_
  refine awp_seq ?_
  refine bE hF fun _ h5 hF => ?_
  refine awp_region ?_
  refine aR 2 ?_
  refine aC (fleetlaw2_FixesMerge_1_ok h5) [] [] [] ?_
  refine aR 1 ?_
  refine aE ?_
  refine cE hF (fun h6 hF => ?_) fun h6 hF => ?_
  · refine awp_true (by kernel_rfl) h6 ?_
    refine awp_seq ?_
    refine bE hF fun vy3 h7 hF => ?_
    refine awp_region ?_
    refine aR 3 ?_
    refine aX (x_idxO api_Fix.enc 1 h7) ?_
    refine aX (x_stE api_Fix.enc vy2 h7) ?_
    refine aE ?_
    refine awp_region ?_
    refine aR 3 ?_
    refine aE ?_
    exact oO hF [] [] rfl
  · refine awp_false (by kernel_rfl) h6 ?_
    refine awp_skip ?_
    exact oO hF [] [] rfl

def slices_DeleteFunc_api_Fix_api_Fix_o0_f1_fleetlaw2_FixesMerge_1_x1_k : ((List api_Fix) × Int) → AEx
  | _ => .exit 0

def slices_DeleteFunc_api_Fix_api_Fix_o0_f1_fleetlaw2_FixesMerge_1_x1_S (qdel : List UInt8) : ((List api_Fix) × Int) → St
  | (vl3, vi3) => Mem.st ⟨[(1, ⟨33, 5, List.map api_Fix.enc vl3⟩)], [(0, [.d (.str qdel)])]⟩ (tl [(0, .v (.one (.own 1 none))), (5, .v (.one (.d (.int .i64 vi3))))]) 2

def slices_DeleteFunc_api_Fix_api_Fix_o0_f1_fleetlaw2_FixesMerge_1_x1_H (qdel : List UInt8) : (List api_Fix) × Int × Int → St
  | (vl, vi, vj) => Mem.st ⟨[(1, ⟨33, 5, List.map api_Fix.enc vl⟩)], [(0, [.d (.str qdel)])]⟩ (tl [(0, .v (.one (.own 1 none))), (1, .v (.one (.fn 20 [0]))), (5, .v (.one (.d (.int .i64 vi)))), (6, .v (.one (.d (.int .i64 vj))))]) 2

theorem slices_DeleteFunc_api_Fix_api_Fix_o0_f1_fleetlaw2_FixesMerge_1_x1_ok (qdel : List UInt8) (s : (List api_Fix) × Int × Int) (r : ((List api_Fix) × Int × Int) ⊕ (((List api_Fix) × Int))) (hF : slices_DeleteFunc_api_Fix_api_Fix_o0_f1_fleetlaw2_FixesMerge_1_x1 qdel s = some r) : Awp prog 2 42 (cL (cL (cR (cL (cR (cR (cR (cB f19)))))))) (Out 2 (kk slices_DeleteFunc_api_Fix_api_Fix_o0_f1_fleetlaw2_FixesMerge_1_x1_k) (SS (slices_DeleteFunc_api_Fix_api_Fix_o0_f1_fleetlaw2_FixesMerge_1_x1_H qdel) (slices_DeleteFunc_api_Fix_api_Fix_o0_f1_fleetlaw2_FixesMerge_1_x1_S qdel)) r) (slices_DeleteFunc_api_Fix_api_Fix_o0_f1_fleetlaw2_FixesMerge_1_x1_H qdel s) := by
  obtain ⟨vl, vi, vj⟩ := s
  unfold slices_DeleteFunc_api_Fix_api_Fix_o0_f1_fleetlaw2_FixesMerge_1_x1 at hF
  refine awp_seq ?_
  refine awp_seq ?_
  refine awp_region ?_
  refine aR 2 ?_
  refine aL api_Fix.enc vl ?_
  refine aR 1 ?_
  refine aE ?_
  refine cE hF (fun h3 hF => ?_) fun h3 hF => ?_
  · refine awp_true (by kernel_rfl) h3 ?_
    refine awp_skip ?_
    refine awp_seq ?_
    refine awp_to (st' := slices_DeleteFunc_api_Fix_api_Fix_o0_f1_fleetlaw2_FixesMerge_1_x2_I qdel vl vi vj) (oT [] []) ?_
    refine bE hF fun x h8 hF => ?_
    obtain ⟨vl2_1, vi2_1⟩ := x
    refine awp_sub (slices_DeleteFunc_api_Fix_api_Fix_o0_f1_fleetlaw2_FixesMerge_1_x2_ok qdel vl vi vj h8) ?_
    refine awp_region ?_
    refine aR 3 ?_
    refine aE ?_
    exact oO hF [] [] rfl
  · refine awp_false (by kernel_rfl) h3 ?_
    refine awp_exit ?_
    exact oO hF [] [] rfl

def slices_DeleteFunc_api_Fix_api_Fix_o0_f1_fleetlaw2_FixesMerge_1_R (qs : List api_Fix) (qdel : List UInt8) (r : (List api_Fix)) : TV × Mem := (.v (.one (.own 2 none)), ⟨[(2, ⟨33, 5, List.map api_Fix.enc r⟩)], [(0, [.d (.str qdel)])]⟩)

theorem slices_DeleteFunc_api_Fix_api_Fix_o0_f1_fleetlaw2_FixesMerge_1_ok {qs : List api_Fix} {qdel : List UInt8} {r} (hF : slices_DeleteFunc_api_Fix_api_Fix_o0_f1_fleetlaw2_FixesMerge_1 qs qdel = some r) : Holds prog 19 [.v (.one (.own 1 none)), .v (.one (.fn 20 [0]))] ⟨[(1, ⟨33, 5, List.map api_Fix.enc qs⟩)], [(0, [.d (.str qdel)])]⟩ (Is (slices_DeleteFunc_api_Fix_api_Fix_o0_f1_fleetlaw2_FixesMerge_1_R qs qdel r)) := by
  unfold slices_DeleteFunc_api_Fix_api_Fix_o0_f1_fleetlaw2_FixesMerge_1 at hF
  refine holds_of_awp hΓ (fn := f19) (c := cB f19) (A := 2) (nx := 2) (by kernel_rfl) (by kernel_rfl) (by kernel_rfl) (by kernel_rfl) (by kernel_rfl) (by kernel_rfl) (lowc_of (by kernel_rfl)) ?_
  show Awp prog 2 42 (cB f19) _ _
  refine awp_seq ?_
  refine awp_region ?_
  refine aR 1 ?_
  refine aE ?_
  refine awp_seq ?_
  refine bE hF fun vr h1 hF => ?_
  refine awp_region ?_
  refine aR 2 ?_
  refine aC (slices_IndexFunc_api_Fix_api_Fix_f1_fleetlaw2_FixesMerge_1_ok h1) [] [] [1] ?_
  refine aR 1 ?_
  refine aE ?_
  refine awp_seq ?_
  refine awp_seq ?_
  refine awp_region ?_
  refine aR 2 ?_
  refine aE ?_
  refine cE hF (fun h2 hF => ?_) fun h2 hF => ?_
  · refine awp_true (by kernel_rfl) h2 ?_
    refine awp_seq ?_
    refine awp_region ?_
    refine aR 2 ?_
    refine aE ?_
    refine awp_ret ?_
    exact oF hF [(2, 1)] []
  · refine awp_false (by kernel_rfl) h2 ?_
    refine awp_skip ?_
    refine awp_seq ?_
    refine awp_seq ?_
    refine awp_region ?_
    refine aR 3 ?_
    refine aE ?_
    refine awp_block ?_
    refine awp_to (st' := slices_DeleteFunc_api_Fix_api_Fix_o0_f1_fleetlaw2_FixesMerge_1_x1_H qdel (qs, vr, IntKind.wrap .i64 (vr + 1))) (oT [] []) ?_
    refine bE hF fun x h9 hF => ?_
    obtain ⟨vl3_1, vi3_1⟩ := x
    refine awp_sub (awp_loop' (slices_DeleteFunc_api_Fix_api_Fix_o0_f1_fleetlaw2_FixesMerge_1_x1_H qdel) slices_DeleteFunc_api_Fix_api_Fix_o0_f1_fleetlaw2_FixesMerge_1_x1_k (slices_DeleteFunc_api_Fix_api_Fix_o0_f1_fleetlaw2_FixesMerge_1_x1_S qdel) (by intro x; exact fun h => nomatch h) h9 (slices_DeleteFunc_api_Fix_api_Fix_o0_f1_fleetlaw2_FixesMerge_1_x1_ok qdel)) ?_
    refine awp_seq ?_
    refine gE hF fun h10 hF => ?_
    refine awp_region ?_
    refine aR 2 ?_
    refine aX (x_viewN api_Fix.enc 1 h10) ?_
    refine aCl api_Fix.enc 1 (xs := vl3_1) (y := api_Fix.mk ([] : List UInt8) 0 0 0 0) (lo := vi3_1) (hi := (vl3_1.length : Int)) rfl ?_
    refine aE ?_
    refine awp_seq ?_
    refine gE hF fun h11 hF => ?_
    refine awp_region ?_
    refine aR 2 ?_
    refine aT api_Fix.enc 1 h11 rfl ?_
    refine aR 1 ?_
    refine aE ?_
    refine awp_ret ?_
    exact oF hF [(2, 6002)] []

/-! ### slices.Equal[[]beaconfleet/api.Fix,beaconfleet/api.Fix] -/
def slices_Equal_api_Fix_api_Fix_x1_k : Unit ⊕ Unit → AEx
  | .inl _ => .exit 0
  | .inr _ => .ret

def slices_Equal_api_Fix_api_Fix_x1_S (qs1 : List api_Fix) (qs2 : List api_Fix) : Unit ⊕ Unit → St
  | .inl _ => Mem.st ⟨[], []⟩ (tl []) 0
  | .inr _ => Mem.st ⟨[], []⟩ (tl [(4, .v (.one (.d (.bool false))))]) 0

def slices_Equal_api_Fix_api_Fix_x1_H (qs1 : List api_Fix) (qs2 : List api_Fix) : Int → St
  | vx => Mem.st ⟨[], []⟩ (tl [(0, .v (.one (.d (.lst (List.map api_Fix.enc qs1))))), (1, .v (.one (.d (.lst (List.map api_Fix.enc qs2))))), (12, .v (.one (.d (.int .i64 (qs1.length : Int))))), (13, .v (.one (.d (.int .i64 vx))))]) 0

theorem slices_Equal_api_Fix_api_Fix_x1_ok (qs1 : List api_Fix) (qs2 : List api_Fix) (vx : Int) (r : (Int) ⊕ (Unit ⊕ Unit)) (hF : slices_Equal_api_Fix_api_Fix_x1 qs1 qs2 vx = some r) : Awp prog 0 26 (cL (cL (cR (cL (cR (cR (cB f21))))))) (Out 0 (kk slices_Equal_api_Fix_api_Fix_x1_k) (SS (slices_Equal_api_Fix_api_Fix_x1_H qs1 qs2) (slices_Equal_api_Fix_api_Fix_x1_S qs1 qs2)) r) (slices_Equal_api_Fix_api_Fix_x1_H qs1 qs2 vx) := by
  unfold slices_Equal_api_Fix_api_Fix_x1 at hF
  refine awp_seq ?_
  refine awp_region ?_
  refine aR 1 ?_
  refine aE ?_
  refine awp_seq ?_
  refine cE hF (fun h2 hF => ?_) fun h2 hF => ?_
  · refine awp_true (by kernel_rfl) h2 ?_
    refine awp_skip ?_
    refine awp_seq ?_
    refine awp_block ?_
    refine awp_seq ?_
    refine awp_region ?_
    refine aR 2 ?_
    refine aE ?_
    refine awp_seq ?_
    refine bE hF fun vy2 h3 hF => ?_
    refine bE hF fun vy3 h4 hF => ?_
    refine aD ?_
    refine dR 2 ?_
    refine dX (x_idx api_Fix.enc h3) ?_
    refine dR 3 ?_
    refine dX (x_idx api_Fix.enc h4) ?_
    refine dR 1 ?_
    refine dS (U := []) (stable_eqS (op := .neq) (xs := [.str vy2.Device, .int .i64 vy2.At, .int .i64 vy2.X, .int .i64 vy2.Y, .int .i64 vy2.Error]) (ys := [.str vy3.Device, .int .i64 vy3.At, .int .i64 vy3.X, .int .i64 vy3.Y, .int .i64 vy3.Error]) (b := (decide (vy2.Device = vy3.Device) && (decide (vy2.At = vy3.At) && (decide (vy2.X = vy3.X) && (decide (vy2.Y = vy3.Y) && (decide (vy2.Error = vy3.Error) && true)))))) (c := (!(decide (vy2.Device = vy3.Device) && (decide (vy2.At = vy3.At) && (decide (vy2.X = vy3.X) && (decide (vy2.Y = vy3.Y) && (decide (vy2.Error = vy3.Error) && true))))))) rfl (.inr ⟨rfl, rfl⟩) (by kernel_rfl) (by kernel_rfl) (by kernel_rfl) (by kernel_rfl) (by kernel_rfl) (by kernel_rfl)) ?_
    refine dE ?_
    refine cE hF (fun h5 hF => ?_) fun h5 hF => ?_
    · refine awp_true (by kernel_rfl) h5 ?_
      refine awp_seq ?_
      refine awp_region ?_
      refine aR 1 ?_
      refine aE ?_
      refine awp_ret ?_
      exact oO hF [] [] rfl
    · refine awp_false (by kernel_rfl) h5 ?_
      refine awp_skip ?_
      refine awp_region ?_
      refine aR 2 ?_
      refine aE ?_
      exact oO hF [] [] rfl
  · refine awp_false (by kernel_rfl) h2 ?_
    refine awp_exit ?_
    exact oO hF [] [] rfl

def slices_Equal_api_Fix_api_Fix_R (qs1 : List api_Fix) (qs2 : List api_Fix) (r : Bool) : TV × Mem := (.v (.one (.d (.bool r))), ⟨[], []⟩)

theorem slices_Equal_api_Fix_api_Fix_ok {qs1 : List api_Fix} {qs2 : List api_Fix} {r} (hF : slices_Equal_api_Fix_api_Fix qs1 qs2 = some r) : Holds prog 21 [.v (.one (.d (.lst (List.map api_Fix.enc qs1)))), .v (.one (.d (.lst (List.map api_Fix.enc qs2))))] ⟨[], []⟩ (Is (slices_Equal_api_Fix_api_Fix_R qs1 qs2 r)) := by
  unfold slices_Equal_api_Fix_api_Fix at hF
  refine holds_of_awp hΓ (fn := f21) (c := cB f21) (A := 0) (nx := 0) (by kernel_rfl) (by kernel_rfl) (by kernel_rfl) (by kernel_rfl) (by kernel_rfl) (by kernel_rfl) (lowc_of (by kernel_rfl)) ?_
  show Awp prog 0 26 (cB f21) _ _
  refine awp_seq ?_
  refine awp_region ?_
  refine aR 1 ?_
  refine aE ?_
  refine awp_seq ?_
  refine awp_seq ?_
  refine awp_region ?_
  refine aR 1 ?_
  refine aL api_Fix.enc qs1 ?_
  refine aR 1 ?_
  refine aL api_Fix.enc qs2 ?_
  refine aR 1 ?_
  refine aE ?_
  refine cE hF (fun h1 hF => ?_) fun h1 hF => ?_
  · refine awp_true (by kernel_rfl) h1 ?_
    refine awp_seq ?_
    refine awp_region ?_
    refine aR 1 ?_
    refine aE ?_
    refine awp_ret ?_
    exact oF hF [] []
  · refine awp_false (by kernel_rfl) h1 ?_
    refine awp_skip ?_
    refine awp_seq ?_
    refine awp_seq ?_
    refine awp_region ?_
    refine aR 1 ?_
    refine aL api_Fix.enc qs1 ?_
    refine aR 1 ?_
    refine aE ?_
    refine awp_block ?_
    refine awp_to (st' := slices_Equal_api_Fix_api_Fix_x1_H qs1 qs2 0) (oT [] []) ?_
    refine bE hF fun x h6 hF => ?_
    rcases x with _ | _
    · refine awp_sub (awp_loop' (slices_Equal_api_Fix_api_Fix_x1_H qs1 qs2) slices_Equal_api_Fix_api_Fix_x1_k (slices_Equal_api_Fix_api_Fix_x1_S qs1 qs2) (by intro x; rcases x with x | x <;> exact fun h => nomatch h) h6 (slices_Equal_api_Fix_api_Fix_x1_ok qs1 qs2)) ?_
      refine awp_seq ?_
      refine awp_region ?_
      refine aR 1 ?_
      refine aE ?_
      refine awp_ret ?_
      exact oF hF [] []
    · refine awp_sub (awp_loop' (slices_Equal_api_Fix_api_Fix_x1_H qs1 qs2) slices_Equal_api_Fix_api_Fix_x1_k (slices_Equal_api_Fix_api_Fix_x1_S qs1 qs2) (by intro x; rcases x with x | x <;> exact fun h => nomatch h) h6 (slices_Equal_api_Fix_api_Fix_x1_ok qs1 qs2)) ?_
      exact oF hF [] []

/-! ### beaconfleet/place.Cell -/
def place_Cell_x1_k : Bool → AEx
  | _ => .normal

def place_Cell_x1_S (qs : api_Spot) (qlevel : Int) : Bool → St
  | vx => Mem.st ⟨[], [(0, [.d (.int .i64 qs.X), .d (.int .i64 qs.Y)])]⟩ (tl [(1, .v (.one (.d (.int .i64 qlevel)))), (2, .v (.one (.box 0 0))), (16, .v (.one (.d (.bool vx))))]) 1

def place_Cell_x1_I (qs : api_Spot) (qlevel : Int) : St := Mem.st ⟨[], [(0, [.d (.int .i64 qs.X), .d (.int .i64 qs.Y)])]⟩ (tl [(1, .v (.one (.d (.int .i64 qlevel)))), (2, .v (.one (.box 0 0)))]) 1

theorem place_Cell_x1_ok (qs : api_Spot) (qlevel : Int) {r} (hF : place_Cell_x1 qs qlevel = some r) : Awp prog 0 47 (cL (cL (cR (cB f60)))) (Out 0 place_Cell_x1_k (place_Cell_x1_S qs qlevel) r) (place_Cell_x1_I qs qlevel) := by
  unfold place_Cell_x1 at hF
  refine bE hF fun vr2 h1 hF => ?_
  refine cE hF (fun h2 hF => ?_) fun h2 hF => ?_
  · refine awp_region ?_
    refine aR 1 ?_
    refine aC (place_isSpot_ok h1) [] [] [] ?_
    refine aB h2 ?_
    refine aR 4 ?_
    refine aE ?_
    exact oO hF [] [] rfl
  · refine bE hF fun vr h3 hF => ?_
    refine awp_region ?_
    refine aR 1 ?_
    refine aC (place_isSpot_ok h1) [] [] [] ?_
    refine aB h2 ?_
    refine aR 2 ?_
    refine aC (base_Out_ok h3) [] [] [] ?_
    refine aR 1 ?_
    refine aE ?_
    exact oO hF [] [] rfl

def place_Cell_x2_k : (List Int) → AEx
  | _ => .exit 0

def place_Cell_x2_S (qs : api_Spot) (qlevel : Int) : (List Int) → St
  | vout1 => Mem.st ⟨[(0, ⟨5, 1, List.map (encI .u8) vout1⟩)], []⟩ (tl [(6, .v (.one (.own 0 none)))]) 1

def place_Cell_x2_H (qs : api_Spot) (qlevel : Int) : (List Int) × Int × Int → St
  | (vout, vlong, vx2) => Mem.st ⟨[(0, ⟨5, 1, List.map (encI .u8) vout⟩)], []⟩ (tl [(6, .v (.one (.own 0 none))), (7, .v (.one (.d (.int .i64 (IntKind.wrap .i64 (qs.X - (-16384))))))), (8, .v (.one (.d (.int .i64 (IntKind.wrap .i64 (qs.Y - (-16384))))))), (9, .v (.one (.d (.int .i64 vlong)))), (23, .v (.one (.d (.int .i64 qlevel)))), (24, .v (.one (.d (.int .i64 vx2))))]) 1

theorem place_Cell_x2_ok (qs : api_Spot) (qlevel : Int) (s : (List Int) × Int × Int) (r : ((List Int) × Int × Int) ⊕ ((List Int))) (hF : place_Cell_x2 qs qlevel s = some r) : Awp prog 0 47 (cL (cL (cR (cL (cR (cR (cR (cR (cB f60))))))))) (Out 0 (kk place_Cell_x2_k) (SS (place_Cell_x2_H qs qlevel) (place_Cell_x2_S qs qlevel)) r) (place_Cell_x2_H qs qlevel s) := by
  obtain ⟨vout, vlong, vx2⟩ := s
  unfold place_Cell_x2 at hF
  refine awp_seq ?_
  refine awp_region ?_
  refine aR 1 ?_
  refine aE ?_
  refine awp_seq ?_
  refine cE hF (fun h6 hF => ?_) fun h6 hF => ?_
  · refine awp_true (by kernel_rfl) h6 ?_
    refine awp_skip ?_
    refine awp_seq ?_
    refine awp_block ?_
    refine awp_seq ?_
    refine awp_region ?_
    refine aR 3 ?_
    refine aE ?_
    refine gE hF fun h7 hF => ?_
    refine gE hF fun h8 hF => ?_
    refine aD ?_
    refine dR 3 ?_
    refine dX (x_quo h7) ?_
    refine dR 5 ?_
    refine dX (x_quo h7) ?_
    refine dR 5 ?_
    refine dX (x_app (encI .u8) 0 h8) ?_
    refine dR 1 ?_
    refine dE ?_
    refine awp_region ?_
    refine aR 2 ?_
    refine aE ?_
    exact oO hF [(0, 19001)] [] rfl
  · refine awp_false (by kernel_rfl) h6 ?_
    refine awp_exit ?_
    exact oO hF [] [] rfl

def place_Cell_R (qs : api_Spot) (qlevel : Int) (r : (List UInt8) × Int) : TV × Mem := (.tup [.one (.d (.str r.1)), .one (.d (.int .i64 r.2))], ⟨[], []⟩)

theorem place_Cell_ok {qs : api_Spot} {qlevel : Int} {r} (hF : place_Cell qs qlevel = some r) : Holds prog 60 [.v (.agg [.d (.int .i64 qs.X), .d (.int .i64 qs.Y)]), .v (.one (.d (.int .i64 qlevel)))] ⟨[], []⟩ (Is (place_Cell_R qs qlevel r)) := by
  unfold place_Cell at hF
  refine holds_of_awp hΓ (fn := f60) (c := cB f60) (A := 0) (nx := 0) (by kernel_rfl) (by kernel_rfl) (by kernel_rfl) (by kernel_rfl) (by kernel_rfl) (by kernel_rfl) (lowc_of (by kernel_rfl)) ?_
  show Awp prog 0 47 (cB f60) _ _
  refine awp_seq ?_
  refine awp_region ?_
  refine aR 3 ?_
  refine aE ?_
  refine awp_seq ?_
  refine awp_seq ?_
  refine awp_to (st' := place_Cell_x1_I qs qlevel) (oT [] []) ?_
  refine bE hF fun vx1 h4 hF => ?_
  refine awp_sub (place_Cell_x1_ok qs qlevel h4) ?_
  refine cE hF (fun h5 hF => ?_) fun h5 hF => ?_
  · refine awp_true (by kernel_rfl) h5 ?_
    refine awp_seq ?_
    refine awp_region ?_
    refine aR 2 ?_
    refine aE ?_
    refine awp_ret ?_
    exact oF hF [] []
  · refine awp_false (by kernel_rfl) h5 ?_
    refine awp_skip ?_
    refine awp_seq ?_
    refine awp_region ?_
    refine aR 1 ?_
    refine aE ?_
    refine awp_seq ?_
    refine aD ?_
    refine dR 9 ?_
    refine dE ?_
    refine awp_seq ?_
    refine awp_seq ?_
    refine awp_region ?_
    refine aR 2 ?_
    refine aE ?_
    refine awp_block ?_
    refine awp_to (st' := place_Cell_x2_H qs qlevel ([], 32768, 0)) (oT [] [0]) ?_
    refine bE hF fun vout1_1 h9 hF => ?_
    refine awp_sub (awp_loop' (place_Cell_x2_H qs qlevel) place_Cell_x2_k (place_Cell_x2_S qs qlevel) (by intro x; exact fun h => nomatch h) h9 (place_Cell_x2_ok qs qlevel)) ?_
    refine awp_seq ?_
    refine awp_region ?_
    refine aR 1 ?_
    refine aSt (xs := vout1_1) rfl rfl ?_
    refine aR 2 ?_
    refine aE ?_
    refine awp_ret ?_
    exact oF hF [] []

/-! ### beaconfleet/fleetlaw2.placed -/
def fleetlaw2_placed_x1_k : Bool → AEx
  | _ => .normal

def fleetlaw2_placed_x1_S (vr1 : List UInt8) (vr3 : Int) : Bool → St
  | vx => Mem.st ⟨[], []⟩ (tl [(0, .v (.one (.d (.bool vx))))]) 0

def fleetlaw2_placed_x1_I (vr1 : List UInt8) (vr3 : Int) : St := Mem.st ⟨[], []⟩ (tl [(1, .v (.one (.d (.str vr1)))), (2, .v (.one (.d (.int .i64 vr3))))]) 0

theorem fleetlaw2_placed_x1_ok (vr1 : List UInt8) (vr3 : Int) {r} (hF : fleetlaw2_placed_x1 vr1 vr3 = some r) : Awp prog 0 14 (cL (cR (cR (cB f22)))) (Out 0 fleetlaw2_placed_x1_k (fleetlaw2_placed_x1_S vr1 vr3) r) (fleetlaw2_placed_x1_I vr1 vr3) := by
  unfold fleetlaw2_placed_x1 at hF
  refine cE hF (fun h2 hF => ?_) fun h2 hF => ?_
  · refine awp_region ?_
    refine aR 1 ?_
    refine aB h2 ?_
    refine aR 5 ?_
    refine aE ?_
    exact oO hF [] [] rfl
  · refine awp_region ?_
    refine aR 1 ?_
    refine aB h2 ?_
    refine aR 5 ?_
    refine aE ?_
    exact oO hF [] [] rfl

def fleetlaw2_placed_R (r : Bool) : TV × Mem := (.v (.one (.d (.bool r))), ⟨[], []⟩)

theorem fleetlaw2_placed_ok {r} (hF : fleetlaw2_placed = some r) : Holds prog 22 [] ⟨[], []⟩ (Is (fleetlaw2_placed_R  r)) := by
  unfold fleetlaw2_placed at hF
  refine holds_of_awp hΓ (fn := f22) (c := cB f22) (A := 0) (nx := 0) (by kernel_rfl) (by kernel_rfl) (by kernel_rfl) (by kernel_rfl) (by kernel_rfl) (by kernel_rfl) (lowc_of (by kernel_rfl)) ?_
  show Awp prog 0 14 (cB f22) _ _
  refine awp_seq ?_
  refine awp_region ?_
  refine aR 1 ?_
  refine aE ?_
  refine awp_seq ?_
  refine bE hF fun x h1 hF => ?_
  obtain ⟨vr1, vr3⟩ := x
  refine awp_region ?_
  refine aR 1 ?_
  refine aC (place_Cell_ok h1) [] [] [] ?_
  refine aR 5 ?_
  refine aE ?_
  refine awp_seq ?_
  refine awp_to (st' := fleetlaw2_placed_x1_I vr1 vr3) (oT [] []) ?_
  refine bE hF fun vx1 h3 hF => ?_
  refine awp_sub (fleetlaw2_placed_x1_ok vr1 vr3 h3) ?_
  refine awp_ret ?_
  exact oF hF [] []

/-! ### beaconfleet/fleetlaw2.FixesMerge -/
def fleetlaw2_FixesMerge_x2_k : (fleetmake_Stream × Bool) → AEx
  | _ => .normal

def fleetlaw2_FixesMerge_x2_S (vr11 : List api_Fix) (vs4_1 : fleetmake_Stream) (vr11_1 : List api_Fix) (vr2 : List UInt8) : (fleetmake_Stream × Bool) → St
  | (vx, vx1) => Mem.st ⟨[], [(0, [.d (.lst (List.map (encI .i64) vx.L)), .d (.int .i64 vx.at_)]), (1, [.d (.str vr2)])]⟩ (tl [(3, .v (.one (.box 0 0))), (4, .v (.one (.d (.lst (List.map api_Fix.enc vr11))))), (5, .v (.one (.d (.lst (List.map api_Fix.enc vr11_1))))), (6, .v (.one (.box 1 0))), (35, .v (.one (.d (.bool vx1))))]) 2

def fleetlaw2_FixesMerge_x2_I (vr11 : List api_Fix) (vs4_1 : fleetmake_Stream) (vr11_1 : List api_Fix) (vr2 : List UInt8) : St := Mem.st ⟨[], [(0, [.d (.lst (List.map (encI .i64) vs4_1.L)), .d (.int .i64 (IntKind.wrap .i64 (vs4_1.at_ + 1)))]), (1, [.d (.str vr2)])]⟩ (tl [(3, .v (.one (.box 0 0))), (4, .v (.one (.d (.lst (List.map api_Fix.enc vr11))))), (5, .v (.one (.d (.lst (List.map api_Fix.enc vr11_1))))), (6, .v (.one (.box 1 0)))]) 2

theorem fleetlaw2_FixesMerge_x2_ok (vr11 : List api_Fix) (vs4_1 : fleetmake_Stream) (vr11_1 : List api_Fix) (vr2 : List UInt8) {r} (hF : fleetlaw2_FixesMerge_x2 vr11 vs4_1 = some r) : Awp prog 0 108 (cL (cL (cR (cR (cR (cB f3)))))) (Out 0 fleetlaw2_FixesMerge_x2_k (fleetlaw2_FixesMerge_x2_S vr11 vs4_1 vr11_1 vr2) r) (fleetlaw2_FixesMerge_x2_I vr11 vs4_1 vr11_1 vr2) := by
  unfold fleetlaw2_FixesMerge_x2 at hF
  refine cE hF (fun h6 hF => ?_) fun h6 hF => ?_
  · refine bE hF fun vr3 h7 hF => ?_
    refine awp_region ?_
    refine aR 1 ?_
    refine aL api_Fix.enc vr11 ?_
    refine aB h6 ?_
    refine aR 2 ?_
    refine aC (fleetmake_Stream_Flip_ok h7) [] [] [] ?_
    refine aR 1 ?_
    refine aE ?_
    exact oO hF [] [] rfl
  · refine awp_region ?_
    refine aR 1 ?_
    refine aL api_Fix.enc vr11 ?_
    refine aB h6 ?_
    refine aR 4 ?_
    refine aE ?_
    exact oO hF [] [] rfl

def fleetlaw2_FixesMerge_x1_k : (List api_Fix) → AEx
  | _ => .normal

def fleetlaw2_FixesMerge_x1_S (vr11 : List api_Fix) (vs4_1 : fleetmake_Stream) (vr11_1 : List api_Fix) (vr2 : List UInt8) : (List api_Fix) → St
  | vx3 => Mem.st ⟨[], [(0, [.d (.str vr2)])]⟩ (tl [(4, .v (.one (.d (.lst (List.map api_Fix.enc vr11))))), (5, .v (.one (.d (.lst (List.map api_Fix.enc vx3))))), (6, .v (.one (.box 0 0)))]) 1

def fleetlaw2_FixesMerge_x1_I (vr11 : List api_Fix) (vs4_1 : fleetmake_Stream) (vr11_1 : List api_Fix) (vr2 : List UInt8) : St := Mem.st ⟨[], [(0, [.d (.lst (List.map (encI .i64) vs4_1.L)), .d (.int .i64 (IntKind.wrap .i64 (vs4_1.at_ + 1)))]), (1, [.d (.str vr2)])]⟩ (tl [(3, .v (.one (.box 0 0))), (4, .v (.one (.d (.lst (List.map api_Fix.enc vr11))))), (5, .v (.one (.d (.lst (List.map api_Fix.enc vr11_1))))), (6, .v (.one (.box 1 0)))]) 2

theorem fleetlaw2_FixesMerge_x1_ok (vr11 : List api_Fix) (vs4_1 : fleetmake_Stream) (vr11_1 : List api_Fix) (vr2 : List UInt8) {r} (hF : fleetlaw2_FixesMerge_x1 vr11 vs4_1 vr11_1 = some r) : Awp prog 0 108 (cL (cR (cR (cR (cB f3))))) (Out 0 fleetlaw2_FixesMerge_x1_k (fleetlaw2_FixesMerge_x1_S vr11 vs4_1 vr11_1 vr2) r) (fleetlaw2_FixesMerge_x1_I vr11 vs4_1 vr11_1 vr2) := by
  unfold fleetlaw2_FixesMerge_x1 at hF
  refine awp_seq ?_
  refine awp_to (st' := fleetlaw2_FixesMerge_x2_I vr11 vs4_1 vr11_1 vr2) (oT [] []) ?_
  refine bE hF fun x h8 hF => ?_
  obtain ⟨vx2, vx1_1⟩ := x
  refine awp_sub (fleetlaw2_FixesMerge_x2_ok vr11 vs4_1 vr11_1 vr2 h8) ?_
  refine cE hF (fun h9 hF => ?_) fun h9 hF => ?_
  · refine awp_true (by kernel_rfl) h9 ?_
    refine bE hF fun vr3_1 h10 hF => ?_
    refine bE hF fun vl h11 hF => ?_
    refine bE hF fun vr4 h12 hF => ?_
    refine awp_region ?_
    refine aR 3 ?_
    refine aL api_Fix.enc vr11 ?_
    refine aC (fleetmake_Stream_Next_ok h10) [] [] [] ?_
    refine aX (x_sliceN api_Fix.enc h11) ?_
    refine aC (slices_Clone_api_Fix_api_Fix_ok h12) [] [] [] ?_
    refine aR 1 ?_
    refine aE ?_
    exact oO hF [(0, 1)] [] rfl
  · refine awp_false (by kernel_rfl) h9 ?_
    refine awp_skip ?_
    exact oO hF [(0, 1)] [] rfl

def fleetlaw2_FixesMerge_x3_k : (Int × (List api_Fix)) → AEx
  | _ => .normal

def fleetlaw2_FixesMerge_x3_S (vr11 : List api_Fix) (vr2 : List UInt8) (vx3_1 : List api_Fix) (vr3_2 : List api_Fix) (vr4_1 : Int) (vr1_1 : List api_Fix) (vr2_1 : Int) (vr5 : Int) (vr8 : Int) : (Int × (List api_Fix)) → St
  | (vx4, vx5) => Mem.st ⟨[], [(0, [.d (.str vr2)])]⟩ (tl [(4, .v (.one (.d (.lst (List.map api_Fix.enc vr11))))), (6, .v (.one (.box 0 0))), (7, .v (.one (.d (.lst (List.map api_Fix.enc vr3_2))))), (8, .v (.one (.d (.int .i64 vr4_1)))), (9, .v (.one (.d (.lst (List.map api_Fix.enc vr1_1))))), (10, .v (.one (.d (.int .i64 vr2_1)))), (11, .v (.one (.d (.int .i64 vx4)))), (12, .v (.one (.d (.int .i64 vr8)))), (13, .v (.one (.d (.lst (List.map api_Fix.enc vx5))))), (14, .v (.one (.nil)))]) 1

def fleetlaw2_FixesMerge_x3_I (vr11 : List api_Fix) (vr2 : List UInt8) (vx3_1 : List api_Fix) (vr3_2 : List api_Fix) (vr4_1 : Int) (vr1_1 : List api_Fix) (vr2_1 : Int) (vr5 : Int) (vr8 : Int) : St := Mem.st ⟨[], [(0, [.d (.str vr2)])]⟩ (tl [(4, .v (.one (.d (.lst (List.map api_Fix.enc vr11))))), (5, .v (.one (.d (.lst (List.map api_Fix.enc vx3_1))))), (6, .v (.one (.box 0 0))), (7, .v (.one (.d (.lst (List.map api_Fix.enc vr3_2))))), (8, .v (.one (.d (.int .i64 vr4_1)))), (9, .v (.one (.d (.lst (List.map api_Fix.enc vr1_1))))), (10, .v (.one (.d (.int .i64 vr2_1)))), (11, .v (.one (.d (.int .i64 vr5)))), (12, .v (.one (.d (.int .i64 vr8)))), (13, .v (.one (.nil))), (14, .v (.one (.nil)))]) 1

theorem fleetlaw2_FixesMerge_x3_ok (vr11 : List api_Fix) (vr2 : List UInt8) (vx3_1 : List api_Fix) (vr3_2 : List api_Fix) (vr4_1 : Int) (vr1_1 : List api_Fix) (vr2_1 : Int) (vr5 : Int) (vr8 : Int) {r} (hF : fleetlaw2_FixesMerge_x3 vr11 vx3_1 vr5 = some r) : Awp prog 0 108 (cL (cR (cR (cR (cR (cR (cR (cR (cR (cR (cR (cB f3)))))))))))) (Out 0 fleetlaw2_FixesMerge_x3_k (fleetlaw2_FixesMerge_x3_S vr11 vr2 vx3_1 vr3_2 vr4_1 vr1_1 vr2_1 vr5 vr8) r) (fleetlaw2_FixesMerge_x3_I vr11 vr2 vx3_1 vr3_2 vr4_1 vr1_1 vr2_1 vr5 vr8) := by
  unfold fleetlaw2_FixesMerge_x3 at hF
  refine awp_seq ?_
  refine bE hF fun vr5_1 h22 hF => ?_
  refine bE hF fun vr9 h23 hF => ?_
  refine awp_region ?_
  refine aR 2 ?_
  refine aC (fleetref2_FixesFault_ok h22) [] [] [] ?_
  refine aR 1 ?_
  refine aC (fleetlaw2_errs_ok h23) [] [] [3001] ?_
  refine aR 1 ?_
  refine aE ?_
  refine awp_seq ?_
  refine awp_region ?_
  refine aR 2 ?_
  refine aE ?_
  refine cE hF (fun h24 hF => ?_) fun h24 hF => ?_
  · refine awp_true (by kernel_rfl) h24 ?_
    refine bE hF fun x h25 hF => ?_
    obtain ⟨vr2_2, vr3_4⟩ := x
    refine awp_region ?_
    refine aR 2 ?_
    refine aC (fleetref2_FixesOf_ok h25) [] [] [] ?_
    refine aR 5 ?_
    refine aE ?_
    exact oO hF [] [] rfl
  · refine awp_false (by kernel_rfl) h24 ?_
    refine awp_skip ?_
    exact oO hF [] [] rfl

def fleetlaw2_FixesMerge_x4_k : (List api_Fix) → AEx
  | _ => .normal

def fleetlaw2_FixesMerge_x4_S (vr11 : List api_Fix) (vr2 : List UInt8) (vr3_2 : List api_Fix) (vr4_1 : Int) (vr1_1 : List api_Fix) (vr2_1 : Int) (vr8 : Int) (vx4_1 : Int) (vx5_1 : List api_Fix) : (List api_Fix) → St
  | vx6 => Mem.st ⟨[], []⟩ (tl [(7, .v (.one (.d (.lst (List.map api_Fix.enc vr3_2))))), (8, .v (.one (.d (.int .i64 vr4_1)))), (9, .v (.one (.d (.lst (List.map api_Fix.enc vr1_1))))), (10, .v (.one (.d (.int .i64 vr2_1)))), (11, .v (.one (.d (.int .i64 vx4_1)))), (12, .v (.one (.d (.int .i64 vr8)))), (13, .v (.one (.d (.lst (List.map api_Fix.enc vx5_1))))), (14, .v (.one (.d (.lst (List.map api_Fix.enc vx6)))))]) 0

def fleetlaw2_FixesMerge_x4_I (vr11 : List api_Fix) (vr2 : List UInt8) (vr3_2 : List api_Fix) (vr4_1 : Int) (vr1_1 : List api_Fix) (vr2_1 : Int) (vr8 : Int) (vx4_1 : Int) (vx5_1 : List api_Fix) : St := Mem.st ⟨[], [(0, [.d (.str vr2)])]⟩ (tl [(4, .v (.one (.d (.lst (List.map api_Fix.enc vr11))))), (6, .v (.one (.box 0 0))), (7, .v (.one (.d (.lst (List.map api_Fix.enc vr3_2))))), (8, .v (.one (.d (.int .i64 vr4_1)))), (9, .v (.one (.d (.lst (List.map api_Fix.enc vr1_1))))), (10, .v (.one (.d (.int .i64 vr2_1)))), (11, .v (.one (.d (.int .i64 vx4_1)))), (12, .v (.one (.d (.int .i64 vr8)))), (13, .v (.one (.d (.lst (List.map api_Fix.enc vx5_1))))), (14, .v (.one (.nil)))]) 1

theorem fleetlaw2_FixesMerge_x4_ok (vr11 : List api_Fix) (vr2 : List UInt8) (vr3_2 : List api_Fix) (vr4_1 : Int) (vr1_1 : List api_Fix) (vr2_1 : Int) (vr8 : Int) (vx4_1 : Int) (vx5_1 : List api_Fix) {r} (hF : fleetlaw2_FixesMerge_x4 vr11 vr2 vr8 = some r) : Awp prog 0 108 (cL (cR (cR (cR (cR (cR (cR (cR (cR (cR (cR (cR (cB f3))))))))))))) (Out 0 fleetlaw2_FixesMerge_x4_k (fleetlaw2_FixesMerge_x4_S vr11 vr2 vr3_2 vr4_1 vr1_1 vr2_1 vr8 vx4_1 vx5_1) r) (fleetlaw2_FixesMerge_x4_I vr11 vr2 vr3_2 vr4_1 vr1_1 vr2_1 vr8 vx4_1 vx5_1) := by
  unfold fleetlaw2_FixesMerge_x4 at hF
  refine awp_seq ?_
  refine awp_region ?_
  refine aR 2 ?_
  refine aE ?_
  refine cE hF (fun h27 hF => ?_) fun h27 hF => ?_
  · refine awp_true (by kernel_rfl) h27 ?_
    refine bE hF fun vr10 h28 hF => ?_
    refine bE hF fun vr1_2 h29 hF => ?_
    refine awp_region ?_
    refine aR 1 ?_
    refine aC (slices_Clone_api_Fix_api_Fix_ok h28) [] [] [] ?_
    refine aR 1 ?_
    refine aC (slices_DeleteFunc_api_Fix_api_Fix_o0_f1_fleetlaw2_FixesMerge_1_ok h29) [(1, 3001)] [] [] ?_
    refine aR 1 ?_
    refine aE ?_
    exact oO hF [] [] rfl
  · refine awp_false (by kernel_rfl) h27 ?_
    refine awp_skip ?_
    exact oO hF [] [] rfl

def fleetlaw2_FixesMerge_x5_k : Bool → AEx
  | _ => .normal

def fleetlaw2_FixesMerge_x5_S (vr3_2 : List api_Fix) (vr4_1 : Int) (vr1_1 : List api_Fix) (vr2_1 : Int) (vr8 : Int) (vx4_1 : Int) (vx5_1 : List api_Fix) (vx6_1 : List api_Fix) : Bool → St
  | vx7 => Mem.st ⟨[], []⟩ (tl [(2, .v (.one (.d (.bool vx7))))]) 0

def fleetlaw2_FixesMerge_x5_I (vr3_2 : List api_Fix) (vr4_1 : Int) (vr1_1 : List api_Fix) (vr2_1 : Int) (vr8 : Int) (vx4_1 : Int) (vx5_1 : List api_Fix) (vx6_1 : List api_Fix) : St := Mem.st ⟨[], []⟩ (tl [(7, .v (.one (.d (.lst (List.map api_Fix.enc vr3_2))))), (8, .v (.one (.d (.int .i64 vr4_1)))), (9, .v (.one (.d (.lst (List.map api_Fix.enc vr1_1))))), (10, .v (.one (.d (.int .i64 vr2_1)))), (11, .v (.one (.d (.int .i64 vx4_1)))), (12, .v (.one (.d (.int .i64 vr8)))), (13, .v (.one (.d (.lst (List.map api_Fix.enc vx5_1))))), (14, .v (.one (.d (.lst (List.map api_Fix.enc vx6_1)))))]) 0

theorem fleetlaw2_FixesMerge_x5_ok (vr3_2 : List api_Fix) (vr4_1 : Int) (vr1_1 : List api_Fix) (vr2_1 : Int) (vr8 : Int) (vx4_1 : Int) (vx5_1 : List api_Fix) (vx6_1 : List api_Fix) {r} (hF : fleetlaw2_FixesMerge_x5 vr3_2 vr4_1 vr1_1 vr2_1 vr8 vx4_1 vx5_1 vx6_1 = some r) : Awp prog 0 108 (cL (cR (cR (cR (cR (cR (cR (cR (cR (cR (cR (cR (cR (cB f3)))))))))))))) (Out 0 fleetlaw2_FixesMerge_x5_k (fleetlaw2_FixesMerge_x5_S vr3_2 vr4_1 vr1_1 vr2_1 vr8 vx4_1 vx5_1 vx6_1) r) (fleetlaw2_FixesMerge_x5_I vr3_2 vr4_1 vr1_1 vr2_1 vr8 vx4_1 vx5_1 vx6_1) := by
  unfold fleetlaw2_FixesMerge_x5 at hF
  refine cE hF (fun h31 hF => ?_) fun h31 hF => ?_
  · refine bE hF fun vr12 h32 hF => ?_
    refine cE hF (fun h33 hF => ?_) fun h33 hF => ?_
    · refine cE hF (fun h34 hF => ?_) fun h34 hF => ?_
      · refine bE hF fun vr13 h35 hF => ?_
        refine cE hF (fun h36 hF => ?_) fun h36 hF => ?_
        · refine bE hF fun vr14 h37 hF => ?_
          refine awp_region ?_
          refine aR 2 ?_
          refine aB h31 ?_
          refine aR 3 ?_
          refine aCb (slices_Equal_api_Fix_api_Fix_ok h32) [] [] [] h33 ?_
          refine aR 4 ?_
          refine aB h34 ?_
          refine aR 4 ?_
          refine aCb (slices_Equal_api_Fix_api_Fix_ok h35) [] [] [] h36 ?_
          refine aR 2 ?_
          refine aC (fleetlaw2_placed_ok h37) [] [] [] ?_
          refine aR 2 ?_
          refine aE ?_
          exact oO hF [] [] rfl
        · refine awp_region ?_
          refine aR 2 ?_
          refine aB h31 ?_
          refine aR 3 ?_
          refine aCb (slices_Equal_api_Fix_api_Fix_ok h32) [] [] [] h33 ?_
          refine aR 4 ?_
          refine aB h34 ?_
          refine aR 4 ?_
          refine aCb (slices_Equal_api_Fix_api_Fix_ok h35) [] [] [] h36 ?_
          refine aR 5 ?_
          refine aE ?_
          exact oO hF [] [] rfl
      · refine awp_region ?_
        refine aR 2 ?_
        refine aB h31 ?_
        refine aR 3 ?_
        refine aCb (slices_Equal_api_Fix_api_Fix_ok h32) [] [] [] h33 ?_
        refine aR 4 ?_
        refine aB h34 ?_
        refine aR 10 ?_
        refine aE ?_
        exact oO hF [] [] rfl
    · refine awp_region ?_
      refine aR 2 ?_
      refine aB h31 ?_
      refine aR 3 ?_
      refine aCb (slices_Equal_api_Fix_api_Fix_ok h32) [] [] [] h33 ?_
      refine aR 15 ?_
      refine aE ?_
      exact oO hF [] [] rfl
  · refine awp_region ?_
    refine aR 2 ?_
    refine aB h31 ?_
    refine aR 19 ?_
    refine aE ?_
    exact oO hF [] [] rfl

def fleetlaw2_FixesMerge_R (qx : List Int) (r : Bool) : TV × Mem := (.v (.one (.d (.bool r))), ⟨[], []⟩)

theorem fleetlaw2_FixesMerge_ok {qx : List Int} {r} (hF : fleetlaw2_FixesMerge qx = some r) : Holds prog 3 [.v (.one (.d (.lst (List.map (encI .i64) qx))))] ⟨[], []⟩ (Is (fleetlaw2_FixesMerge_R qx r)) := by
  unfold fleetlaw2_FixesMerge at hF
  refine holds_of_awp hΓ (fn := f3) (c := cB f3) (A := 0) (nx := 0) (by kernel_rfl) (by kernel_rfl) (by kernel_rfl) (by kernel_rfl) (by kernel_rfl) (by kernel_rfl) (lowc_of (by kernel_rfl)) ?_
  show Awp prog 0 108 (cB f3) _ _
  refine awp_seq ?_
  refine awp_region ?_
  refine aR 1 ?_
  refine aE ?_
  refine awp_seq ?_
  refine awp_region ?_
  refine aR 4 ?_
  refine aE ?_
  refine awp_seq ?_
  refine bE hF fun x h1 hF => ?_
  obtain ⟨vs, vr⟩ := x
  refine bE hF fun x h2 hF => ?_
  obtain ⟨vs4, vr11⟩ := x
  refine bE hF fun x h3 hF => ?_
  obtain ⟨vs1, vr1⟩ := x
  refine bE hF fun x h4 hF => ?_
  obtain ⟨vs4_1, vr11_1⟩ := x
  refine bE hF fun vr2 h5 hF => ?_
  refine awp_region ?_
  refine aR 2 ?_
  refine aC (fleetmake_Stream_Range_ok h1) [(0, 3000)] [] [] ?_
  refine aC (fleetmake_Stream_Fixes_ok h2) [(0, 3000)] [] [] ?_
  refine aR 2 ?_
  refine aC (fleetmake_Stream_Range_ok h3) [(0, 3000)] [] [] ?_
  refine aC (fleetmake_Stream_Fixes_ok h4) [(0, 3000)] [] [] ?_
  refine aR 2 ?_
  refine aC (fleetmake_Stream_Some_o1_ok h5) [(0, 3000), (1, 14000)] [] [] ?_
  refine aR 4 ?_
  refine aE ?_
  refine awp_to (oT (m := ⟨[], [(0, [.d (.lst (List.map (encI .i64) vs4_1.L)), .d (.int .i64 (IntKind.wrap .i64 (vs4_1.at_ + 1)))]), (1, [.d (.str vr2)])]⟩) (ts := [(3, .v (.one (.box 0 0))), (4, .v (.one (.d (.lst (List.map api_Fix.enc vr11))))), (5, .v (.one (.d (.lst (List.map api_Fix.enc vr11_1))))), (6, .v (.one (.box 1 0)))]) (nx := 2) [(0, 3000), (1, 16000)] []) ?_
  refine awp_seq ?_
  refine awp_to (st' := fleetlaw2_FixesMerge_x1_I vr11 vs4_1 vr11_1 vr2) (oT [] []) ?_
  refine bE hF fun vx3_1 h13 hF => ?_
  refine awp_sub (fleetlaw2_FixesMerge_x1_ok vr11 vs4_1 vr11_1 vr2 h13) ?_
  refine awp_seq ?_
  refine bE hF fun x h14 hF => ?_
  obtain ⟨vr3_2, vr4_1⟩ := x
  refine awp_region ?_
  refine aR 2 ?_
  refine aC (place_Merge_ok h14) [] [] [] ?_
  refine aR 5 ?_
  refine aE ?_
  refine awp_to (oT (m := ⟨[], [(0, [.d (.str vr2)])]⟩) (ts := [(4, .v (.one (.d (.lst (List.map api_Fix.enc vr11))))), (5, .v (.one (.d (.lst (List.map api_Fix.enc vx3_1))))), (6, .v (.one (.box 0 0))), (7, .v (.one (.d (.lst (List.map api_Fix.enc vr3_2))))), (8, .v (.one (.d (.int .i64 vr4_1))))]) (nx := 1) [] []) ?_
  refine awp_seq ?_
  refine bE hF fun x h15 hF => ?_
  obtain ⟨vr1_1, vr2_1⟩ := x
  refine awp_region ?_
  refine aR 2 ?_
  refine aC (place_Of_ok h15) [] [] [] ?_
  refine aR 5 ?_
  refine aE ?_
  refine awp_to (oT (m := ⟨[], [(0, [.d (.str vr2)])]⟩) (ts := [(4, .v (.one (.d (.lst (List.map api_Fix.enc vr11))))), (5, .v (.one (.d (.lst (List.map api_Fix.enc vx3_1))))), (6, .v (.one (.box 0 0))), (7, .v (.one (.d (.lst (List.map api_Fix.enc vr3_2))))), (8, .v (.one (.d (.int .i64 vr4_1)))), (9, .v (.one (.d (.lst (List.map api_Fix.enc vr1_1))))), (10, .v (.one (.d (.int .i64 vr2_1))))]) (nx := 1) [] []) ?_
  refine awp_seq ?_
  refine bE hF fun vr5 h16 hF => ?_
  refine awp_region ?_
  refine aR 1 ?_
  refine aC (fleetref2_FixesFault_ok h16) [] [] [] ?_
  refine aR 1 ?_
  refine aE ?_
  refine awp_seq ?_
  refine awp_seq ?_
  refine bE hF fun vr6 h17 hF => ?_
  refine awp_region ?_
  refine aR 1 ?_
  refine aC (place_CheckFixes_ok h17) [] [] [] ?_
  refine aR 2 ?_
  refine aE ?_
  refine cE hF (fun h18 hF => ?_) fun h18 hF => ?_
  · refine awp_true (by kernel_rfl) h18 ?_
    refine awp_seq ?_
    refine awp_region ?_
    refine aR 1 ?_
    refine aE ?_
    refine awp_ret ?_
    exact oF hF [] []
  · refine awp_false (by kernel_rfl) h18 ?_
    refine awp_skip ?_
    refine awp_seq ?_
    refine bE hF fun vr3_3 h19 hF => ?_
    refine bE hF fun vr7 h20 hF => ?_
    refine bE hF fun vr8 h21 hF => ?_
    refine awp_region ?_
    refine aR 2 ?_
    refine aC (fleetref2_Key_ok h19) [] [] [] ?_
    refine aR 1 ?_
    refine aC (fleetlaw2_when_ok h20) [] [] [] ?_
    refine aR 1 ?_
    refine aC (fleetlaw2_errs_ok h21) [] [] [12001] ?_
    refine aR 1 ?_
    refine aE ?_
    refine awp_seq ?_
    refine awp_region ?_
    refine aR 2 ?_
    refine aE ?_
    refine awp_seq ?_
    refine awp_to (st' := fleetlaw2_FixesMerge_x3_I vr11 vr2 vx3_1 vr3_2 vr4_1 vr1_1 vr2_1 vr5 vr8) (oT [] []) ?_
    refine bE hF fun x h26 hF => ?_
    obtain ⟨vx4_1, vx5_1⟩ := x
    refine awp_sub (fleetlaw2_FixesMerge_x3_ok vr11 vr2 vx3_1 vr3_2 vr4_1 vr1_1 vr2_1 vr5 vr8 h26) ?_
    refine awp_seq ?_
    refine awp_to (st' := fleetlaw2_FixesMerge_x4_I vr11 vr2 vr3_2 vr4_1 vr1_1 vr2_1 vr8 vx4_1 vx5_1) (oT [] []) ?_
    refine bE hF fun vx6_1 h30 hF => ?_
    refine awp_sub (fleetlaw2_FixesMerge_x4_ok vr11 vr2 vr3_2 vr4_1 vr1_1 vr2_1 vr8 vx4_1 vx5_1 h30) ?_
    refine awp_seq ?_
    refine awp_to (st' := fleetlaw2_FixesMerge_x5_I vr3_2 vr4_1 vr1_1 vr2_1 vr8 vx4_1 vx5_1 vx6_1) (oT [] []) ?_
    refine bE hF fun vx7_1 h38 hF => ?_
    refine awp_sub (fleetlaw2_FixesMerge_x5_ok vr3_2 vr4_1 vr1_1 vr2_1 vr8 vx4_1 vx5_1 vx6_1 h38) ?_
    refine awp_ret ?_
    exact oF hF [] []

end Go.Eng
