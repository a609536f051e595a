/-
The code of the Go functions that the law SeriesPaired reaches does what the plain functions say, part 1.
-/
import Derived.Test.YtjfpceigbgnjgaaGenF

import Derived.Test.YtjfpceigbgnjgaaEngZ

import Derived.Test.YtjfpceigbgnjgaaProg

import Derived.KernelRfl

namespace Go.Eng

open Go Go.Proofs.Try

set_option linter.unusedVariables false

set_option maxRecDepth 20000

set_option maxHeartbeats 0

def ti3 : TI := ⟨1, 8, [.d (.int .i64 0)], false, .int .i64⟩

def ti5 : TI := ⟨1, 1, [.d (.int .u8 0)], false, .int .u8⟩

def ti9 : TI := ⟨1, 16, [.d (.str [])], false, .str⟩

def ti22 : TI := ⟨1, 24, [.nil], false, .slice 3⟩

def ti25 : TI := ⟨2, 32, [.nil, .d (.int .i64 0)], true, .struct [(0, 22), (1, 3)]⟩

def ti26 : TI := ⟨1, 24, [.nil], false, .slice 42⟩

def ti33 : TI := ⟨1, 8, [.d (.int .i64 0)], false, .int .i64⟩

def ti42 : TI := ⟨4, 48, [.d (.str []), .d (.str []), .d (.int .i64 0), .d (.int .i64 0)], true, .struct [(0, 9), (1, 9), (2, 3), (3, 3)]⟩

def ti45 : TI := ⟨1, 24, [.nil], false, .slice 5⟩

def ti101 : TI := ⟨1, 24, [.nil], false, .slice 108⟩

def ti108 : TI := ⟨8, 96, [.d (.str []), .d (.str []), .d (.int .i64 0), .d (.int .i64 0), .d (.str []), .d (.str []), .d (.int .i64 0), .d (.int .i64 0)], true, .struct [(0, 42), (4, 42)]⟩

def ti159 : TI := ⟨1, 24, [.nil], false, .slice 33⟩

def ti164 : TI := ⟨1, 24, [.nil], false, .slice 9⟩

def ti165 : TI := ⟨1, 8, [.d (.int .u64 0)], false, .int .u64⟩

def ti239 : TI := ⟨1, 8, [.d (.int .u64 0)], false, .int .u64⟩

def Γ : Types := [(3, ti3), (5, ti5), (9, ti9), (22, ti22), (25, ti25), (26, ti26), (33, ti33), (42, ti42), (45, ti45), (101, ti101), (108, ti108), (159, ti159), (164, ti164), (165, ti165), (239, ti239)]

theorem hΓ : TypesOk prog Γ := typesOk_of (by kernel_rfl)

instance : TOk prog Γ := ⟨hΓ⟩

theorem hm : prog.follows .mixedOrders = true := by kernel_rfl

instance : Mixed prog := ⟨hm⟩

/-! ### beaconfleet/fleetmake.Below -/
def fleetmake_Below_x1_k : Int → AEx
  | _ => .normal

def fleetmake_Below_x1_S (qx : Int) (qn : Int) : Int → St
  | vx => Mem.st ⟨[], []⟩ (tl [(0, .v (.one (.d (.int .i64 vx))))]) 0

def fleetmake_Below_x1_I (qx : Int) (qn : Int) : St := Mem.st ⟨[], []⟩ (tl [(0, .v (.one (.d (.int .i64 (qx.tmod qn))))), (1, .v (.one (.d (.int .i64 qn))))]) 0

theorem fleetmake_Below_x1_ok (qx : Int) (qn : Int) {r} (hF : fleetmake_Below_x1 qx qn = some r) : Awp prog 0 16 (cL (cR (cR (cR (cB f191))))) (Out 0 fleetmake_Below_x1_k (fleetmake_Below_x1_S qx qn) r) (fleetmake_Below_x1_I qx qn) := by
  unfold fleetmake_Below_x1 at hF
  refine awp_seq ?_
  refine awp_region ?_
  refine aR 2 ?_
  refine aE ?_
  refine cE hF (fun h3 hF => ?_) fun h3 hF => ?_
  · refine awp_true (by kernel_rfl) h3 ?_
    refine awp_region ?_
    refine aR 4 ?_
    refine aE ?_
    exact oO hF [] [] rfl
  · refine awp_false (by kernel_rfl) h3 ?_
    refine awp_skip ?_
    exact oO hF [] [] rfl

def fleetmake_Below_R (qx : Int) (qn : Int) (r : Int) : TV × Mem := (.v (.one (.d (.int .i64 r))), ⟨[], []⟩)

theorem fleetmake_Below_ok {qx : Int} {qn : Int} {r} (hF : fleetmake_Below qx qn = some r) : Holds prog 191 [.v (.one (.d (.int .i64 qx))), .v (.one (.d (.int .i64 qn)))] ⟨[], []⟩ (Is (fleetmake_Below_R qx qn r)) := by
  unfold fleetmake_Below at hF
  refine holds_of_awp hΓ (fn := f191) (c := cB f191) (A := 0) (nx := 0) (by kernel_rfl) (by kernel_rfl) (by kernel_rfl) (by kernel_rfl) (by kernel_rfl) (by kernel_rfl) (lowc_of (by kernel_rfl)) ?_
  show Awp prog 0 16 (cB f191) _ _
  refine awp_seq ?_
  refine awp_region ?_
  refine aR 1 ?_
  refine aE ?_
  refine awp_seq ?_
  refine awp_seq ?_
  refine awp_region ?_
  refine aR 2 ?_
  refine aE ?_
  refine cE hF (fun h1 hF => ?_) fun h1 hF => ?_
  · refine awp_true (by kernel_rfl) h1 ?_
    refine awp_seq ?_
    refine awp_region ?_
    refine aR 1 ?_
    refine aE ?_
    refine awp_ret ?_
    exact oF hF [] []
  · refine awp_false (by kernel_rfl) h1 ?_
    refine awp_skip ?_
    refine awp_seq ?_
    refine gE hF fun h2 hF => ?_
    refine awp_region ?_
    refine aR 2 ?_
    refine aX (x_rem h2) ?_
    refine aR 1 ?_
    refine aE ?_
    refine awp_seq ?_
    refine awp_to (st' := fleetmake_Below_x1_I qx qn) (oT [] []) ?_
    refine bE hF fun vx1 h4 hF => ?_
    refine awp_sub (fleetmake_Below_x1_ok qx qn h4) ?_
    refine awp_seq ?_
    refine awp_region ?_
    refine aR 2 ?_
    refine aE ?_
    refine awp_ret ?_
    exact oF hF [] []

/-! ### (*beaconfleet/fleetmake.Stream).Next -/
def fleetmake_Stream_Next_R (qs : fleetmake_Stream) (qn : Int) (r : Int) : TV × Mem := (.v (.one (.d (.int .i64 r))), ⟨[], [(0, [.d (.lst (List.map (encI .i64) qs.L)), .d (.int .i64 (IntKind.wrap .i64 (qs.at_ + 1)))])]⟩)

theorem fleetmake_Stream_Next_ok {qs : fleetmake_Stream} {qn : Int} {r} (hF : fleetmake_Stream_Next qs qn = some r) : Holds prog 89 [.v (.one (.box 0 0)), .v (.one (.d (.int .i64 qn)))] ⟨[], [(0, [.d (.lst (List.map (encI .i64) qs.L)), .d (.int .i64 qs.at_)])]⟩ (Is (fleetmake_Stream_Next_R qs qn r)) := by
  unfold fleetmake_Stream_Next at hF
  refine holds_of_awp hΓ (fn := f89) (c := cB f89) (A := 1) (nx := 1) (by kernel_rfl) (by kernel_rfl) (by kernel_rfl) (by kernel_rfl) (by kernel_rfl) (by kernel_rfl) (lowc_of (by kernel_rfl)) ?_
  show Awp prog 1 64 (cB f89) _ _
  refine awp_seq ?_
  refine awp_region ?_
  refine aR 1 ?_
  refine aE ?_
  refine awp_seq ?_
  refine awp_region ?_
  refine aR 8 ?_
  refine aE ?_
  refine awp_seq ?_
  refine awp_seq ?_
  refine awp_region ?_
  refine aR 4 ?_
  refine aL (encI .i64) qs.L ?_
  refine aR 1 ?_
  refine aE ?_
  refine cE hF (fun h1 hF => ?_) fun h1 hF => ?_
  · refine awp_true (by kernel_rfl) h1 ?_
    refine awp_seq ?_
    refine bE hF fun vr h2 hF => ?_
    refine awp_region ?_
    refine aR 6 ?_
    refine aC (fleetmake_Below_ok h2) [] [] [] ?_
    refine aR 1 ?_
    refine aE ?_
    refine awp_ret ?_
    exact oF hF [] []
  · refine awp_false (by kernel_rfl) h1 ?_
    refine awp_skip ?_
    refine awp_seq ?_
    refine gE hF fun h3 hF => ?_
    refine aD ?_
    refine dR 9 ?_
    refine dL (encI .i64) qs.L ?_
    refine dX (x_rem h3) ?_
    refine dR 1 ?_
    refine dE ?_
    refine awp_seq ?_
    refine aD ?_
    refine dR 9 ?_
    refine dL (encI .i64) qs.L ?_
    refine dX (x_quo h3) ?_
    refine dR 1 ?_
    refine dE ?_
    refine awp_seq ?_
    refine bE hF fun vy h4 hF => ?_
    refine bE hF fun vr1 h5 hF => ?_
    refine bE hF fun vr2 h6 hF => ?_
    refine awp_region ?_
    refine aR 5 ?_
    refine aX (x_idx (encI .i64) h4) ?_
    refine aR 1 ?_
    refine aC (fleetmake_Below_ok h5) [] [] [] ?_
    refine aR 6 ?_
    refine aC (fleetmake_Below_ok h6) [] [] [] ?_
    refine aR 1 ?_
    refine aE ?_
    refine awp_ret ?_
    exact oF hF [] []

/-! ### (*beaconfleet/fleetmake.Stream).Pick -/
def fleetmake_Stream_Pick_o1_R (qs : fleetmake_Stream) (ql : List Int) (r : Int) : TV × Mem := (.v (.one (.d (.int .i64 r))), ⟨[], [(0, [.d (.lst (List.map (encI .i64) qs.L)), .d (.int .i64 (IntKind.wrap .i64 (qs.at_ + 1)))])]⟩)

theorem fleetmake_Stream_Pick_o1_ok {qs : fleetmake_Stream} {ql : List Int} {r} (hF : fleetmake_Stream_Pick_o1 qs ql = some r) : Holds prog 17 [.v (.one (.box 0 0)), .v (.one (.own 1 none))] ⟨[(1, ⟨3, 1, List.map (encI .i64) ql⟩)], [(0, [.d (.lst (List.map (encI .i64) qs.L)), .d (.int .i64 qs.at_)])]⟩ (Is (fleetmake_Stream_Pick_o1_R qs ql r)) := by
  unfold fleetmake_Stream_Pick_o1 at hF
  refine holds_of_awp hΓ (fn := f17) (c := cB f17) (A := 1) (nx := 2) (by kernel_rfl) (by kernel_rfl) (by kernel_rfl) (by kernel_rfl) (by kernel_rfl) (by kernel_rfl) (lowc_of (by kernel_rfl)) ?_
  show Awp prog 1 12 (cB f17) _ _
  refine awp_seq ?_
  refine awp_region ?_
  refine aR 1 ?_
  refine aE ?_
  refine awp_to (oT (m := ⟨[], [(0, [.d (.lst (List.map (encI .i64) qs.L)), .d (.int .i64 qs.at_)])]⟩) (ts := [(0, .v (.one (.box 0 0))), (1, .v (.one (.d (.lst (List.map (encI .i64) ql)))))]) (nx := 1) [] []) ?_
  refine awp_seq ?_
  refine bE hF fun vr3 h1 hF => ?_
  refine bE hF fun vy h2 hF => ?_
  refine awp_region ?_
  refine aR 3 ?_
  refine aL (encI .i64) ql ?_
  refine aC (fleetmake_Stream_Next_ok h1) [] [] [] ?_
  refine aX (x_idx (encI .i64) h2) ?_
  refine aR 2 ?_
  refine aE ?_
  refine awp_ret ?_
  exact oF hF [] []

/-! ### (*beaconfleet/fleetmake.Stream).Range -/
def fleetmake_Stream_Range_R (qs : fleetmake_Stream) (qlow : Int) (qhigh : Int) (r : fleetmake_Stream × Int) : TV × Mem := (.v (.one (.d (.int .i64 r.2))), ⟨[], [(0, [.d (.lst (List.map (encI .i64) r.1.L)), .d (.int .i64 r.1.at_)])]⟩)

theorem fleetmake_Stream_Range_ok {qs : fleetmake_Stream} {qlow : Int} {qhigh : Int} {r} (hF : fleetmake_Stream_Range qs qlow qhigh = some r) : Holds prog 87 [.v (.one (.box 0 0)), .v (.one (.d (.int .i64 qlow))), .v (.one (.d (.int .i64 qhigh)))] ⟨[], [(0, [.d (.lst (List.map (encI .i64) qs.L)), .d (.int .i64 qs.at_)])]⟩ (Is (fleetmake_Stream_Range_R qs qlow qhigh r)) := by
  unfold fleetmake_Stream_Range at hF
  refine holds_of_awp hΓ (fn := f87) (c := cB f87) (A := 1) (nx := 1) (by kernel_rfl) (by kernel_rfl) (by kernel_rfl) (by kernel_rfl) (by kernel_rfl) (by kernel_rfl) (lowc_of (by kernel_rfl)) ?_
  show Awp prog 1 19 (cB f87) _ _
  refine awp_seq ?_
  refine awp_region ?_
  refine aR 1 ?_
  refine aE ?_
  refine awp_seq ?_
  refine awp_seq ?_
  refine awp_region ?_
  refine aR 3 ?_
  refine aE ?_
  refine cE hF (fun h1 hF => ?_) fun h1 hF => ?_
  · refine awp_true (by kernel_rfl) h1 ?_
    refine awp_seq ?_
    refine awp_region ?_
    refine aR 2 ?_
    refine aE ?_
    refine awp_ret ?_
    exact oF hF [] []
  · refine awp_false (by kernel_rfl) h1 ?_
    refine awp_skip ?_
    refine awp_seq ?_
    refine bE hF fun vr3 h2 hF => ?_
    refine awp_region ?_
    refine aR 6 ?_
    refine aC (fleetmake_Stream_Next_ok h2) [] [] [] ?_
    refine aR 2 ?_
    refine aE ?_
    refine awp_ret ?_
    exact oF hF [] []

/-! ### (*beaconfleet/fleetmake.Stream).RightSeries -/
def fleetmake_Stream_RightSeries_x1_k : (fleetmake_Stream × (List api_Sample)) → AEx
  | _ => .exit 0

def fleetmake_Stream_RightSeries_x1_S (qlow : Int) (vr : Int) : (fleetmake_Stream × (List api_Sample)) → St
  | (vs2, vout1) => Mem.st ⟨[(1, ⟨42, 4, List.map api_Sample.enc vout1⟩)], [(0, [.d (.lst (List.map (encI .i64) vs2.L)), .d (.int .i64 vs2.at_)])]⟩ (tl [(7, .v (.one (.own 1 none)))]) 2

def fleetmake_Stream_RightSeries_x1_H (qlow : Int) (vr : Int) : fleetmake_Stream × (List api_Sample) × Int × Int → St
  | (vs1, vout, vat, vx) => Mem.st ⟨[(1, ⟨42, 4, List.map api_Sample.enc vout⟩)], [(0, [.d (.lst (List.map (encI .i64) vs1.L)), .d (.int .i64 vs1.at_)])]⟩ (tl [(0, .v (.one (.box 0 0))), (2, .v (.one (.d (.int .i64 qlow)))), (7, .v (.one (.own 1 none))), (8, .v (.one (.d (.int .i64 vat)))), (11, .v (.one (.d (.int .i64 vr)))), (12, .v (.one (.d (.int .i64 vx))))]) 2

theorem fleetmake_Stream_RightSeries_x1_ok (qlow : Int) (vr : Int) (s : fleetmake_Stream × (List api_Sample) × Int × Int) (r : (fleetmake_Stream × (List api_Sample) × Int × Int) ⊕ ((fleetmake_Stream × (List api_Sample)))) (hF : fleetmake_Stream_RightSeries_x1 qlow vr s = some r) : Awp prog 1 31 (cL (cL (cR (cL (cR (cR (cR (cB f112)))))))) (Out 1 (kk fleetmake_Stream_RightSeries_x1_k) (SS (fleetmake_Stream_RightSeries_x1_H qlow vr) (fleetmake_Stream_RightSeries_x1_S qlow vr)) r) (fleetmake_Stream_RightSeries_x1_H qlow vr s) := by
  obtain ⟨vs1, vout, vat, vx⟩ := s
  unfold fleetmake_Stream_RightSeries_x1 at hF
  refine awp_seq ?_
  refine awp_region ?_
  refine aR 1 ?_
  refine aE ?_
  refine awp_seq ?_
  refine cE hF (fun h2 hF => ?_) fun h2 hF => ?_
  · refine awp_true (by kernel_rfl) h2 ?_
    refine awp_skip ?_
    refine awp_seq ?_
    refine awp_block ?_
    refine awp_seq ?_
    refine bE hF fun vr3 h3 hF => ?_
    refine awp_region ?_
    refine aR 3 ?_
    refine aC (fleetmake_Stream_Pick_o1_ok h3) [(1, 3002)] [] [] ?_
    refine aR 2 ?_
    refine aE ?_
    refine bE hF fun vr4 h4 hF => ?_
    refine gE hF fun h5 hF => ?_
    refine awp_region ?_
    refine aR 5 ?_
    refine aC (fleetmake_Stream_Pick_o1_ok h4) [(1, 11002)] [] [] ?_
    refine aR 3 ?_
    refine aX (x_app api_Sample.enc 1 h5) ?_
    refine aR 1 ?_
    refine aE ?_
    refine awp_region ?_
    refine aR 2 ?_
    refine aE ?_
    exact oO hF [(1, 16002)] [] rfl
  · refine awp_false (by kernel_rfl) h2 ?_
    refine awp_exit ?_
    exact oO hF [] [] rfl

def fleetmake_Stream_RightSeries_R (qs : fleetmake_Stream) (qmost : Int) (qlow : Int) (r : fleetmake_Stream × (List api_Sample)) : TV × Mem := (.v (.one (.own 1 none)), ⟨[(1, ⟨42, 4, List.map api_Sample.enc r.2⟩)], [(0, [.d (.lst (List.map (encI .i64) r.1.L)), .d (.int .i64 r.1.at_)])]⟩)

theorem fleetmake_Stream_RightSeries_ok {qs : fleetmake_Stream} {qmost : Int} {qlow : Int} {r} (hF : fleetmake_Stream_RightSeries qs qmost qlow = some r) : Holds prog 112 [.v (.one (.box 0 0)), .v (.one (.d (.int .i64 qmost))), .v (.one (.d (.int .i64 qlow)))] ⟨[], [(0, [.d (.lst (List.map (encI .i64) qs.L)), .d (.int .i64 qs.at_)])]⟩ (Is (fleetmake_Stream_RightSeries_R qs qmost qlow r)) := by
  unfold fleetmake_Stream_RightSeries at hF
  refine holds_of_awp hΓ (fn := f112) (c := cB f112) (A := 1) (nx := 1) (by kernel_rfl) (by kernel_rfl) (by kernel_rfl) (by kernel_rfl) (by kernel_rfl) (by kernel_rfl) (lowc_of (by kernel_rfl)) ?_
  show Awp prog 1 31 (cB f112) _ _
  refine awp_seq ?_
  refine awp_region ?_
  refine aR 1 ?_
  refine aE ?_
  refine awp_seq ?_
  refine awp_region ?_
  refine aR 1 ?_
  refine aE ?_
  refine awp_seq ?_
  refine awp_region ?_
  refine aR 1 ?_
  refine aE ?_
  refine awp_seq ?_
  refine awp_seq ?_
  refine bE hF fun x h1 hF => ?_
  obtain ⟨vs, vr⟩ := x
  refine awp_region ?_
  refine aR 2 ?_
  refine aC (fleetmake_Stream_Range_ok h1) [] [] [] ?_
  refine aR 1 ?_
  refine aE ?_
  refine awp_block ?_
  refine awp_to (st' := fleetmake_Stream_RightSeries_x1_H qlow vr (vs, [], 0, 0)) (oT [] [1]) ?_
  refine bE hF fun x h6 hF => ?_
  obtain ⟨vs2_1, vout1_1⟩ := x
  refine awp_sub (awp_loop' (fleetmake_Stream_RightSeries_x1_H qlow vr) fleetmake_Stream_RightSeries_x1_k (fleetmake_Stream_RightSeries_x1_S qlow vr) (by intro x; exact fun h => nomatch h) h6 (fleetmake_Stream_RightSeries_x1_ok qlow vr)) ?_
  refine awp_seq ?_
  refine awp_region ?_
  refine aR 2 ?_
  refine aE ?_
  refine awp_ret ?_
  exact oF hF [] []

/-! ### (*beaconfleet/fleetmake.Stream).Flip -/
def fleetmake_Stream_Flip_R (qs : fleetmake_Stream) (qn : Int) (r : Bool) : TV × Mem := (.v (.one (.d (.bool r))), ⟨[], [(0, [.d (.lst (List.map (encI .i64) qs.L)), .d (.int .i64 (IntKind.wrap .i64 (qs.at_ + 1)))])]⟩)

theorem fleetmake_Stream_Flip_ok {qs : fleetmake_Stream} {qn : Int} {r} (hF : fleetmake_Stream_Flip qs qn = some r) : Holds prog 18 [.v (.one (.box 0 0)), .v (.one (.d (.int .i64 qn)))] ⟨[], [(0, [.d (.lst (List.map (encI .i64) qs.L)), .d (.int .i64 qs.at_)])]⟩ (Is (fleetmake_Stream_Flip_R qs qn r)) := by
  unfold fleetmake_Stream_Flip at hF
  refine holds_of_awp hΓ (fn := f18) (c := cB f18) (A := 1) (nx := 1) (by kernel_rfl) (by kernel_rfl) (by kernel_rfl) (by kernel_rfl) (by kernel_rfl) (by kernel_rfl) (lowc_of (by kernel_rfl)) ?_
  show Awp prog 1 9 (cB f18) _ _
  refine awp_seq ?_
  refine awp_region ?_
  refine aR 1 ?_
  refine aE ?_
  refine awp_seq ?_
  refine bE hF fun vr3 h1 hF => ?_
  refine awp_region ?_
  refine aR 2 ?_
  refine aC (fleetmake_Stream_Next_ok h1) [] [] [] ?_
  refine aR 2 ?_
  refine aE ?_
  refine awp_ret ?_
  exact oF hF [] []

/-! ### (*beaconfleet/fleetmake.Stream).Some -/
def fleetmake_Stream_Some_o1_R (qs : fleetmake_Stream) (ql : List (List UInt8)) (r : (List UInt8)) : TV × Mem := (.v (.one (.d (.str r))), ⟨[], [(0, [.d (.lst (List.map (encI .i64) qs.L)), .d (.int .i64 (IntKind.wrap .i64 (qs.at_ + 1)))])]⟩)

theorem fleetmake_Stream_Some_o1_ok {qs : fleetmake_Stream} {ql : List (List UInt8)} {r} (hF : fleetmake_Stream_Some_o1 qs ql = some r) : Holds prog 28 [.v (.one (.box 0 0)), .v (.one (.own 1 none))] ⟨[(1, ⟨9, 1, List.map encS ql⟩)], [(0, [.d (.lst (List.map (encI .i64) qs.L)), .d (.int .i64 qs.at_)])]⟩ (Is (fleetmake_Stream_Some_o1_R qs ql r)) := by
  unfold fleetmake_Stream_Some_o1 at hF
  refine holds_of_awp hΓ (fn := f28) (c := cB f28) (A := 1) (nx := 2) (by kernel_rfl) (by kernel_rfl) (by kernel_rfl) (by kernel_rfl) (by kernel_rfl) (by kernel_rfl) (lowc_of (by kernel_rfl)) ?_
  show Awp prog 1 12 (cB f28) _ _
  refine awp_seq ?_
  refine awp_region ?_
  refine aR 1 ?_
  refine aE ?_
  refine awp_to (oT (m := ⟨[], [(0, [.d (.lst (List.map (encI .i64) qs.L)), .d (.int .i64 qs.at_)])]⟩) (ts := [(0, .v (.one (.box 0 0))), (1, .v (.one (.d (.lst (List.map encS ql)))))]) (nx := 1) [] []) ?_
  refine awp_seq ?_
  refine bE hF fun vr3 h1 hF => ?_
  refine bE hF fun vy h2 hF => ?_
  refine awp_region ?_
  refine aR 3 ?_
  refine aL encS ql ?_
  refine aC (fleetmake_Stream_Next_ok h1) [] [] [] ?_
  refine aX (x_idx encS h2) ?_
  refine aR 2 ?_
  refine aE ?_
  refine awp_ret ?_
  exact oF hF [] []

/-! ### (*beaconfleet/fleetmake.Stream).Odd -/
def fleetmake_Stream_Odd_R (qs : fleetmake_Stream) (qlow : Int) (qhigh : Int) (r : fleetmake_Stream × Int) : TV × Mem := (.v (.one (.d (.int .i64 r.2))), ⟨[], [(0, [.d (.lst (List.map (encI .i64) r.1.L)), .d (.int .i64 r.1.at_)])]⟩)

theorem fleetmake_Stream_Odd_ok {qs : fleetmake_Stream} {qlow : Int} {qhigh : Int} {r} (hF : fleetmake_Stream_Odd qs qlow qhigh = some r) : Holds prog 70 [.v (.one (.box 0 0)), .v (.one (.d (.int .i64 qlow))), .v (.one (.d (.int .i64 qhigh)))] ⟨[], [(0, [.d (.lst (List.map (encI .i64) qs.L)), .d (.int .i64 qs.at_)])]⟩ (Is (fleetmake_Stream_Odd_R qs qlow qhigh r)) := by
  unfold fleetmake_Stream_Odd at hF
  refine holds_of_awp hΓ (fn := f70) (c := cB f70) (A := 1) (nx := 1) (by kernel_rfl) (by kernel_rfl) (by kernel_rfl) (by kernel_rfl) (by kernel_rfl) (by kernel_rfl) (lowc_of (by kernel_rfl)) ?_
  show Awp prog 1 22 (cB f70) _ _
  refine awp_seq ?_
  refine awp_region ?_
  refine aR 1 ?_
  refine aE ?_
  refine awp_seq ?_
  refine awp_seq ?_
  refine bE hF fun vr h1 hF => ?_
  refine awp_region ?_
  refine aR 1 ?_
  refine aC (fleetmake_Stream_Flip_ok h1) [] [] [] ?_
  refine aE ?_
  refine cE hF (fun h2 hF => ?_) fun h2 hF => ?_
  · refine awp_true (by kernel_rfl) h2 ?_
    refine awp_seq ?_
    refine bE hF fun vr1 h3 hF => ?_
    refine awp_region ?_
    refine aR 8 ?_
    refine aC (fleetmake_Stream_Pick_o1_ok h3) [(1, 10001)] [] [] ?_
    refine aR 1 ?_
    refine aE ?_
    refine awp_ret ?_
    exact oF hF [] []
  · refine awp_false (by kernel_rfl) h2 ?_
    refine awp_skip ?_
    refine awp_seq ?_
    refine bE hF fun x h4 hF => ?_
    obtain ⟨vs, vr2⟩ := x
    refine awp_region ?_
    refine aR 3 ?_
    refine aC (fleetmake_Stream_Range_ok h4) [] [] [] ?_
    refine aR 1 ?_
    refine aE ?_
    refine awp_ret ?_
    exact oF hF [] []

/-! ### (*beaconfleet/fleetmake.Stream).Series -/
def fleetmake_Stream_Series_x2_k : (fleetmake_Stream × Bool) → AEx
  | _ => .normal

def fleetmake_Stream_Series_x2_S (vs3 : fleetmake_Stream) (vr5 : List api_Sample) : (fleetmake_Stream × Bool) → St
  | (vs, vx) => Mem.st ⟨[(1, ⟨42, 4, List.map api_Sample.enc vr5⟩)], [(0, [.d (.lst (List.map (encI .i64) vs.L)), .d (.int .i64 vs.at_)])]⟩ (tl [(0, .v (.one (.box 0 0))), (5, .v (.one (.own 1 none))), (20, .v (.one (.d (.bool vx))))]) 2

def fleetmake_Stream_Series_x2_I (vs3 : fleetmake_Stream) (vr5 : List api_Sample) : St := Mem.st ⟨[(1, ⟨42, 4, List.map api_Sample.enc vr5⟩)], [(0, [.d (.lst (List.map (encI .i64) vs3.L)), .d (.int .i64 vs3.at_)])]⟩ (tl [(0, .v (.one (.box 0 0))), (5, .v (.one (.own 1 none)))]) 2

theorem fleetmake_Stream_Series_x2_ok (vs3 : fleetmake_Stream) (vr5 : List api_Sample) {r} (hF : fleetmake_Stream_Series_x2 vs3 vr5 = some r) : Awp prog 1 82 (cL (cL (cR (cR (cB f15))))) (Out 1 fleetmake_Stream_Series_x2_k (fleetmake_Stream_Series_x2_S vs3 vr5) r) (fleetmake_Stream_Series_x2_I vs3 vr5) := by
  unfold fleetmake_Stream_Series_x2 at hF
  refine cE hF (fun h3 hF => ?_) fun h3 hF => ?_
  · refine bE hF fun vr1 h4 hF => ?_
    refine awp_region ?_
    refine aR 1 ?_
    refine aL api_Sample.enc vr5 ?_
    refine aB h3 ?_
    refine aR 2 ?_
    refine aC (fleetmake_Stream_Flip_ok h4) [] [] [] ?_
    refine aR 1 ?_
    refine aE ?_
    exact oO hF [] [] rfl
  · refine awp_region ?_
    refine aR 1 ?_
    refine aL api_Sample.enc vr5 ?_
    refine aB h3 ?_
    refine aR 4 ?_
    refine aE ?_
    exact oO hF [] [] rfl

def fleetmake_Stream_Series_x1_k : (fleetmake_Stream × (List api_Sample)) → AEx
  | _ => .normal

def fleetmake_Stream_Series_x1_S (vs3 : fleetmake_Stream) (vr5 : List api_Sample) : (fleetmake_Stream × (List api_Sample)) → St
  | (vs2, vx2) => Mem.st ⟨[(1, ⟨42, 4, List.map api_Sample.enc vx2⟩)], [(0, [.d (.lst (List.map (encI .i64) vs2.L)), .d (.int .i64 vs2.at_)])]⟩ (tl [(0, .v (.one (.box 0 0))), (5, .v (.one (.own 1 none)))]) 2

def fleetmake_Stream_Series_x1_I (vs3 : fleetmake_Stream) (vr5 : List api_Sample) : St := Mem.st ⟨[(1, ⟨42, 4, List.map api_Sample.enc vr5⟩)], [(0, [.d (.lst (List.map (encI .i64) vs3.L)), .d (.int .i64 vs3.at_)])]⟩ (tl [(0, .v (.one (.box 0 0))), (5, .v (.one (.own 1 none)))]) 2

theorem fleetmake_Stream_Series_x1_ok (vs3 : fleetmake_Stream) (vr5 : List api_Sample) {r} (hF : fleetmake_Stream_Series_x1 vs3 vr5 = some r) : Awp prog 1 82 (cL (cR (cR (cB f15)))) (Out 1 fleetmake_Stream_Series_x1_k (fleetmake_Stream_Series_x1_S vs3 vr5) r) (fleetmake_Stream_Series_x1_I vs3 vr5) := by
  unfold fleetmake_Stream_Series_x1 at hF
  refine awp_seq ?_
  refine awp_to (st' := fleetmake_Stream_Series_x2_I vs3 vr5) (oT [] []) ?_
  refine bE hF fun x h5 hF => ?_
  obtain ⟨vs1, vx1⟩ := x
  refine awp_sub (fleetmake_Stream_Series_x2_ok vs3 vr5 h5) ?_
  refine cE hF (fun h6 hF => ?_) fun h6 hF => ?_
  · refine awp_true (by kernel_rfl) h6 ?_
    refine awp_seq ?_
    refine bE hF fun vr3 h7 hF => ?_
    refine bE hF fun vy h8 hF => ?_
    refine awp_region ?_
    refine aR 3 ?_
    refine aL api_Sample.enc vr5 ?_
    refine aC (fleetmake_Stream_Next_ok h7) [] [] [] ?_
    refine aX (x_idxO api_Sample.enc 1 h8) ?_
    refine aR 1 ?_
    refine aE ?_
    refine awp_seq ?_
    refine bE hF fun vr3_1 h9 hF => ?_
    refine awp_region ?_
    refine aR 1 ?_
    refine aC (fleetmake_Stream_Next_ok h9) [] [] [] ?_
    refine aE ?_
    refine awp_block ?_
    refine awp_seq ?_
    refine awp_region ?_
    refine aR 2 ?_
    refine aE ?_
    refine cE hF (fun h10 hF => ?_) fun h10 hF => ?_
    · refine awp_true (by kernel_rfl) h10 ?_
      refine bE hF fun vr2 h11 hF => ?_
      refine awp_region ?_
      refine aR 3 ?_
      refine aC (fleetmake_Stream_Some_o1_ok h11) [(1, 13002)] [] [] ?_
      refine aR 2 ?_
      refine aX (x_stE api_Sample.enc (api_Sample.mk vr2 vy.Metric vy.At vy.Value) h8) ?_
      refine aE ?_
      exact oO hF [] [] rfl
    · refine awp_false (by kernel_rfl) h10 ?_
      refine awp_seq ?_
      refine awp_region ?_
      refine aR 2 ?_
      refine aE ?_
      refine cE hF (fun h12 hF => ?_) fun h12 hF => ?_
      · refine awp_true (by kernel_rfl) h12 ?_
        refine bE hF fun vr4 h13 hF => ?_
        refine awp_region ?_
        refine aR 3 ?_
        refine aC (fleetmake_Stream_Some_o1_ok h13) [(1, 15002)] [] [] ?_
        refine aR 2 ?_
        refine aX (x_stE api_Sample.enc (api_Sample.mk vy.Device vr4 vy.At vy.Value) h8) ?_
        refine aE ?_
        exact oO hF [] [] rfl
      · refine awp_false (by kernel_rfl) h12 ?_
        refine awp_seq ?_
        refine awp_region ?_
        refine aR 2 ?_
        refine aE ?_
        refine cE hF (fun h14 hF => ?_) fun h14 hF => ?_
        · refine awp_true (by kernel_rfl) h14 ?_
          refine bE hF fun x h15 hF => ?_
          obtain ⟨vs1_1, vr3_2⟩ := x
          refine awp_region ?_
          refine aR 2 ?_
          refine aC (fleetmake_Stream_Odd_ok h15) [] [] [] ?_
          refine aR 2 ?_
          refine aX (x_stE api_Sample.enc (api_Sample.mk vy.Device vy.Metric vr3_2 vy.Value) h8) ?_
          refine aE ?_
          exact oO hF [] [] rfl
        · refine awp_false (by kernel_rfl) h14 ?_
          refine bE hF fun x h16 hF => ?_
          obtain ⟨vs1_2, vr3_3⟩ := x
          refine awp_region ?_
          refine aR 2 ?_
          refine aC (fleetmake_Stream_Odd_ok h16) [] [] [] ?_
          refine aR 2 ?_
          refine aX (x_stE api_Sample.enc (api_Sample.mk vy.Device vy.Metric vy.At vr3_3) h8) ?_
          refine aE ?_
          exact oO hF [] [] rfl
  · refine awp_false (by kernel_rfl) h6 ?_
    refine awp_skip ?_
    exact oO hF [] [] rfl

def fleetmake_Stream_Series_x4_k : (fleetmake_Stream × Bool) → AEx
  | _ => .normal

def fleetmake_Stream_Series_x4_S (vs2_1 : fleetmake_Stream) (vx2_1 : List api_Sample) : (fleetmake_Stream × Bool) → St
  | (vs4, vx3) => Mem.st ⟨[(1, ⟨42, 4, List.map api_Sample.enc vx2_1⟩)], [(0, [.d (.lst (List.map (encI .i64) vs4.L)), .d (.int .i64 vs4.at_)])]⟩ (tl [(0, .v (.one (.box 0 0))), (5, .v (.one (.own 1 none))), (63, .v (.one (.d (.bool vx3))))]) 2

def fleetmake_Stream_Series_x4_I (vs2_1 : fleetmake_Stream) (vx2_1 : List api_Sample) : St := Mem.st ⟨[(1, ⟨42, 4, List.map api_Sample.enc vx2_1⟩)], [(0, [.d (.lst (List.map (encI .i64) vs2_1.L)), .d (.int .i64 vs2_1.at_)])]⟩ (tl [(0, .v (.one (.box 0 0))), (5, .v (.one (.own 1 none)))]) 2

theorem fleetmake_Stream_Series_x4_ok (vs2_1 : fleetmake_Stream) (vx2_1 : List api_Sample) {r} (hF : fleetmake_Stream_Series_x4 vs2_1 vx2_1 = some r) : Awp prog 1 82 (cL (cL (cR (cR (cR (cB f15)))))) (Out 1 fleetmake_Stream_Series_x4_k (fleetmake_Stream_Series_x4_S vs2_1 vx2_1) r) (fleetmake_Stream_Series_x4_I vs2_1 vx2_1) := by
  unfold fleetmake_Stream_Series_x4 at hF
  refine cE hF (fun h18 hF => ?_) fun h18 hF => ?_
  · refine bE hF fun vr6 h19 hF => ?_
    refine awp_region ?_
    refine aR 1 ?_
    refine aL api_Sample.enc vx2_1 ?_
    refine aB h18 ?_
    refine aR 2 ?_
    refine aC (fleetmake_Stream_Flip_ok h19) [] [] [] ?_
    refine aR 1 ?_
    refine aE ?_
    exact oO hF [] [] rfl
  · refine awp_region ?_
    refine aR 1 ?_
    refine aL api_Sample.enc vx2_1 ?_
    refine aB h18 ?_
    refine aR 4 ?_
    refine aE ?_
    exact oO hF [] [] rfl

def fleetmake_Stream_Series_x3_k : (fleetmake_Stream × (List api_Sample)) → AEx
  | _ => .normal

def fleetmake_Stream_Series_x3_S (vs2_1 : fleetmake_Stream) (vx2_1 : List api_Sample) : (fleetmake_Stream × (List api_Sample)) → St
  | (vs5, vx4) => Mem.st ⟨[(1, ⟨42, 4, List.map api_Sample.enc vx4⟩)], [(0, [.d (.lst (List.map (encI .i64) vs5.L)), .d (.int .i64 vs5.at_)])]⟩ (tl [(5, .v (.one (.own 1 none)))]) 2

def fleetmake_Stream_Series_x3_I (vs2_1 : fleetmake_Stream) (vx2_1 : List api_Sample) : St := Mem.st ⟨[(1, ⟨42, 4, List.map api_Sample.enc vx2_1⟩)], [(0, [.d (.lst (List.map (encI .i64) vs2_1.L)), .d (.int .i64 vs2_1.at_)])]⟩ (tl [(0, .v (.one (.box 0 0))), (5, .v (.one (.own 1 none)))]) 2

theorem fleetmake_Stream_Series_x3_ok (vs2_1 : fleetmake_Stream) (vx2_1 : List api_Sample) {r} (hF : fleetmake_Stream_Series_x3 vs2_1 vx2_1 = some r) : Awp prog 1 82 (cL (cR (cR (cR (cB f15))))) (Out 1 fleetmake_Stream_Series_x3_k (fleetmake_Stream_Series_x3_S vs2_1 vx2_1) r) (fleetmake_Stream_Series_x3_I vs2_1 vx2_1) := by
  unfold fleetmake_Stream_Series_x3 at hF
  refine awp_seq ?_
  refine awp_to (st' := fleetmake_Stream_Series_x4_I vs2_1 vx2_1) (oT [] []) ?_
  refine bE hF fun x h20 hF => ?_
  obtain ⟨vs4_1, vx3_1⟩ := x
  refine awp_sub (fleetmake_Stream_Series_x4_ok vs2_1 vx2_1 h20) ?_
  refine cE hF (fun h21 hF => ?_) fun h21 hF => ?_
  · refine awp_true (by kernel_rfl) h21 ?_
    refine awp_seq ?_
    refine bE hF fun vy1 h22 hF => ?_
    refine awp_region ?_
    refine aR 2 ?_
    refine aL api_Sample.enc vx2_1 ?_
    refine aR 1 ?_
    refine aX (x_idxO api_Sample.enc 1 h22) ?_
    refine aR 1 ?_
    refine aE ?_
    refine bE hF fun vr7 h23 hF => ?_
    refine bE hF fun vr8 h24 hF => ?_
    refine awp_region ?_
    refine aR 4 ?_
    refine aC (fleetmake_Stream_Pick_o1_ok h23) [(1, 9002)] [] [] ?_
    refine aR 2 ?_
    refine aC (fleetmake_Stream_Pick_o1_ok h24) [(1, 12002)] [] [] ?_
    refine aR 2 ?_
    refine aX (x_stE api_Sample.enc (api_Sample.mk vy1.Device vy1.Metric vr7 vy1.Value) h22) ?_
    refine aR 2 ?_
    refine aX (x_stE api_Sample.enc (api_Sample.mk vy1.Device vy1.Metric vr7 vr8) (at_set (z := (api_Sample.mk vy1.Device vy1.Metric vr7 vy1.Value)) h22)) ?_
    refine aE ?_
    exact oO hF [] [] rfl
  · refine awp_false (by kernel_rfl) h21 ?_
    refine awp_skip ?_
    exact oO hF [] [] rfl

def fleetmake_Stream_Series_R (qx : fleetmake_Stream) (qx1 : Int) (r : fleetmake_Stream × (List api_Sample)) : TV × Mem := (.v (.one (.own 1 none)), ⟨[(1, ⟨42, 4, List.map api_Sample.enc r.2⟩)], [(0, [.d (.lst (List.map (encI .i64) r.1.L)), .d (.int .i64 r.1.at_)])]⟩)

theorem fleetmake_Stream_Series_ok {qx : fleetmake_Stream} {qx1 : Int} {r} (hF : fleetmake_Stream_Series qx qx1 = some r) : Holds prog 15 [.v (.one (.box 0 0)), .v (.one (.d (.int .i64 qx1)))] ⟨[], [(0, [.d (.lst (List.map (encI .i64) qx.L)), .d (.int .i64 qx.at_)])]⟩ (Is (fleetmake_Stream_Series_R qx qx1 r)) := by
  unfold fleetmake_Stream_Series at hF
  refine holds_of_awp hΓ (fn := f15) (c := cB f15) (A := 1) (nx := 1) (by kernel_rfl) (by kernel_rfl) (by kernel_rfl) (by kernel_rfl) (by kernel_rfl) (by kernel_rfl) (lowc_of (by kernel_rfl)) ?_
  show Awp prog 1 82 (cB f15) _ _
  refine awp_seq ?_
  refine awp_region ?_
  refine aR 1 ?_
  refine aE ?_
  refine awp_seq ?_
  refine bE hF fun vr h1 hF => ?_
  refine bE hF fun x h2 hF => ?_
  obtain ⟨vs3, vr5⟩ := x
  refine awp_region ?_
  refine aR 4 ?_
  refine aC (fleetmake_Stream_Pick_o1_ok h1) [(1, 4001)] [] [] ?_
  refine aC (fleetmake_Stream_RightSeries_ok h2) [] [] [] ?_
  refine aR 1 ?_
  refine aE ?_
  refine awp_seq ?_
  refine awp_to (st' := fleetmake_Stream_Series_x1_I vs3 vr5) (oT [(1, 6002)] []) ?_
  refine bE hF fun x h17 hF => ?_
  obtain ⟨vs2_1, vx2_1⟩ := x
  refine awp_sub (fleetmake_Stream_Series_x1_ok vs3 vr5 h17) ?_
  refine awp_seq ?_
  refine awp_to (st' := fleetmake_Stream_Series_x3_I vs2_1 vx2_1) (oT [] []) ?_
  refine bE hF fun x h25 hF => ?_
  obtain ⟨vs5_1, vx4_1⟩ := x
  refine awp_sub (fleetmake_Stream_Series_x3_ok vs2_1 vx2_1 h25) ?_
  refine awp_seq ?_
  refine awp_region ?_
  refine aR 2 ?_
  refine aE ?_
  refine awp_ret ?_
  exact oF hF [] []

/-! ### beaconfleet/base.Key -/
def base_Key_x1_k : Bool → AEx
  | _ => .normal

def base_Key_x1_S (qs : List UInt8) : Bool → St
  | vx => Mem.st ⟨[], []⟩ (tl [(0, .v (.one (.d (.str qs)))), (21, .v (.one (.d (.bool vx))))]) 0

def base_Key_x1_I (qs : List UInt8) : St := Mem.st ⟨[], []⟩ (tl [(0, .v (.one (.d (.str qs))))]) 0

theorem base_Key_x1_ok (qs : List UInt8) {r} (hF : base_Key_x1 qs = some r) : Awp prog 0 54 (cL (cL (cR (cB f124)))) (Out 0 base_Key_x1_k (base_Key_x1_S qs) r) (base_Key_x1_I qs) := by
  unfold base_Key_x1 at hF
  refine cE hF (fun h1 hF => ?_) fun h1 hF => ?_
  · refine awp_region ?_
    refine aR 1 ?_
    refine aB h1 ?_
    refine aR 15 ?_
    refine aE ?_
    exact oO hF [] [] rfl
  · refine cE hF (fun h2 hF => ?_) fun h2 hF => ?_
    · refine awp_region ?_
      refine aR 1 ?_
      refine aB h1 ?_
      refine aR 3 ?_
      refine aB h2 ?_
      refine aR 11 ?_
      refine aE ?_
      exact oO hF [] [] rfl
    · refine bE hF fun vc h3 hF => ?_
      refine cE hF (fun h4 hF => ?_) fun h4 hF => ?_
      · refine awp_region ?_
        refine aR 1 ?_
        refine aB h1 ?_
        refine aR 3 ?_
        refine aB h2 ?_
        refine aR 3 ?_
        refine aX (x_idxS h3) ?_
        refine aB h4 ?_
        refine aR 6 ?_
        refine aE ?_
        exact oO hF [] [] rfl
      · refine awp_region ?_
        refine aR 1 ?_
        refine aB h1 ?_
        refine aR 3 ?_
        refine aB h2 ?_
        refine aR 3 ?_
        refine aX (x_idxS h3) ?_
        refine aB h4 ?_
        refine aR 3 ?_
        refine aX (x_idxS h3) ?_
        refine aR 2 ?_
        refine aE ?_
        exact oO hF [] [] rfl

def base_Key_x3_k : Bool → AEx
  | _ => .normal

def base_Key_x3_S (qs : List UInt8) (vx2 : Int) (vc2 : UInt8) : Bool → St
  | vx4 => Mem.st ⟨[], []⟩ (tl [(0, .v (.one (.d (.str qs)))), (23, .v (.one (.d (.int .i64 (qs.length : Int))))), (24, .v (.one (.d (.int .i64 vx2)))), (52, .v (.one (.d (.bool vx4))))]) 0

def base_Key_x3_I (qs : List UInt8) (vx2 : Int) (vc2 : UInt8) : St := Mem.st ⟨[], []⟩ (tl [(0, .v (.one (.d (.str qs)))), (4, .v (.one (.d (.int .u8 (vc2.toNat : Int))))), (23, .v (.one (.d (.int .i64 (qs.length : Int))))), (24, .v (.one (.d (.int .i64 vx2))))]) 0

theorem base_Key_x3_ok (qs : List UInt8) (vx2 : Int) (vc2 : UInt8) {r} (hF : base_Key_x3 vc2 = some r) : Awp prog 0 54 (cL (cR (cR (cL (cL (cR (cR (cL (cL (cR (cL (cR (cR (cB f124)))))))))))))) (Out 0 base_Key_x3_k (base_Key_x3_S qs vx2 vc2) r) (base_Key_x3_I qs vx2 vc2) := by
  unfold base_Key_x3 at hF
  refine cE hF (fun h9 hF => ?_) fun h9 hF => ?_
  · refine cE hF (fun h10 hF => ?_) fun h10 hF => ?_
    · refine awp_region ?_
      refine aR 1 ?_
      refine aB h9 ?_
      refine aR 2 ?_
      refine aB h10 ?_
      refine aR 18 ?_
      refine aE ?_
      exact oO hF [] [] rfl
    · refine cE hF (fun h11 hF => ?_) fun h11 hF => ?_
      · refine cE hF (fun h12 hF => ?_) fun h12 hF => ?_
        · refine awp_region ?_
          refine aR 1 ?_
          refine aB h9 ?_
          refine aR 2 ?_
          refine aB h10 ?_
          refine aR 3 ?_
          refine aB h11 ?_
          refine aR 2 ?_
          refine aB h12 ?_
          refine aR 11 ?_
          refine aE ?_
          exact oO hF [] [] rfl
        · refine cE hF (fun h13 hF => ?_) fun h13 hF => ?_
          · refine awp_region ?_
            refine aR 1 ?_
            refine aB h9 ?_
            refine aR 2 ?_
            refine aB h10 ?_
            refine aR 3 ?_
            refine aB h11 ?_
            refine aR 2 ?_
            refine aB h12 ?_
            refine aR 4 ?_
            refine aB h13 ?_
            refine aR 6 ?_
            refine aE ?_
            exact oO hF [] [] rfl
          · refine awp_region ?_
            refine aR 1 ?_
            refine aB h9 ?_
            refine aR 2 ?_
            refine aB h10 ?_
            refine aR 3 ?_
            refine aB h11 ?_
            refine aR 2 ?_
            refine aB h12 ?_
            refine aR 4 ?_
            refine aB h13 ?_
            refine aR 6 ?_
            refine aE ?_
            exact oO hF [] [] rfl
      · refine cE hF (fun h14 hF => ?_) fun h14 hF => ?_
        · refine awp_region ?_
          refine aR 1 ?_
          refine aB h9 ?_
          refine aR 2 ?_
          refine aB h10 ?_
          refine aR 3 ?_
          refine aB h11 ?_
          refine aR 7 ?_
          refine aB h14 ?_
          refine aR 6 ?_
          refine aE ?_
          exact oO hF [] [] rfl
        · refine awp_region ?_
          refine aR 1 ?_
          refine aB h9 ?_
          refine aR 2 ?_
          refine aB h10 ?_
          refine aR 3 ?_
          refine aB h11 ?_
          refine aR 7 ?_
          refine aB h14 ?_
          refine aR 6 ?_
          refine aE ?_
          exact oO hF [] [] rfl
  · refine cE hF (fun h15 hF => ?_) fun h15 hF => ?_
    · refine cE hF (fun h16 hF => ?_) fun h16 hF => ?_
      · refine awp_region ?_
        refine aR 1 ?_
        refine aB h9 ?_
        refine aR 6 ?_
        refine aB h15 ?_
        refine aR 2 ?_
        refine aB h16 ?_
        refine aR 11 ?_
        refine aE ?_
        exact oO hF [] [] rfl
      · refine cE hF (fun h17 hF => ?_) fun h17 hF => ?_
        · refine awp_region ?_
          refine aR 1 ?_
          refine aB h9 ?_
          refine aR 6 ?_
          refine aB h15 ?_
          refine aR 2 ?_
          refine aB h16 ?_
          refine aR 4 ?_
          refine aB h17 ?_
          refine aR 6 ?_
          refine aE ?_
          exact oO hF [] [] rfl
        · refine awp_region ?_
          refine aR 1 ?_
          refine aB h9 ?_
          refine aR 6 ?_
          refine aB h15 ?_
          refine aR 2 ?_
          refine aB h16 ?_
          refine aR 4 ?_
          refine aB h17 ?_
          refine aR 6 ?_
          refine aE ?_
          exact oO hF [] [] rfl
    · refine cE hF (fun h18 hF => ?_) fun h18 hF => ?_
      · refine awp_region ?_
        refine aR 1 ?_
        refine aB h9 ?_
        refine aR 6 ?_
        refine aB h15 ?_
        refine aR 7 ?_
        refine aB h18 ?_
        refine aR 6 ?_
        refine aE ?_
        exact oO hF [] [] rfl
      · refine awp_region ?_
        refine aR 1 ?_
        refine aB h9 ?_
        refine aR 6 ?_
        refine aB h15 ?_
        refine aR 7 ?_
        refine aB h18 ?_
        refine aR 6 ?_
        refine aE ?_
        exact oO hF [] [] rfl

def base_Key_x2_k : Unit ⊕ Unit → AEx
  | .inl _ => .exit 0
  | .inr _ => .ret

def base_Key_x2_S (qs : List UInt8) : Unit ⊕ Unit → St
  | .inl _ => Mem.st ⟨[], []⟩ (tl []) 0
  | .inr _ => Mem.st ⟨[], []⟩ (tl [(2, .v (.one (.d (.bool false))))]) 0

def base_Key_x2_H (qs : List UInt8) : Int → St
  | vx2 => Mem.st ⟨[], []⟩ (tl [(0, .v (.one (.d (.str qs)))), (23, .v (.one (.d (.int .i64 (qs.length : Int))))), (24, .v (.one (.d (.int .i64 vx2))))]) 0

theorem base_Key_x2_ok (qs : List UInt8) (vx2 : Int) (r : (Int) ⊕ (Unit ⊕ Unit)) (hF : base_Key_x2 qs vx2 = some r) : Awp prog 0 54 (cL (cL (cR (cL (cR (cR (cB f124))))))) (Out 0 (kk base_Key_x2_k) (SS (base_Key_x2_H qs) (base_Key_x2_S qs)) r) (base_Key_x2_H qs vx2) := by
  unfold base_Key_x2 at hF
  refine awp_seq ?_
  refine awp_region ?_
  refine aR 1 ?_
  refine aE ?_
  refine awp_seq ?_
  refine cE hF (fun h7 hF => ?_) fun h7 hF => ?_
  · refine awp_true (by kernel_rfl) h7 ?_
    refine awp_skip ?_
    refine awp_seq ?_
    refine awp_block ?_
    refine awp_seq ?_
    refine awp_region ?_
    refine aR 2 ?_
    refine aE ?_
    refine awp_seq ?_
    refine bE hF fun vc2 h8 hF => ?_
    refine awp_region ?_
    refine aR 2 ?_
    refine aX (x_idxS h8) ?_
    refine aR 1 ?_
    refine aE ?_
    refine awp_seq ?_
    refine awp_to (st' := base_Key_x3_I qs vx2 vc2) (oT [] []) ?_
    refine bE hF fun vx4_1 h19 hF => ?_
    refine awp_sub (base_Key_x3_ok qs vx2 vc2 h19) ?_
    refine cE hF (fun h20 hF => ?_) fun h20 hF => ?_
    · refine awp_true (by kernel_rfl) h20 ?_
      refine awp_seq ?_
      refine awp_region ?_
      refine aR 1 ?_
      refine aE ?_
      refine awp_ret ?_
      exact oO hF [] [] rfl
    · refine awp_false (by kernel_rfl) h20 ?_
      refine awp_skip ?_
      refine awp_region ?_
      refine aR 2 ?_
      refine aE ?_
      exact oO hF [] [] rfl
  · refine awp_false (by kernel_rfl) h7 ?_
    refine awp_exit ?_
    exact oO hF [] [] rfl

def base_Key_R (qs : List UInt8) (r : Bool) : TV × Mem := (.v (.one (.d (.bool r))), ⟨[], []⟩)

theorem base_Key_ok {qs : List UInt8} {r} (hF : base_Key qs = some r) : Holds prog 124 [.v (.one (.d (.str qs)))] ⟨[], []⟩ (Is (base_Key_R qs r)) := by
  unfold base_Key at hF
  refine holds_of_awp hΓ (fn := f124) (c := cB f124) (A := 0) (nx := 0) (by kernel_rfl) (by kernel_rfl) (by kernel_rfl) (by kernel_rfl) (by kernel_rfl) (by kernel_rfl) (lowc_of (by kernel_rfl)) ?_
  show Awp prog 0 54 (cB f124) _ _
  refine awp_seq ?_
  refine awp_region ?_
  refine aR 1 ?_
  refine aE ?_
  refine awp_seq ?_
  refine awp_seq ?_
  refine awp_to (st' := base_Key_x1_I qs) (oT [] []) ?_
  refine bE hF fun vx1 h5 hF => ?_
  refine awp_sub (base_Key_x1_ok qs h5) ?_
  refine cE hF (fun h6 hF => ?_) fun h6 hF => ?_
  · refine awp_true (by kernel_rfl) h6 ?_
    refine awp_seq ?_
    refine awp_region ?_
    refine aR 1 ?_
    refine aE ?_
    refine awp_ret ?_
    exact oF hF [] []
  · refine awp_false (by kernel_rfl) h6 ?_
    refine awp_skip ?_
    refine awp_seq ?_
    refine awp_seq ?_
    refine awp_region ?_
    refine aR 3 ?_
    refine aE ?_
    refine awp_block ?_
    refine awp_to (st' := base_Key_x2_H qs 0) (oT [] []) ?_
    refine bE hF fun x h21 hF => ?_
    rcases x with _ | _
    · refine awp_sub (awp_loop' (base_Key_x2_H qs) base_Key_x2_k (base_Key_x2_S qs) (by intro x; rcases x with x | x <;> exact fun h => nomatch h) h21 (base_Key_x2_ok qs)) ?_
      refine awp_seq ?_
      refine awp_region ?_
      refine aR 1 ?_
      refine aE ?_
      refine awp_ret ?_
      exact oF hF [] []
    · refine awp_sub (awp_loop' (base_Key_x2_H qs) base_Key_x2_k (base_Key_x2_S qs) (by intro x; rcases x with x | x <;> exact fun h => nomatch h) h21 (base_Key_x2_ok qs)) ?_
      exact oF hF [] []

/-! ### beaconfleet/base.Out -/
def base_Out_x1_k : Bool → AEx
  | _ => .normal

def base_Out_x1_S (qn : Int) (qlow : Int) (qhigh : Int) : Bool → St
  | vx => Mem.st ⟨[], []⟩ (tl [(6, .v (.one (.d (.bool vx))))]) 0

def base_Out_x1_I (qn : Int) (qlow : Int) (qhigh : Int) : St := Mem.st ⟨[], []⟩ (tl [(0, .v (.one (.d (.int .i64 qn)))), (1, .v (.one (.d (.int .i64 qlow)))), (2, .v (.one (.d (.int .i64 qhigh))))]) 0

theorem base_Out_x1_ok (qn : Int) (qlow : Int) (qhigh : Int) {r} (hF : base_Out_x1 qn qlow qhigh = some r) : Awp prog 0 15 (cL (cR (cB f114))) (Out 0 base_Out_x1_k (base_Out_x1_S qn qlow qhigh) r) (base_Out_x1_I qn qlow qhigh) := by
  unfold base_Out_x1 at hF
  refine cE hF (fun h1 hF => ?_) fun h1 hF => ?_
  · refine awp_region ?_
    refine aR 2 ?_
    refine aB h1 ?_
    refine aR 6 ?_
    refine aE ?_
    exact oO hF [] [] rfl
  · refine awp_region ?_
    refine aR 2 ?_
    refine aB h1 ?_
    refine aR 6 ?_
    refine aE ?_
    exact oO hF [] [] rfl

def base_Out_R (qn : Int) (qlow : Int) (qhigh : Int) (r : Bool) : TV × Mem := (.v (.one (.d (.bool r))), ⟨[], []⟩)

theorem base_Out_ok {qn : Int} {qlow : Int} {qhigh : Int} {r} (hF : base_Out qn qlow qhigh = some r) : Holds prog 114 [.v (.one (.d (.int .i64 qn))), .v (.one (.d (.int .i64 qlow))), .v (.one (.d (.int .i64 qhigh)))] ⟨[], []⟩ (Is (base_Out_R qn qlow qhigh r)) := by
  unfold base_Out at hF
  refine holds_of_awp hΓ (fn := f114) (c := cB f114) (A := 0) (nx := 0) (by kernel_rfl) (by kernel_rfl) (by kernel_rfl) (by kernel_rfl) (by kernel_rfl) (by kernel_rfl) (lowc_of (by kernel_rfl)) ?_
  show Awp prog 0 15 (cB f114) _ _
  refine awp_seq ?_
  refine awp_region ?_
  refine aR 1 ?_
  refine aE ?_
  refine awp_seq ?_
  refine awp_to (st' := base_Out_x1_I qn qlow qhigh) (oT [] []) ?_
  refine bE hF fun vx1 h2 hF => ?_
  refine awp_sub (base_Out_x1_ok qn qlow qhigh h2) ?_
  refine awp_ret ?_
  exact oF hF [] []

/-! ### beaconfleet/base.Moment -/
def base_Moment_R (qn : Int) (r : Bool) : TV × Mem := (.v (.one (.d (.bool r))), ⟨[], []⟩)

theorem base_Moment_ok {qn : Int} {r} (hF : base_Moment qn = some r) : Holds prog 127 [.v (.one (.d (.int .i64 qn)))] ⟨[], []⟩ (Is (base_Moment_R qn r)) := by
  unfold base_Moment at hF
  refine holds_of_awp hΓ (fn := f127) (c := cB f127) (A := 0) (nx := 0) (by kernel_rfl) (by kernel_rfl) (by kernel_rfl) (by kernel_rfl) (by kernel_rfl) (by kernel_rfl) (lowc_of (by kernel_rfl)) ?_
  show Awp prog 0 6 (cB f127) _ _
  refine awp_seq ?_
  refine awp_region ?_
  refine aR 1 ?_
  refine aE ?_
  refine awp_seq ?_
  refine bE hF fun vr h1 hF => ?_
  refine awp_region ?_
  refine aR 1 ?_
  refine aC (base_Out_ok h1) [] [] [] ?_
  refine aR 2 ?_
  refine aE ?_
  refine awp_ret ?_
  exact oF hF [] []

/-! ### internal/bytealg.CompareString -/
def bytealg_CompareString_R (qa : List UInt8) (qb : List UInt8) (r : Unit) : TV × Mem := (.v (.one (.d (.int .i64 (Lib.compareBytes qa qb)))), ⟨[], []⟩)

theorem bytealg_CompareString_ok {qa : List UInt8} {qb : List UInt8} {r} (hF : bytealg_CompareString qa qb = some r) : Holds prog 248 [.v (.one (.d (.str qa))), .v (.one (.d (.str qb)))] ⟨[], []⟩ (Is (bytealg_CompareString_R qa qb r)) := by
  unfold bytealg_CompareString at hF
  refine holds_of_awp hΓ (fn := f248) (c := cB f248) (A := 0) (nx := 0) (by kernel_rfl) (by kernel_rfl) (by kernel_rfl) (by kernel_rfl) (by kernel_rfl) (by kernel_rfl) (lowc_of (by kernel_rfl)) ?_
  show Awp prog 0 8 (cB f248) _ _
  refine awp_seq ?_
  refine awp_region ?_
  refine aR 1 ?_
  refine aE ?_
  refine awp_seq ?_
  refine awp_region ?_
  refine aR 2 ?_
  refine aS (does_cmpstring (g := 265) (fn := f265) (a := qa) (b := qb) rfl (by kernel_rfl) (by kernel_rfl) (by kernel_rfl) (by kernel_rfl) (by kernel_rfl) (by kernel_rfl)) ?_
  refine aR 1 ?_
  refine aE ?_
  refine awp_ret ?_
  exact oF hF [] []

/-! ### strings.Compare -/
def strings_Compare_R (qa : List UInt8) (qb : List UInt8) (r : Unit) : TV × Mem := (.v (.one (.d (.int .i64 (Lib.compareBytes qa qb)))), ⟨[], []⟩)

theorem strings_Compare_ok {qa : List UInt8} {qb : List UInt8} {r} (hF : strings_Compare qa qb = some r) : Holds prog 229 [.v (.one (.d (.str qa))), .v (.one (.d (.str qb)))] ⟨[], []⟩ (Is (strings_Compare_R qa qb r)) := by
  unfold strings_Compare at hF
  refine holds_of_awp hΓ (fn := f229) (c := cB f229) (A := 0) (nx := 0) (by kernel_rfl) (by kernel_rfl) (by kernel_rfl) (by kernel_rfl) (by kernel_rfl) (by kernel_rfl) (lowc_of (by kernel_rfl)) ?_
  show Awp prog 0 8 (cB f229) _ _
  refine awp_seq ?_
  refine awp_region ?_
  refine aR 1 ?_
  refine aE ?_
  refine awp_seq ?_
  refine bE hF fun _ h1 hF => ?_
  refine awp_region ?_
  refine aR 2 ?_
  refine aC (bytealg_CompareString_ok h1) [] [] [] ?_
  refine aR 1 ?_
  refine aE ?_
  refine awp_ret ?_
  exact oF hF [] []

/-! ### cmp.isNaN[int] -/
def cmp_isNaN_int_R (qx : Int) (r : Unit) : TV × Mem := (.v (.one (.d (.bool (!decide (qx = qx))))), ⟨[], []⟩)

theorem cmp_isNaN_int_ok {qx : Int} {r} (hF : cmp_isNaN_int qx = some r) : Holds prog 227 [.v (.one (.d (.int .i64 qx)))] ⟨[], []⟩ (Is (cmp_isNaN_int_R qx r)) := by
  unfold cmp_isNaN_int at hF
  refine holds_of_awp hΓ (fn := f227) (c := cB f227) (A := 0) (nx := 0) (by kernel_rfl) (by kernel_rfl) (by kernel_rfl) (by kernel_rfl) (by kernel_rfl) (by kernel_rfl) (lowc_of (by kernel_rfl)) ?_
  show Awp prog 0 6 (cB f227) _ _
  refine awp_seq ?_
  refine awp_region ?_
  refine aR 1 ?_
  refine aE ?_
  refine awp_seq ?_
  refine awp_region ?_
  refine aR 4 ?_
  refine aE ?_
  refine awp_ret ?_
  exact oF hF [] []

/-! ### cmp.Compare[int] -/
def cmp_Compare_int_R (qx : Int) (qy : Int) (r : Int) : TV × Mem := (.v (.one (.d (.int .i64 r))), ⟨[], []⟩)

theorem cmp_Compare_int_ok {qx : Int} {qy : Int} {r} (hF : cmp_Compare_int qx qy = some r) : Holds prog 165 [.v (.one (.d (.int .i64 qx))), .v (.one (.d (.int .i64 qy)))] ⟨[], []⟩ (Is (cmp_Compare_int_R qx qy r)) := by
  unfold cmp_Compare_int at hF
  refine holds_of_awp hΓ (fn := f165) (c := cB f165) (A := 0) (nx := 0) (by kernel_rfl) (by kernel_rfl) (by kernel_rfl) (by kernel_rfl) (by kernel_rfl) (by kernel_rfl) (lowc_of (by kernel_rfl)) ?_
  show Awp prog 0 20 (cB f165) _ _
  refine awp_seq ?_
  refine awp_region ?_
  refine aR 1 ?_
  refine aE ?_
  refine awp_seq ?_
  refine bE hF fun _ h1 hF => ?_
  refine awp_region ?_
  refine aR 1 ?_
  refine aC (cmp_isNaN_int_ok h1) [] [] [] ?_
  refine aR 1 ?_
  refine aE ?_
  refine awp_seq ?_
  refine bE hF fun _ h2 hF => ?_
  refine awp_region ?_
  refine aR 1 ?_
  refine aC (cmp_isNaN_int_ok h2) [] [] [] ?_
  refine aR 1 ?_
  refine aE ?_
  refine awp_seq ?_
  refine awp_seq ?_
  refine awp_region ?_
  refine aR 1 ?_
  refine aE ?_
  refine cE hF (fun h3 hF => ?_) fun h3 hF => ?_
  · refine awp_true (by kernel_rfl) h3 ?_
    refine awp_seq ?_
    refine awp_seq ?_
    refine awp_region ?_
    refine aR 1 ?_
    refine aE ?_
    refine cE hF (fun h4 hF => ?_) fun h4 hF => ?_
    · refine awp_true (by kernel_rfl) h4 ?_
      refine awp_seq ?_
      refine awp_region ?_
      refine aR 1 ?_
      refine aE ?_
      refine awp_ret ?_
      exact oF hF [] []
    · refine awp_false (by kernel_rfl) h4 ?_
      refine awp_skip ?_
      refine awp_seq ?_
      refine awp_region ?_
      refine aR 1 ?_
      refine aE ?_
      refine awp_ret ?_
      exact oF hF [] []
  · refine awp_false (by kernel_rfl) h3 ?_
    refine awp_skip ?_
    refine awp_seq ?_
    refine awp_seq ?_
    refine awp_region ?_
    refine aR 1 ?_
    refine aE ?_
    refine cE hF (fun h5 hF => ?_) fun h5 hF => ?_
    · refine awp_true (by kernel_rfl) h5 ?_
      refine awp_seq ?_
      refine awp_region ?_
      refine aR 1 ?_
      refine aE ?_
      refine awp_ret ?_
      exact oF hF [] []
    · refine awp_false (by kernel_rfl) h5 ?_
      refine awp_skip ?_
      refine awp_seq ?_
      refine awp_seq ?_
      refine awp_region ?_
      refine aR 3 ?_
      refine aE ?_
      refine cE hF (fun h6 hF => ?_) fun h6 hF => ?_
      · refine awp_true (by kernel_rfl) h6 ?_
        refine awp_seq ?_
        refine awp_region ?_
        refine aR 1 ?_
        refine aE ?_
        refine awp_ret ?_
        exact oF hF [] []
      · refine awp_false (by kernel_rfl) h6 ?_
        refine awp_skip ?_
        refine awp_seq ?_
        refine awp_seq ?_
        refine awp_region ?_
        refine aR 3 ?_
        refine aE ?_
        refine cE hF (fun h7 hF => ?_) fun h7 hF => ?_
        · refine awp_true (by kernel_rfl) h7 ?_
          refine awp_seq ?_
          refine awp_region ?_
          refine aR 1 ?_
          refine aE ?_
          refine awp_ret ?_
          exact oF hF [] []
        · refine awp_false (by kernel_rfl) h7 ?_
          refine awp_skip ?_
          refine awp_seq ?_
          refine awp_region ?_
          refine aR 1 ?_
          refine aE ?_
          refine awp_ret ?_
          exact oF hF [] []

/-! ### cmp.Or[int] -/
def cmp_Or_int_x1_k : Unit ⊕ Int → AEx
  | .inl _ => .exit 0
  | .inr _ => .ret

def cmp_Or_int_x1_S (qvals : List Int) : Unit ⊕ Int → St
  | .inl _ => Mem.st ⟨[], []⟩ (tl [(3, .v (.one (.d (.int .i64 0))))]) 0
  | .inr vx1 => Mem.st ⟨[], []⟩ (tl [(2, .v (.one (.d (.int .i64 vx1))))]) 0

def cmp_Or_int_x1_H (qvals : List Int) : Int → St
  | vx => Mem.st ⟨[], []⟩ (tl [(3, .v (.one (.d (.int .i64 0)))), (6, .v (.one (.d (.lst (List.map (encI .i64) qvals))))), (7, .v (.one (.d (.int .i64 (qvals.length : Int))))), (8, .v (.one (.d (.int .i64 vx))))]) 0

theorem cmp_Or_int_x1_ok (qvals : List Int) (vx : Int) (r : (Int) ⊕ (Unit ⊕ Int)) (hF : cmp_Or_int_x1 qvals vx = some r) : Awp prog 0 18 (cL (cL (cR (cL (cR (cR (cB f233))))))) (Out 0 (kk cmp_Or_int_x1_k) (SS (cmp_Or_int_x1_H qvals) (cmp_Or_int_x1_S qvals)) r) (cmp_Or_int_x1_H qvals vx) := by
  unfold cmp_Or_int_x1 at hF
  refine awp_seq ?_
  refine awp_region ?_
  refine aR 1 ?_
  refine aE ?_
  refine awp_seq ?_
  refine cE hF (fun h1 hF => ?_) fun h1 hF => ?_
  · refine awp_true (by kernel_rfl) h1 ?_
    refine awp_skip ?_
    refine awp_seq ?_
    refine awp_block ?_
    refine awp_seq ?_
    refine bE hF fun vy1 h2 hF => ?_
    refine awp_region ?_
    refine aX (x_idx (encI .i64) h2) ?_
    refine aR 2 ?_
    refine aE ?_
    refine awp_seq ?_
    refine awp_region ?_
    refine aR 3 ?_
    refine aE ?_
    refine cE hF (fun h3 hF => ?_) fun h3 hF => ?_
    · refine awp_true (by kernel_rfl) h3 ?_
      refine awp_seq ?_
      refine awp_region ?_
      refine aR 2 ?_
      refine aE ?_
      refine awp_ret ?_
      exact oO hF [] [] rfl
    · refine awp_false (by kernel_rfl) h3 ?_
      refine awp_skip ?_
      refine awp_region ?_
      refine aR 2 ?_
      refine aE ?_
      exact oO hF [] [] rfl
  · refine awp_false (by kernel_rfl) h1 ?_
    refine awp_exit ?_
    exact oO hF [] [] rfl

def cmp_Or_int_R (qvals : List Int) (r : Int) : TV × Mem := (.v (.one (.d (.int .i64 r))), ⟨[], []⟩)

theorem cmp_Or_int_ok {qvals : List Int} {r} (hF : cmp_Or_int qvals = some r) : Holds prog 233 [.v (.one (.d (.lst (List.map (encI .i64) qvals))))] ⟨[], []⟩ (Is (cmp_Or_int_R qvals r)) := by
  unfold cmp_Or_int at hF
  refine holds_of_awp hΓ (fn := f233) (c := cB f233) (A := 0) (nx := 0) (by kernel_rfl) (by kernel_rfl) (by kernel_rfl) (by kernel_rfl) (by kernel_rfl) (by kernel_rfl) (lowc_of (by kernel_rfl)) ?_
  show Awp prog 0 18 (cB f233) _ _
  refine awp_seq ?_
  refine awp_region ?_
  refine aR 1 ?_
  refine aE ?_
  refine awp_seq ?_
  refine awp_region ?_
  refine aR 1 ?_
  refine aE ?_
  refine awp_seq ?_
  refine awp_seq ?_
  refine awp_region ?_
  refine aR 1 ?_
  refine aL (encI .i64) qvals ?_
  refine aR 1 ?_
  refine aE ?_
  refine awp_block ?_
  refine awp_to (st' := cmp_Or_int_x1_H qvals 0) (oT [] []) ?_
  refine bE hF fun x h4 hF => ?_
  rcases x with _ | vx1_1
  · refine awp_sub (awp_loop' (cmp_Or_int_x1_H qvals) cmp_Or_int_x1_k (cmp_Or_int_x1_S qvals) (by intro x; rcases x with x | x <;> exact fun h => nomatch h) h4 (cmp_Or_int_x1_ok qvals)) ?_
    refine awp_seq ?_
    refine awp_region ?_
    refine aR 2 ?_
    refine aE ?_
    refine awp_ret ?_
    exact oF hF [] []
  · refine awp_sub (awp_loop' (cmp_Or_int_x1_H qvals) cmp_Or_int_x1_k (cmp_Or_int_x1_S qvals) (by intro x; rcases x with x | x <;> exact fun h => nomatch h) h4 (cmp_Or_int_x1_ok qvals)) ?_
    exact oF hF [] []

/-! ### beaconfleet/series.byDevice -/
def series_byDevice_R (qa : api_Sample) (qb : api_Sample) (r : Int) : TV × Mem := (.v (.one (.d (.int .i64 r))), ⟨[], []⟩)

theorem series_byDevice_ok {qa : api_Sample} {qb : api_Sample} {r} (hF : series_byDevice qa qb = some r) : Holds prog 246 [.v (.agg [.d (.str qa.Device), .d (.str qa.Metric), .d (.int .i64 qa.At), .d (.int .i64 qa.Value)]), .v (.agg [.d (.str qb.Device), .d (.str qb.Metric), .d (.int .i64 qb.At), .d (.int .i64 qb.Value)])] ⟨[], []⟩ (Is (series_byDevice_R qa qb r)) := by
  unfold series_byDevice at hF
  refine holds_of_awp hΓ (fn := f246) (c := cB f246) (A := 0) (nx := 0) (by kernel_rfl) (by kernel_rfl) (by kernel_rfl) (by kernel_rfl) (by kernel_rfl) (by kernel_rfl) (lowc_of (by kernel_rfl)) ?_
  show Awp prog 0 22 (cB f246) _ _
  refine awp_seq ?_
  refine awp_region ?_
  refine aR 3 ?_
  refine aE ?_
  refine awp_seq ?_
  refine bE hF fun _ h1 hF => ?_
  refine bE hF fun _ h2 hF => ?_
  refine bE hF fun vr h3 hF => ?_
  refine bE hF fun vr1 h4 hF => ?_
  refine aD ?_
  refine dR 4 ?_
  refine dC (strings_Compare_ok h1) [] [] [] ?_
  refine dR 4 ?_
  refine dC (strings_Compare_ok h2) [] [] [] ?_
  refine dR 4 ?_
  refine dC (cmp_Compare_int_ok h3) [] [] [] ?_
  refine dR 1 ?_
  refine dC (cmp_Or_int_ok h4) [] [] [18000] ?_
  refine dR 1 ?_
  refine dE ?_
  refine awp_ret ?_
  exact oF hF [] []

/-! ### beaconfleet/series.Check -/
def series_Check_x2_k : Bool → AEx
  | _ => .normal

def series_Check_x2_S (ql : List api_Sample) (vx : Int) (vy2 : api_Sample) : Bool → St
  | vx4 => Mem.st ⟨[], [(0, [.d (.str vy2.Device), .d (.str vy2.Metric), .d (.int .i64 vy2.At), .d (.int .i64 vy2.Value)])]⟩ (tl [(0, .v (.one (.d (.lst (List.map api_Sample.enc ql))))), (3, .v (.one (.d (.int .i64 vx)))), (4, .v (.one (.box 0 0))), (8, .v (.one (.d (.lst (List.map api_Sample.enc ql))))), (9, .v (.one (.d (.int .i64 (ql.length : Int))))), (10, .v (.one (.d (.int .i64 vx)))), (15, .v (.one (.d (.bool vx4))))]) 1

def series_Check_x2_I (ql : List api_Sample) (vx : Int) (vy2 : api_Sample) : St := Mem.st ⟨[], [(0, [.d (.str vy2.Device), .d (.str vy2.Metric), .d (.int .i64 vy2.At), .d (.int .i64 vy2.Value)])]⟩ (tl [(0, .v (.one (.d (.lst (List.map api_Sample.enc ql))))), (3, .v (.one (.d (.int .i64 vx)))), (4, .v (.one (.box 0 0))), (8, .v (.one (.d (.lst (List.map api_Sample.enc ql))))), (9, .v (.one (.d (.int .i64 (ql.length : Int))))), (10, .v (.one (.d (.int .i64 vx))))]) 1

theorem series_Check_x2_ok (ql : List api_Sample) (vx : Int) (vy2 : api_Sample) {r} (hF : series_Check_x2 vy2 = some r) : Awp prog 0 50 (cL (cL (cR (cL (cL (cR (cR (cL (cL (cR (cL (cR (cR (cB f211)))))))))))))) (Out 0 series_Check_x2_k (series_Check_x2_S ql vx vy2) r) (series_Check_x2_I ql vx vy2) := by
  unfold series_Check_x2 at hF
  refine bE hF fun vr3 h4 hF => ?_
  refine cE hF (fun h5 hF => ?_) fun h5 hF => ?_
  · refine awp_region ?_
    refine aR 2 ?_
    refine aC (base_Key_ok h4) [] [] [] ?_
    refine aB h5 ?_
    refine aR 7 ?_
    refine aE ?_
    exact oO hF [] [] rfl
  · refine bE hF fun vr4 h6 hF => ?_
    refine awp_region ?_
    refine aR 2 ?_
    refine aC (base_Key_ok h4) [] [] [] ?_
    refine aB h5 ?_
    refine aR 3 ?_
    refine aC (base_Key_ok h6) [] [] [] ?_
    refine aR 3 ?_
    refine aE ?_
    exact oO hF [] [] rfl

def series_Check_x3_k : Bool → AEx
  | _ => .normal

def series_Check_x3_S (ql : List api_Sample) (vx : Int) (vy2 : api_Sample) : Bool → St
  | vx5 => Mem.st ⟨[], [(0, [.d (.str vy2.Device), .d (.str vy2.Metric), .d (.int .i64 vy2.At), .d (.int .i64 vy2.Value)])]⟩ (tl [(0, .v (.one (.d (.lst (List.map api_Sample.enc ql))))), (3, .v (.one (.d (.int .i64 vx)))), (4, .v (.one (.box 0 0))), (8, .v (.one (.d (.lst (List.map api_Sample.enc ql))))), (9, .v (.one (.d (.int .i64 (ql.length : Int))))), (10, .v (.one (.d (.int .i64 vx)))), (26, .v (.one (.d (.bool vx5))))]) 1

def series_Check_x3_I (ql : List api_Sample) (vx : Int) (vy2 : api_Sample) : St := Mem.st ⟨[], [(0, [.d (.str vy2.Device), .d (.str vy2.Metric), .d (.int .i64 vy2.At), .d (.int .i64 vy2.Value)])]⟩ (tl [(0, .v (.one (.d (.lst (List.map api_Sample.enc ql))))), (3, .v (.one (.d (.int .i64 vx)))), (4, .v (.one (.box 0 0))), (8, .v (.one (.d (.lst (List.map api_Sample.enc ql))))), (9, .v (.one (.d (.int .i64 (ql.length : Int))))), (10, .v (.one (.d (.int .i64 vx))))]) 1

theorem series_Check_x3_ok (ql : List api_Sample) (vx : Int) (vy2 : api_Sample) {r} (hF : series_Check_x3 vy2 = some r) : Awp prog 0 50 (cL (cR (cR (cL (cR (cL (cL (cR (cR (cL (cL (cR (cL (cR (cR (cB f211)))))))))))))))) (Out 0 series_Check_x3_k (series_Check_x3_S ql vx vy2) r) (series_Check_x3_I ql vx vy2) := by
  unfold series_Check_x3 at hF
  refine bE hF fun vr1_2 h9 hF => ?_
  refine cE hF (fun h10 hF => ?_) fun h10 hF => ?_
  · refine awp_region ?_
    refine aR 2 ?_
    refine aC (base_Moment_ok h9) [] [] [] ?_
    refine aB h10 ?_
    refine aR 6 ?_
    refine aE ?_
    exact oO hF [] [] rfl
  · refine bE hF fun vr5 h11 hF => ?_
    refine awp_region ?_
    refine aR 2 ?_
    refine aC (base_Moment_ok h9) [] [] [] ?_
    refine aB h10 ?_
    refine aR 3 ?_
    refine aC (base_Out_ok h11) [] [] [] ?_
    refine aR 2 ?_
    refine aE ?_
    exact oO hF [] [] rfl

def series_Check_x4_k : Bool → AEx
  | _ => .normal

def series_Check_x4_S (ql : List api_Sample) (vx : Int) (vy2 : api_Sample) : Bool → St
  | vx6 => Mem.st ⟨[], []⟩ (tl [(0, .v (.one (.d (.lst (List.map api_Sample.enc ql))))), (8, .v (.one (.d (.lst (List.map api_Sample.enc ql))))), (9, .v (.one (.d (.int .i64 (ql.length : Int))))), (10, .v (.one (.d (.int .i64 vx)))), (36, .v (.one (.d (.bool vx6))))]) 0

def series_Check_x4_I (ql : List api_Sample) (vx : Int) (vy2 : api_Sample) : St := Mem.st ⟨[], [(0, [.d (.str vy2.Device), .d (.str vy2.Metric), .d (.int .i64 vy2.At), .d (.int .i64 vy2.Value)])]⟩ (tl [(0, .v (.one (.d (.lst (List.map api_Sample.enc ql))))), (3, .v (.one (.d (.int .i64 vx)))), (4, .v (.one (.box 0 0))), (8, .v (.one (.d (.lst (List.map api_Sample.enc ql))))), (9, .v (.one (.d (.int .i64 (ql.length : Int))))), (10, .v (.one (.d (.int .i64 vx))))]) 1

theorem series_Check_x4_ok (ql : List api_Sample) (vx : Int) (vy2 : api_Sample) {r} (hF : series_Check_x4 ql vx vy2 = some r) : Awp prog 0 50 (cL (cR (cR (cR (cR (cL (cR (cL (cL (cR (cR (cL (cL (cR (cL (cR (cR (cB f211)))))))))))))))))) (Out 0 series_Check_x4_k (series_Check_x4_S ql vx vy2) r) (series_Check_x4_I ql vx vy2) := by
  unfold series_Check_x4 at hF
  refine cE hF (fun h14 hF => ?_) fun h14 hF => ?_
  · refine bE hF fun vy3 h15 hF => ?_
    refine bE hF fun vr2_2 h16 hF => ?_
    refine aD ?_
    refine dR 1 ?_
    refine dB h14 ?_
    refine dR 5 ?_
    refine dX (x_idx api_Sample.enc h15) ?_
    refine dR 1 ?_
    refine dC (series_byDevice_ok h16) [] [] [] ?_
    refine dR 3 ?_
    refine dE ?_
    exact oO hF [] [] rfl
  · refine aD ?_
    refine dR 1 ?_
    refine dB h14 ?_
    refine dR 11 ?_
    refine dE ?_
    exact oO hF [] [] rfl

def series_Check_x1_k : Unit ⊕ Int → AEx
  | .inl _ => .exit 0
  | .inr _ => .ret

def series_Check_x1_S (ql : List api_Sample) : Unit ⊕ Int → St
  | .inl _ => Mem.st ⟨[], []⟩ (tl []) 0
  | .inr vx7 => Mem.st ⟨[], []⟩ (tl [(2, .v (.one (.d (.int .i64 vx7))))]) 0

def series_Check_x1_H (ql : List api_Sample) : Int → St
  | vx => Mem.st ⟨[], []⟩ (tl [(0, .v (.one (.d (.lst (List.map api_Sample.enc ql))))), (8, .v (.one (.d (.lst (List.map api_Sample.enc ql))))), (9, .v (.one (.d (.int .i64 (ql.length : Int))))), (10, .v (.one (.d (.int .i64 vx))))]) 0

theorem series_Check_x1_ok (ql : List api_Sample) (vx : Int) (r : (Int) ⊕ (Unit ⊕ Int)) (hF : series_Check_x1 ql vx = some r) : Awp prog 0 50 (cL (cL (cR (cL (cR (cR (cB f211))))))) (Out 0 (kk series_Check_x1_k) (SS (series_Check_x1_H ql) (series_Check_x1_S ql)) r) (series_Check_x1_H ql vx) := by
  unfold series_Check_x1 at hF
  refine awp_seq ?_
  refine awp_region ?_
  refine aR 1 ?_
  refine aE ?_
  refine awp_seq ?_
  refine cE hF (fun h2 hF => ?_) fun h2 hF => ?_
  · refine awp_true (by kernel_rfl) h2 ?_
    refine awp_skip ?_
    refine awp_seq ?_
    refine awp_block ?_
    refine awp_seq ?_
    refine bE hF fun vy2 h3 hF => ?_
    refine awp_region ?_
    refine aR 1 ?_
    refine aX (x_idx api_Sample.enc h3) ?_
    refine aR 4 ?_
    refine aE ?_
    refine awp_block ?_
    refine awp_seq ?_
    refine awp_to (st' := series_Check_x2_I ql vx vy2) (oT [(0, 4000)] []) ?_
    refine bE hF fun vx4_1 h7 hF => ?_
    refine awp_sub (series_Check_x2_ok ql vx vy2 h7) ?_
    refine cE hF (fun h8 hF => ?_) fun h8 hF => ?_
    · refine awp_true (by kernel_rfl) h8 ?_
      refine awp_seq ?_
      refine awp_region ?_
      refine aR 1 ?_
      refine aE ?_
      refine awp_ret ?_
      exact oO hF [] [] rfl
    · refine awp_false (by kernel_rfl) h8 ?_
      refine awp_seq ?_
      refine awp_to (st' := series_Check_x3_I ql vx vy2) (oT [] []) ?_
      refine bE hF fun vx5_1 h12 hF => ?_
      refine awp_sub (series_Check_x3_ok ql vx vy2 h12) ?_
      refine cE hF (fun h13 hF => ?_) fun h13 hF => ?_
      · refine awp_true (by kernel_rfl) h13 ?_
        refine awp_seq ?_
        refine awp_region ?_
        refine aR 1 ?_
        refine aE ?_
        refine awp_ret ?_
        exact oO hF [] [] rfl
      · refine awp_false (by kernel_rfl) h13 ?_
        refine awp_seq ?_
        refine awp_to (st' := series_Check_x4_I ql vx vy2) (oT [] []) ?_
        refine bE hF fun vx6_1 h17 hF => ?_
        refine awp_sub (series_Check_x4_ok ql vx vy2 h17) ?_
        refine cE hF (fun h18 hF => ?_) fun h18 hF => ?_
        · refine awp_true (by kernel_rfl) h18 ?_
          refine awp_seq ?_
          refine awp_region ?_
          refine aR 1 ?_
          refine aE ?_
          refine awp_ret ?_
          exact oO hF [] [] rfl
        · refine awp_false (by kernel_rfl) h18 ?_
          refine awp_skip ?_
          refine awp_region ?_
          refine aR 2 ?_
          refine aE ?_
          exact oO hF [] [] rfl
  · refine awp_false (by kernel_rfl) h2 ?_
    refine awp_exit ?_
    exact oO hF [] [] rfl

def series_Check_R (ql : List api_Sample) (r : Int) : TV × Mem := (.v (.one (.d (.int .i64 r))), ⟨[], []⟩)

theorem series_Check_ok {ql : List api_Sample} {r} (hF : series_Check ql = some r) : Holds prog 211 [.v (.one (.d (.lst (List.map api_Sample.enc ql))))] ⟨[], []⟩ (Is (series_Check_R ql r)) := by
  unfold series_Check at hF
  refine holds_of_awp hΓ (fn := f211) (c := cB f211) (A := 0) (nx := 0) (by kernel_rfl) (by kernel_rfl) (by kernel_rfl) (by kernel_rfl) (by kernel_rfl) (by kernel_rfl) (lowc_of (by kernel_rfl)) ?_
  show Awp prog 0 50 (cB f211) _ _
  refine awp_seq ?_
  refine awp_region ?_
  refine aR 1 ?_
  refine aE ?_
  refine awp_seq ?_
  refine awp_seq ?_
  refine awp_region ?_
  refine aR 1 ?_
  refine aL api_Sample.enc ql ?_
  refine aR 1 ?_
  refine aE ?_
  refine cE hF (fun h1 hF => ?_) fun h1 hF => ?_
  · refine awp_true (by kernel_rfl) h1 ?_
    refine awp_seq ?_
    refine awp_region ?_
    refine aR 1 ?_
    refine aE ?_
    refine awp_ret ?_
    exact oF hF [] []
  · refine awp_false (by kernel_rfl) h1 ?_
    refine awp_skip ?_
    refine awp_seq ?_
    refine awp_seq ?_
    refine awp_region ?_
    refine aR 1 ?_
    refine aL api_Sample.enc ql ?_
    refine aR 1 ?_
    refine aE ?_
    refine awp_block ?_
    refine awp_to (st' := series_Check_x1_H ql 0) (oT [] []) ?_
    refine bE hF fun x h19 hF => ?_
    rcases x with _ | vx7_1
    · refine awp_sub (awp_loop' (series_Check_x1_H ql) series_Check_x1_k (series_Check_x1_S ql) (by intro x; rcases x with x | x <;> exact fun h => nomatch h) h19 (series_Check_x1_ok ql)) ?_
      refine awp_seq ?_
      refine awp_region ?_
      refine aR 1 ?_
      refine aE ?_
      refine awp_ret ?_
      exact oF hF [] []
    · refine awp_sub (awp_loop' (series_Check_x1_H ql) series_Check_x1_k (series_Check_x1_S ql) (by intro x; rcases x with x | x <;> exact fun h => nomatch h) h19 (series_Check_x1_ok ql)) ?_
      exact oF hF [] []

/-! ### beaconfleet/series.CheckSeries$1 -/
def series_CheckSeries_1_x1_k : Bool → AEx
  | _ => .normal

def series_CheckSeries_1_x1_S (qs : api_Sample) (qx : List api_Sample) : Bool → St
  | vx => Mem.st ⟨[], [(0, [.d (.lst (List.map api_Sample.enc qx))])]⟩ (tl [(3, .v (.one (.d (.bool vx))))]) 1

def series_CheckSeries_1_x1_I (qs : api_Sample) (qx : List api_Sample) : St := Mem.st ⟨[], [(0, [.d (.lst (List.map api_Sample.enc qx))]), (1, [.d (.str qs.Device), .d (.str qs.Metric), .d (.int .i64 qs.At), .d (.int .i64 qs.Value)])]⟩ (tl [(1, .v (.one (.box 0 0))), (2, .v (.one (.box 1 0)))]) 2

theorem series_CheckSeries_1_x1_ok (qs : api_Sample) (qx : List api_Sample) {r} (hF : series_CheckSeries_1_x1 qs qx = some r) : Awp prog 1 20 (cL (cR (cB f212))) (Out 1 series_CheckSeries_1_x1_k (series_CheckSeries_1_x1_S qs qx) r) (series_CheckSeries_1_x1_I qs qx) := by
  unfold series_CheckSeries_1_x1 at hF
  refine bE hF fun vy h1 hF => ?_
  refine cE hF (fun h2 hF => ?_) fun h2 hF => ?_
  · refine aD ?_
    refine dR 3 ?_
    refine dX (x_idx api_Sample.enc h1) ?_
    refine dR 2 ?_
    refine dB h2 ?_
    refine dR 10 ?_
    refine dE ?_
    exact oO hF [] [] rfl
  · refine aD ?_
    refine dR 3 ?_
    refine dX (x_idx api_Sample.enc h1) ?_
    refine dR 2 ?_
    refine dB h2 ?_
    refine dR 4 ?_
    refine dX (x_idx api_Sample.enc h1) ?_
    refine dR 5 ?_
    refine dE ?_
    exact oO hF [] [] rfl

def series_CheckSeries_1_R (qs : api_Sample) (qx : List api_Sample) (r : Bool) : TV × Mem := (.v (.one (.d (.bool r))), ⟨[], [(0, [.d (.lst (List.map api_Sample.enc qx))])]⟩)

theorem series_CheckSeries_1_ok {qs : api_Sample} {qx : List api_Sample} {r} (hF : series_CheckSeries_1 qs qx = some r) : Holds prog 212 [.v (.agg [.d (.str qs.Device), .d (.str qs.Metric), .d (.int .i64 qs.At), .d (.int .i64 qs.Value)]), .v (.one (.box 0 0))] ⟨[], [(0, [.d (.lst (List.map api_Sample.enc qx))])]⟩ (Is (series_CheckSeries_1_R qs qx r)) := by
  unfold series_CheckSeries_1 at hF
  refine holds_of_awp hΓ (fn := f212) (c := cB f212) (A := 1) (nx := 1) (by kernel_rfl) (by kernel_rfl) (by kernel_rfl) (by kernel_rfl) (by kernel_rfl) (by kernel_rfl) (lowc_of (by kernel_rfl)) ?_
  show Awp prog 1 20 (cB f212) _ _
  refine awp_seq ?_
  refine awp_region ?_
  refine aR 2 ?_
  refine aE ?_
  refine awp_seq ?_
  refine awp_to (st' := series_CheckSeries_1_x1_I qs qx) (oT [] []) ?_
  refine bE hF fun vx1 h3 hF => ?_
  refine awp_sub (series_CheckSeries_1_x1_ok qs qx h3) ?_
  refine awp_ret ?_
  exact oF hF [] []

/-! ### slices.IndexFunc[[]beaconfleet/api.Sample,beaconfleet/api.Sample] -/
def slices_IndexFunc_api_Sample_api_Sample_f1_series_CheckSeries_1_x1_k : Unit ⊕ Int → AEx
  | .inl _ => .exit 0
  | .inr _ => .ret

def slices_IndexFunc_api_Sample_api_Sample_f1_series_CheckSeries_1_x1_S (qs : List api_Sample) : Unit ⊕ Int → St
  | .inl _ => Mem.st ⟨[], [(0, [.d (.lst (List.map api_Sample.enc qs))])]⟩ (tl []) 1
  | .inr vx1 => Mem.st ⟨[], [(0, [.d (.lst (List.map api_Sample.enc qs))])]⟩ (tl [(4, .v (.one (.d (.int .i64 vx1))))]) 1

def slices_IndexFunc_api_Sample_api_Sample_f1_series_CheckSeries_1_x1_H (qs : List api_Sample) : Int → St
  | vx => Mem.st ⟨[], [(0, [.d (.lst (List.map api_Sample.enc qs))])]⟩ (tl [(0, .v (.one (.d (.lst (List.map api_Sample.enc qs))))), (1, .v (.one (.fn 212 [0]))), (7, .v (.one (.d (.int .i64 (qs.length : Int))))), (8, .v (.one (.d (.int .i64 vx))))]) 1

theorem slices_IndexFunc_api_Sample_api_Sample_f1_series_CheckSeries_1_x1_ok (qs : List api_Sample) (vx : Int) (r : (Int) ⊕ (Unit ⊕ Int)) (hF : slices_IndexFunc_api_Sample_api_Sample_f1_series_CheckSeries_1_x1 qs vx = some r) : Awp prog 1 19 (cL (cL (cR (cL (cR (cB f210)))))) (Out 1 (kk slices_IndexFunc_api_Sample_api_Sample_f1_series_CheckSeries_1_x1_k) (SS (slices_IndexFunc_api_Sample_api_Sample_f1_series_CheckSeries_1_x1_H qs) (slices_IndexFunc_api_Sample_api_Sample_f1_series_CheckSeries_1_x1_S qs)) r) (slices_IndexFunc_api_Sample_api_Sample_f1_series_CheckSeries_1_x1_H qs vx) := by
  unfold slices_IndexFunc_api_Sample_api_Sample_f1_series_CheckSeries_1_x1 at hF
  refine awp_seq ?_
  refine awp_region ?_
  refine aR 1 ?_
  refine aE ?_
  refine awp_seq ?_
  refine cE hF (fun h1 hF => ?_) fun h1 hF => ?_
  · refine awp_true (by kernel_rfl) h1 ?_
    refine awp_skip ?_
    refine awp_seq ?_
    refine awp_block ?_
    refine awp_seq ?_
    refine awp_region ?_
    refine aR 2 ?_
    refine aE ?_
    refine awp_seq ?_
    refine bE hF fun vy1 h2 hF => ?_
    refine bE hF fun vr1 h3 hF => ?_
    refine awp_region ?_
    refine aR 3 ?_
    refine aX (x_idx api_Sample.enc h2) ?_
    refine aR 1 ?_
    refine aC (series_CheckSeries_1_ok h3) [] [] [] ?_
    refine aE ?_
    refine cE hF (fun h4 hF => ?_) fun h4 hF => ?_
    · refine awp_true (by kernel_rfl) h4 ?_
      refine awp_seq ?_
      refine awp_region ?_
      refine aR 2 ?_
      refine aE ?_
      refine awp_ret ?_
      exact oO hF [] [] rfl
    · refine awp_false (by kernel_rfl) h4 ?_
      refine awp_skip ?_
      refine awp_region ?_
      refine aR 2 ?_
      refine aE ?_
      exact oO hF [] [] rfl
  · refine awp_false (by kernel_rfl) h1 ?_
    refine awp_exit ?_
    exact oO hF [] [] rfl

def slices_IndexFunc_api_Sample_api_Sample_f1_series_CheckSeries_1_R (qs : List api_Sample) (r : Int) : TV × Mem := (.v (.one (.d (.int .i64 r))), ⟨[], [(0, [.d (.lst (List.map api_Sample.enc qs))])]⟩)

theorem slices_IndexFunc_api_Sample_api_Sample_f1_series_CheckSeries_1_ok {qs : List api_Sample} {r} (hF : slices_IndexFunc_api_Sample_api_Sample_f1_series_CheckSeries_1 qs = some r) : Holds prog 210 [.v (.one (.d (.lst (List.map api_Sample.enc qs)))), .v (.one (.fn 212 [0]))] ⟨[], [(0, [.d (.lst (List.map api_Sample.enc qs))])]⟩ (Is (slices_IndexFunc_api_Sample_api_Sample_f1_series_CheckSeries_1_R qs r)) := by
  unfold slices_IndexFunc_api_Sample_api_Sample_f1_series_CheckSeries_1 at hF
  refine holds_of_awp hΓ (fn := f210) (c := cB f210) (A := 1) (nx := 1) (by kernel_rfl) (by kernel_rfl) (by kernel_rfl) (by kernel_rfl) (by kernel_rfl) (by kernel_rfl) (lowc_of (by kernel_rfl)) ?_
  show Awp prog 1 19 (cB f210) _ _
  refine awp_seq ?_
  refine awp_region ?_
  refine aR 1 ?_
  refine aE ?_
  refine awp_seq ?_
  refine awp_seq ?_
  refine awp_region ?_
  refine aR 1 ?_
  refine aL api_Sample.enc qs ?_
  refine aR 1 ?_
  refine aE ?_
  refine awp_block ?_
  refine awp_to (st' := slices_IndexFunc_api_Sample_api_Sample_f1_series_CheckSeries_1_x1_H qs 0) (oT [] []) ?_
  refine bE hF fun x h5 hF => ?_
  rcases x with _ | vx1_1
  · refine awp_sub (awp_loop' (slices_IndexFunc_api_Sample_api_Sample_f1_series_CheckSeries_1_x1_H qs) slices_IndexFunc_api_Sample_api_Sample_f1_series_CheckSeries_1_x1_k (slices_IndexFunc_api_Sample_api_Sample_f1_series_CheckSeries_1_x1_S qs) (by intro x; rcases x with x | x <;> exact fun h => nomatch h) h5 (slices_IndexFunc_api_Sample_api_Sample_f1_series_CheckSeries_1_x1_ok qs)) ?_
    refine awp_seq ?_
    refine awp_region ?_
    refine aR 1 ?_
    refine aE ?_
    refine awp_ret ?_
    exact oF hF [] []
  · refine awp_sub (awp_loop' (slices_IndexFunc_api_Sample_api_Sample_f1_series_CheckSeries_1_x1_H qs) slices_IndexFunc_api_Sample_api_Sample_f1_series_CheckSeries_1_x1_k (slices_IndexFunc_api_Sample_api_Sample_f1_series_CheckSeries_1_x1_S qs) (by intro x; rcases x with x | x <;> exact fun h => nomatch h) h5 (slices_IndexFunc_api_Sample_api_Sample_f1_series_CheckSeries_1_x1_ok qs)) ?_
    exact oF hF [] []

/-! ### slices.ContainsFunc[[]beaconfleet/api.Sample,beaconfleet/api.Sample] -/
def slices_ContainsFunc_api_Sample_api_Sample_f1_series_CheckSeries_1_R (qs : List api_Sample) (r : Bool) : TV × Mem := (.v (.one (.d (.bool r))), ⟨[], [(0, [.d (.lst (List.map api_Sample.enc qs))])]⟩)

theorem slices_ContainsFunc_api_Sample_api_Sample_f1_series_CheckSeries_1_ok {qs : List api_Sample} {r} (hF : slices_ContainsFunc_api_Sample_api_Sample_f1_series_CheckSeries_1 qs = some r) : Holds prog 117 [.v (.one (.d (.lst (List.map api_Sample.enc qs)))), .v (.one (.fn 212 [0]))] ⟨[], [(0, [.d (.lst (List.map api_Sample.enc qs))])]⟩ (Is (slices_ContainsFunc_api_Sample_api_Sample_f1_series_CheckSeries_1_R qs r)) := by
  unfold slices_ContainsFunc_api_Sample_api_Sample_f1_series_CheckSeries_1 at hF
  refine holds_of_awp hΓ (fn := f117) (c := cB f117) (A := 1) (nx := 1) (by kernel_rfl) (by kernel_rfl) (by kernel_rfl) (by kernel_rfl) (by kernel_rfl) (by kernel_rfl) (lowc_of (by kernel_rfl)) ?_
  show Awp prog 1 9 (cB f117) _ _
  refine awp_seq ?_
  refine awp_region ?_
  refine aR 1 ?_
  refine aE ?_
  refine awp_seq ?_
  refine bE hF fun vr2 h1 hF => ?_
  refine awp_region ?_
  refine aR 2 ?_
  refine aC (slices_IndexFunc_api_Sample_api_Sample_f1_series_CheckSeries_1_ok h1) [] [] [] ?_
  refine aR 2 ?_
  refine aE ?_
  refine awp_ret ?_
  exact oF hF [] []

/-! ### beaconfleet/series.CheckSeries -/
def series_CheckSeries_R (ql : List api_Sample) (r : Int) : TV × Mem := (.v (.one (.d (.int .i64 r))), ⟨[], []⟩)

theorem series_CheckSeries_ok {ql : List api_Sample} {r} (hF : series_CheckSeries ql = some r) : Holds prog 122 [.v (.one (.d (.lst (List.map api_Sample.enc ql))))] ⟨[], []⟩ (Is (series_CheckSeries_R ql r)) := by
  unfold series_CheckSeries at hF
  refine holds_of_awp hΓ (fn := f122) (c := cB f122) (A := 0) (nx := 0) (by kernel_rfl) (by kernel_rfl) (by kernel_rfl) (by kernel_rfl) (by kernel_rfl) (by kernel_rfl) (lowc_of (by kernel_rfl)) ?_
  show Awp prog 0 12 (cB f122) _ _
  refine awp_seq ?_
  refine awp_region ?_
  refine aR 2 ?_
  refine aE ?_
  refine awp_seq ?_
  refine awp_seq ?_
  refine bE hF fun vr6 h1 hF => ?_
  refine awp_region ?_
  refine aR 1 ?_
  refine aC (series_Check_ok h1) [] [] [] ?_
  refine aR 1 ?_
  refine aE ?_
  refine awp_seq ?_
  refine awp_region ?_
  refine aR 2 ?_
  refine aE ?_
  refine cE hF (fun h2 hF => ?_) fun h2 hF => ?_
  · refine awp_true (by kernel_rfl) h2 ?_
    refine awp_seq ?_
    refine awp_region ?_
    refine aR 2 ?_
    refine aE ?_
    refine awp_ret ?_
    exact oF hF [] []
  · refine awp_false (by kernel_rfl) h2 ?_
    refine awp_skip ?_
    refine awp_seq ?_
    refine awp_seq ?_
    refine bE hF fun vr h3 hF => ?_
    refine awp_region ?_
    refine aR 2 ?_
    refine aC (slices_ContainsFunc_api_Sample_api_Sample_f1_series_CheckSeries_1_ok h3) [] [] [] ?_
    refine aE ?_
    refine cE hF (fun h4 hF => ?_) fun h4 hF => ?_
    · refine awp_true (by kernel_rfl) h4 ?_
      refine awp_seq ?_
      refine awp_region ?_
      refine aR 1 ?_
      refine aE ?_
      refine awp_ret ?_
      exact oF hF [] []
    · refine awp_false (by kernel_rfl) h4 ?_
      refine awp_skip ?_
      refine awp_seq ?_
      refine awp_region ?_
      refine aR 1 ?_
      refine aE ?_
      refine awp_ret ?_
      exact oF hF [] []

/-! ### beaconfleet/base.First -/
def base_First_x1_k : Unit ⊕ Int → AEx
  | .inl _ => .exit 0
  | .inr _ => .ret

def base_First_x1_S (ql : List Int) : Unit ⊕ Int → St
  | .inl _ => Mem.st ⟨[], []⟩ (tl []) 0
  | .inr vx1 => Mem.st ⟨[], []⟩ (tl [(2, .v (.one (.d (.int .i64 vx1))))]) 0

def base_First_x1_H (ql : List Int) : Int → St
  | vx => Mem.st ⟨[], []⟩ (tl [(5, .v (.one (.d (.lst (List.map (encI .i64) ql))))), (6, .v (.one (.d (.int .i64 (ql.length : Int))))), (7, .v (.one (.d (.int .i64 vx))))]) 0

theorem base_First_x1_ok (ql : List Int) (vx : Int) (r : (Int) ⊕ (Unit ⊕ Int)) (hF : base_First_x1 ql vx = some r) : Awp prog 0 15 (cL (cL (cR (cL (cR (cB f162)))))) (Out 0 (kk base_First_x1_k) (SS (base_First_x1_H ql) (base_First_x1_S ql)) r) (base_First_x1_H ql vx) := by
  unfold base_First_x1 at hF
  refine awp_seq ?_
  refine awp_region ?_
  refine aR 1 ?_
  refine aE ?_
  refine awp_seq ?_
  refine cE hF (fun h1 hF => ?_) fun h1 hF => ?_
  · refine awp_true (by kernel_rfl) h1 ?_
    refine awp_skip ?_
    refine awp_seq ?_
    refine awp_block ?_
    refine awp_seq ?_
    refine bE hF fun vy1 h2 hF => ?_
    refine awp_region ?_
    refine aX (x_idx (encI .i64) h2) ?_
    refine aR 2 ?_
    refine aE ?_
    refine awp_seq ?_
    refine awp_region ?_
    refine aR 2 ?_
    refine aE ?_
    refine cE hF (fun h3 hF => ?_) fun h3 hF => ?_
    · refine awp_true (by kernel_rfl) h3 ?_
      refine awp_seq ?_
      refine awp_region ?_
      refine aR 2 ?_
      refine aE ?_
      refine awp_ret ?_
      exact oO hF [] [] rfl
    · refine awp_false (by kernel_rfl) h3 ?_
      refine awp_skip ?_
      refine awp_region ?_
      refine aR 2 ?_
      refine aE ?_
      exact oO hF [] [] rfl
  · refine awp_false (by kernel_rfl) h1 ?_
    refine awp_exit ?_
    exact oO hF [] [] rfl

def base_First_R (ql : List Int) (r : Int) : TV × Mem := (.v (.one (.d (.int .i64 r))), ⟨[], []⟩)

theorem base_First_ok {ql : List Int} {r} (hF : base_First ql = some r) : Holds prog 162 [.v (.one (.d (.lst (List.map (encI .i64) ql))))] ⟨[], []⟩ (Is (base_First_R ql r)) := by
  unfold base_First at hF
  refine holds_of_awp hΓ (fn := f162) (c := cB f162) (A := 0) (nx := 0) (by kernel_rfl) (by kernel_rfl) (by kernel_rfl) (by kernel_rfl) (by kernel_rfl) (by kernel_rfl) (lowc_of (by kernel_rfl)) ?_
  show Awp prog 0 15 (cB f162) _ _
  refine awp_seq ?_
  refine awp_region ?_
  refine aR 1 ?_
  refine aE ?_
  refine awp_seq ?_
  refine awp_seq ?_
  refine awp_region ?_
  refine aR 1 ?_
  refine aL (encI .i64) ql ?_
  refine aR 1 ?_
  refine aE ?_
  refine awp_block ?_
  refine awp_to (st' := base_First_x1_H ql 0) (oT [] []) ?_
  refine bE hF fun x h4 hF => ?_
  rcases x with _ | vx1_1
  · refine awp_sub (awp_loop' (base_First_x1_H ql) base_First_x1_k (base_First_x1_S ql) (by intro x; rcases x with x | x <;> exact fun h => nomatch h) h4 (base_First_x1_ok ql)) ?_
    refine awp_seq ?_
    refine awp_region ?_
    refine aR 1 ?_
    refine aE ?_
    refine awp_ret ?_
    exact oF hF [] []
  · refine awp_sub (awp_loop' (base_First_x1_H ql) base_First_x1_k (base_First_x1_S ql) (by intro x; rcases x with x | x <;> exact fun h => nomatch h) h4 (base_First_x1_ok ql)) ?_
    exact oF hF [] []

/-! ### beaconfleet/series.Pair$1 -/
def series_Pair_1_R (qt : api_Sample) (qat : Int) (r : Int) : TV × Mem := (.v (.one (.d (.int .i64 r))), ⟨[], []⟩)

theorem series_Pair_1_ok {qt : api_Sample} {qat : Int} {r} (hF : series_Pair_1 qt qat = some r) : Holds prog 164 [.v (.agg [.d (.str qt.Device), .d (.str qt.Metric), .d (.int .i64 qt.At), .d (.int .i64 qt.Value)]), .v (.one (.d (.int .i64 qat)))] ⟨[], []⟩ (Is (series_Pair_1_R qt qat r)) := by
  unfold series_Pair_1 at hF
  refine holds_of_awp hΓ (fn := f164) (c := cB f164) (A := 0) (nx := 0) (by kernel_rfl) (by kernel_rfl) (by kernel_rfl) (by kernel_rfl) (by kernel_rfl) (by kernel_rfl) (lowc_of (by kernel_rfl)) ?_
  show Awp prog 0 9 (cB f164) _ _
  refine awp_seq ?_
  refine awp_region ?_
  refine aR 2 ?_
  refine aE ?_
  refine awp_seq ?_
  refine bE hF fun vr h1 hF => ?_
  refine awp_region ?_
  refine aR 3 ?_
  refine aC (cmp_Compare_int_ok h1) [] [] [] ?_
  refine aR 1 ?_
  refine aE ?_
  refine awp_ret ?_
  exact oF hF [] []

/-! ### slices.BinarySearchFunc[[]beaconfleet/api.Sample,beaconfleet/api.Sample,int] -/
def slices_BinarySearchFunc_api_Sample_api_Sample_int_f2_series_Pair_1_x1_k : Int → AEx
  | _ => .exit 0

def slices_BinarySearchFunc_api_Sample_api_Sample_int_f2_series_Pair_1_x1_S (qx : List api_Sample) (qtarget : Int) : Int → St
  | vi1 => Mem.st ⟨[], []⟩ (tl [(0, .v (.one (.d (.lst (List.map api_Sample.enc qx))))), (1, .v (.one (.d (.int .i64 qtarget)))), (2, .v (.one (.fn 164 []))), (8, .v (.one (.d (.int .i64 (qx.length : Int))))), (9, .v (.one (.d (.int .i64 vi1))))]) 0

def slices_BinarySearchFunc_api_Sample_api_Sample_int_f2_series_Pair_1_x1_H (qx : List api_Sample) (qtarget : Int) : Int × Int → St
  | (vi, vj) => Mem.st ⟨[], []⟩ (tl [(0, .v (.one (.d (.lst (List.map api_Sample.enc qx))))), (1, .v (.one (.d (.int .i64 qtarget)))), (2, .v (.one (.fn 164 []))), (8, .v (.one (.d (.int .i64 (qx.length : Int))))), (9, .v (.one (.d (.int .i64 vi)))), (10, .v (.one (.d (.int .i64 vj))))]) 0

theorem slices_BinarySearchFunc_api_Sample_api_Sample_int_f2_series_Pair_1_x1_ok (qx : List api_Sample) (qtarget : Int) (s : Int × Int) (r : (Int × Int) ⊕ (Int)) (hF : slices_BinarySearchFunc_api_Sample_api_Sample_int_f2_series_Pair_1_x1 qx qtarget s = some r) : Awp prog 0 49 (cL (cL (cL (cR (cR (cR (cB f163))))))) (Out 0 (kk slices_BinarySearchFunc_api_Sample_api_Sample_int_f2_series_Pair_1_x1_k) (SS (slices_BinarySearchFunc_api_Sample_api_Sample_int_f2_series_Pair_1_x1_H qx qtarget) (slices_BinarySearchFunc_api_Sample_api_Sample_int_f2_series_Pair_1_x1_S qx qtarget)) r) (slices_BinarySearchFunc_api_Sample_api_Sample_int_f2_series_Pair_1_x1_H qx qtarget s) := by
  obtain ⟨vi, vj⟩ := s
  unfold slices_BinarySearchFunc_api_Sample_api_Sample_int_f2_series_Pair_1_x1 at hF
  refine awp_seq ?_
  refine awp_seq ?_
  refine awp_region ?_
  refine aR 3 ?_
  refine aE ?_
  refine cE hF (fun h1 hF => ?_) fun h1 hF => ?_
  · refine awp_true (by kernel_rfl) h1 ?_
    refine awp_skip ?_
    refine awp_block ?_
    refine awp_seq ?_
    refine awp_region ?_
    refine aR 7 ?_
    refine aE ?_
    refine awp_seq ?_
    refine bE hF fun vy1 h2 hF => ?_
    refine bE hF fun vr1_1 h3 hF => ?_
    refine awp_region ?_
    refine aR 3 ?_
    refine aX (x_idx api_Sample.enc h2) ?_
    refine aR 2 ?_
    refine aC (series_Pair_1_ok h3) [] [] [] ?_
    refine aR 1 ?_
    refine aE ?_
    refine cE hF (fun h4 hF => ?_) fun h4 hF => ?_
    · refine awp_true (by kernel_rfl) h4 ?_
      refine awp_region ?_
      refine aR 3 ?_
      refine aE ?_
      exact oO hF [] [] rfl
    · refine awp_false (by kernel_rfl) h4 ?_
      refine awp_region ?_
      refine aR 2 ?_
      refine aE ?_
      exact oO hF [] [] rfl
  · refine awp_false (by kernel_rfl) h1 ?_
    refine awp_exit ?_
    exact oO hF [] [] rfl

def slices_BinarySearchFunc_api_Sample_api_Sample_int_f2_series_Pair_1_x2_k : Bool → AEx
  | _ => .normal

def slices_BinarySearchFunc_api_Sample_api_Sample_int_f2_series_Pair_1_x2_S (qx : List api_Sample) (qtarget : Int) (vi1_1 : Int) : Bool → St
  | vx => Mem.st ⟨[], []⟩ (tl [(6, .v (.one (.d (.int .i64 vi1_1)))), (7, .v (.one (.d (.bool vx))))]) 0

def slices_BinarySearchFunc_api_Sample_api_Sample_int_f2_series_Pair_1_x2_I (qx : List api_Sample) (qtarget : Int) (vi1_1 : Int) : St := Mem.st ⟨[], []⟩ (tl [(0, .v (.one (.d (.lst (List.map api_Sample.enc qx))))), (1, .v (.one (.d (.int .i64 qtarget)))), (2, .v (.one (.fn 164 []))), (8, .v (.one (.d (.int .i64 (qx.length : Int))))), (9, .v (.one (.d (.int .i64 vi1_1))))]) 0

theorem slices_BinarySearchFunc_api_Sample_api_Sample_int_f2_series_Pair_1_x2_ok (qx : List api_Sample) (qtarget : Int) (vi1_1 : Int) {r} (hF : slices_BinarySearchFunc_api_Sample_api_Sample_int_f2_series_Pair_1_x2 qx qtarget vi1_1 = some r) : Awp prog 0 49 (cL (cR (cR (cR (cR (cB f163)))))) (Out 0 slices_BinarySearchFunc_api_Sample_api_Sample_int_f2_series_Pair_1_x2_k (slices_BinarySearchFunc_api_Sample_api_Sample_int_f2_series_Pair_1_x2_S qx qtarget vi1_1) r) (slices_BinarySearchFunc_api_Sample_api_Sample_int_f2_series_Pair_1_x2_I qx qtarget vi1_1) := by
  unfold slices_BinarySearchFunc_api_Sample_api_Sample_int_f2_series_Pair_1_x2 at hF
  refine cE hF (fun h6 hF => ?_) fun h6 hF => ?_
  · refine bE hF fun vy2 h7 hF => ?_
    refine bE hF fun vr1_2 h8 hF => ?_
    refine awp_region ?_
    refine aR 3 ?_
    refine aB h6 ?_
    refine aR 4 ?_
    refine aX (x_idx api_Sample.enc h7) ?_
    refine aR 2 ?_
    refine aC (series_Pair_1_ok h8) [] [] [] ?_
    refine aR 4 ?_
    refine aE ?_
    exact oO hF [] [] rfl
  · refine awp_region ?_
    refine aR 3 ?_
    refine aB h6 ?_
    refine aR 12 ?_
    refine aE ?_
    exact oO hF [] [] rfl

def slices_BinarySearchFunc_api_Sample_api_Sample_int_f2_series_Pair_1_R (qx : List api_Sample) (qtarget : Int) (r : Int × Bool) : TV × Mem := (.tup [.one (.d (.int .i64 r.1)), .one (.d (.bool r.2))], ⟨[], []⟩)

theorem slices_BinarySearchFunc_api_Sample_api_Sample_int_f2_series_Pair_1_ok {qx : List api_Sample} {qtarget : Int} {r} (hF : slices_BinarySearchFunc_api_Sample_api_Sample_int_f2_series_Pair_1 qx qtarget = some r) : Holds prog 163 [.v (.one (.d (.lst (List.map api_Sample.enc qx)))), .v (.one (.d (.int .i64 qtarget))), .v (.one (.fn 164 []))] ⟨[], []⟩ (Is (slices_BinarySearchFunc_api_Sample_api_Sample_int_f2_series_Pair_1_R qx qtarget r)) := by
  unfold slices_BinarySearchFunc_api_Sample_api_Sample_int_f2_series_Pair_1 at hF
  refine holds_of_awp hΓ (fn := f163) (c := cB f163) (A := 0) (nx := 0) (by kernel_rfl) (by kernel_rfl) (by kernel_rfl) (by kernel_rfl) (by kernel_rfl) (by kernel_rfl) (lowc_of (by kernel_rfl)) ?_
  show Awp prog 0 49 (cB f163) _ _
  refine awp_seq ?_
  refine awp_region ?_
  refine aR 2 ?_
  refine aE ?_
  refine awp_seq ?_
  refine awp_region ?_
  refine aR 1 ?_
  refine aL api_Sample.enc qx ?_
  refine aR 1 ?_
  refine aE ?_
  refine awp_seq ?_
  refine awp_region ?_
  refine aR 3 ?_
  refine aE ?_
  refine awp_seq ?_
  refine awp_block ?_
  refine awp_to (st' := slices_BinarySearchFunc_api_Sample_api_Sample_int_f2_series_Pair_1_x1_H qx qtarget (0, (qx.length : Int))) (oT [] []) ?_
  refine bE hF fun vi1_1 h5 hF => ?_
  refine awp_sub (awp_loop' (slices_BinarySearchFunc_api_Sample_api_Sample_int_f2_series_Pair_1_x1_H qx qtarget) slices_BinarySearchFunc_api_Sample_api_Sample_int_f2_series_Pair_1_x1_k (slices_BinarySearchFunc_api_Sample_api_Sample_int_f2_series_Pair_1_x1_S qx qtarget) (by intro x; exact fun h => nomatch h) h5 (slices_BinarySearchFunc_api_Sample_api_Sample_int_f2_series_Pair_1_x1_ok qx qtarget)) ?_
  refine awp_seq ?_
  refine awp_to (st' := slices_BinarySearchFunc_api_Sample_api_Sample_int_f2_series_Pair_1_x2_I qx qtarget vi1_1) (oT [] []) ?_
  refine bE hF fun vx1 h9 hF => ?_
  refine awp_sub (slices_BinarySearchFunc_api_Sample_api_Sample_int_f2_series_Pair_1_x2_ok qx qtarget vi1_1 h9) ?_
  refine awp_ret ?_
  exact oF hF [] []

/-! ### beaconfleet/series.Pair -/
def series_Pair_x5_k : Bool → AEx
  | _ => .normal

def series_Pair_x5_S (qx : List api_Sample) (qx1 : List api_Sample) (qx2 : Int) (vx : List api_Pairing) (vx1 : Int) (vy8 : api_Sample) (vr4 : Int) (vx13 : Int) (vx14 : Int) (vx15 : Int) (vy12 : Int) : Bool → St
  | vx19 => Mem.st ⟨[(0, ⟨108, 8, List.map api_Pairing.enc vx⟩)], [(1, [.d (.str vy8.Device), .d (.str vy8.Metric), .d (.int .i64 vy8.At), .d (.int .i64 vy8.Value)])]⟩ (tl [(1, .v (.one (.d (.lst (List.map api_Sample.enc qx1))))), (2, .v (.one (.d (.int .i64 qx2)))), (9, .v (.one (.own 0 none))), (11, .v (.one (.box 1 0))), (14, .v (.one (.d (.int .i64 vx13)))), (15, .v (.one (.d (.int .i64 vx14)))), (17, .v (.one (.d (.int .i64 vy12)))), (29, .v (.one (.d (.lst (List.map api_Sample.enc qx))))), (30, .v (.one (.d (.int .i64 (qx.length : Int))))), (31, .v (.one (.d (.int .i64 vx1)))), (47, .v (.one (.d (.lst (List.map (encI .i64) ([IntKind.wrap .i64 (vr4 - 1), vr4] : List Int)))))), (48, .v (.one (.d (.int .i64 (([IntKind.wrap .i64 (vr4 - 1), vr4] : List Int).length : Int))))), (49, .v (.one (.d (.int .i64 vx15)))), (81, .v (.one (.d (.bool vx19))))]) 2

def series_Pair_x5_I (qx : List api_Sample) (qx1 : List api_Sample) (qx2 : Int) (vx : List api_Pairing) (vx1 : Int) (vy8 : api_Sample) (vr4 : Int) (vx13 : Int) (vx14 : Int) (vx15 : Int) (vy12 : Int) : St := Mem.st ⟨[(0, ⟨108, 8, List.map api_Pairing.enc vx⟩)], [(1, [.d (.str vy8.Device), .d (.str vy8.Metric), .d (.int .i64 vy8.At), .d (.int .i64 vy8.Value)])]⟩ (tl [(1, .v (.one (.d (.lst (List.map api_Sample.enc qx1))))), (2, .v (.one (.d (.int .i64 qx2)))), (9, .v (.one (.own 0 none))), (11, .v (.one (.box 1 0))), (14, .v (.one (.d (.int .i64 vx13)))), (15, .v (.one (.d (.int .i64 vx14)))), (17, .v (.one (.d (.int .i64 vy12)))), (29, .v (.one (.d (.lst (List.map api_Sample.enc qx))))), (30, .v (.one (.d (.int .i64 (qx.length : Int))))), (31, .v (.one (.d (.int .i64 vx1)))), (47, .v (.one (.d (.lst (List.map (encI .i64) ([IntKind.wrap .i64 (vr4 - 1), vr4] : List Int)))))), (48, .v (.one (.d (.int .i64 (([IntKind.wrap .i64 (vr4 - 1), vr4] : List Int).length : Int))))), (49, .v (.one (.d (.int .i64 vx15))))]) 2

theorem series_Pair_x5_ok (qx : List api_Sample) (qx1 : List api_Sample) (qx2 : Int) (vx : List api_Pairing) (vx1 : Int) (vy8 : api_Sample) (vr4 : Int) (vx13 : Int) (vx14 : Int) (vx15 : Int) (vy12 : Int) {r} (hF : series_Pair_x5 qx1 vy8 vx14 vy12 = some r) : Awp prog 0 114 (cL (cR (cL (cL (cR (cR (cL (cL (cR (cL (cR (cR (cR (cL (cL (cR (cR (cL (cL (cR (cL (cR (cR (cR (cR (cB f65)))))))))))))))))))))))))) (Out 0 series_Pair_x5_k (series_Pair_x5_S qx qx1 qx2 vx vx1 vy8 vr4 vx13 vx14 vx15 vy12) r) (series_Pair_x5_I qx qx1 qx2 vx vx1 vy8 vr4 vx13 vx14 vx15 vy12) := by
  unfold series_Pair_x5 at hF
  refine cE hF (fun h12 hF => ?_) fun h12 hF => ?_
  · refine cE hF (fun h13 hF => ?_) fun h13 hF => ?_
    · refine bE hF fun vy13 h14 hF => ?_
      refine aD ?_
      refine dR 1 ?_
      refine dB h12 ?_
      refine dR 3 ?_
      refine dL api_Sample.enc qx1 ?_
      refine dB h13 ?_
      refine dR 6 ?_
      refine dX (x_idx api_Sample.enc h14) ?_
      refine dR 5 ?_
      refine dX (x_idx api_Sample.enc h14) ?_
      refine dR 9 ?_
      refine dE ?_
      exact oO hF [] [] rfl
    · refine aD ?_
      refine dR 1 ?_
      refine dB h12 ?_
      refine dR 3 ?_
      refine dL api_Sample.enc qx1 ?_
      refine dB h13 ?_
      refine dR 22 ?_
      refine dE ?_
      exact oO hF [] [] rfl
  · refine aD ?_
    refine dR 1 ?_
    refine dB h12 ?_
    refine dR 27 ?_
    refine dE ?_
    exact oO hF [] [] rfl

def series_Pair_x4_k : (Int × Int) → AEx
  | _ => .normal

def series_Pair_x4_S (qx : List api_Sample) (qx1 : List api_Sample) (qx2 : Int) (vx : List api_Pairing) (vx1 : Int) (vy8 : api_Sample) (vr4 : Int) (vx13 : Int) (vx14 : Int) (vx15 : Int) : (Int × Int) → St
  | (vx20, vx21) => Mem.st ⟨[(0, ⟨108, 8, List.map api_Pairing.enc vx⟩)], [(1, [.d (.str vy8.Device), .d (.str vy8.Metric), .d (.int .i64 vy8.At), .d (.int .i64 vy8.Value)])]⟩ (tl [(1, .v (.one (.d (.lst (List.map api_Sample.enc qx1))))), (2, .v (.one (.d (.int .i64 qx2)))), (9, .v (.one (.own 0 none))), (11, .v (.one (.box 1 0))), (14, .v (.one (.d (.int .i64 vx20)))), (15, .v (.one (.d (.int .i64 vx21)))), (29, .v (.one (.d (.lst (List.map api_Sample.enc qx))))), (30, .v (.one (.d (.int .i64 (qx.length : Int))))), (31, .v (.one (.d (.int .i64 vx1)))), (47, .v (.one (.d (.lst (List.map (encI .i64) ([IntKind.wrap .i64 (vr4 - 1), vr4] : List Int)))))), (48, .v (.one (.d (.int .i64 (([IntKind.wrap .i64 (vr4 - 1), vr4] : List Int).length : Int))))), (49, .v (.one (.d (.int .i64 vx15))))]) 2

def series_Pair_x4_I (qx : List api_Sample) (qx1 : List api_Sample) (qx2 : Int) (vx : List api_Pairing) (vx1 : Int) (vy8 : api_Sample) (vr4 : Int) (vx13 : Int) (vx14 : Int) (vx15 : Int) : St := Mem.st ⟨[(0, ⟨108, 8, List.map api_Pairing.enc vx⟩)], [(1, [.d (.str vy8.Device), .d (.str vy8.Metric), .d (.int .i64 vy8.At), .d (.int .i64 vy8.Value)])]⟩ (tl [(1, .v (.one (.d (.lst (List.map api_Sample.enc qx1))))), (2, .v (.one (.d (.int .i64 qx2)))), (9, .v (.one (.own 0 none))), (11, .v (.one (.box 1 0))), (14, .v (.one (.d (.int .i64 vx13)))), (15, .v (.one (.d (.int .i64 vx14)))), (29, .v (.one (.d (.lst (List.map api_Sample.enc qx))))), (30, .v (.one (.d (.int .i64 (qx.length : Int))))), (31, .v (.one (.d (.int .i64 vx1)))), (47, .v (.one (.d (.lst (List.map (encI .i64) ([IntKind.wrap .i64 (vr4 - 1), vr4] : List Int)))))), (48, .v (.one (.d (.int .i64 (([IntKind.wrap .i64 (vr4 - 1), vr4] : List Int).length : Int))))), (49, .v (.one (.d (.int .i64 vx15))))]) 2

theorem series_Pair_x4_ok (qx : List api_Sample) (qx1 : List api_Sample) (qx2 : Int) (vx : List api_Pairing) (vx1 : Int) (vy8 : api_Sample) (vr4 : Int) (vx13 : Int) (vx14 : Int) (vx15 : Int) {r} (hF : series_Pair_x4 qx1 vy8 vr4 vx13 vx14 vx15 = some r) : Awp prog 0 114 (cL (cR (cR (cL (cL (cR (cL (cR (cR (cR (cL (cL (cR (cR (cL (cL (cR (cL (cR (cR (cR (cR (cB f65))))))))))))))))))))))) (Out 0 series_Pair_x4_k (series_Pair_x4_S qx qx1 qx2 vx vx1 vy8 vr4 vx13 vx14 vx15) r) (series_Pair_x4_I qx qx1 qx2 vx vx1 vy8 vr4 vx13 vx14 vx15) := by
  unfold series_Pair_x4 at hF
  refine awp_block ?_
  refine awp_seq ?_
  refine bE hF fun vy12 h11 hF => ?_
  refine awp_region ?_
  refine aX (x_idx (encI .i64) h11) ?_
  refine aR 2 ?_
  refine aE ?_
  refine awp_seq ?_
  refine awp_to (st' := series_Pair_x5_I qx qx1 qx2 vx vx1 vy8 vr4 vx13 vx14 vx15 vy12) (oT [] []) ?_
  refine bE hF fun vx19_1 h15 hF => ?_
  refine awp_sub (series_Pair_x5_ok qx qx1 qx2 vx vx1 vy8 vr4 vx13 vx14 vx15 vy12 h15) ?_
  refine cE hF (fun h16 hF => ?_) fun h16 hF => ?_
  · refine awp_true (by kernel_rfl) h16 ?_
    refine bE hF fun vy14 h17 hF => ?_
    refine aD ?_
    refine dR 5 ?_
    refine dX (x_idx api_Sample.enc h17) ?_
    refine dR 5 ?_
    refine dX (x_idx api_Sample.enc h17) ?_
    refine dR 8 ?_
    refine dE ?_
    exact oO hF [] [] rfl
  · refine awp_false (by kernel_rfl) h16 ?_
    refine awp_skip ?_
    exact oO hF [] [] rfl

def series_Pair_x3_k : Int → AEx
  | _ => .exit 2

def series_Pair_x3_S (qx : List api_Sample) (qx1 : List api_Sample) (qx2 : Int) (vx : List api_Pairing) (vx1 : Int) (vy8 : api_Sample) (vr4 : Int) : Int → St
  | vx22 => Mem.st ⟨[(0, ⟨108, 8, List.map api_Pairing.enc vx⟩)], [(1, [.d (.str vy8.Device), .d (.str vy8.Metric), .d (.int .i64 vy8.At), .d (.int .i64 vy8.Value)])]⟩ (tl [(1, .v (.one (.d (.lst (List.map api_Sample.enc qx1))))), (2, .v (.one (.d (.int .i64 qx2)))), (9, .v (.one (.own 0 none))), (11, .v (.one (.box 1 0))), (14, .v (.one (.d (.int .i64 vx22)))), (29, .v (.one (.d (.lst (List.map api_Sample.enc qx))))), (30, .v (.one (.d (.int .i64 (qx.length : Int))))), (31, .v (.one (.d (.int .i64 vx1))))]) 2

def series_Pair_x3_H (qx : List api_Sample) (qx1 : List api_Sample) (qx2 : Int) (vx : List api_Pairing) (vx1 : Int) (vy8 : api_Sample) (vr4 : Int) : Int × Int × Int → St
  | (vx13, vx14, vx15) => Mem.st ⟨[(0, ⟨108, 8, List.map api_Pairing.enc vx⟩)], [(1, [.d (.str vy8.Device), .d (.str vy8.Metric), .d (.int .i64 vy8.At), .d (.int .i64 vy8.Value)])]⟩ (tl [(1, .v (.one (.d (.lst (List.map api_Sample.enc qx1))))), (2, .v (.one (.d (.int .i64 qx2)))), (9, .v (.one (.own 0 none))), (11, .v (.one (.box 1 0))), (14, .v (.one (.d (.int .i64 vx13)))), (15, .v (.one (.d (.int .i64 vx14)))), (29, .v (.one (.d (.lst (List.map api_Sample.enc qx))))), (30, .v (.one (.d (.int .i64 (qx.length : Int))))), (31, .v (.one (.d (.int .i64 vx1)))), (47, .v (.one (.d (.lst (List.map (encI .i64) ([IntKind.wrap .i64 (vr4 - 1), vr4] : List Int)))))), (48, .v (.one (.d (.int .i64 (([IntKind.wrap .i64 (vr4 - 1), vr4] : List Int).length : Int))))), (49, .v (.one (.d (.int .i64 vx15))))]) 2

theorem series_Pair_x3_ok (qx : List api_Sample) (qx1 : List api_Sample) (qx2 : Int) (vx : List api_Pairing) (vx1 : Int) (vy8 : api_Sample) (vr4 : Int) (s : Int × Int × Int) (r : (Int × Int × Int) ⊕ (Int)) (hF : series_Pair_x3 qx1 vy8 vr4 s = some r) : Awp prog 0 114 (cL (cL (cR (cL (cR (cR (cR (cL (cL (cR (cR (cL (cL (cR (cL (cR (cR (cR (cR (cB f65)))))))))))))))))))) (Out 0 (kk series_Pair_x3_k) (SS (series_Pair_x3_H qx qx1 qx2 vx vx1 vy8 vr4) (series_Pair_x3_S qx qx1 qx2 vx vx1 vy8 vr4)) r) (series_Pair_x3_H qx qx1 qx2 vx vx1 vy8 vr4 s) := by
  obtain ⟨vx13, vx14, vx15⟩ := s
  unfold series_Pair_x3 at hF
  refine awp_seq ?_
  refine awp_region ?_
  refine aR 1 ?_
  refine aE ?_
  refine awp_seq ?_
  refine cE hF (fun h10 hF => ?_) fun h10 hF => ?_
  · refine awp_true (by kernel_rfl) h10 ?_
    refine awp_skip ?_
    refine awp_seq ?_
    refine awp_to (st' := series_Pair_x4_I qx qx1 qx2 vx vx1 vy8 vr4 vx13 vx14 vx15) (oT [] []) ?_
    refine bE hF fun x h18 hF => ?_
    obtain ⟨vx20_1, vx21_1⟩ := x
    refine awp_sub (series_Pair_x4_ok qx qx1 qx2 vx vx1 vy8 vr4 vx13 vx14 vx15 h18) ?_
    refine awp_region ?_
    refine aR 2 ?_
    refine aE ?_
    exact oO hF [] [] rfl
  · refine awp_false (by kernel_rfl) h10 ?_
    refine awp_exit ?_
    exact oO hF [] [] rfl

def series_Pair_x2_k : (List api_Pairing) → AEx
  | _ => .normal

def series_Pair_x2_S (qx : List api_Sample) (qx1 : List api_Sample) (qx2 : Int) (vx : List api_Pairing) (vx1 : Int) : (List api_Pairing) → St
  | vx23 => Mem.st ⟨[(0, ⟨108, 8, List.map api_Pairing.enc vx23⟩)], []⟩ (tl [(1, .v (.one (.d (.lst (List.map api_Sample.enc qx1))))), (2, .v (.one (.d (.int .i64 qx2)))), (9, .v (.one (.own 0 none))), (29, .v (.one (.d (.lst (List.map api_Sample.enc qx))))), (30, .v (.one (.d (.int .i64 (qx.length : Int))))), (31, .v (.one (.d (.int .i64 vx1))))]) 1

def series_Pair_x2_I (qx : List api_Sample) (qx1 : List api_Sample) (qx2 : Int) (vx : List api_Pairing) (vx1 : Int) : St := Mem.st ⟨[(0, ⟨108, 8, List.map api_Pairing.enc vx⟩)], []⟩ (tl [(1, .v (.one (.d (.lst (List.map api_Sample.enc qx1))))), (2, .v (.one (.d (.int .i64 qx2)))), (9, .v (.one (.own 0 none))), (29, .v (.one (.d (.lst (List.map api_Sample.enc qx))))), (30, .v (.one (.d (.int .i64 (qx.length : Int))))), (31, .v (.one (.d (.int .i64 vx1))))]) 1

theorem series_Pair_x2_ok (qx : List api_Sample) (qx1 : List api_Sample) (qx2 : Int) (vx : List api_Pairing) (vx1 : Int) {r} (hF : series_Pair_x2 qx qx1 qx2 vx vx1 = some r) : Awp prog 0 114 (cL (cR (cR (cL (cL (cR (cL (cR (cR (cR (cR (cB f65)))))))))))) (Out 0 series_Pair_x2_k (series_Pair_x2_S qx qx1 qx2 vx vx1) r) (series_Pair_x2_I qx qx1 qx2 vx vx1) := by
  unfold series_Pair_x2 at hF
  refine awp_block ?_
  refine awp_seq ?_
  refine bE hF fun vy8 h8 hF => ?_
  refine awp_region ?_
  refine aX (x_idx api_Sample.enc h8) ?_
  refine aR 3 ?_
  refine aE ?_
  refine awp_seq ?_
  refine bE hF fun x h9 hF => ?_
  obtain ⟨vr4, vr2_2⟩ := x
  refine awp_region ?_
  refine aR 3 ?_
  refine aC (slices_BinarySearchFunc_api_Sample_api_Sample_int_f2_series_Pair_1_ok h9) [] [] [] ?_
  refine aR 5 ?_
  refine aE ?_
  refine awp_seq ?_
  refine awp_region ?_
  refine aR 4 ?_
  refine aE ?_
  refine awp_seq ?_
  refine awp_seq ?_
  refine awp_region ?_
  refine aR 4 ?_
  refine aL (encI .i64) ([IntKind.wrap .i64 (vr4 - 1), vr4] : List Int) ?_
  refine aR 1 ?_
  refine aE ?_
  refine awp_to (oT (m := ⟨[(0, ⟨108, 8, List.map api_Pairing.enc vx⟩)], [(1, [.d (.str vy8.Device), .d (.str vy8.Metric), .d (.int .i64 vy8.At), .d (.int .i64 vy8.Value)])]⟩) (ts := [(1, .v (.one (.d (.lst (List.map api_Sample.enc qx1))))), (2, .v (.one (.d (.int .i64 qx2)))), (9, .v (.one (.own 0 none))), (11, .v (.one (.box 1 0))), (14, .v (.one (.d (.int .i64 (-1))))), (15, .v (.one (.d (.int .i64 (IntKind.wrap .i64 (qx2 + 1)))))), (29, .v (.one (.d (.lst (List.map api_Sample.enc qx))))), (30, .v (.one (.d (.int .i64 (qx.length : Int))))), (31, .v (.one (.d (.int .i64 vx1)))), (47, .v (.one (.d (.lst (List.map (encI .i64) ([IntKind.wrap .i64 (vr4 - 1), vr4] : List Int)))))), (48, .v (.one (.d (.int .i64 (([IntKind.wrap .i64 (vr4 - 1), vr4] : List Int).length : Int))))), (49, .v (.one (.d (.int .i64 0))))]) (nx := 2) [(1, 2001)] []) ?_
  refine awp_block ?_
  refine awp_to (st' := series_Pair_x3_H qx qx1 qx2 vx vx1 vy8 vr4 ((-1), IntKind.wrap .i64 (qx2 + 1), 0)) (oT [] []) ?_
  refine bE hF fun vx22_1 h19 hF => ?_
  refine awp_sub (awp_loop' (series_Pair_x3_H qx qx1 qx2 vx vx1 vy8 vr4) series_Pair_x3_k (series_Pair_x3_S qx qx1 qx2 vx vx1 vy8 vr4) (by intro x; exact fun h => nomatch h) h19 (series_Pair_x3_ok qx qx1 qx2 vx vx1 vy8 vr4)) ?_
  refine awp_seq ?_
  refine awp_region ?_
  refine aR 2 ?_
  refine aE ?_
  refine cE hF (fun h20 hF => ?_) fun h20 hF => ?_
  · refine awp_true (by kernel_rfl) h20 ?_
    refine bE hF fun vy15 h21 hF => ?_
    refine gE hF fun h22 hF => ?_
    refine aD ?_
    refine dR 4 ?_
    refine dX (x_idx api_Sample.enc h21) ?_
    refine dR 3 ?_
    refine dX (x_app api_Pairing.enc 0 h22) ?_
    refine dR 1 ?_
    refine dE ?_
    exact oO hF [(0, 10002)] [] rfl
  · refine awp_false (by kernel_rfl) h20 ?_
    refine awp_skip ?_
    exact oO hF [] [] rfl

def series_Pair_x1_k : (List api_Pairing) → AEx
  | _ => .exit 0

def series_Pair_x1_S (qx : List api_Sample) (qx1 : List api_Sample) (qx2 : Int) : (List api_Pairing) → St
  | vx24 => Mem.st ⟨[(0, ⟨108, 8, List.map api_Pairing.enc vx24⟩)], []⟩ (tl [(9, .v (.one (.own 0 none)))]) 1

def series_Pair_x1_H (qx : List api_Sample) (qx1 : List api_Sample) (qx2 : Int) : (List api_Pairing) × Int → St
  | (vx, vx1) => Mem.st ⟨[(0, ⟨108, 8, List.map api_Pairing.enc vx⟩)], []⟩ (tl [(1, .v (.one (.d (.lst (List.map api_Sample.enc qx1))))), (2, .v (.one (.d (.int .i64 qx2)))), (9, .v (.one (.own 0 none))), (29, .v (.one (.d (.lst (List.map api_Sample.enc qx))))), (30, .v (.one (.d (.int .i64 (qx.length : Int))))), (31, .v (.one (.d (.int .i64 vx1))))]) 1

theorem series_Pair_x1_ok (qx : List api_Sample) (qx1 : List api_Sample) (qx2 : Int) (s : (List api_Pairing) × Int) (r : ((List api_Pairing) × Int) ⊕ ((List api_Pairing))) (hF : series_Pair_x1 qx qx1 qx2 s = some r) : Awp prog 0 114 (cL (cL (cR (cL (cR (cR (cR (cR (cB f65))))))))) (Out 0 (kk series_Pair_x1_k) (SS (series_Pair_x1_H qx qx1 qx2) (series_Pair_x1_S qx qx1 qx2)) r) (series_Pair_x1_H qx qx1 qx2 s) := by
  obtain ⟨vx, vx1⟩ := s
  unfold series_Pair_x1 at hF
  refine awp_seq ?_
  refine awp_region ?_
  refine aR 1 ?_
  refine aE ?_
  refine awp_seq ?_
  refine cE hF (fun h7 hF => ?_) fun h7 hF => ?_
  · refine awp_true (by kernel_rfl) h7 ?_
    refine awp_skip ?_
    refine awp_seq ?_
    refine awp_to (st' := series_Pair_x2_I qx qx1 qx2 vx vx1) (oT [] []) ?_
    refine bE hF fun vx23_1 h23 hF => ?_
    refine awp_sub (series_Pair_x2_ok qx qx1 qx2 vx vx1 h23) ?_
    refine awp_region ?_
    refine aR 2 ?_
    refine aE ?_
    exact oO hF [] [] rfl
  · refine awp_false (by kernel_rfl) h7 ?_
    refine awp_exit ?_
    exact oO hF [] [] rfl

def series_Pair_R (qx : List api_Sample) (qx1 : List api_Sample) (qx2 : Int) (r : (List api_Pairing) × Int) : TV × Mem := (.tup [.one (.own 0 none), .one (.d (.int .i64 r.2))], ⟨[(0, ⟨108, 8, List.map api_Pairing.enc r.1⟩)], []⟩)

theorem series_Pair_ok {qx : List api_Sample} {qx1 : List api_Sample} {qx2 : Int} {r} (hF : series_Pair qx qx1 qx2 = some r) : Holds prog 65 [.v (.one (.d (.lst (List.map api_Sample.enc qx)))), .v (.one (.d (.lst (List.map api_Sample.enc qx1)))), .v (.one (.d (.int .i64 qx2)))] ⟨[], []⟩ (Is (series_Pair_R qx qx1 qx2 r)) := by
  unfold series_Pair at hF
  refine holds_of_awp hΓ (fn := f65) (c := cB f65) (A := 0) (nx := 0) (by kernel_rfl) (by kernel_rfl) (by kernel_rfl) (by kernel_rfl) (by kernel_rfl) (by kernel_rfl) (lowc_of (by kernel_rfl)) ?_
  show Awp prog 0 114 (cB f65) _ _
  refine awp_seq ?_
  refine awp_region ?_
  refine aR 2 ?_
  refine aE ?_
  refine awp_seq ?_
  refine awp_seq ?_
  refine bE hF fun vr1 h1 hF => ?_
  refine bE hF fun vr1_1 h2 hF => ?_
  refine bE hF fun vr h3 hF => ?_
  refine awp_region ?_
  refine aR 1 ?_
  refine aC (series_CheckSeries_ok h1) [] [] [] ?_
  refine aR 1 ?_
  refine aC (series_CheckSeries_ok h2) [] [] [] ?_
  refine aR 1 ?_
  refine aC (base_First_ok h3) [] [] [6000] ?_
  refine aR 1 ?_
  refine aE ?_
  refine awp_seq ?_
  refine awp_region ?_
  refine aR 2 ?_
  refine aE ?_
  refine cE hF (fun h4 hF => ?_) fun h4 hF => ?_
  · refine awp_true (by kernel_rfl) h4 ?_
    refine awp_seq ?_
    refine awp_region ?_
    refine aR 3 ?_
    refine aE ?_
    refine awp_ret ?_
    exact oF hF [] [0]
  · refine awp_false (by kernel_rfl) h4 ?_
    refine awp_skip ?_
    refine awp_seq ?_
    refine awp_seq ?_
    refine bE hF fun vr2 h5 hF => ?_
    refine awp_region ?_
    refine aR 1 ?_
    refine aC (base_Out_ok h5) [] [] [] ?_
    refine aE ?_
    refine cE hF (fun h6 hF => ?_) fun h6 hF => ?_
    · refine awp_true (by kernel_rfl) h6 ?_
      refine awp_seq ?_
      refine awp_region ?_
      refine aR 2 ?_
      refine aE ?_
      refine awp_ret ?_
      exact oF hF [] [0]
    · refine awp_false (by kernel_rfl) h6 ?_
      refine awp_skip ?_
      refine awp_seq ?_
      refine awp_region ?_
      refine aR 1 ?_
      refine aE ?_
      refine awp_seq ?_
      refine awp_seq ?_
      refine awp_region ?_
      refine aR 1 ?_
      refine aL api_Sample.enc qx ?_
      refine aR 1 ?_
      refine aE ?_
      refine awp_block ?_
      refine awp_to (st' := series_Pair_x1_H qx qx1 qx2 ([], 0)) (oT [] [0]) ?_
      refine bE hF fun vx24_1 h24 hF => ?_
      refine awp_sub (awp_loop' (series_Pair_x1_H qx qx1 qx2) series_Pair_x1_k (series_Pair_x1_S qx qx1 qx2) (by intro x; exact fun h => nomatch h) h24 (series_Pair_x1_ok qx qx1 qx2)) ?_
      refine awp_seq ?_
      refine awp_region ?_
      refine aR 3 ?_
      refine aE ?_
      refine awp_ret ?_
      exact oF hF [] []

/-! ### slices.Clone[[]beaconfleet/api.Sample,beaconfleet/api.Sample] -/
def slices_Clone_api_Sample_api_Sample_R (qs : List api_Sample) (r : List api_Sample) : TV × Mem := (.v (.one (.own 0 none)), ⟨[(0, ⟨42, 4, List.map api_Sample.enc r⟩)], []⟩)

theorem slices_Clone_api_Sample_api_Sample_ok {qs : List api_Sample} {r} (hF : slices_Clone_api_Sample_api_Sample qs = some r) : Holds prog 166 [.v (.one (.d (.lst (List.map api_Sample.enc qs))))] ⟨[], []⟩ (Is (slices_Clone_api_Sample_api_Sample_R qs r)) := by
  unfold slices_Clone_api_Sample_api_Sample at hF
  refine gE hF fun h1 hF => ?_
  refine holds_of_awp hΓ (fn := f166) (c := cB f166) (A := 0) (nx := 0) (by kernel_rfl) (by kernel_rfl) (by kernel_rfl) (by kernel_rfl) (by kernel_rfl) (by kernel_rfl) (lowc_of (by kernel_rfl)) ?_
  show Awp prog 0 8 (cB f166) _ _
  refine awp_seq ?_
  refine awp_region ?_
  refine aR 1 ?_
  refine aE ?_
  refine awp_seq ?_
  refine awp_seq ?_
  refine awp_region ?_
  refine aR 1 ?_
  refine aN api_Sample.enc qs (fun b hb => ?_) rfl
  refine aE ?_
  cases b with
  | true =>
    obtain rfl := hb rfl
    refine awp_true (by kernel_rfl) rfl ?_
    refine awp_seq ?_
    refine awp_region ?_
    refine aR 1 ?_
    refine aE ?_
    refine awp_ret ?_
    exact oF hF [] [0]
  | false =>
    refine awp_false (by kernel_rfl) rfl ?_
    refine awp_skip ?_
    refine awp_seq ?_
    refine awp_region ?_
    refine aR 2 ?_
    refine aX (x_app api_Sample.enc 3000 h1) ?_
    refine aR 1 ?_
    refine aE ?_
    refine awp_ret ?_
    exact oF hF [(0, 5000)] []

/-! ### beaconfleet/series.Thin$1 -/
def series_Thin_1_R (qk : Int) (qx : Int) (qx1 : List api_Sample) (qx2 : Int) (r : (List api_Sample)) : TV × Mem := (.v (.one (.d (.lst (List.map api_Sample.enc r)))), ⟨[], [(0, [.d (.int .i64 qx)]), (1, [.d (.lst (List.map api_Sample.enc qx1))]), (2, [.d (.int .i64 qx2)])]⟩)

theorem series_Thin_1_ok {qk : Int} {qx : Int} {qx1 : List api_Sample} {qx2 : Int} {r} (hF : series_Thin_1 qk qx qx1 qx2 = some r) : Holds prog 167 [.v (.one (.d (.int .i64 qk))), .v (.one (.box 0 0)), .v (.one (.box 1 0)), .v (.one (.box 2 0))] ⟨[], [(0, [.d (.int .i64 qx)]), (1, [.d (.lst (List.map api_Sample.enc qx1))]), (2, [.d (.int .i64 qx2)])]⟩ (Is (series_Thin_1_R qk qx qx1 qx2 r)) := by
  unfold series_Thin_1 at hF
  refine holds_of_awp hΓ (fn := f167) (c := cB f167) (A := 3) (nx := 3) (by kernel_rfl) (by kernel_rfl) (by kernel_rfl) (by kernel_rfl) (by kernel_rfl) (by kernel_rfl) (lowc_of (by kernel_rfl)) ?_
  show Awp prog 3 33 (cB f167) _ _
  refine awp_seq ?_
  refine awp_region ?_
  refine aR 1 ?_
  refine aE ?_
  refine awp_seq ?_
  refine awp_seq ?_
  refine awp_region ?_
  refine aR 4 ?_
  refine aE ?_
  refine cE hF (fun h1 hF => ?_) fun h1 hF => ?_
  · refine awp_true (by kernel_rfl) h1 ?_
    refine awp_seq ?_
    refine bE hF fun vl h2 hF => ?_
    refine awp_region ?_
    refine aR 3 ?_
    refine aX (x_sliceN api_Sample.enc h2) ?_
    refine aR 1 ?_
    refine aE ?_
    refine awp_ret ?_
    exact oF hF [] []
  · refine awp_false (by kernel_rfl) h1 ?_
    refine awp_skip ?_
    refine awp_seq ?_
    refine gE hF fun h3 hF => ?_
    refine bE hF fun vl1 h4 hF => ?_
    refine aD ?_
    refine dR 7 ?_
    refine dX (x_quo h3) ?_
    refine dR 8 ?_
    refine dX (x_quo h3) ?_
    refine dR 1 ?_
    refine dX (x_slice api_Sample.enc h4) ?_
    refine dR 1 ?_
    refine dE ?_
    refine awp_ret ?_
    exact oF hF [] []

/-! ### beaconfleet/base.Down -/
def base_Down_x1_k : Int → AEx
  | _ => .normal

def base_Down_x1_S (qa : Int) (qb : Int) : Int → St
  | vq => Mem.st ⟨[], []⟩ (tl [(5, .v (.one (.d (.int .i64 vq))))]) 0

def base_Down_x1_I (qa : Int) (qb : Int) : St := Mem.st ⟨[], []⟩ (tl [(0, .v (.one (.d (.int .i64 qa)))), (1, .v (.one (.d (.int .i64 qb)))), (5, .v (.one (.d (.int .i64 (IntKind.wrap .i64 (qa.tdiv qb))))))]) 0

theorem base_Down_x1_ok (qa : Int) (qb : Int) {r} (hF : base_Down_x1 qa qb = some r) : Awp prog 0 16 (cL (cR (cR (cB f115)))) (Out 0 base_Down_x1_k (base_Down_x1_S qa qb) r) (base_Down_x1_I qa qb) := by
  unfold base_Down_x1 at hF
  refine awp_seq ?_
  refine gE hF fun h2 hF => ?_
  refine awp_region ?_
  refine aR 2 ?_
  refine aX (x_rem h2) ?_
  refine aR 1 ?_
  refine aE ?_
  refine cE hF (fun h3 hF => ?_) fun h3 hF => ?_
  · refine awp_true (by kernel_rfl) h3 ?_
    refine awp_region ?_
    refine aR 3 ?_
    refine aE ?_
    exact oO hF [] [] rfl
  · refine awp_false (by kernel_rfl) h3 ?_
    refine awp_skip ?_
    exact oO hF [] [] rfl

def base_Down_R (qa : Int) (qb : Int) (r : Int) : TV × Mem := (.v (.one (.d (.int .i64 r))), ⟨[], []⟩)

theorem base_Down_ok {qa : Int} {qb : Int} {r} (hF : base_Down qa qb = some r) : Holds prog 115 [.v (.one (.d (.int .i64 qa))), .v (.one (.d (.int .i64 qb)))] ⟨[], []⟩ (Is (base_Down_R qa qb r)) := by
  unfold base_Down at hF
  refine holds_of_awp hΓ (fn := f115) (c := cB f115) (A := 0) (nx := 0) (by kernel_rfl) (by kernel_rfl) (by kernel_rfl) (by kernel_rfl) (by kernel_rfl) (by kernel_rfl) (lowc_of (by kernel_rfl)) ?_
  show Awp prog 0 16 (cB f115) _ _
  refine awp_seq ?_
  refine awp_region ?_
  refine aR 1 ?_
  refine aE ?_
  refine awp_seq ?_
  refine gE hF fun h1 hF => ?_
  refine awp_region ?_
  refine aR 2 ?_
  refine aX (x_quo h1) ?_
  refine aR 1 ?_
  refine aE ?_
  refine awp_seq ?_
  refine awp_to (st' := base_Down_x1_I qa qb) (oT [] []) ?_
  refine bE hF fun vq1 h4 hF => ?_
  refine awp_sub (base_Down_x1_ok qa qb h4) ?_
  refine awp_seq ?_
  refine awp_region ?_
  refine aR 2 ?_
  refine aE ?_
  refine awp_ret ?_
  exact oF hF [] []

/-! ### beaconfleet/series.middle -/
def series_middle_x1_k : api_Sample → AEx
  | _ => .exit 0

def series_middle_x1_S (ql : List api_Sample) : api_Sample → St
  | vm1 => Mem.st ⟨[], [(0, [.d (.str ([] : List UInt8)), .d (.str ([] : List UInt8)), .d (.int .i64 0), .d (.int .i64 0)]), (1, [.d (.str vm1.Device), .d (.str vm1.Metric), .d (.int .i64 vm1.At), .d (.int .i64 vm1.Value)])]⟩ (tl [(0, .v (.one (.d (.lst (List.map api_Sample.enc ql))))), (2, .v (.one (.box 0 0))), (3, .v (.one (.box 1 0)))]) 2

def series_middle_x1_H (ql : List api_Sample) : api_Sample × Int → St
  | (vm, vx) => Mem.st ⟨[], [(0, [.d (.str ([] : List UInt8)), .d (.str ([] : List UInt8)), .d (.int .i64 0), .d (.int .i64 0)]), (1, [.d (.str vm.Device), .d (.str vm.Metric), .d (.int .i64 vm.At), .d (.int .i64 vm.Value)])]⟩ (tl [(0, .v (.one (.d (.lst (List.map api_Sample.enc ql))))), (2, .v (.one (.box 0 0))), (3, .v (.one (.box 1 0))), (6, .v (.one (.d (.lst (List.map api_Sample.enc ql))))), (7, .v (.one (.d (.int .i64 (ql.length : Int))))), (8, .v (.one (.d (.int .i64 vx))))]) 2

theorem series_middle_x1_ok (ql : List api_Sample) (s : api_Sample × Int) (r : (api_Sample × Int) ⊕ (api_Sample)) (hF : series_middle_x1 ql s = some r) : Awp prog 0 38 (cL (cL (cR (cL (cR (cR (cB f168))))))) (Out 0 (kk series_middle_x1_k) (SS (series_middle_x1_H ql) (series_middle_x1_S ql)) r) (series_middle_x1_H ql s) := by
  obtain ⟨vm, vx⟩ := s
  unfold series_middle_x1 at hF
  refine awp_seq ?_
  refine awp_region ?_
  refine aR 1 ?_
  refine aE ?_
  refine awp_seq ?_
  refine cE hF (fun h1 hF => ?_) fun h1 hF => ?_
  · refine awp_true (by kernel_rfl) h1 ?_
    refine awp_skip ?_
    refine awp_seq ?_
    refine awp_block ?_
    refine awp_seq ?_
    refine bE hF fun vy1 h2 hF => ?_
    refine awp_region ?_
    refine aX (x_idx api_Sample.enc h2) ?_
    refine aR 3 ?_
    refine aE ?_
    refine awp_seq ?_
    refine awp_region ?_
    refine aR 7 ?_
    refine aE ?_
    refine awp_region ?_
    refine aR 7 ?_
    refine aE ?_
    refine awp_region ?_
    refine aR 2 ?_
    refine aE ?_
    exact oO hF [] [] rfl
  · refine awp_false (by kernel_rfl) h1 ?_
    refine awp_exit ?_
    exact oO hF [] [] rfl

def series_middle_R (ql : List api_Sample) (r : api_Sample) : TV × Mem := (.v (.agg [.d (.str r.Device), .d (.str r.Metric), .d (.int .i64 r.At), .d (.int .i64 r.Value)]), ⟨[], []⟩)

theorem series_middle_ok {ql : List api_Sample} {r} (hF : series_middle ql = some r) : Holds prog 168 [.v (.one (.d (.lst (List.map api_Sample.enc ql))))] ⟨[], []⟩ (Is (series_middle_R ql r)) := by
  unfold series_middle at hF
  refine holds_of_awp hΓ (fn := f168) (c := cB f168) (A := 0) (nx := 0) (by kernel_rfl) (by kernel_rfl) (by kernel_rfl) (by kernel_rfl) (by kernel_rfl) (by kernel_rfl) (lowc_of (by kernel_rfl)) ?_
  show Awp prog 0 38 (cB f168) _ _
  refine awp_seq ?_
  refine awp_region ?_
  refine aR 1 ?_
  refine aE ?_
  refine awp_seq ?_
  refine awp_region ?_
  refine aR 1 ?_
  refine aE ?_
  refine awp_seq ?_
  refine awp_seq ?_
  refine awp_region ?_
  refine aR 1 ?_
  refine aL api_Sample.enc ql ?_
  refine aR 1 ?_
  refine aE ?_
  refine awp_block ?_
  refine awp_to (st' := series_middle_x1_H ql (api_Sample.mk ([] : List UInt8) ([] : List UInt8) 0 0, 0)) (oT [(1, 1000)] []) ?_
  refine bE hF fun vm1_1 h3 hF => ?_
  refine awp_sub (awp_loop' (series_middle_x1_H ql) series_middle_x1_k (series_middle_x1_S ql) (by intro x; exact fun h => nomatch h) h3 (series_middle_x1_ok ql)) ?_
  refine awp_seq ?_
  refine gE hF fun h4 hF => ?_
  refine bE hF fun vr h5 hF => ?_
  refine aD ?_
  refine dR 3 ?_
  refine dL api_Sample.enc ql ?_
  refine dX (x_quo h4) ?_
  refine dR 3 ?_
  refine dL api_Sample.enc ql ?_
  refine dC (base_Down_ok h5) [] [] [] ?_
  refine dR 4 ?_
  refine dE ?_
  refine awp_seq ?_
  refine awp_region ?_
  refine aR 2 ?_
  refine aE ?_
  refine awp_ret ?_
  exact oF hF [] []

/-! ### beaconfleet/series.area -/
def series_area_R (qa : api_Sample) (qb : api_Sample) (qc : api_Sample) (r : Unit) : TV × Mem := (.v (.one (.d (.int .i64 (imax (IntKind.wrap .i64 ((IntKind.wrap .i64 ((IntKind.wrap .i64 (qb.At - qa.At)) * (IntKind.wrap .i64 (qc.Value - qa.Value)))) - (IntKind.wrap .i64 ((IntKind.wrap .i64 (qc.At - qa.At)) * (IntKind.wrap .i64 (qb.Value - qa.Value)))))) (IntKind.wrap .i64 (0 - (IntKind.wrap .i64 ((IntKind.wrap .i64 ((IntKind.wrap .i64 (qb.At - qa.At)) * (IntKind.wrap .i64 (qc.Value - qa.Value)))) - (IntKind.wrap .i64 ((IntKind.wrap .i64 (qc.At - qa.At)) * (IntKind.wrap .i64 (qb.Value - qa.Value)))))))))))), ⟨[], []⟩)

theorem series_area_ok {qa : api_Sample} {qb : api_Sample} {qc : api_Sample} {r} (hF : series_area qa qb qc = some r) : Holds prog 169 [.v (.agg [.d (.str qa.Device), .d (.str qa.Metric), .d (.int .i64 qa.At), .d (.int .i64 qa.Value)]), .v (.agg [.d (.str qb.Device), .d (.str qb.Metric), .d (.int .i64 qb.At), .d (.int .i64 qb.Value)]), .v (.agg [.d (.str qc.Device), .d (.str qc.Metric), .d (.int .i64 qc.At), .d (.int .i64 qc.Value)])] ⟨[], []⟩ (Is (series_area_R qa qb qc r)) := by
  unfold series_area at hF
  refine holds_of_awp hΓ (fn := f169) (c := cB f169) (A := 0) (nx := 0) (by kernel_rfl) (by kernel_rfl) (by kernel_rfl) (by kernel_rfl) (by kernel_rfl) (by kernel_rfl) (lowc_of (by kernel_rfl)) ?_
  show Awp prog 0 35 (cB f169) _ _
  refine awp_seq ?_
  refine awp_region ?_
  refine aR 4 ?_
  refine aE ?_
  refine awp_seq ?_
  refine awp_region ?_
  refine aR 24 ?_
  refine aE ?_
  refine awp_seq ?_
  refine awp_region ?_
  refine aR 5 ?_
  refine aE ?_
  refine awp_ret ?_
  exact oF hF [] []

/-! ### beaconfleet/series.Thin -/
def series_Thin_x3_k : (api_Sample × Int) → AEx
  | _ => .normal

def series_Thin_x3_S (qx : List api_Sample) (qx1 : Int) (vx : List api_Sample) (vx1 : Int) (vy5 : api_Sample) (vr1_2 : api_Sample) (vr6 : List api_Sample) (vx10 : api_Sample) (vx11 : Int) (vx12 : Int) : (api_Sample × Int) → St
  | (vx15, vx16) => Mem.st ⟨[(3, ⟨42, 4, List.map api_Sample.enc vx⟩)], [(0, [.d (.lst (List.map api_Sample.enc qx))]), (1, [.d (.int .i64 (qx.length : Int))]), (2, [.d (.int .i64 qx1)]), (4, [.d (.str vy5.Device), .d (.str vy5.Metric), .d (.int .i64 vy5.At), .d (.int .i64 vy5.Value)]), (5, [.d (.str vr1_2.Device), .d (.str vr1_2.Metric), .d (.int .i64 vr1_2.At), .d (.int .i64 vr1_2.Value)]), (6, [.d (.str vx15.Device), .d (.str vx15.Metric), .d (.int .i64 vx15.At), .d (.int .i64 vx15.Value)])]⟩ (tl [(2, .v (.one (.box 0 0))), (7, .v (.one (.box 1 0))), (8, .v (.one (.fn 167 [2, 0, 1]))), (9, .v (.one (.own 3 none))), (11, .v (.one (.box 4 0))), (12, .v (.one (.box 5 0))), (13, .v (.one (.box 6 0))), (14, .v (.one (.d (.int .i64 vx16)))), (53, .v (.one (.d (.int .i64 (IntKind.wrap .i64 (qx1 - 2)))))), (54, .v (.one (.d (.int .i64 vx1)))), (71, .v (.one (.d (.lst (List.map api_Sample.enc vr6))))), (72, .v (.one (.d (.int .i64 (vr6.length : Int))))), (73, .v (.one (.d (.int .i64 vx12))))]) 7

def series_Thin_x3_I (qx : List api_Sample) (qx1 : Int) (vx : List api_Sample) (vx1 : Int) (vy5 : api_Sample) (vr1_2 : api_Sample) (vr6 : List api_Sample) (vx10 : api_Sample) (vx11 : Int) (vx12 : Int) : St := Mem.st ⟨[(3, ⟨42, 4, List.map api_Sample.enc vx⟩)], [(0, [.d (.lst (List.map api_Sample.enc qx))]), (1, [.d (.int .i64 (qx.length : Int))]), (2, [.d (.int .i64 qx1)]), (4, [.d (.str vy5.Device), .d (.str vy5.Metric), .d (.int .i64 vy5.At), .d (.int .i64 vy5.Value)]), (5, [.d (.str vr1_2.Device), .d (.str vr1_2.Metric), .d (.int .i64 vr1_2.At), .d (.int .i64 vr1_2.Value)]), (6, [.d (.str vx10.Device), .d (.str vx10.Metric), .d (.int .i64 vx10.At), .d (.int .i64 vx10.Value)])]⟩ (tl [(2, .v (.one (.box 0 0))), (7, .v (.one (.box 1 0))), (8, .v (.one (.fn 167 [2, 0, 1]))), (9, .v (.one (.own 3 none))), (11, .v (.one (.box 4 0))), (12, .v (.one (.box 5 0))), (13, .v (.one (.box 6 0))), (14, .v (.one (.d (.int .i64 vx11)))), (53, .v (.one (.d (.int .i64 (IntKind.wrap .i64 (qx1 - 2)))))), (54, .v (.one (.d (.int .i64 vx1)))), (71, .v (.one (.d (.lst (List.map api_Sample.enc vr6))))), (72, .v (.one (.d (.int .i64 (vr6.length : Int))))), (73, .v (.one (.d (.int .i64 vx12))))]) 7

theorem series_Thin_x3_ok (qx : List api_Sample) (qx1 : Int) (vx : List api_Sample) (vx1 : Int) (vy5 : api_Sample) (vr1_2 : api_Sample) (vr6 : List api_Sample) (vx10 : api_Sample) (vx11 : Int) (vx12 : Int) {r} (hF : series_Thin_x3 vy5 vr1_2 vr6 vx10 vx11 vx12 = some r) : Awp prog 0 100 (cL (cR (cR (cL (cL (cR (cL (cR (cR (cR (cL (cL (cR (cR (cL (cL (cR (cL (cR (cR (cR (cR (cR (cR (cB f66))))))))))))))))))))))))) (Out 0 series_Thin_x3_k (series_Thin_x3_S qx qx1 vx vx1 vy5 vr1_2 vr6 vx10 vx11 vx12) r) (series_Thin_x3_I qx qx1 vx vx1 vy5 vr1_2 vr6 vx10 vx11 vx12) := by
  unfold series_Thin_x3 at hF
  refine awp_block ?_
  refine awp_seq ?_
  refine bE hF fun vy7 h16 hF => ?_
  refine awp_region ?_
  refine aX (x_idx api_Sample.enc h16) ?_
  refine aR 3 ?_
  refine aE ?_
  refine awp_seq ?_
  refine bE hF fun _ h17 hF => ?_
  refine awp_region ?_
  refine aR 3 ?_
  refine aC (series_area_ok h17) [] [] [] ?_
  refine aR 1 ?_
  refine aE ?_
  refine awp_seq ?_
  refine awp_region ?_
  refine aR 3 ?_
  refine aE ?_
  refine cE hF (fun h18 hF => ?_) fun h18 hF => ?_
  · refine awp_true (by kernel_rfl) h18 ?_
    refine awp_region ?_
    refine aR 4 ?_
    refine aE ?_
    exact oO hF [] [] rfl
  · refine awp_false (by kernel_rfl) h18 ?_
    refine awp_skip ?_
    exact oO hF [] [] rfl

def series_Thin_x2_k : api_Sample → AEx
  | _ => .exit 3

def series_Thin_x2_S (qx : List api_Sample) (qx1 : Int) (vx : List api_Sample) (vx1 : Int) (vy5 : api_Sample) (vr1_2 : api_Sample) (vr6 : List api_Sample) : api_Sample → St
  | vx17 => Mem.st ⟨[(3, ⟨42, 4, List.map api_Sample.enc vx⟩)], [(0, [.d (.lst (List.map api_Sample.enc qx))]), (1, [.d (.int .i64 (qx.length : Int))]), (2, [.d (.int .i64 qx1)]), (4, [.d (.str vx17.Device), .d (.str vx17.Metric), .d (.int .i64 vx17.At), .d (.int .i64 vx17.Value)])]⟩ (tl [(2, .v (.one (.box 0 0))), (7, .v (.one (.box 1 0))), (8, .v (.one (.fn 167 [2, 0, 1]))), (9, .v (.one (.own 3 none))), (13, .v (.one (.box 4 0))), (53, .v (.one (.d (.int .i64 (IntKind.wrap .i64 (qx1 - 2)))))), (54, .v (.one (.d (.int .i64 vx1))))]) 5

def series_Thin_x2_H (qx : List api_Sample) (qx1 : Int) (vx : List api_Sample) (vx1 : Int) (vy5 : api_Sample) (vr1_2 : api_Sample) (vr6 : List api_Sample) : api_Sample × Int × Int → St
  | (vx10, vx11, vx12) => Mem.st ⟨[(3, ⟨42, 4, List.map api_Sample.enc vx⟩)], [(0, [.d (.lst (List.map api_Sample.enc qx))]), (1, [.d (.int .i64 (qx.length : Int))]), (2, [.d (.int .i64 qx1)]), (4, [.d (.str vy5.Device), .d (.str vy5.Metric), .d (.int .i64 vy5.At), .d (.int .i64 vy5.Value)]), (5, [.d (.str vr1_2.Device), .d (.str vr1_2.Metric), .d (.int .i64 vr1_2.At), .d (.int .i64 vr1_2.Value)]), (6, [.d (.str vx10.Device), .d (.str vx10.Metric), .d (.int .i64 vx10.At), .d (.int .i64 vx10.Value)])]⟩ (tl [(2, .v (.one (.box 0 0))), (7, .v (.one (.box 1 0))), (8, .v (.one (.fn 167 [2, 0, 1]))), (9, .v (.one (.own 3 none))), (11, .v (.one (.box 4 0))), (12, .v (.one (.box 5 0))), (13, .v (.one (.box 6 0))), (14, .v (.one (.d (.int .i64 vx11)))), (53, .v (.one (.d (.int .i64 (IntKind.wrap .i64 (qx1 - 2)))))), (54, .v (.one (.d (.int .i64 vx1)))), (71, .v (.one (.d (.lst (List.map api_Sample.enc vr6))))), (72, .v (.one (.d (.int .i64 (vr6.length : Int))))), (73, .v (.one (.d (.int .i64 vx12))))]) 7

theorem series_Thin_x2_ok (qx : List api_Sample) (qx1 : Int) (vx : List api_Sample) (vx1 : Int) (vy5 : api_Sample) (vr1_2 : api_Sample) (vr6 : List api_Sample) (s : api_Sample × Int × Int) (r : (api_Sample × Int × Int) ⊕ (api_Sample)) (hF : series_Thin_x2 vy5 vr1_2 vr6 s = some r) : Awp prog 0 100 (cL (cL (cR (cL (cR (cR (cR (cL (cL (cR (cR (cL (cL (cR (cL (cR (cR (cR (cR (cR (cR (cB f66)))))))))))))))))))))) (Out 0 (kk series_Thin_x2_k) (SS (series_Thin_x2_H qx qx1 vx vx1 vy5 vr1_2 vr6) (series_Thin_x2_S qx qx1 vx vx1 vy5 vr1_2 vr6)) r) (series_Thin_x2_H qx qx1 vx vx1 vy5 vr1_2 vr6 s) := by
  obtain ⟨vx10, vx11, vx12⟩ := s
  unfold series_Thin_x2 at hF
  refine awp_seq ?_
  refine awp_region ?_
  refine aR 1 ?_
  refine aE ?_
  refine awp_seq ?_
  refine cE hF (fun h15 hF => ?_) fun h15 hF => ?_
  · refine awp_true (by kernel_rfl) h15 ?_
    refine awp_skip ?_
    refine awp_seq ?_
    refine awp_to (st' := series_Thin_x3_I qx qx1 vx vx1 vy5 vr1_2 vr6 vx10 vx11 vx12) (oT [] []) ?_
    refine bE hF fun x h19 hF => ?_
    obtain ⟨vx15_1, vx16_1⟩ := x
    refine awp_sub (series_Thin_x3_ok qx qx1 vx vx1 vy5 vr1_2 vr6 vx10 vx11 vx12 h19) ?_
    refine awp_region ?_
    refine aR 2 ?_
    refine aE ?_
    exact oO hF [] [] rfl
  · refine awp_false (by kernel_rfl) h15 ?_
    refine awp_exit ?_
    exact oO hF [(4, 6)] [] rfl

def series_Thin_x1_k : (List api_Sample) → AEx
  | _ => .exit 1

def series_Thin_x1_S (qx : List api_Sample) (qx1 : Int) : (List api_Sample) → St
  | vx18 => Mem.st ⟨[(2, ⟨42, 4, List.map api_Sample.enc vx18⟩)], [(0, [.d (.lst (List.map api_Sample.enc qx))]), (1, [.d (.int .i64 (qx.length : Int))])]⟩ (tl [(2, .v (.one (.box 0 0))), (7, .v (.one (.box 1 0))), (9, .v (.one (.own 2 none)))]) 3

def series_Thin_x1_H (qx : List api_Sample) (qx1 : Int) : (List api_Sample) × Int → St
  | (vx, vx1) => Mem.st ⟨[(3, ⟨42, 4, List.map api_Sample.enc vx⟩)], [(0, [.d (.lst (List.map api_Sample.enc qx))]), (1, [.d (.int .i64 (qx.length : Int))]), (2, [.d (.int .i64 qx1)])]⟩ (tl [(2, .v (.one (.box 0 0))), (7, .v (.one (.box 1 0))), (8, .v (.one (.fn 167 [2, 0, 1]))), (9, .v (.one (.own 3 none))), (53, .v (.one (.d (.int .i64 (IntKind.wrap .i64 (qx1 - 2)))))), (54, .v (.one (.d (.int .i64 vx1))))]) 4

theorem series_Thin_x1_ok (qx : List api_Sample) (qx1 : Int) (s : (List api_Sample) × Int) (r : ((List api_Sample) × Int) ⊕ ((List api_Sample))) (hF : series_Thin_x1 qx qx1 s = some r) : Awp prog 0 100 (cL (cL (cR (cL (cR (cR (cR (cR (cR (cR (cB f66))))))))))) (Out 0 (kk series_Thin_x1_k) (SS (series_Thin_x1_H qx qx1) (series_Thin_x1_S qx qx1)) r) (series_Thin_x1_H qx qx1 s) := by
  obtain ⟨vx, vx1⟩ := s
  unfold series_Thin_x1 at hF
  refine awp_seq ?_
  refine awp_region ?_
  refine aR 1 ?_
  refine aE ?_
  refine awp_seq ?_
  refine cE hF (fun h10 hF => ?_) fun h10 hF => ?_
  · refine awp_true (by kernel_rfl) h10 ?_
    refine awp_skip ?_
    refine awp_seq ?_
    refine awp_block ?_
    refine awp_seq ?_
    refine awp_region ?_
    refine aR 2 ?_
    refine aE ?_
    refine awp_seq ?_
    refine bE hF fun vy5 h11 hF => ?_
    refine bE hF fun vr5 h12 hF => ?_
    refine bE hF fun vr1_2 h13 hF => ?_
    refine aD ?_
    refine dR 2 ?_
    refine dL api_Sample.enc vx ?_
    refine dR 1 ?_
    refine dX (x_idxO api_Sample.enc 3 h11) ?_
    refine dX (x_ldE api_Sample.enc h11) ?_
    refine dR 3 ?_
    refine dC (series_Thin_1_ok h12) [(0, 2), (1, 0), (2, 1)] [] [] ?_
    refine dC (series_middle_ok h13) [] [] [] ?_
    refine dR 4 ?_
    refine dE ?_
    refine awp_seq ?_
    refine awp_region ?_
    refine aR 4 ?_
    refine aE ?_
    refine awp_seq ?_
    refine awp_seq ?_
    refine bE hF fun vr6 h14 hF => ?_
    refine awp_region ?_
    refine aR 2 ?_
    refine aC (series_Thin_1_ok h14) [(0, 2), (1, 0), (2, 1)] [] [] ?_
    refine aL api_Sample.enc vr6 ?_
    refine aR 1 ?_
    refine aE ?_
    refine awp_block ?_
    refine awp_to (st' := series_Thin_x2_H qx qx1 vx vx1 vy5 vr1_2 vr6 (api_Sample.mk ([] : List UInt8) ([] : List UInt8) 0 0, (-1), 0)) (oT [(4, 14004), (5, 15004), (6, 19004)] []) ?_
    refine bE hF fun vx17_1 h20 hF => ?_
    refine awp_sub (awp_loop' (series_Thin_x2_H qx qx1 vx vx1 vy5 vr1_2 vr6) series_Thin_x2_k (series_Thin_x2_S qx qx1 vx vx1 vy5 vr1_2 vr6) (by intro x; exact fun h => nomatch h) h20 (series_Thin_x2_ok qx qx1 vx vx1 vy5 vr1_2 vr6)) ?_
    refine gE hF fun h21 hF => ?_
    refine awp_region ?_
    refine aR 3 ?_
    refine aX (x_app api_Sample.enc 3 h21) ?_
    refine aR 1 ?_
    refine aE ?_
    refine awp_region ?_
    refine aR 2 ?_
    refine aE ?_
    exact oO hF [(3, 3005)] [] rfl
  · refine awp_false (by kernel_rfl) h10 ?_
    refine awp_exit ?_
    exact oO hF [(2, 3)] [] rfl

def series_Thin_R (qx : List api_Sample) (qx1 : Int) (r : (List api_Sample) × Int) : TV × Mem := (.tup [.one (.own 0 none), .one (.d (.int .i64 r.2))], ⟨[(0, ⟨42, 4, List.map api_Sample.enc r.1⟩)], []⟩)

theorem series_Thin_ok {qx : List api_Sample} {qx1 : Int} {r} (hF : series_Thin qx qx1 = some r) : Holds prog 66 [.v (.one (.d (.lst (List.map api_Sample.enc qx)))), .v (.one (.d (.int .i64 qx1)))] ⟨[], []⟩ (Is (series_Thin_R qx qx1 r)) := by
  unfold series_Thin at hF
  refine holds_of_awp hΓ (fn := f66) (c := cB f66) (A := 0) (nx := 0) (by kernel_rfl) (by kernel_rfl) (by kernel_rfl) (by kernel_rfl) (by kernel_rfl) (by kernel_rfl) (lowc_of (by kernel_rfl)) ?_
  show Awp prog 0 100 (cB f66) _ _
  refine awp_seq ?_
  refine awp_region ?_
  refine aR 4 ?_
  refine aE ?_
  refine awp_seq ?_
  refine awp_seq ?_
  refine bE hF fun vr1 h1 hF => ?_
  refine awp_region ?_
  refine aR 1 ?_
  refine aC (series_CheckSeries_ok h1) [] [] [] ?_
  refine aR 1 ?_
  refine aE ?_
  refine awp_seq ?_
  refine awp_region ?_
  refine aR 2 ?_
  refine aE ?_
  refine cE hF (fun h2 hF => ?_) fun h2 hF => ?_
  · refine awp_true (by kernel_rfl) h2 ?_
    refine awp_seq ?_
    refine awp_region ?_
    refine aR 3 ?_
    refine aE ?_
    refine awp_ret ?_
    exact oF hF [] [0]
  · refine awp_false (by kernel_rfl) h2 ?_
    refine awp_skip ?_
    refine awp_seq ?_
    refine awp_region ?_
    refine aR 1 ?_
    refine aL api_Sample.enc qx ?_
    refine aR 2 ?_
    refine aE ?_
    refine awp_seq ?_
    refine awp_block ?_
    refine awp_seq ?_
    refine bE hF fun vr h3 hF => ?_
    refine awp_region ?_
    refine aR 1 ?_
    refine aC (base_Out_ok h3) [] [] [] ?_
    refine aR 1 ?_
    refine aE ?_
    refine cE hF (fun h4 hF => ?_) fun h4 hF => ?_
    · refine awp_true (by kernel_rfl) h4 ?_
      refine awp_seq ?_
      refine awp_region ?_
      refine aR 2 ?_
      refine aE ?_
      refine awp_ret ?_
      exact oF hF [] [0]
    · refine awp_false (by kernel_rfl) h4 ?_
      refine awp_seq ?_
      refine awp_region ?_
      refine aR 4 ?_
      refine aE ?_
      refine cE hF (fun h5 hF => ?_) fun h5 hF => ?_
      · refine awp_true (by kernel_rfl) h5 ?_
        refine awp_seq ?_
        refine bE hF fun vr2 h6 hF => ?_
        refine awp_region ?_
        refine aR 1 ?_
        refine aC (slices_Clone_api_Sample_api_Sample_ok h6) [] [] [] ?_
        refine aR 2 ?_
        refine aE ?_
        refine awp_ret ?_
        exact oF hF [(0, 21000)] []
      · refine awp_false (by kernel_rfl) h5 ?_
        refine awp_seq ?_
        refine bE hF fun vy h7 hF => ?_
        refine bE hF fun vy1 h8 hF => ?_
        refine aD ?_
        refine dR 3 ?_
        refine dX (x_idx api_Sample.enc h7) ?_
        refine dR 3 ?_
        refine dX (x_idx api_Sample.enc h8) ?_
        refine dR 5 ?_
        refine dE ?_
        refine cE hF (fun h9 hF => ?_) fun h9 hF => ?_
        · refine awp_true (by kernel_rfl) h9 ?_
          refine awp_seq ?_
          refine awp_region ?_
          refine aR 2 ?_
          refine aE ?_
          refine awp_ret ?_
          exact oF hF [] [0]
        · refine awp_false (by kernel_rfl) h9 ?_
          refine awp_skip ?_
          refine awp_seq ?_
          refine awp_region ?_
          refine aR 2 ?_
          refine aE ?_
          refine awp_seq ?_
          refine awp_region ?_
          refine aR 1 ?_
          refine aX (x_idx api_Sample.enc h8) ?_
          refine aR 3 ?_
          refine aE ?_
          refine awp_seq ?_
          refine awp_seq ?_
          refine awp_region ?_
          refine aR 3 ?_
          refine aE ?_
          refine awp_block ?_
          refine awp_to (st' := series_Thin_x1_H qx qx1 (([vy1] : List api_Sample), 0)) (oT [(1, 11000), (2, 1000), (3, 38000)] []) ?_
          refine bE hF fun vx18_1 h22 hF => ?_
          refine awp_sub (awp_loop' (series_Thin_x1_H qx qx1) series_Thin_x1_k (series_Thin_x1_S qx qx1) (by intro x; exact fun h => nomatch h) h22 (series_Thin_x1_ok qx qx1)) ?_
          refine awp_seq ?_
          refine gE hF fun h23 hF => ?_
          refine awp_region ?_
          refine aR 4 ?_
          refine aX (x_idx api_Sample.enc h7) ?_
          refine aR 2 ?_
          refine aX (x_app api_Sample.enc 2 h23) ?_
          refine aR 2 ?_
          refine aE ?_
          refine awp_ret ?_
          exact oF hF [(0, 7003)] []

/-! ### beaconfleet/fleetref2.in -/
def fleetref2_in_x1_k : Bool → AEx
  | _ => .normal

def fleetref2_in_x1_S (qn : Int) (qlow : Int) (qhigh : Int) : Bool → St
  | vx => Mem.st ⟨[], []⟩ (tl [(6, .v (.one (.d (.bool vx))))]) 0

def fleetref2_in_x1_I (qn : Int) (qlow : Int) (qhigh : Int) : St := Mem.st ⟨[], []⟩ (tl [(0, .v (.one (.d (.int .i64 qn)))), (1, .v (.one (.d (.int .i64 qlow)))), (2, .v (.one (.d (.int .i64 qhigh))))]) 0

theorem fleetref2_in_x1_ok (qn : Int) (qlow : Int) (qhigh : Int) {r} (hF : fleetref2_in_x1 qn qlow qhigh = some r) : Awp prog 0 15 (cL (cR (cB f119))) (Out 0 fleetref2_in_x1_k (fleetref2_in_x1_S qn qlow qhigh) r) (fleetref2_in_x1_I qn qlow qhigh) := by
  unfold fleetref2_in_x1 at hF
  refine cE hF (fun h1 hF => ?_) fun h1 hF => ?_
  · refine awp_region ?_
    refine aR 2 ?_
    refine aB h1 ?_
    refine aR 6 ?_
    refine aE ?_
    exact oO hF [] [] rfl
  · refine awp_region ?_
    refine aR 2 ?_
    refine aB h1 ?_
    refine aR 6 ?_
    refine aE ?_
    exact oO hF [] [] rfl

def fleetref2_in_R (qn : Int) (qlow : Int) (qhigh : Int) (r : Bool) : TV × Mem := (.v (.one (.d (.bool r))), ⟨[], []⟩)

theorem fleetref2_in_ok {qn : Int} {qlow : Int} {qhigh : Int} {r} (hF : fleetref2_in qn qlow qhigh = some r) : Holds prog 119 [.v (.one (.d (.int .i64 qn))), .v (.one (.d (.int .i64 qlow))), .v (.one (.d (.int .i64 qhigh)))] ⟨[], []⟩ (Is (fleetref2_in_R qn qlow qhigh r)) := by
  unfold fleetref2_in at hF
  refine holds_of_awp hΓ (fn := f119) (c := cB f119) (A := 0) (nx := 0) (by kernel_rfl) (by kernel_rfl) (by kernel_rfl) (by kernel_rfl) (by kernel_rfl) (by kernel_rfl) (lowc_of (by kernel_rfl)) ?_
  show Awp prog 0 15 (cB f119) _ _
  refine awp_seq ?_
  refine awp_region ?_
  refine aR 1 ?_
  refine aE ?_
  refine awp_seq ?_
  refine awp_to (st' := fleetref2_in_x1_I qn qlow qhigh) (oT [] []) ?_
  refine bE hF fun vx1 h2 hF => ?_
  refine awp_sub (fleetref2_in_x1_ok qn qlow qhigh h2) ?_
  refine awp_ret ?_
  exact oF hF [] []

/-! ### internal/stringslite.IndexByte -/
def stringslite_IndexByte_R (qs : List UInt8) (qc : Int) (r : Unit) : TV × Mem := (.v (.one (.d (.int .i64 (Lib.indexByte qs qc.toNat.toUInt8)))), ⟨[], []⟩)

theorem stringslite_IndexByte_ok {qs : List UInt8} {qc : Int} {r} (hF : stringslite_IndexByte qs qc = some r) : Holds prog 247 [.v (.one (.d (.str qs))), .v (.one (.d (.int .u8 qc)))] ⟨[], []⟩ (Is (stringslite_IndexByte_R qs qc r)) := by
  unfold stringslite_IndexByte at hF
  refine holds_of_awp hΓ (fn := f247) (c := cB f247) (A := 0) (nx := 0) (by kernel_rfl) (by kernel_rfl) (by kernel_rfl) (by kernel_rfl) (by kernel_rfl) (by kernel_rfl) (lowc_of (by kernel_rfl)) ?_
  show Awp prog 0 8 (cB f247) _ _
  refine awp_seq ?_
  refine awp_region ?_
  refine aR 1 ?_
  refine aE ?_
  refine awp_seq ?_
  refine awp_region ?_
  refine aR 2 ?_
  refine aS (does_indexByte (g := 264) (fn := f264) (a := qs) (c := qc) rfl (by kernel_rfl) (by kernel_rfl) (by kernel_rfl) (by kernel_rfl) (by kernel_rfl) (by kernel_rfl)) ?_
  refine aR 1 ?_
  refine aE ?_
  refine awp_ret ?_
  exact oF hF [] []

/-! ### strings.IndexByte -/
def strings_IndexByte_R (qs : List UInt8) (qc : Int) (r : Unit) : TV × Mem := (.v (.one (.d (.int .i64 (Lib.indexByte qs qc.toNat.toUInt8)))), ⟨[], []⟩)

theorem strings_IndexByte_ok {qs : List UInt8} {qc : Int} {r} (hF : strings_IndexByte qs qc = some r) : Holds prog 215 [.v (.one (.d (.str qs))), .v (.one (.d (.int .u8 qc)))] ⟨[], []⟩ (Is (strings_IndexByte_R qs qc r)) := by
  unfold strings_IndexByte at hF
  refine holds_of_awp hΓ (fn := f215) (c := cB f215) (A := 0) (nx := 0) (by kernel_rfl) (by kernel_rfl) (by kernel_rfl) (by kernel_rfl) (by kernel_rfl) (by kernel_rfl) (lowc_of (by kernel_rfl)) ?_
  show Awp prog 0 8 (cB f215) _ _
  refine awp_seq ?_
  refine awp_region ?_
  refine aR 1 ?_
  refine aE ?_
  refine awp_seq ?_
  refine bE hF fun _ h1 hF => ?_
  refine awp_region ?_
  refine aR 2 ?_
  refine aC (stringslite_IndexByte_ok h1) [] [] [] ?_
  refine aR 1 ?_
  refine aE ?_
  refine awp_ret ?_
  exact oF hF [] []

/-! ### beaconfleet/fleetref2.only -/
def fleetref2_only_x1_k : Unit ⊕ Unit → AEx
  | .inl _ => .exit 0
  | .inr _ => .ret

def fleetref2_only_x1_S (qs : List UInt8) (qsome : List UInt8) : Unit ⊕ Unit → St
  | .inl _ => Mem.st ⟨[], []⟩ (tl []) 0
  | .inr _ => Mem.st ⟨[], []⟩ (tl [(4, .v (.one (.d (.bool false))))]) 0

def fleetref2_only_x1_H (qs : List UInt8) (qsome : List UInt8) : Int → St
  | vx => Mem.st ⟨[], []⟩ (tl [(0, .v (.one (.d (.str qs)))), (1, .v (.one (.d (.str qsome)))), (7, .v (.one (.d (.int .i64 (qs.length : Int))))), (8, .v (.one (.d (.int .i64 vx))))]) 0

theorem fleetref2_only_x1_ok (qs : List UInt8) (qsome : List UInt8) (vx : Int) (r : (Int) ⊕ (Unit ⊕ Unit)) (hF : fleetref2_only_x1 qs qsome vx = some r) : Awp prog 0 18 (cL (cL (cR (cL (cR (cB f128)))))) (Out 0 (kk fleetref2_only_x1_k) (SS (fleetref2_only_x1_H qs qsome) (fleetref2_only_x1_S qs qsome)) r) (fleetref2_only_x1_H qs qsome vx) := by
  unfold fleetref2_only_x1 at hF
  refine awp_seq ?_
  refine awp_region ?_
  refine aR 1 ?_
  refine aE ?_
  refine awp_seq ?_
  refine cE hF (fun h1 hF => ?_) fun h1 hF => ?_
  · refine awp_true (by kernel_rfl) h1 ?_
    refine awp_skip ?_
    refine awp_seq ?_
    refine awp_block ?_
    refine awp_seq ?_
    refine awp_region ?_
    refine aR 2 ?_
    refine aE ?_
    refine awp_seq ?_
    refine bE hF fun vc1 h2 hF => ?_
    refine bE hF fun _ h3 hF => ?_
    refine awp_region ?_
    refine aR 3 ?_
    refine aX (x_idxS h2) ?_
    refine aC (strings_IndexByte_ok h3) [] [] [] ?_
    refine aR 1 ?_
    refine aE ?_
    refine cE hF (fun h4 hF => ?_) fun h4 hF => ?_
    · refine awp_true (by kernel_rfl) h4 ?_
      refine awp_seq ?_
      refine awp_region ?_
      refine aR 1 ?_
      refine aE ?_
      refine awp_ret ?_
      exact oO hF [] [] rfl
    · refine awp_false (by kernel_rfl) h4 ?_
      refine awp_skip ?_
      refine awp_region ?_
      refine aR 2 ?_
      refine aE ?_
      exact oO hF [] [] rfl
  · refine awp_false (by kernel_rfl) h1 ?_
    refine awp_exit ?_
    exact oO hF [] [] rfl

def fleetref2_only_R (qs : List UInt8) (qsome : List UInt8) (r : Bool) : TV × Mem := (.v (.one (.d (.bool r))), ⟨[], []⟩)

theorem fleetref2_only_ok {qs : List UInt8} {qsome : List UInt8} {r} (hF : fleetref2_only qs qsome = some r) : Holds prog 128 [.v (.one (.d (.str qs))), .v (.one (.d (.str qsome)))] ⟨[], []⟩ (Is (fleetref2_only_R qs qsome r)) := by
  unfold fleetref2_only at hF
  refine holds_of_awp hΓ (fn := f128) (c := cB f128) (A := 0) (nx := 0) (by kernel_rfl) (by kernel_rfl) (by kernel_rfl) (by kernel_rfl) (by kernel_rfl) (by kernel_rfl) (lowc_of (by kernel_rfl)) ?_
  show Awp prog 0 18 (cB f128) _ _
  refine awp_seq ?_
  refine awp_region ?_
  refine aR 1 ?_
  refine aE ?_
  refine awp_seq ?_
  refine awp_seq ?_
  refine awp_region ?_
  refine aR 3 ?_
  refine aE ?_
  refine awp_block ?_
  refine awp_to (st' := fleetref2_only_x1_H qs qsome 0) (oT [] []) ?_
  refine bE hF fun x h5 hF => ?_
  rcases x with _ | _
  · refine awp_sub (awp_loop' (fleetref2_only_x1_H qs qsome) fleetref2_only_x1_k (fleetref2_only_x1_S qs qsome) (by intro x; rcases x with x | x <;> exact fun h => nomatch h) h5 (fleetref2_only_x1_ok qs qsome)) ?_
    refine awp_seq ?_
    refine awp_region ?_
    refine aR 1 ?_
    refine aE ?_
    refine awp_ret ?_
    exact oF hF [] []
  · refine awp_sub (awp_loop' (fleetref2_only_x1_H qs qsome) fleetref2_only_x1_k (fleetref2_only_x1_S qs qsome) (by intro x; rcases x with x | x <;> exact fun h => nomatch h) h5 (fleetref2_only_x1_ok qs qsome)) ?_
    exact oF hF [] []

/-! ### beaconfleet/fleetref2.Key -/
def fleetref2_Key_x1_k : Bool → AEx
  | _ => .normal

def fleetref2_Key_x1_S (qs : List UInt8) : Bool → St
  | vx => Mem.st ⟨[], []⟩ (tl [(2, .v (.one (.d (.bool vx))))]) 0

def fleetref2_Key_x1_I (qs : List UInt8) : St := Mem.st ⟨[], []⟩ (tl [(0, .v (.one (.d (.str qs))))]) 0

theorem fleetref2_Key_x1_ok (qs : List UInt8) {r} (hF : fleetref2_Key_x1 qs = some r) : Awp prog 0 15 (cL (cR (cB f31))) (Out 0 fleetref2_Key_x1_k (fleetref2_Key_x1_S qs) r) (fleetref2_Key_x1_I qs) := by
  unfold fleetref2_Key_x1 at hF
  refine bE hF fun vr h1 hF => ?_
  refine cE hF (fun h2 hF => ?_) fun h2 hF => ?_
  · refine bE hF fun vs h3 hF => ?_
    refine bE hF fun vr1 h4 hF => ?_
    refine cE hF (fun h5 hF => ?_) fun h5 hF => ?_
    · refine bE hF fun vr2 h6 hF => ?_
      refine awp_region ?_
      refine aR 2 ?_
      refine aCb (fleetref2_in_ok h1) [] [] [] h2 ?_
      refine aR 2 ?_
      refine aX (x_sliceS h3) ?_
      refine aCb (fleetref2_only_ok h4) [] [] [] h5 ?_
      refine aR 3 ?_
      refine aC (fleetref2_only_ok h6) [] [] [] ?_
      refine aR 2 ?_
      refine aE ?_
      exact oO hF [] [] rfl
    · refine awp_region ?_
      refine aR 2 ?_
      refine aCb (fleetref2_in_ok h1) [] [] [] h2 ?_
      refine aR 2 ?_
      refine aX (x_sliceS h3) ?_
      refine aCb (fleetref2_only_ok h4) [] [] [] h5 ?_
      refine aR 6 ?_
      refine aE ?_
      exact oO hF [] [] rfl
  · refine awp_region ?_
    refine aR 2 ?_
    refine aCb (fleetref2_in_ok h1) [] [] [] h2 ?_
    refine aR 10 ?_
    refine aE ?_
    exact oO hF [] [] rfl

def fleetref2_Key_R (qs : List UInt8) (r : Bool) : TV × Mem := (.v (.one (.d (.bool r))), ⟨[], []⟩)

theorem fleetref2_Key_ok {qs : List UInt8} {r} (hF : fleetref2_Key qs = some r) : Holds prog 31 [.v (.one (.d (.str qs)))] ⟨[], []⟩ (Is (fleetref2_Key_R qs r)) := by
  unfold fleetref2_Key at hF
  refine holds_of_awp hΓ (fn := f31) (c := cB f31) (A := 0) (nx := 0) (by kernel_rfl) (by kernel_rfl) (by kernel_rfl) (by kernel_rfl) (by kernel_rfl) (by kernel_rfl) (lowc_of (by kernel_rfl)) ?_
  show Awp prog 0 15 (cB f31) _ _
  refine awp_seq ?_
  refine awp_region ?_
  refine aR 1 ?_
  refine aE ?_
  refine awp_seq ?_
  refine awp_to (st' := fleetref2_Key_x1_I qs) (oT [] []) ?_
  refine bE hF fun vx1 h7 hF => ?_
  refine awp_sub (fleetref2_Key_x1_ok qs h7) ?_
  refine awp_ret ?_
  exact oF hF [] []

/-! ### beaconfleet/fleetref2.Moment -/
def fleetref2_Moment_R (qat : Int) (r : Bool) : TV × Mem := (.v (.one (.d (.bool r))), ⟨[], []⟩)

theorem fleetref2_Moment_ok {qat : Int} {r} (hF : fleetref2_Moment qat = some r) : Holds prog 133 [.v (.one (.d (.int .i64 qat)))] ⟨[], []⟩ (Is (fleetref2_Moment_R qat r)) := by
  unfold fleetref2_Moment at hF
  refine holds_of_awp hΓ (fn := f133) (c := cB f133) (A := 0) (nx := 0) (by kernel_rfl) (by kernel_rfl) (by kernel_rfl) (by kernel_rfl) (by kernel_rfl) (by kernel_rfl) (lowc_of (by kernel_rfl)) ?_
  show Awp prog 0 5 (cB f133) _ _
  refine awp_seq ?_
  refine awp_region ?_
  refine aR 1 ?_
  refine aE ?_
  refine awp_seq ?_
  refine bE hF fun vr h1 hF => ?_
  refine awp_region ?_
  refine aR 1 ?_
  refine aC (fleetref2_in_ok h1) [] [] [] ?_
  refine aR 1 ?_
  refine aE ?_
  refine awp_ret ?_
  exact oF hF [] []

/-! ### cmp.isNaN[string] -/
def cmp_isNaN_string_R (qx : List UInt8) (r : Unit) : TV × Mem := (.v (.one (.d (.bool (!decide (qx = qx))))), ⟨[], []⟩)

theorem cmp_isNaN_string_ok {qx : List UInt8} {r} (hF : cmp_isNaN_string qx = some r) : Holds prog 280 [.v (.one (.d (.str qx)))] ⟨[], []⟩ (Is (cmp_isNaN_string_R qx r)) := by
  unfold cmp_isNaN_string at hF
  refine holds_of_awp hΓ (fn := f280) (c := cB f280) (A := 0) (nx := 0) (by kernel_rfl) (by kernel_rfl) (by kernel_rfl) (by kernel_rfl) (by kernel_rfl) (by kernel_rfl) (lowc_of (by kernel_rfl)) ?_
  show Awp prog 0 6 (cB f280) _ _
  refine awp_seq ?_
  refine awp_region ?_
  refine aR 1 ?_
  refine aE ?_
  refine awp_seq ?_
  refine awp_region ?_
  refine aR 4 ?_
  refine aE ?_
  refine awp_ret ?_
  exact oF hF [] []

/-! ### cmp.Compare[string] -/
def cmp_Compare_string_R (qx : List UInt8) (qy : List UInt8) (r : Int) : TV × Mem := (.v (.one (.d (.int .i64 r))), ⟨[], []⟩)

theorem cmp_Compare_string_ok {qx : List UInt8} {qy : List UInt8} {r} (hF : cmp_Compare_string qx qy = some r) : Holds prog 263 [.v (.one (.d (.str qx))), .v (.one (.d (.str qy)))] ⟨[], []⟩ (Is (cmp_Compare_string_R qx qy r)) := by
  unfold cmp_Compare_string at hF
  refine holds_of_awp hΓ (fn := f263) (c := cB f263) (A := 0) (nx := 0) (by kernel_rfl) (by kernel_rfl) (by kernel_rfl) (by kernel_rfl) (by kernel_rfl) (by kernel_rfl) (lowc_of (by kernel_rfl)) ?_
  show Awp prog 0 20 (cB f263) _ _
  refine awp_seq ?_
  refine awp_region ?_
  refine aR 1 ?_
  refine aE ?_
  refine awp_seq ?_
  refine bE hF fun _ h1 hF => ?_
  refine awp_region ?_
  refine aR 1 ?_
  refine aC (cmp_isNaN_string_ok h1) [] [] [] ?_
  refine aR 1 ?_
  refine aE ?_
  refine awp_seq ?_
  refine bE hF fun _ h2 hF => ?_
  refine awp_region ?_
  refine aR 1 ?_
  refine aC (cmp_isNaN_string_ok h2) [] [] [] ?_
  refine aR 1 ?_
  refine aE ?_
  refine awp_seq ?_
  refine awp_seq ?_
  refine awp_region ?_
  refine aR 1 ?_
  refine aE ?_
  refine cE hF (fun h3 hF => ?_) fun h3 hF => ?_
  · refine awp_true (by kernel_rfl) h3 ?_
    refine awp_seq ?_
    refine awp_seq ?_
    refine awp_region ?_
    refine aR 1 ?_
    refine aE ?_
    refine cE hF (fun h4 hF => ?_) fun h4 hF => ?_
    · refine awp_true (by kernel_rfl) h4 ?_
      refine awp_seq ?_
      refine awp_region ?_
      refine aR 1 ?_
      refine aE ?_
      refine awp_ret ?_
      exact oF hF [] []
    · refine awp_false (by kernel_rfl) h4 ?_
      refine awp_skip ?_
      refine awp_seq ?_
      refine awp_region ?_
      refine aR 1 ?_
      refine aE ?_
      refine awp_ret ?_
      exact oF hF [] []
  · refine awp_false (by kernel_rfl) h3 ?_
    refine awp_skip ?_
    refine awp_seq ?_
    refine awp_seq ?_
    refine awp_region ?_
    refine aR 1 ?_
    refine aE ?_
    refine cE hF (fun h5 hF => ?_) fun h5 hF => ?_
    · refine awp_true (by kernel_rfl) h5 ?_
      refine awp_seq ?_
      refine awp_region ?_
      refine aR 1 ?_
      refine aE ?_
      refine awp_ret ?_
      exact oF hF [] []
    · refine awp_false (by kernel_rfl) h5 ?_
      refine awp_skip ?_
      refine awp_seq ?_
      refine awp_seq ?_
      refine awp_region ?_
      refine aR 3 ?_
      refine aE ?_
      refine cE hF (fun h6 hF => ?_) fun h6 hF => ?_
      · refine awp_true (by kernel_rfl) h6 ?_
        refine awp_seq ?_
        refine awp_region ?_
        refine aR 1 ?_
        refine aE ?_
        refine awp_ret ?_
        exact oF hF [] []
      · refine awp_false (by kernel_rfl) h6 ?_
        refine awp_skip ?_
        refine awp_seq ?_
        refine awp_seq ?_
        refine awp_region ?_
        refine aR 3 ?_
        refine aE ?_
        refine cE hF (fun h7 hF => ?_) fun h7 hF => ?_
        · refine awp_true (by kernel_rfl) h7 ?_
          refine awp_seq ?_
          refine awp_region ?_
          refine aR 1 ?_
          refine aE ?_
          refine awp_ret ?_
          exact oF hF [] []
        · refine awp_false (by kernel_rfl) h7 ?_
          refine awp_skip ?_
          refine awp_seq ?_
          refine awp_region ?_
          refine aR 1 ?_
          refine aE ?_
          refine awp_ret ?_
          exact oF hF [] []

/-! ### slices.Compare[[]string,string] -/
def slices_Compare_string_string_x1_k : Unit ⊕ Int → AEx
  | .inl _ => .exit 0
  | .inr _ => .ret

def slices_Compare_string_string_x1_S (qs1 : List (List UInt8)) (qs2 : List (List UInt8)) : Unit ⊕ Int → St
  | .inl _ => Mem.st ⟨[], []⟩ (tl [(0, .v (.one (.d (.lst (List.map encS qs1))))), (1, .v (.one (.d (.lst (List.map encS qs2)))))]) 0
  | .inr vx1 => Mem.st ⟨[], []⟩ (tl [(4, .v (.one (.d (.int .i64 vx1))))]) 0

def slices_Compare_string_string_x1_H (qs1 : List (List UInt8)) (qs2 : List (List UInt8)) : Int → St
  | vx => Mem.st ⟨[], []⟩ (tl [(0, .v (.one (.d (.lst (List.map encS qs1))))), (1, .v (.one (.d (.lst (List.map encS qs2))))), (9, .v (.one (.d (.lst (List.map encS qs1))))), (10, .v (.one (.d (.int .i64 (qs1.length : Int))))), (11, .v (.one (.d (.int .i64 vx))))]) 0

theorem slices_Compare_string_string_x1_ok (qs1 : List (List UInt8)) (qs2 : List (List UInt8)) (vx : Int) (r : (Int) ⊕ (Unit ⊕ Int)) (hF : slices_Compare_string_string_x1 qs1 qs2 vx = some r) : Awp prog 0 36 (cL (cL (cR (cL (cR (cB f245)))))) (Out 0 (kk slices_Compare_string_string_x1_k) (SS (slices_Compare_string_string_x1_H qs1 qs2) (slices_Compare_string_string_x1_S qs1 qs2)) r) (slices_Compare_string_string_x1_H qs1 qs2 vx) := by
  unfold slices_Compare_string_string_x1 at hF
  refine awp_seq ?_
  refine awp_region ?_
  refine aR 1 ?_
  refine aE ?_
  refine awp_seq ?_
  refine cE hF (fun h1 hF => ?_) fun h1 hF => ?_
  · refine awp_true (by kernel_rfl) h1 ?_
    refine awp_skip ?_
    refine awp_seq ?_
    refine awp_block ?_
    refine awp_seq ?_
    refine bE hF fun vy2 h2 hF => ?_
    refine awp_region ?_
    refine aR 1 ?_
    refine aX (x_idx encS h2) ?_
    refine aR 3 ?_
    refine aE ?_
    refine awp_seq ?_
    refine awp_seq ?_
    refine awp_region ?_
    refine aR 2 ?_
    refine aL encS qs2 ?_
    refine aR 1 ?_
    refine aE ?_
    refine cE hF (fun h3 hF => ?_) fun h3 hF => ?_
    · refine awp_true (by kernel_rfl) h3 ?_
      refine awp_seq ?_
      refine awp_region ?_
      refine aR 1 ?_
      refine aE ?_
      refine awp_ret ?_
      exact oO hF [] [] rfl
    · refine awp_false (by kernel_rfl) h3 ?_
      refine awp_skip ?_
      refine awp_seq ?_
      refine bE hF fun vy3 h4 hF => ?_
      refine awp_region ?_
      refine aR 2 ?_
      refine aX (x_idx encS h4) ?_
      refine aR 2 ?_
      refine aE ?_
      refine awp_seq ?_
      refine bE hF fun vr1 h5 hF => ?_
      refine awp_region ?_
      refine aR 2 ?_
      refine aC (cmp_Compare_string_ok h5) [] [] [] ?_
      refine aR 1 ?_
      refine aE ?_
      refine awp_seq ?_
      refine awp_region ?_
      refine aR 2 ?_
      refine aE ?_
      refine cE hF (fun h6 hF => ?_) fun h6 hF => ?_
      · refine awp_true (by kernel_rfl) h6 ?_
        refine awp_seq ?_
        refine awp_region ?_
        refine aR 2 ?_
        refine aE ?_
        refine awp_ret ?_
        exact oO hF [] [] rfl
      · refine awp_false (by kernel_rfl) h6 ?_
        refine awp_skip ?_
        refine awp_region ?_
        refine aR 2 ?_
        refine aE ?_
        exact oO hF [] [] rfl
  · refine awp_false (by kernel_rfl) h1 ?_
    refine awp_exit ?_
    exact oO hF [] [] rfl

def slices_Compare_string_string_R (qs1 : List (List UInt8)) (qs2 : List (List UInt8)) (r : Int) : TV × Mem := (.v (.one (.d (.int .i64 r))), ⟨[], []⟩)

theorem slices_Compare_string_string_ok {qs1 : List (List UInt8)} {qs2 : List (List UInt8)} {r} (hF : slices_Compare_string_string qs1 qs2 = some r) : Holds prog 245 [.v (.one (.d (.lst (List.map encS qs1)))), .v (.one (.d (.lst (List.map encS qs2))))] ⟨[], []⟩ (Is (slices_Compare_string_string_R qs1 qs2 r)) := by
  unfold slices_Compare_string_string at hF
  refine holds_of_awp hΓ (fn := f245) (c := cB f245) (A := 0) (nx := 0) (by kernel_rfl) (by kernel_rfl) (by kernel_rfl) (by kernel_rfl) (by kernel_rfl) (by kernel_rfl) (lowc_of (by kernel_rfl)) ?_
  show Awp prog 0 36 (cB f245) _ _
  refine awp_seq ?_
  refine awp_region ?_
  refine aR 1 ?_
  refine aE ?_
  refine awp_seq ?_
  refine awp_seq ?_
  refine awp_region ?_
  refine aR 1 ?_
  refine aL encS qs1 ?_
  refine aR 1 ?_
  refine aE ?_
  refine awp_block ?_
  refine awp_to (st' := slices_Compare_string_string_x1_H qs1 qs2 0) (oT [] []) ?_
  refine bE hF fun x h7 hF => ?_
  rcases x with _ | vx1_1
  · refine awp_sub (awp_loop' (slices_Compare_string_string_x1_H qs1 qs2) slices_Compare_string_string_x1_k (slices_Compare_string_string_x1_S qs1 qs2) (by intro x; rcases x with x | x <;> exact fun h => nomatch h) h7 (slices_Compare_string_string_x1_ok qs1 qs2)) ?_
    refine awp_seq ?_
    refine awp_seq ?_
    refine awp_region ?_
    refine aR 1 ?_
    refine aL encS qs1 ?_
    refine aR 1 ?_
    refine aL encS qs2 ?_
    refine aR 1 ?_
    refine aE ?_
    refine cE hF (fun h8 hF => ?_) fun h8 hF => ?_
    · refine awp_true (by kernel_rfl) h8 ?_
      refine awp_seq ?_
      refine awp_region ?_
      refine aR 1 ?_
      refine aE ?_
      refine awp_ret ?_
      exact oF hF [] []
    · refine awp_false (by kernel_rfl) h8 ?_
      refine awp_skip ?_
      refine awp_seq ?_
      refine awp_region ?_
      refine aR 1 ?_
      refine aE ?_
      refine awp_ret ?_
      exact oF hF [] []
  · refine awp_sub (awp_loop' (slices_Compare_string_string_x1_H qs1 qs2) slices_Compare_string_string_x1_k (slices_Compare_string_string_x1_S qs1 qs2) (by intro x; rcases x with x | x <;> exact fun h => nomatch h) h7 (slices_Compare_string_string_x1_ok qs1 qs2)) ?_
    exact oF hF [] []

/-! ### beaconfleet/fleetref2.sign -/
def fleetref2_sign_R (qn : Int) (r : Int) : TV × Mem := (.v (.one (.d (.int .i64 r))), ⟨[], []⟩)

theorem fleetref2_sign_ok {qn : Int} {r} (hF : fleetref2_sign qn = some r) : Holds prog 224 [.v (.one (.d (.int .i64 qn)))] ⟨[], []⟩ (Is (fleetref2_sign_R qn r)) := by
  unfold fleetref2_sign at hF
  refine holds_of_awp hΓ (fn := f224) (c := cB f224) (A := 0) (nx := 0) (by kernel_rfl) (by kernel_rfl) (by kernel_rfl) (by kernel_rfl) (by kernel_rfl) (by kernel_rfl) (lowc_of (by kernel_rfl)) ?_
  show Awp prog 0 9 (cB f224) _ _
  refine awp_seq ?_
  refine awp_region ?_
  refine aR 1 ?_
  refine aE ?_
  refine awp_seq ?_
  refine awp_block ?_
  refine awp_seq ?_
  refine awp_region ?_
  refine aR 3 ?_
  refine aE ?_
  refine cE hF (fun h1 hF => ?_) fun h1 hF => ?_
  · refine awp_true (by kernel_rfl) h1 ?_
    refine awp_seq ?_
    refine awp_region ?_
    refine aR 1 ?_
    refine aE ?_
    refine awp_ret ?_
    exact oF hF [] []
  · refine awp_false (by kernel_rfl) h1 ?_
    refine awp_seq ?_
    refine awp_region ?_
    refine aR 3 ?_
    refine aE ?_
    refine cE hF (fun h2 hF => ?_) fun h2 hF => ?_
    · refine awp_true (by kernel_rfl) h2 ?_
      refine awp_seq ?_
      refine awp_region ?_
      refine aR 1 ?_
      refine aE ?_
      refine awp_ret ?_
      exact oF hF [] []
    · refine awp_false (by kernel_rfl) h2 ?_
      refine awp_skip ?_
      refine awp_seq ?_
      refine awp_region ?_
      refine aR 1 ?_
      refine aE ?_
      refine awp_ret ?_
      exact oF hF [] []

/-! ### beaconfleet/fleetref2.SampleOrder -/
def fleetref2_SampleOrder_R (qa : api_Sample) (qb : api_Sample) (r : Int) : TV × Mem := (.v (.one (.d (.int .i64 r))), ⟨[], []⟩)

theorem fleetref2_SampleOrder_ok {qa : api_Sample} {qb : api_Sample} {r} (hF : fleetref2_SampleOrder qa qb = some r) : Holds prog 209 [.v (.agg [.d (.str qa.Device), .d (.str qa.Metric), .d (.int .i64 qa.At), .d (.int .i64 qa.Value)]), .v (.agg [.d (.str qb.Device), .d (.str qb.Metric), .d (.int .i64 qb.At), .d (.int .i64 qb.Value)])] ⟨[], []⟩ (Is (fleetref2_SampleOrder_R qa qb r)) := by
  unfold fleetref2_SampleOrder at hF
  refine holds_of_awp hΓ (fn := f209) (c := cB f209) (A := 0) (nx := 0) (by kernel_rfl) (by kernel_rfl) (by kernel_rfl) (by kernel_rfl) (by kernel_rfl) (by kernel_rfl) (lowc_of (by kernel_rfl)) ?_
  show Awp prog 0 26 (cB f209) _ _
  refine awp_seq ?_
  refine awp_region ?_
  refine aR 3 ?_
  refine aE ?_
  refine awp_seq ?_
  refine awp_seq ?_
  refine bE hF fun vr2 h1 hF => ?_
  refine awp_region ?_
  refine aR 10 ?_
  refine aC (slices_Compare_string_string_ok h1) [] [] [7000, 12000] ?_
  refine aR 1 ?_
  refine aE ?_
  refine awp_seq ?_
  refine awp_region ?_
  refine aR 2 ?_
  refine aE ?_
  refine cE hF (fun h2 hF => ?_) fun h2 hF => ?_
  · refine awp_true (by kernel_rfl) h2 ?_
    refine awp_seq ?_
    refine awp_region ?_
    refine aR 2 ?_
    refine aE ?_
    refine awp_ret ?_
    exact oF hF [] []
  · refine awp_false (by kernel_rfl) h2 ?_
    refine awp_skip ?_
    refine awp_seq ?_
    refine bE hF fun vr h3 hF => ?_
    refine awp_region ?_
    refine aR 5 ?_
    refine aC (fleetref2_sign_ok h3) [] [] [] ?_
    refine aR 1 ?_
    refine aE ?_
    refine awp_ret ?_
    exact oF hF [] []

/-! ### beaconfleet/fleetref2.SamplesFault -/
def fleetref2_SamplesFault_x2_k : Bool → AEx
  | _ => .normal

def fleetref2_SamplesFault_x2_S (ql : List api_Sample) (vx : Int) (vy2 : api_Sample) : Bool → St
  | vx4 => Mem.st ⟨[], [(0, [.d (.str vy2.Device), .d (.str vy2.Metric), .d (.int .i64 vy2.At), .d (.int .i64 vy2.Value)])]⟩ (tl [(0, .v (.one (.d (.lst (List.map api_Sample.enc ql))))), (3, .v (.one (.d (.int .i64 vx)))), (4, .v (.one (.box 0 0))), (8, .v (.one (.d (.lst (List.map api_Sample.enc ql))))), (9, .v (.one (.d (.int .i64 (ql.length : Int))))), (10, .v (.one (.d (.int .i64 vx)))), (15, .v (.one (.d (.bool vx4))))]) 1

def fleetref2_SamplesFault_x2_I (ql : List api_Sample) (vx : Int) (vy2 : api_Sample) : St := Mem.st ⟨[], [(0, [.d (.str vy2.Device), .d (.str vy2.Metric), .d (.int .i64 vy2.At), .d (.int .i64 vy2.Value)])]⟩ (tl [(0, .v (.one (.d (.lst (List.map api_Sample.enc ql))))), (3, .v (.one (.d (.int .i64 vx)))), (4, .v (.one (.box 0 0))), (8, .v (.one (.d (.lst (List.map api_Sample.enc ql))))), (9, .v (.one (.d (.int .i64 (ql.length : Int))))), (10, .v (.one (.d (.int .i64 vx))))]) 1

theorem fleetref2_SamplesFault_x2_ok (ql : List api_Sample) (vx : Int) (vy2 : api_Sample) {r} (hF : fleetref2_SamplesFault_x2 vy2 = some r) : Awp prog 0 51 (cL (cL (cR (cL (cL (cR (cR (cL (cL (cR (cL (cR (cR (cB f116)))))))))))))) (Out 0 fleetref2_SamplesFault_x2_k (fleetref2_SamplesFault_x2_S ql vx vy2) r) (fleetref2_SamplesFault_x2_I ql vx vy2) := by
  unfold fleetref2_SamplesFault_x2 at hF
  refine bE hF fun vr3_2 h4 hF => ?_
  refine cE hF (fun h5 hF => ?_) fun h5 hF => ?_
  · refine awp_region ?_
    refine aR 2 ?_
    refine aC (fleetref2_Key_ok h4) [] [] [] ?_
    refine aB h5 ?_
    refine aR 7 ?_
    refine aE ?_
    exact oO hF [] [] rfl
  · refine bE hF fun vr3_3 h6 hF => ?_
    refine awp_region ?_
    refine aR 2 ?_
    refine aC (fleetref2_Key_ok h4) [] [] [] ?_
    refine aB h5 ?_
    refine aR 3 ?_
    refine aC (fleetref2_Key_ok h6) [] [] [] ?_
    refine aR 3 ?_
    refine aE ?_
    exact oO hF [] [] rfl

def fleetref2_SamplesFault_x3_k : Bool → AEx
  | _ => .normal

def fleetref2_SamplesFault_x3_S (ql : List api_Sample) (vx : Int) (vy2 : api_Sample) : Bool → St
  | vx5 => Mem.st ⟨[], [(0, [.d (.str vy2.Device), .d (.str vy2.Metric), .d (.int .i64 vy2.At), .d (.int .i64 vy2.Value)])]⟩ (tl [(0, .v (.one (.d (.lst (List.map api_Sample.enc ql))))), (3, .v (.one (.d (.int .i64 vx)))), (4, .v (.one (.box 0 0))), (8, .v (.one (.d (.lst (List.map api_Sample.enc ql))))), (9, .v (.one (.d (.int .i64 (ql.length : Int))))), (10, .v (.one (.d (.int .i64 vx)))), (26, .v (.one (.d (.bool vx5))))]) 1

def fleetref2_SamplesFault_x3_I (ql : List api_Sample) (vx : Int) (vy2 : api_Sample) : St := Mem.st ⟨[], [(0, [.d (.str vy2.Device), .d (.str vy2.Metric), .d (.int .i64 vy2.At), .d (.int .i64 vy2.Value)])]⟩ (tl [(0, .v (.one (.d (.lst (List.map api_Sample.enc ql))))), (3, .v (.one (.d (.int .i64 vx)))), (4, .v (.one (.box 0 0))), (8, .v (.one (.d (.lst (List.map api_Sample.enc ql))))), (9, .v (.one (.d (.int .i64 (ql.length : Int))))), (10, .v (.one (.d (.int .i64 vx))))]) 1

theorem fleetref2_SamplesFault_x3_ok (ql : List api_Sample) (vx : Int) (vy2 : api_Sample) {r} (hF : fleetref2_SamplesFault_x3 vy2 = some r) : Awp prog 0 51 (cL (cR (cR (cL (cR (cL (cL (cR (cR (cL (cL (cR (cL (cR (cR (cB f116)))))))))))))))) (Out 0 fleetref2_SamplesFault_x3_k (fleetref2_SamplesFault_x3_S ql vx vy2) r) (fleetref2_SamplesFault_x3_I ql vx vy2) := by
  unfold fleetref2_SamplesFault_x3 at hF
  refine bE hF fun vr1_2 h9 hF => ?_
  refine cE hF (fun h10 hF => ?_) fun h10 hF => ?_
  · refine awp_region ?_
    refine aR 2 ?_
    refine aC (fleetref2_Moment_ok h9) [] [] [] ?_
    refine aB h10 ?_
    refine aR 7 ?_
    refine aE ?_
    exact oO hF [] [] rfl
  · refine bE hF fun vr2 h11 hF => ?_
    refine awp_region ?_
    refine aR 2 ?_
    refine aC (fleetref2_Moment_ok h9) [] [] [] ?_
    refine aB h10 ?_
    refine aR 3 ?_
    refine aC (fleetref2_in_ok h11) [] [] [] ?_
    refine aR 3 ?_
    refine aE ?_
    exact oO hF [] [] rfl

def fleetref2_SamplesFault_x4_k : Bool → AEx
  | _ => .normal

def fleetref2_SamplesFault_x4_S (ql : List api_Sample) (vx : Int) (vy2 : api_Sample) : Bool → St
  | vx6 => Mem.st ⟨[], []⟩ (tl [(0, .v (.one (.d (.lst (List.map api_Sample.enc ql))))), (8, .v (.one (.d (.lst (List.map api_Sample.enc ql))))), (9, .v (.one (.d (.int .i64 (ql.length : Int))))), (10, .v (.one (.d (.int .i64 vx)))), (37, .v (.one (.d (.bool vx6))))]) 0

def fleetref2_SamplesFault_x4_I (ql : List api_Sample) (vx : Int) (vy2 : api_Sample) : St := Mem.st ⟨[], [(0, [.d (.str vy2.Device), .d (.str vy2.Metric), .d (.int .i64 vy2.At), .d (.int .i64 vy2.Value)])]⟩ (tl [(0, .v (.one (.d (.lst (List.map api_Sample.enc ql))))), (3, .v (.one (.d (.int .i64 vx)))), (4, .v (.one (.box 0 0))), (8, .v (.one (.d (.lst (List.map api_Sample.enc ql))))), (9, .v (.one (.d (.int .i64 (ql.length : Int))))), (10, .v (.one (.d (.int .i64 vx))))]) 1

theorem fleetref2_SamplesFault_x4_ok (ql : List api_Sample) (vx : Int) (vy2 : api_Sample) {r} (hF : fleetref2_SamplesFault_x4 ql vx vy2 = some r) : Awp prog 0 51 (cL (cR (cR (cR (cR (cL (cR (cL (cL (cR (cR (cL (cL (cR (cL (cR (cR (cB f116)))))))))))))))))) (Out 0 fleetref2_SamplesFault_x4_k (fleetref2_SamplesFault_x4_S ql vx vy2) r) (fleetref2_SamplesFault_x4_I ql vx vy2) := by
  unfold fleetref2_SamplesFault_x4 at hF
  refine cE hF (fun h14 hF => ?_) fun h14 hF => ?_
  · refine bE hF fun vy3 h15 hF => ?_
    refine bE hF fun vr1_3 h16 hF => ?_
    refine aD ?_
    refine dR 1 ?_
    refine dB h14 ?_
    refine dR 4 ?_
    refine dX (x_idx api_Sample.enc h15) ?_
    refine dR 2 ?_
    refine dC (fleetref2_SampleOrder_ok h16) [] [] [] ?_
    refine dR 3 ?_
    refine dE ?_
    exact oO hF [] [] rfl
  · refine aD ?_
    refine dR 1 ?_
    refine dB h14 ?_
    refine dR 11 ?_
    refine dE ?_
    exact oO hF [] [] rfl

def fleetref2_SamplesFault_x1_k : Unit ⊕ Int → AEx
  | .inl _ => .exit 0
  | .inr _ => .ret

def fleetref2_SamplesFault_x1_S (ql : List api_Sample) : Unit ⊕ Int → St
  | .inl _ => Mem.st ⟨[], []⟩ (tl []) 0
  | .inr vx7 => Mem.st ⟨[], []⟩ (tl [(2, .v (.one (.d (.int .i64 vx7))))]) 0

def fleetref2_SamplesFault_x1_H (ql : List api_Sample) : Int → St
  | vx => Mem.st ⟨[], []⟩ (tl [(0, .v (.one (.d (.lst (List.map api_Sample.enc ql))))), (8, .v (.one (.d (.lst (List.map api_Sample.enc ql))))), (9, .v (.one (.d (.int .i64 (ql.length : Int))))), (10, .v (.one (.d (.int .i64 vx))))]) 0

theorem fleetref2_SamplesFault_x1_ok (ql : List api_Sample) (vx : Int) (r : (Int) ⊕ (Unit ⊕ Int)) (hF : fleetref2_SamplesFault_x1 ql vx = some r) : Awp prog 0 51 (cL (cL (cR (cL (cR (cR (cB f116))))))) (Out 0 (kk fleetref2_SamplesFault_x1_k) (SS (fleetref2_SamplesFault_x1_H ql) (fleetref2_SamplesFault_x1_S ql)) r) (fleetref2_SamplesFault_x1_H ql vx) := by
  unfold fleetref2_SamplesFault_x1 at hF
  refine awp_seq ?_
  refine awp_region ?_
  refine aR 1 ?_
  refine aE ?_
  refine awp_seq ?_
  refine cE hF (fun h2 hF => ?_) fun h2 hF => ?_
  · refine awp_true (by kernel_rfl) h2 ?_
    refine awp_skip ?_
    refine awp_seq ?_
    refine awp_block ?_
    refine awp_seq ?_
    refine bE hF fun vy2 h3 hF => ?_
    refine awp_region ?_
    refine aR 1 ?_
    refine aX (x_idx api_Sample.enc h3) ?_
    refine aR 4 ?_
    refine aE ?_
    refine awp_block ?_
    refine awp_seq ?_
    refine awp_to (st' := fleetref2_SamplesFault_x2_I ql vx vy2) (oT [(0, 4000)] []) ?_
    refine bE hF fun vx4_1 h7 hF => ?_
    refine awp_sub (fleetref2_SamplesFault_x2_ok ql vx vy2 h7) ?_
    refine cE hF (fun h8 hF => ?_) fun h8 hF => ?_
    · refine awp_true (by kernel_rfl) h8 ?_
      refine awp_seq ?_
      refine awp_region ?_
      refine aR 1 ?_
      refine aE ?_
      refine awp_ret ?_
      exact oO hF [] [] rfl
    · refine awp_false (by kernel_rfl) h8 ?_
      refine awp_seq ?_
      refine awp_to (st' := fleetref2_SamplesFault_x3_I ql vx vy2) (oT [] []) ?_
      refine bE hF fun vx5_1 h12 hF => ?_
      refine awp_sub (fleetref2_SamplesFault_x3_ok ql vx vy2 h12) ?_
      refine cE hF (fun h13 hF => ?_) fun h13 hF => ?_
      · refine awp_true (by kernel_rfl) h13 ?_
        refine awp_seq ?_
        refine awp_region ?_
        refine aR 1 ?_
        refine aE ?_
        refine awp_ret ?_
        exact oO hF [] [] rfl
      · refine awp_false (by kernel_rfl) h13 ?_
        refine awp_seq ?_
        refine awp_to (st' := fleetref2_SamplesFault_x4_I ql vx vy2) (oT [] []) ?_
        refine bE hF fun vx6_1 h17 hF => ?_
        refine awp_sub (fleetref2_SamplesFault_x4_ok ql vx vy2 h17) ?_
        refine cE hF (fun h18 hF => ?_) fun h18 hF => ?_
        · refine awp_true (by kernel_rfl) h18 ?_
          refine awp_seq ?_
          refine awp_region ?_
          refine aR 1 ?_
          refine aE ?_
          refine awp_ret ?_
          exact oO hF [] [] rfl
        · refine awp_false (by kernel_rfl) h18 ?_
          refine awp_skip ?_
          refine awp_region ?_
          refine aR 2 ?_
          refine aE ?_
          exact oO hF [] [] rfl
  · refine awp_false (by kernel_rfl) h2 ?_
    refine awp_exit ?_
    exact oO hF [] [] rfl

def fleetref2_SamplesFault_R (ql : List api_Sample) (r : Int) : TV × Mem := (.v (.one (.d (.int .i64 r))), ⟨[], []⟩)

theorem fleetref2_SamplesFault_ok {ql : List api_Sample} {r} (hF : fleetref2_SamplesFault ql = some r) : Holds prog 116 [.v (.one (.d (.lst (List.map api_Sample.enc ql))))] ⟨[], []⟩ (Is (fleetref2_SamplesFault_R ql r)) := by
  unfold fleetref2_SamplesFault at hF
  refine holds_of_awp hΓ (fn := f116) (c := cB f116) (A := 0) (nx := 0) (by kernel_rfl) (by kernel_rfl) (by kernel_rfl) (by kernel_rfl) (by kernel_rfl) (by kernel_rfl) (lowc_of (by kernel_rfl)) ?_
  show Awp prog 0 51 (cB f116) _ _
  refine awp_seq ?_
  refine awp_region ?_
  refine aR 1 ?_
  refine aE ?_
  refine awp_seq ?_
  refine awp_seq ?_
  refine awp_region ?_
  refine aR 1 ?_
  refine aL api_Sample.enc ql ?_
  refine aR 1 ?_
  refine aE ?_
  refine cE hF (fun h1 hF => ?_) fun h1 hF => ?_
  · refine awp_true (by kernel_rfl) h1 ?_
    refine awp_seq ?_
    refine awp_region ?_
    refine aR 1 ?_
    refine aE ?_
    refine awp_ret ?_
    exact oF hF [] []
  · refine awp_false (by kernel_rfl) h1 ?_
    refine awp_skip ?_
    refine awp_seq ?_
    refine awp_seq ?_
    refine awp_region ?_
    refine aR 1 ?_
    refine aL api_Sample.enc ql ?_
    refine aR 1 ?_
    refine aE ?_
    refine awp_block ?_
    refine awp_to (st' := fleetref2_SamplesFault_x1_H ql 0) (oT [] []) ?_
    refine bE hF fun x h19 hF => ?_
    rcases x with _ | vx7_1
    · refine awp_sub (awp_loop' (fleetref2_SamplesFault_x1_H ql) fleetref2_SamplesFault_x1_k (fleetref2_SamplesFault_x1_S ql) (by intro x; rcases x with x | x <;> exact fun h => nomatch h) h19 (fleetref2_SamplesFault_x1_ok ql)) ?_
      refine awp_seq ?_
      refine awp_region ?_
      refine aR 1 ?_
      refine aE ?_
      refine awp_ret ?_
      exact oF hF [] []
    · refine awp_sub (awp_loop' (fleetref2_SamplesFault_x1_H ql) fleetref2_SamplesFault_x1_k (fleetref2_SamplesFault_x1_S ql) (by intro x; rcases x with x | x <;> exact fun h => nomatch h) h19 (fleetref2_SamplesFault_x1_ok ql)) ?_
      exact oF hF [] []

/-! ### beaconfleet/fleetref2.SeriesFault$1 -/
def fleetref2_SeriesFault_1_x1_k : Bool → AEx
  | _ => .normal

def fleetref2_SeriesFault_1_x1_S (qs : api_Sample) (qx : List api_Sample) : Bool → St
  | vx => Mem.st ⟨[], [(0, [.d (.lst (List.map api_Sample.enc qx))])]⟩ (tl [(3, .v (.one (.d (.bool vx))))]) 1

def fleetref2_SeriesFault_1_x1_I (qs : api_Sample) (qx : List api_Sample) : St := Mem.st ⟨[], [(0, [.d (.lst (List.map api_Sample.enc qx))]), (1, [.d (.str qs.Device), .d (.str qs.Metric), .d (.int .i64 qs.At), .d (.int .i64 qs.Value)])]⟩ (tl [(1, .v (.one (.box 0 0))), (2, .v (.one (.box 1 0)))]) 2

theorem fleetref2_SeriesFault_1_x1_ok (qs : api_Sample) (qx : List api_Sample) {r} (hF : fleetref2_SeriesFault_1_x1 qs qx = some r) : Awp prog 1 20 (cL (cR (cB f118))) (Out 1 fleetref2_SeriesFault_1_x1_k (fleetref2_SeriesFault_1_x1_S qs qx) r) (fleetref2_SeriesFault_1_x1_I qs qx) := by
  unfold fleetref2_SeriesFault_1_x1 at hF
  refine bE hF fun vy h1 hF => ?_
  refine cE hF (fun h2 hF => ?_) fun h2 hF => ?_
  · refine aD ?_
    refine dR 3 ?_
    refine dX (x_idx api_Sample.enc h1) ?_
    refine dR 2 ?_
    refine dB h2 ?_
    refine dR 10 ?_
    refine dE ?_
    exact oO hF [] [] rfl
  · refine aD ?_
    refine dR 3 ?_
    refine dX (x_idx api_Sample.enc h1) ?_
    refine dR 2 ?_
    refine dB h2 ?_
    refine dR 4 ?_
    refine dX (x_idx api_Sample.enc h1) ?_
    refine dR 5 ?_
    refine dE ?_
    exact oO hF [] [] rfl

def fleetref2_SeriesFault_1_R (qs : api_Sample) (qx : List api_Sample) (r : Bool) : TV × Mem := (.v (.one (.d (.bool r))), ⟨[], [(0, [.d (.lst (List.map api_Sample.enc qx))])]⟩)

theorem fleetref2_SeriesFault_1_ok {qs : api_Sample} {qx : List api_Sample} {r} (hF : fleetref2_SeriesFault_1 qs qx = some r) : Holds prog 118 [.v (.agg [.d (.str qs.Device), .d (.str qs.Metric), .d (.int .i64 qs.At), .d (.int .i64 qs.Value)]), .v (.one (.box 0 0))] ⟨[], [(0, [.d (.lst (List.map api_Sample.enc qx))])]⟩ (Is (fleetref2_SeriesFault_1_R qs qx r)) := by
  unfold fleetref2_SeriesFault_1 at hF
  refine holds_of_awp hΓ (fn := f118) (c := cB f118) (A := 1) (nx := 1) (by kernel_rfl) (by kernel_rfl) (by kernel_rfl) (by kernel_rfl) (by kernel_rfl) (by kernel_rfl) (lowc_of (by kernel_rfl)) ?_
  show Awp prog 1 20 (cB f118) _ _
  refine awp_seq ?_
  refine awp_region ?_
  refine aR 2 ?_
  refine aE ?_
  refine awp_seq ?_
  refine awp_to (st' := fleetref2_SeriesFault_1_x1_I qs qx) (oT [] []) ?_
  refine bE hF fun vx1 h3 hF => ?_
  refine awp_sub (fleetref2_SeriesFault_1_x1_ok qs qx h3) ?_
  refine awp_ret ?_
  exact oF hF [] []

/-! ### slices.IndexFunc[[]beaconfleet/api.Sample,beaconfleet/api.Sample] -/
def slices_IndexFunc_api_Sample_api_Sample_f1_fleetref2_SeriesFault_1_x1_k : Unit ⊕ Int → AEx
  | .inl _ => .exit 0
  | .inr _ => .ret

def slices_IndexFunc_api_Sample_api_Sample_f1_fleetref2_SeriesFault_1_x1_S (qs : List api_Sample) : Unit ⊕ Int → St
  | .inl _ => Mem.st ⟨[], [(0, [.d (.lst (List.map api_Sample.enc qs))])]⟩ (tl []) 1
  | .inr vx1 => Mem.st ⟨[], [(0, [.d (.lst (List.map api_Sample.enc qs))])]⟩ (tl [(4, .v (.one (.d (.int .i64 vx1))))]) 1

def slices_IndexFunc_api_Sample_api_Sample_f1_fleetref2_SeriesFault_1_x1_H (qs : List api_Sample) : Int → St
  | vx => Mem.st ⟨[], [(0, [.d (.lst (List.map api_Sample.enc qs))])]⟩ (tl [(0, .v (.one (.d (.lst (List.map api_Sample.enc qs))))), (1, .v (.one (.fn 118 [0]))), (7, .v (.one (.d (.int .i64 (qs.length : Int))))), (8, .v (.one (.d (.int .i64 vx))))]) 1

theorem slices_IndexFunc_api_Sample_api_Sample_f1_fleetref2_SeriesFault_1_x1_ok (qs : List api_Sample) (vx : Int) (r : (Int) ⊕ (Unit ⊕ Int)) (hF : slices_IndexFunc_api_Sample_api_Sample_f1_fleetref2_SeriesFault_1_x1 qs vx = some r) : Awp prog 1 19 (cL (cL (cR (cL (cR (cB f210)))))) (Out 1 (kk slices_IndexFunc_api_Sample_api_Sample_f1_fleetref2_SeriesFault_1_x1_k) (SS (slices_IndexFunc_api_Sample_api_Sample_f1_fleetref2_SeriesFault_1_x1_H qs) (slices_IndexFunc_api_Sample_api_Sample_f1_fleetref2_SeriesFault_1_x1_S qs)) r) (slices_IndexFunc_api_Sample_api_Sample_f1_fleetref2_SeriesFault_1_x1_H qs vx) := by
  unfold slices_IndexFunc_api_Sample_api_Sample_f1_fleetref2_SeriesFault_1_x1 at hF
  refine awp_seq ?_
  refine awp_region ?_
  refine aR 1 ?_
  refine aE ?_
  refine awp_seq ?_
  refine cE hF (fun h1 hF => ?_) fun h1 hF => ?_
  · refine awp_true (by kernel_rfl) h1 ?_
    refine awp_skip ?_
    refine awp_seq ?_
    refine awp_block ?_
    refine awp_seq ?_
    refine awp_region ?_
    refine aR 2 ?_
    refine aE ?_
    refine awp_seq ?_
    refine bE hF fun vy1 h2 hF => ?_
    refine bE hF fun vr1 h3 hF => ?_
    refine awp_region ?_
    refine aR 3 ?_
    refine aX (x_idx api_Sample.enc h2) ?_
    refine aR 1 ?_
    refine aC (fleetref2_SeriesFault_1_ok h3) [] [] [] ?_
    refine aE ?_
    refine cE hF (fun h4 hF => ?_) fun h4 hF => ?_
    · refine awp_true (by kernel_rfl) h4 ?_
      refine awp_seq ?_
      refine awp_region ?_
      refine aR 2 ?_
      refine aE ?_
      refine awp_ret ?_
      exact oO hF [] [] rfl
    · refine awp_false (by kernel_rfl) h4 ?_
      refine awp_skip ?_
      refine awp_region ?_
      refine aR 2 ?_
      refine aE ?_
      exact oO hF [] [] rfl
  · refine awp_false (by kernel_rfl) h1 ?_
    refine awp_exit ?_
    exact oO hF [] [] rfl

def slices_IndexFunc_api_Sample_api_Sample_f1_fleetref2_SeriesFault_1_R (qs : List api_Sample) (r : Int) : TV × Mem := (.v (.one (.d (.int .i64 r))), ⟨[], [(0, [.d (.lst (List.map api_Sample.enc qs))])]⟩)

theorem slices_IndexFunc_api_Sample_api_Sample_f1_fleetref2_SeriesFault_1_ok {qs : List api_Sample} {r} (hF : slices_IndexFunc_api_Sample_api_Sample_f1_fleetref2_SeriesFault_1 qs = some r) : Holds prog 210 [.v (.one (.d (.lst (List.map api_Sample.enc qs)))), .v (.one (.fn 118 [0]))] ⟨[], [(0, [.d (.lst (List.map api_Sample.enc qs))])]⟩ (Is (slices_IndexFunc_api_Sample_api_Sample_f1_fleetref2_SeriesFault_1_R qs r)) := by
  unfold slices_IndexFunc_api_Sample_api_Sample_f1_fleetref2_SeriesFault_1 at hF
  refine holds_of_awp hΓ (fn := f210) (c := cB f210) (A := 1) (nx := 1) (by kernel_rfl) (by kernel_rfl) (by kernel_rfl) (by kernel_rfl) (by kernel_rfl) (by kernel_rfl) (lowc_of (by kernel_rfl)) ?_
  show Awp prog 1 19 (cB f210) _ _
  refine awp_seq ?_
  refine awp_region ?_
  refine aR 1 ?_
  refine aE ?_
  refine awp_seq ?_
  refine awp_seq ?_
  refine awp_region ?_
  refine aR 1 ?_
  refine aL api_Sample.enc qs ?_
  refine aR 1 ?_
  refine aE ?_
  refine awp_block ?_
  refine awp_to (st' := slices_IndexFunc_api_Sample_api_Sample_f1_fleetref2_SeriesFault_1_x1_H qs 0) (oT [] []) ?_
  refine bE hF fun x h5 hF => ?_
  rcases x with _ | vx1_1
  · refine awp_sub (awp_loop' (slices_IndexFunc_api_Sample_api_Sample_f1_fleetref2_SeriesFault_1_x1_H qs) slices_IndexFunc_api_Sample_api_Sample_f1_fleetref2_SeriesFault_1_x1_k (slices_IndexFunc_api_Sample_api_Sample_f1_fleetref2_SeriesFault_1_x1_S qs) (by intro x; rcases x with x | x <;> exact fun h => nomatch h) h5 (slices_IndexFunc_api_Sample_api_Sample_f1_fleetref2_SeriesFault_1_x1_ok qs)) ?_
    refine awp_seq ?_
    refine awp_region ?_
    refine aR 1 ?_
    refine aE ?_
    refine awp_ret ?_
    exact oF hF [] []
  · refine awp_sub (awp_loop' (slices_IndexFunc_api_Sample_api_Sample_f1_fleetref2_SeriesFault_1_x1_H qs) slices_IndexFunc_api_Sample_api_Sample_f1_fleetref2_SeriesFault_1_x1_k (slices_IndexFunc_api_Sample_api_Sample_f1_fleetref2_SeriesFault_1_x1_S qs) (by intro x; rcases x with x | x <;> exact fun h => nomatch h) h5 (slices_IndexFunc_api_Sample_api_Sample_f1_fleetref2_SeriesFault_1_x1_ok qs)) ?_
    exact oF hF [] []

/-! ### slices.ContainsFunc[[]beaconfleet/api.Sample,beaconfleet/api.Sample] -/
def slices_ContainsFunc_api_Sample_api_Sample_f1_fleetref2_SeriesFault_1_R (qs : List api_Sample) (r : Bool) : TV × Mem := (.v (.one (.d (.bool r))), ⟨[], [(0, [.d (.lst (List.map api_Sample.enc qs))])]⟩)

theorem slices_ContainsFunc_api_Sample_api_Sample_f1_fleetref2_SeriesFault_1_ok {qs : List api_Sample} {r} (hF : slices_ContainsFunc_api_Sample_api_Sample_f1_fleetref2_SeriesFault_1 qs = some r) : Holds prog 117 [.v (.one (.d (.lst (List.map api_Sample.enc qs)))), .v (.one (.fn 118 [0]))] ⟨[], [(0, [.d (.lst (List.map api_Sample.enc qs))])]⟩ (Is (slices_ContainsFunc_api_Sample_api_Sample_f1_fleetref2_SeriesFault_1_R qs r)) := by
  unfold slices_ContainsFunc_api_Sample_api_Sample_f1_fleetref2_SeriesFault_1 at hF
  refine holds_of_awp hΓ (fn := f117) (c := cB f117) (A := 1) (nx := 1) (by kernel_rfl) (by kernel_rfl) (by kernel_rfl) (by kernel_rfl) (by kernel_rfl) (by kernel_rfl) (lowc_of (by kernel_rfl)) ?_
  show Awp prog 1 9 (cB f117) _ _
  refine awp_seq ?_
  refine awp_region ?_
  refine aR 1 ?_
  refine aE ?_
  refine awp_seq ?_
  refine bE hF fun vr2 h1 hF => ?_
  refine awp_region ?_
  refine aR 2 ?_
  refine aC (slices_IndexFunc_api_Sample_api_Sample_f1_fleetref2_SeriesFault_1_ok h1) [] [] [] ?_
  refine aR 2 ?_
  refine aE ?_
  refine awp_ret ?_
  exact oF hF [] []

/-! ### beaconfleet/fleetref2.SeriesFault -/
def fleetref2_SeriesFault_R (ql : List api_Sample) (r : Int) : TV × Mem := (.v (.one (.d (.int .i64 r))), ⟨[], []⟩)

theorem fleetref2_SeriesFault_ok {ql : List api_Sample} {r} (hF : fleetref2_SeriesFault ql = some r) : Holds prog 21 [.v (.one (.d (.lst (List.map api_Sample.enc ql))))] ⟨[], []⟩ (Is (fleetref2_SeriesFault_R ql r)) := by
  unfold fleetref2_SeriesFault at hF
  refine holds_of_awp hΓ (fn := f21) (c := cB f21) (A := 0) (nx := 0) (by kernel_rfl) (by kernel_rfl) (by kernel_rfl) (by kernel_rfl) (by kernel_rfl) (by kernel_rfl) (lowc_of (by kernel_rfl)) ?_
  show Awp prog 0 12 (cB f21) _ _
  refine awp_seq ?_
  refine awp_region ?_
  refine aR 2 ?_
  refine aE ?_
  refine awp_seq ?_
  refine awp_seq ?_
  refine bE hF fun vr4 h1 hF => ?_
  refine awp_region ?_
  refine aR 1 ?_
  refine aC (fleetref2_SamplesFault_ok h1) [] [] [] ?_
  refine aR 1 ?_
  refine aE ?_
  refine awp_seq ?_
  refine awp_region ?_
  refine aR 2 ?_
  refine aE ?_
  refine cE hF (fun h2 hF => ?_) fun h2 hF => ?_
  · refine awp_true (by kernel_rfl) h2 ?_
    refine awp_seq ?_
    refine awp_region ?_
    refine aR 2 ?_
    refine aE ?_
    refine awp_ret ?_
    exact oF hF [] []
  · refine awp_false (by kernel_rfl) h2 ?_
    refine awp_skip ?_
    refine awp_seq ?_
    refine awp_seq ?_
    refine bE hF fun vr h3 hF => ?_
    refine awp_region ?_
    refine aR 2 ?_
    refine aC (slices_ContainsFunc_api_Sample_api_Sample_f1_fleetref2_SeriesFault_1_ok h3) [] [] [] ?_
    refine aE ?_
    refine cE hF (fun h4 hF => ?_) fun h4 hF => ?_
    · refine awp_true (by kernel_rfl) h4 ?_
      refine awp_seq ?_
      refine awp_region ?_
      refine aR 1 ?_
      refine aE ?_
      refine awp_ret ?_
      exact oF hF [] []
    · refine awp_false (by kernel_rfl) h4 ?_
      refine awp_skip ?_
      refine awp_seq ?_
      refine awp_region ?_
      refine aR 1 ?_
      refine aE ?_
      refine awp_ret ?_
      exact oF hF [] []

/-! ### beaconfleet/fleetlaw2.when -/
def fleetlaw2_when_R (qis : Bool) (qe : Int) (r : Int) : TV × Mem := (.v (.one (.d (.int .i64 r))), ⟨[], []⟩)

theorem fleetlaw2_when_ok {qis : Bool} {qe : Int} {r} (hF : fleetlaw2_when qis qe = some r) : Holds prog 23 [.v (.one (.d (.bool qis))), .v (.one (.d (.int .i64 qe)))] ⟨[], []⟩ (Is (fleetlaw2_when_R qis qe r)) := by
  unfold fleetlaw2_when at hF
  refine holds_of_awp hΓ (fn := f23) (c := cB f23) (A := 0) (nx := 0) (by kernel_rfl) (by kernel_rfl) (by kernel_rfl) (by kernel_rfl) (by kernel_rfl) (by kernel_rfl) (lowc_of (by kernel_rfl)) ?_
  show Awp prog 0 7 (cB f23) _ _
  refine awp_seq ?_
  refine awp_region ?_
  refine aR 1 ?_
  refine aE ?_
  refine awp_seq ?_
  refine awp_seq ?_
  refine awp_region ?_
  refine aR 1 ?_
  refine aE ?_
  refine cE hF (fun h1 hF => ?_) fun h1 hF => ?_
  · refine awp_true (by kernel_rfl) h1 ?_
    refine awp_seq ?_
    refine awp_region ?_
    refine aR 2 ?_
    refine aE ?_
    refine awp_ret ?_
    exact oF hF [] []
  · refine awp_false (by kernel_rfl) h1 ?_
    refine awp_skip ?_
    refine awp_seq ?_
    refine awp_region ?_
    refine aR 1 ?_
    refine aE ?_
    refine awp_ret ?_
    exact oF hF [] []

/-! ### beaconfleet/fleetlaw2.errs -/
def fleetlaw2_errs_x1_k : Unit ⊕ Int → AEx
  | .inl _ => .exit 0
  | .inr _ => .ret

def fleetlaw2_errs_x1_S (ql : List Int) : Unit ⊕ Int → St
  | .inl _ => Mem.st ⟨[], []⟩ (tl []) 0
  | .inr vx1 => Mem.st ⟨[], []⟩ (tl [(2, .v (.one (.d (.int .i64 vx1))))]) 0

def fleetlaw2_errs_x1_H (ql : List Int) : Int → St
  | vx => Mem.st ⟨[], []⟩ (tl [(5, .v (.one (.d (.lst (List.map (encI .i64) ql))))), (6, .v (.one (.d (.int .i64 (ql.length : Int))))), (7, .v (.one (.d (.int .i64 vx))))]) 0

theorem fleetlaw2_errs_x1_ok (ql : List Int) (vx : Int) (r : (Int) ⊕ (Unit ⊕ Int)) (hF : fleetlaw2_errs_x1 ql vx = some r) : Awp prog 0 15 (cL (cL (cR (cL (cR (cB f20)))))) (Out 0 (kk fleetlaw2_errs_x1_k) (SS (fleetlaw2_errs_x1_H ql) (fleetlaw2_errs_x1_S ql)) r) (fleetlaw2_errs_x1_H ql vx) := by
  unfold fleetlaw2_errs_x1 at hF
  refine awp_seq ?_
  refine awp_region ?_
  refine aR 1 ?_
  refine aE ?_
  refine awp_seq ?_
  refine cE hF (fun h1 hF => ?_) fun h1 hF => ?_
  · refine awp_true (by kernel_rfl) h1 ?_
    refine awp_skip ?_
    refine awp_seq ?_
    refine awp_block ?_
    refine awp_seq ?_
    refine bE hF fun vy1 h2 hF => ?_
    refine awp_region ?_
    refine aX (x_idx (encI .i64) h2) ?_
    refine aR 2 ?_
    refine aE ?_
    refine awp_seq ?_
    refine awp_region ?_
    refine aR 2 ?_
    refine aE ?_
    refine cE hF (fun h3 hF => ?_) fun h3 hF => ?_
    · refine awp_true (by kernel_rfl) h3 ?_
      refine awp_seq ?_
      refine awp_region ?_
      refine aR 2 ?_
      refine aE ?_
      refine awp_ret ?_
      exact oO hF [] [] rfl
    · refine awp_false (by kernel_rfl) h3 ?_
      refine awp_skip ?_
      refine awp_region ?_
      refine aR 2 ?_
      refine aE ?_
      exact oO hF [] [] rfl
  · refine awp_false (by kernel_rfl) h1 ?_
    refine awp_exit ?_
    exact oO hF [] [] rfl

def fleetlaw2_errs_R (ql : List Int) (r : Int) : TV × Mem := (.v (.one (.d (.int .i64 r))), ⟨[], []⟩)

theorem fleetlaw2_errs_ok {ql : List Int} {r} (hF : fleetlaw2_errs ql = some r) : Holds prog 20 [.v (.one (.d (.lst (List.map (encI .i64) ql))))] ⟨[], []⟩ (Is (fleetlaw2_errs_R ql r)) := by
  unfold fleetlaw2_errs at hF
  refine holds_of_awp hΓ (fn := f20) (c := cB f20) (A := 0) (nx := 0) (by kernel_rfl) (by kernel_rfl) (by kernel_rfl) (by kernel_rfl) (by kernel_rfl) (by kernel_rfl) (lowc_of (by kernel_rfl)) ?_
  show Awp prog 0 15 (cB f20) _ _
  refine awp_seq ?_
  refine awp_region ?_
  refine aR 1 ?_
  refine aE ?_
  refine awp_seq ?_
  refine awp_seq ?_
  refine awp_region ?_
  refine aR 1 ?_
  refine aL (encI .i64) ql ?_
  refine aR 1 ?_
  refine aE ?_
  refine awp_block ?_
  refine awp_to (st' := fleetlaw2_errs_x1_H ql 0) (oT [] []) ?_
  refine bE hF fun x h4 hF => ?_
  rcases x with _ | vx1_1
  · refine awp_sub (awp_loop' (fleetlaw2_errs_x1_H ql) fleetlaw2_errs_x1_k (fleetlaw2_errs_x1_S ql) (by intro x; rcases x with x | x <;> exact fun h => nomatch h) h4 (fleetlaw2_errs_x1_ok ql)) ?_
    refine awp_seq ?_
    refine awp_region ?_
    refine aR 1 ?_
    refine aE ?_
    refine awp_ret ?_
    exact oF hF [] []
  · refine awp_sub (awp_loop' (fleetlaw2_errs_x1_H ql) fleetlaw2_errs_x1_k (fleetlaw2_errs_x1_S ql) (by intro x; rcases x with x | x <;> exact fun h => nomatch h) h4 (fleetlaw2_errs_x1_ok ql)) ?_
    exact oF hF [] []

/-! ### beaconfleet/fleetref2.PairsOf -/
def fleetref2_PairsOf_x5_k : Bool → AEx
  | _ => .normal

def fleetref2_PairsOf_x5_S (qx : List api_Sample) (qx1 : List api_Sample) (qx2 : Int) (vx : List api_Pairing) (vx1 : Int) (vy6 : api_Sample) (vx10 : Int) (vx11 : Int) (vy9 : api_Sample) : Bool → St
  | vx14 => Mem.st ⟨[(0, ⟨108, 8, List.map api_Pairing.enc vx⟩)], [(1, [.d (.str vy6.Device), .d (.str vy6.Metric), .d (.int .i64 vy6.At), .d (.int .i64 vy6.Value)])]⟩ (tl [(1, .v (.one (.d (.lst (List.map api_Sample.enc qx1))))), (2, .v (.one (.d (.int .i64 qx2)))), (7, .v (.one (.own 0 none))), (9, .v (.one (.box 1 0))), (10, .v (.one (.d (.int .i64 vx10)))), (11, .v (.one (.d (.int .i64 vx11)))), (14, .v (.one (.d (.lst (List.map api_Sample.enc qx))))), (15, .v (.one (.d (.int .i64 (qx.length : Int))))), (16, .v (.one (.d (.int .i64 vx1)))), (20, .v (.one (.d (.lst (List.map api_Sample.enc qx1))))), (21, .v (.one (.d (.int .i64 (qx1.length : Int))))), (22, .v (.one (.d (.int .i64 vx11)))), (65, .v (.one (.d (.bool vx14))))]) 2

def fleetref2_PairsOf_x5_I (qx : List api_Sample) (qx1 : List api_Sample) (qx2 : Int) (vx : List api_Pairing) (vx1 : Int) (vy6 : api_Sample) (vx10 : Int) (vx11 : Int) (vy9 : api_Sample) : St := Mem.st ⟨[(0, ⟨108, 8, List.map api_Pairing.enc vx⟩)], [(1, [.d (.str vy6.Device), .d (.str vy6.Metric), .d (.int .i64 vy6.At), .d (.int .i64 vy6.Value)])]⟩ (tl [(1, .v (.one (.d (.lst (List.map api_Sample.enc qx1))))), (2, .v (.one (.d (.int .i64 qx2)))), (7, .v (.one (.own 0 none))), (9, .v (.one (.box 1 0))), (10, .v (.one (.d (.int .i64 vx10)))), (11, .v (.one (.d (.int .i64 vx11)))), (13, .v (.one (.d (.int .i64 (imax (IntKind.wrap .i64 (vy6.At - vy9.At)) (IntKind.wrap .i64 (vy9.At - vy6.At))))))), (14, .v (.one (.d (.lst (List.map api_Sample.enc qx))))), (15, .v (.one (.d (.int .i64 (qx.length : Int))))), (16, .v (.one (.d (.int .i64 vx1)))), (20, .v (.one (.d (.lst (List.map api_Sample.enc qx1))))), (21, .v (.one (.d (.int .i64 (qx1.length : Int))))), (22, .v (.one (.d (.int .i64 vx11))))]) 2

theorem fleetref2_PairsOf_x5_ok (qx : List api_Sample) (qx1 : List api_Sample) (qx2 : Int) (vx : List api_Pairing) (vx1 : Int) (vy6 : api_Sample) (vx10 : Int) (vx11 : Int) (vy9 : api_Sample) {r} (hF : fleetref2_PairsOf_x5 qx1 qx2 vy6 vx10 vy9 = some r) : Awp prog 0 81 (cL (cR (cR (cL (cL (cR (cR (cL (cL (cR (cL (cR (cR (cL (cL (cR (cR (cL (cL (cR (cL (cR (cR (cB f67)))))))))))))))))))))))) (Out 0 fleetref2_PairsOf_x5_k (fleetref2_PairsOf_x5_S qx qx1 qx2 vx vx1 vy6 vx10 vx11 vy9) r) (fleetref2_PairsOf_x5_I qx qx1 qx2 vx vx1 vy6 vx10 vx11 vy9) := by
  unfold fleetref2_PairsOf_x5 at hF
  refine cE hF (fun h5 hF => ?_) fun h5 hF => ?_
  · refine cE hF (fun h6 hF => ?_) fun h6 hF => ?_
    · refine aD ?_
      refine dR 2 ?_
      refine dB h5 ?_
      refine dR 2 ?_
      refine dB h6 ?_
      refine dR 22 ?_
      refine dE ?_
      exact oO hF [] [] rfl
    · refine bE hF fun vy10 h7 hF => ?_
      refine aD ?_
      refine dR 2 ?_
      refine dB h5 ?_
      refine dR 2 ?_
      refine dB h6 ?_
      refine dR 6 ?_
      refine dX (x_idx api_Sample.enc h7) ?_
      refine dR 5 ?_
      refine dX (x_idx api_Sample.enc h7) ?_
      refine dR 9 ?_
      refine dE ?_
      exact oO hF [] [] rfl
  · refine aD ?_
    refine dR 2 ?_
    refine dB h5 ?_
    refine dR 25 ?_
    refine dE ?_
    exact oO hF [] [] rfl

def fleetref2_PairsOf_x4_k : Int → AEx
  | _ => .normal

def fleetref2_PairsOf_x4_S (qx : List api_Sample) (qx1 : List api_Sample) (qx2 : Int) (vx : List api_Pairing) (vx1 : Int) (vy6 : api_Sample) (vx10 : Int) (vx11 : Int) : Int → St
  | vx15 => Mem.st ⟨[(0, ⟨108, 8, List.map api_Pairing.enc vx⟩)], [(1, [.d (.str vy6.Device), .d (.str vy6.Metric), .d (.int .i64 vy6.At), .d (.int .i64 vy6.Value)])]⟩ (tl [(1, .v (.one (.d (.lst (List.map api_Sample.enc qx1))))), (2, .v (.one (.d (.int .i64 qx2)))), (7, .v (.one (.own 0 none))), (9, .v (.one (.box 1 0))), (10, .v (.one (.d (.int .i64 vx15)))), (14, .v (.one (.d (.lst (List.map api_Sample.enc qx))))), (15, .v (.one (.d (.int .i64 (qx.length : Int))))), (16, .v (.one (.d (.int .i64 vx1)))), (20, .v (.one (.d (.lst (List.map api_Sample.enc qx1))))), (21, .v (.one (.d (.int .i64 (qx1.length : Int))))), (22, .v (.one (.d (.int .i64 vx11))))]) 2

def fleetref2_PairsOf_x4_I (qx : List api_Sample) (qx1 : List api_Sample) (qx2 : Int) (vx : List api_Pairing) (vx1 : Int) (vy6 : api_Sample) (vx10 : Int) (vx11 : Int) : St := Mem.st ⟨[(0, ⟨108, 8, List.map api_Pairing.enc vx⟩)], [(1, [.d (.str vy6.Device), .d (.str vy6.Metric), .d (.int .i64 vy6.At), .d (.int .i64 vy6.Value)])]⟩ (tl [(1, .v (.one (.d (.lst (List.map api_Sample.enc qx1))))), (2, .v (.one (.d (.int .i64 qx2)))), (7, .v (.one (.own 0 none))), (9, .v (.one (.box 1 0))), (10, .v (.one (.d (.int .i64 vx10)))), (14, .v (.one (.d (.lst (List.map api_Sample.enc qx))))), (15, .v (.one (.d (.int .i64 (qx.length : Int))))), (16, .v (.one (.d (.int .i64 vx1)))), (20, .v (.one (.d (.lst (List.map api_Sample.enc qx1))))), (21, .v (.one (.d (.int .i64 (qx1.length : Int))))), (22, .v (.one (.d (.int .i64 vx11))))]) 2

theorem fleetref2_PairsOf_x4_ok (qx : List api_Sample) (qx1 : List api_Sample) (qx2 : Int) (vx : List api_Pairing) (vx1 : Int) (vy6 : api_Sample) (vx10 : Int) (vx11 : Int) {r} (hF : fleetref2_PairsOf_x4 qx1 qx2 vy6 vx10 vx11 = some r) : Awp prog 0 81 (cL (cR (cR (cL (cL (cR (cL (cR (cR (cL (cL (cR (cR (cL (cL (cR (cL (cR (cR (cB f67)))))))))))))))))))) (Out 0 fleetref2_PairsOf_x4_k (fleetref2_PairsOf_x4_S qx qx1 qx2 vx vx1 vy6 vx10 vx11) r) (fleetref2_PairsOf_x4_I qx qx1 qx2 vx vx1 vy6 vx10 vx11) := by
  unfold fleetref2_PairsOf_x4 at hF
  refine awp_block ?_
  refine awp_seq ?_
  refine bE hF fun vy9 h4 hF => ?_
  refine awp_region ?_
  refine aR 1 ?_
  refine aX (x_idx api_Sample.enc h4) ?_
  refine aR 4 ?_
  refine aE ?_
  refine awp_seq ?_
  refine awp_region ?_
  refine aR 12 ?_
  refine aE ?_
  refine awp_seq ?_
  refine awp_to (st' := fleetref2_PairsOf_x5_I qx qx1 qx2 vx vx1 vy6 vx10 vx11 vy9) (oT [] []) ?_
  refine bE hF fun vx14_1 h8 hF => ?_
  refine awp_sub (fleetref2_PairsOf_x5_ok qx qx1 qx2 vx vx1 vy6 vx10 vx11 vy9 h8) ?_
  refine cE hF (fun h9 hF => ?_) fun h9 hF => ?_
  · refine awp_true (by kernel_rfl) h9 ?_
    refine awp_region ?_
    refine aR 2 ?_
    refine aE ?_
    exact oO hF [] [] rfl
  · refine awp_false (by kernel_rfl) h9 ?_
    refine awp_skip ?_
    exact oO hF [] [] rfl

def fleetref2_PairsOf_x3_k : Int → AEx
  | _ => .exit 2

def fleetref2_PairsOf_x3_S (qx : List api_Sample) (qx1 : List api_Sample) (qx2 : Int) (vx : List api_Pairing) (vx1 : Int) (vy6 : api_Sample) : Int → St
  | vx16 => Mem.st ⟨[(0, ⟨108, 8, List.map api_Pairing.enc vx⟩)], [(1, [.d (.str vy6.Device), .d (.str vy6.Metric), .d (.int .i64 vy6.At), .d (.int .i64 vy6.Value)])]⟩ (tl [(1, .v (.one (.d (.lst (List.map api_Sample.enc qx1))))), (2, .v (.one (.d (.int .i64 qx2)))), (7, .v (.one (.own 0 none))), (9, .v (.one (.box 1 0))), (10, .v (.one (.d (.int .i64 vx16)))), (14, .v (.one (.d (.lst (List.map api_Sample.enc qx))))), (15, .v (.one (.d (.int .i64 (qx.length : Int))))), (16, .v (.one (.d (.int .i64 vx1))))]) 2

def fleetref2_PairsOf_x3_H (qx : List api_Sample) (qx1 : List api_Sample) (qx2 : Int) (vx : List api_Pairing) (vx1 : Int) (vy6 : api_Sample) : Int × Int → St
  | (vx10, vx11) => Mem.st ⟨[(0, ⟨108, 8, List.map api_Pairing.enc vx⟩)], [(1, [.d (.str vy6.Device), .d (.str vy6.Metric), .d (.int .i64 vy6.At), .d (.int .i64 vy6.Value)])]⟩ (tl [(1, .v (.one (.d (.lst (List.map api_Sample.enc qx1))))), (2, .v (.one (.d (.int .i64 qx2)))), (7, .v (.one (.own 0 none))), (9, .v (.one (.box 1 0))), (10, .v (.one (.d (.int .i64 vx10)))), (14, .v (.one (.d (.lst (List.map api_Sample.enc qx))))), (15, .v (.one (.d (.int .i64 (qx.length : Int))))), (16, .v (.one (.d (.int .i64 vx1)))), (20, .v (.one (.d (.lst (List.map api_Sample.enc qx1))))), (21, .v (.one (.d (.int .i64 (qx1.length : Int))))), (22, .v (.one (.d (.int .i64 vx11))))]) 2

theorem fleetref2_PairsOf_x3_ok (qx : List api_Sample) (qx1 : List api_Sample) (qx2 : Int) (vx : List api_Pairing) (vx1 : Int) (vy6 : api_Sample) (s : Int × Int) (r : (Int × Int) ⊕ (Int)) (hF : fleetref2_PairsOf_x3 qx1 qx2 vy6 s = some r) : Awp prog 0 81 (cL (cL (cR (cL (cR (cR (cL (cL (cR (cR (cL (cL (cR (cL (cR (cR (cB f67))))))))))))))))) (Out 0 (kk fleetref2_PairsOf_x3_k) (SS (fleetref2_PairsOf_x3_H qx qx1 qx2 vx vx1 vy6) (fleetref2_PairsOf_x3_S qx qx1 qx2 vx vx1 vy6)) r) (fleetref2_PairsOf_x3_H qx qx1 qx2 vx vx1 vy6 s) := by
  obtain ⟨vx10, vx11⟩ := s
  unfold fleetref2_PairsOf_x3 at hF
  refine awp_seq ?_
  refine awp_region ?_
  refine aR 1 ?_
  refine aE ?_
  refine awp_seq ?_
  refine cE hF (fun h3 hF => ?_) fun h3 hF => ?_
  · refine awp_true (by kernel_rfl) h3 ?_
    refine awp_skip ?_
    refine awp_seq ?_
    refine awp_to (st' := fleetref2_PairsOf_x4_I qx qx1 qx2 vx vx1 vy6 vx10 vx11) (oT [] []) ?_
    refine bE hF fun vx15_1 h10 hF => ?_
    refine awp_sub (fleetref2_PairsOf_x4_ok qx qx1 qx2 vx vx1 vy6 vx10 vx11 h10) ?_
    refine awp_region ?_
    refine aR 2 ?_
    refine aE ?_
    exact oO hF [] [] rfl
  · refine awp_false (by kernel_rfl) h3 ?_
    refine awp_exit ?_
    exact oO hF [] [] rfl

def fleetref2_PairsOf_x2_k : (List api_Pairing) → AEx
  | _ => .normal

def fleetref2_PairsOf_x2_S (qx : List api_Sample) (qx1 : List api_Sample) (qx2 : Int) (vx : List api_Pairing) (vx1 : Int) : (List api_Pairing) → St
  | vx17 => Mem.st ⟨[(0, ⟨108, 8, List.map api_Pairing.enc vx17⟩)], []⟩ (tl [(1, .v (.one (.d (.lst (List.map api_Sample.enc qx1))))), (2, .v (.one (.d (.int .i64 qx2)))), (7, .v (.one (.own 0 none))), (14, .v (.one (.d (.lst (List.map api_Sample.enc qx))))), (15, .v (.one (.d (.int .i64 (qx.length : Int))))), (16, .v (.one (.d (.int .i64 vx1))))]) 1

def fleetref2_PairsOf_x2_I (qx : List api_Sample) (qx1 : List api_Sample) (qx2 : Int) (vx : List api_Pairing) (vx1 : Int) : St := Mem.st ⟨[(0, ⟨108, 8, List.map api_Pairing.enc vx⟩)], []⟩ (tl [(1, .v (.one (.d (.lst (List.map api_Sample.enc qx1))))), (2, .v (.one (.d (.int .i64 qx2)))), (7, .v (.one (.own 0 none))), (14, .v (.one (.d (.lst (List.map api_Sample.enc qx))))), (15, .v (.one (.d (.int .i64 (qx.length : Int))))), (16, .v (.one (.d (.int .i64 vx1))))]) 1

theorem fleetref2_PairsOf_x2_ok (qx : List api_Sample) (qx1 : List api_Sample) (qx2 : Int) (vx : List api_Pairing) (vx1 : Int) {r} (hF : fleetref2_PairsOf_x2 qx qx1 qx2 vx vx1 = some r) : Awp prog 0 81 (cL (cR (cR (cL (cL (cR (cL (cR (cR (cB f67)))))))))) (Out 0 fleetref2_PairsOf_x2_k (fleetref2_PairsOf_x2_S qx qx1 qx2 vx vx1) r) (fleetref2_PairsOf_x2_I qx qx1 qx2 vx vx1) := by
  unfold fleetref2_PairsOf_x2 at hF
  refine awp_block ?_
  refine awp_seq ?_
  refine bE hF fun vy6 h2 hF => ?_
  refine awp_region ?_
  refine aX (x_idx api_Sample.enc h2) ?_
  refine aR 3 ?_
  refine aE ?_
  refine awp_seq ?_
  refine awp_region ?_
  refine aR 1 ?_
  refine aE ?_
  refine awp_seq ?_
  refine awp_seq ?_
  refine awp_region ?_
  refine aR 1 ?_
  refine aL api_Sample.enc qx1 ?_
  refine aR 1 ?_
  refine aE ?_
  refine awp_block ?_
  refine awp_to (st' := fleetref2_PairsOf_x3_H qx qx1 qx2 vx vx1 vy6 ((-1), 0)) (oT [(1, 2001)] []) ?_
  refine bE hF fun vx16_1 h11 hF => ?_
  refine awp_sub (awp_loop' (fleetref2_PairsOf_x3_H qx qx1 qx2 vx vx1 vy6) fleetref2_PairsOf_x3_k (fleetref2_PairsOf_x3_S qx qx1 qx2 vx vx1 vy6) (by intro x; exact fun h => nomatch h) h11 (fleetref2_PairsOf_x3_ok qx qx1 qx2 vx vx1 vy6)) ?_
  refine awp_seq ?_
  refine awp_region ?_
  refine aR 2 ?_
  refine aE ?_
  refine cE hF (fun h12 hF => ?_) fun h12 hF => ?_
  · refine awp_true (by kernel_rfl) h12 ?_
    refine bE hF fun vy11 h13 hF => ?_
    refine gE hF fun h14 hF => ?_
    refine aD ?_
    refine dR 4 ?_
    refine dX (x_idx api_Sample.enc h13) ?_
    refine dR 3 ?_
    refine dX (x_app api_Pairing.enc 0 h14) ?_
    refine dR 1 ?_
    refine dE ?_
    exact oO hF [(0, 10002)] [] rfl
  · refine awp_false (by kernel_rfl) h12 ?_
    refine awp_skip ?_
    exact oO hF [] [] rfl

def fleetref2_PairsOf_x1_k : (List api_Pairing) → AEx
  | _ => .exit 0

def fleetref2_PairsOf_x1_S (qx : List api_Sample) (qx1 : List api_Sample) (qx2 : Int) : (List api_Pairing) → St
  | vx18 => Mem.st ⟨[(0, ⟨108, 8, List.map api_Pairing.enc vx18⟩)], []⟩ (tl [(7, .v (.one (.own 0 none)))]) 1

def fleetref2_PairsOf_x1_H (qx : List api_Sample) (qx1 : List api_Sample) (qx2 : Int) : (List api_Pairing) × Int → St
  | (vx, vx1) => Mem.st ⟨[(0, ⟨108, 8, List.map api_Pairing.enc vx⟩)], []⟩ (tl [(1, .v (.one (.d (.lst (List.map api_Sample.enc qx1))))), (2, .v (.one (.d (.int .i64 qx2)))), (7, .v (.one (.own 0 none))), (14, .v (.one (.d (.lst (List.map api_Sample.enc qx))))), (15, .v (.one (.d (.int .i64 (qx.length : Int))))), (16, .v (.one (.d (.int .i64 vx1))))]) 1

theorem fleetref2_PairsOf_x1_ok (qx : List api_Sample) (qx1 : List api_Sample) (qx2 : Int) (s : (List api_Pairing) × Int) (r : ((List api_Pairing) × Int) ⊕ ((List api_Pairing))) (hF : fleetref2_PairsOf_x1 qx qx1 qx2 s = some r) : Awp prog 0 81 (cL (cL (cR (cL (cR (cR (cB f67))))))) (Out 0 (kk fleetref2_PairsOf_x1_k) (SS (fleetref2_PairsOf_x1_H qx qx1 qx2) (fleetref2_PairsOf_x1_S qx qx1 qx2)) r) (fleetref2_PairsOf_x1_H qx qx1 qx2 s) := by
  obtain ⟨vx, vx1⟩ := s
  unfold fleetref2_PairsOf_x1 at hF
  refine awp_seq ?_
  refine awp_region ?_
  refine aR 1 ?_
  refine aE ?_
  refine awp_seq ?_
  refine cE hF (fun h1 hF => ?_) fun h1 hF => ?_
  · refine awp_true (by kernel_rfl) h1 ?_
    refine awp_skip ?_
    refine awp_seq ?_
    refine awp_to (st' := fleetref2_PairsOf_x2_I qx qx1 qx2 vx vx1) (oT [] []) ?_
    refine bE hF fun vx17_1 h15 hF => ?_
    refine awp_sub (fleetref2_PairsOf_x2_ok qx qx1 qx2 vx vx1 h15) ?_
    refine awp_region ?_
    refine aR 2 ?_
    refine aE ?_
    exact oO hF [] [] rfl
  · refine awp_false (by kernel_rfl) h1 ?_
    refine awp_exit ?_
    exact oO hF [] [] rfl

def fleetref2_PairsOf_R (qx : List api_Sample) (qx1 : List api_Sample) (qx2 : Int) (r : (List api_Pairing)) : TV × Mem := (.v (.one (.own 0 none)), ⟨[(0, ⟨108, 8, List.map api_Pairing.enc r⟩)], []⟩)

theorem fleetref2_PairsOf_ok {qx : List api_Sample} {qx1 : List api_Sample} {qx2 : Int} {r} (hF : fleetref2_PairsOf qx qx1 qx2 = some r) : Holds prog 67 [.v (.one (.d (.lst (List.map api_Sample.enc qx)))), .v (.one (.d (.lst (List.map api_Sample.enc qx1)))), .v (.one (.d (.int .i64 qx2)))] ⟨[], []⟩ (Is (fleetref2_PairsOf_R qx qx1 qx2 r)) := by
  unfold fleetref2_PairsOf at hF
  refine holds_of_awp hΓ (fn := f67) (c := cB f67) (A := 0) (nx := 0) (by kernel_rfl) (by kernel_rfl) (by kernel_rfl) (by kernel_rfl) (by kernel_rfl) (by kernel_rfl) (lowc_of (by kernel_rfl)) ?_
  show Awp prog 0 81 (cB f67) _ _
  refine awp_seq ?_
  refine awp_region ?_
  refine aR 1 ?_
  refine aE ?_
  refine awp_seq ?_
  refine awp_region ?_
  refine aR 1 ?_
  refine aE ?_
  refine awp_seq ?_
  refine awp_seq ?_
  refine awp_region ?_
  refine aR 1 ?_
  refine aL api_Sample.enc qx ?_
  refine aR 1 ?_
  refine aE ?_
  refine awp_block ?_
  refine awp_to (st' := fleetref2_PairsOf_x1_H qx qx1 qx2 ([], 0)) (oT [] [0]) ?_
  refine bE hF fun vx18_1 h16 hF => ?_
  refine awp_sub (awp_loop' (fleetref2_PairsOf_x1_H qx qx1 qx2) fleetref2_PairsOf_x1_k (fleetref2_PairsOf_x1_S qx qx1 qx2) (by intro x; exact fun h => nomatch h) h16 (fleetref2_PairsOf_x1_ok qx qx1 qx2)) ?_
  refine awp_seq ?_
  refine awp_region ?_
  refine aR 2 ?_
  refine aE ?_
  refine awp_ret ?_
  exact oF hF [] []

/-! ### beaconfleet/fleetref2.ThinOf$1 -/
def fleetref2_ThinOf_1_R (qk : Int) (qx : Int) (qx1 : Int) (r : Unit) : TV × Mem := (.v (.one (.d (.int .i64 (IntKind.wrap .i64 ((1 : Int) + (IntKind.wrap .i64 ((IntKind.wrap .i64 (qk * (IntKind.wrap .i64 (qx - 2)))).tdiv (IntKind.wrap .i64 (qx1 - 2))))))))), ⟨[], [(0, [.d (.int .i64 qx)]), (1, [.d (.int .i64 qx1)])]⟩)

theorem fleetref2_ThinOf_1_ok {qk : Int} {qx : Int} {qx1 : Int} {r} (hF : fleetref2_ThinOf_1 qk qx qx1 = some r) : Holds prog 170 [.v (.one (.d (.int .i64 qk))), .v (.one (.box 0 0)), .v (.one (.box 1 0))] ⟨[], [(0, [.d (.int .i64 qx)]), (1, [.d (.int .i64 qx1)])]⟩ (Is (fleetref2_ThinOf_1_R qk qx qx1 r)) := by
  unfold fleetref2_ThinOf_1 at hF
  refine holds_of_awp hΓ (fn := f170) (c := cB f170) (A := 2) (nx := 2) (by kernel_rfl) (by kernel_rfl) (by kernel_rfl) (by kernel_rfl) (by kernel_rfl) (by kernel_rfl) (lowc_of (by kernel_rfl)) ?_
  show Awp prog 2 13 (cB f170) _ _
  refine awp_seq ?_
  refine awp_region ?_
  refine aR 1 ?_
  refine aE ?_
  refine awp_seq ?_
  refine gE hF fun h1 hF => ?_
  refine awp_region ?_
  refine aR 6 ?_
  refine aX (x_quo h1) ?_
  refine aR 2 ?_
  refine aE ?_
  refine awp_ret ?_
  exact oF hF [] []

/-! ### beaconfleet/fleetref2.floor -/
def fleetref2_floor_R (qa : Int) (qb : Int) (r : Int) : TV × Mem := (.v (.one (.d (.int .i64 r))), ⟨[], []⟩)

theorem fleetref2_floor_ok {qa : Int} {qb : Int} {r} (hF : fleetref2_floor qa qb = some r) : Holds prog 120 [.v (.one (.d (.int .i64 qa))), .v (.one (.d (.int .i64 qb)))] ⟨[], []⟩ (Is (fleetref2_floor_R qa qb r)) := by
  unfold fleetref2_floor at hF
  refine holds_of_awp hΓ (fn := f120) (c := cB f120) (A := 0) (nx := 0) (by kernel_rfl) (by kernel_rfl) (by kernel_rfl) (by kernel_rfl) (by kernel_rfl) (by kernel_rfl) (lowc_of (by kernel_rfl)) ?_
  show Awp prog 0 16 (cB f120) _ _
  refine awp_seq ?_
  refine awp_region ?_
  refine aR 1 ?_
  refine aE ?_
  refine awp_seq ?_
  refine awp_seq ?_
  refine gE hF fun h1 hF => ?_
  refine awp_region ?_
  refine aR 2 ?_
  refine aX (x_rem h1) ?_
  refine aR 1 ?_
  refine aE ?_
  refine cE hF (fun h2 hF => ?_) fun h2 hF => ?_
  · refine awp_true (by kernel_rfl) h2 ?_
    refine awp_seq ?_
    refine awp_region ?_
    refine aR 2 ?_
    refine aX (x_quo h1) ?_
    refine aR 2 ?_
    refine aE ?_
    refine awp_ret ?_
    exact oF hF [] []
  · refine awp_false (by kernel_rfl) h2 ?_
    refine awp_skip ?_
    refine awp_seq ?_
    refine awp_region ?_
    refine aR 2 ?_
    refine aX (x_quo h1) ?_
    refine aR 1 ?_
    refine aE ?_
    refine awp_ret ?_
    exact oF hF [] []

/-! ### beaconfleet/fleetref2.ThinOf -/
def fleetref2_ThinOf_x3_k : (Int × Int) → AEx
  | _ => .exit 2

def fleetref2_ThinOf_x3_S (qx : List api_Sample) (qx1 : Int) (vx : List api_Sample) (vx1 : Int) (vy9 : api_Sample) (vl1 : List api_Sample) : (Int × Int) → St
  | (vx19, vx20) => Mem.st ⟨[(2, ⟨42, 4, List.map api_Sample.enc vx⟩)], [(0, [.d (.int .i64 qx1)]), (1, [.d (.int .i64 (qx.length : Int))]), (3, [.d (.str vy9.Device), .d (.str vy9.Metric), .d (.int .i64 vy9.At), .d (.int .i64 vy9.Value)])]⟩ (tl [(0, .v (.one (.d (.lst (List.map api_Sample.enc qx))))), (3, .v (.one (.box 0 0))), (6, .v (.one (.box 1 0))), (7, .v (.one (.fn 170 [1, 0]))), (8, .v (.one (.own 2 none))), (9, .v (.one (.d (.int .i64 vx1)))), (10, .v (.one (.box 3 0))), (11, .v (.one (.d (.lst (List.map api_Sample.enc vl1))))), (12, .v (.one (.d (.int .i64 vx19)))), (13, .v (.one (.d (.int .i64 vx20)))), (46, .v (.one (.d (.int .i64 (IntKind.wrap .i64 (qx1 - 2)))))), (47, .v (.one (.d (.int .i64 vx1))))]) 4

def fleetref2_ThinOf_x3_H (qx : List api_Sample) (qx1 : Int) (vx : List api_Sample) (vx1 : Int) (vy9 : api_Sample) (vl1 : List api_Sample) : Int × Int × Int → St
  | (vx16, vx17, vx18) => Mem.st ⟨[(2, ⟨42, 4, List.map api_Sample.enc vx⟩)], [(0, [.d (.int .i64 qx1)]), (1, [.d (.int .i64 (qx.length : Int))]), (3, [.d (.str vy9.Device), .d (.str vy9.Metric), .d (.int .i64 vy9.At), .d (.int .i64 vy9.Value)])]⟩ (tl [(0, .v (.one (.d (.lst (List.map api_Sample.enc qx))))), (3, .v (.one (.box 0 0))), (6, .v (.one (.box 1 0))), (7, .v (.one (.fn 170 [1, 0]))), (8, .v (.one (.own 2 none))), (9, .v (.one (.d (.int .i64 vx1)))), (10, .v (.one (.box 3 0))), (11, .v (.one (.d (.lst (List.map api_Sample.enc vl1))))), (12, .v (.one (.d (.int .i64 vx16)))), (13, .v (.one (.d (.int .i64 vx17)))), (46, .v (.one (.d (.int .i64 (IntKind.wrap .i64 (qx1 - 2)))))), (47, .v (.one (.d (.int .i64 vx1)))), (69, .v (.one (.d (.lst (List.map api_Sample.enc vl1))))), (70, .v (.one (.d (.int .i64 (vl1.length : Int))))), (71, .v (.one (.d (.int .i64 vx18))))]) 4

theorem fleetref2_ThinOf_x3_ok (qx : List api_Sample) (qx1 : Int) (vx : List api_Sample) (vx1 : Int) (vy9 : api_Sample) (vl1 : List api_Sample) (s : Int × Int × Int) (r : (Int × Int × Int) ⊕ ((Int × Int))) (hF : fleetref2_ThinOf_x3 vl1 s = some r) : Awp prog 0 165 (cL (cL (cR (cL (cR (cR (cL (cR (cL (cR (cR (cL (cL (cR (cR (cL (cL (cR (cL (cR (cR (cR (cR (cR (cR (cB f68)))))))))))))))))))))))))) (Out 0 (kk fleetref2_ThinOf_x3_k) (SS (fleetref2_ThinOf_x3_H qx qx1 vx vx1 vy9 vl1) (fleetref2_ThinOf_x3_S qx qx1 vx vx1 vy9 vl1)) r) (fleetref2_ThinOf_x3_H qx qx1 vx vx1 vy9 vl1 s) := by
  obtain ⟨vx16, vx17, vx18⟩ := s
  unfold fleetref2_ThinOf_x3 at hF
  refine awp_seq ?_
  refine awp_region ?_
  refine aR 1 ?_
  refine aE ?_
  refine awp_seq ?_
  refine cE hF (fun h12 hF => ?_) fun h12 hF => ?_
  · refine awp_true (by kernel_rfl) h12 ?_
    refine awp_skip ?_
    refine awp_seq ?_
    refine awp_block ?_
    refine awp_seq ?_
    refine bE hF fun vy11 h13 hF => ?_
    refine awp_region ?_
    refine aX (x_idx api_Sample.enc h13) ?_
    refine aR 3 ?_
    refine aE ?_
    refine awp_seq ?_
    refine awp_region ?_
    refine aR 5 ?_
    refine aE ?_
    refine awp_region ?_
    refine aR 5 ?_
    refine aE ?_
    refine awp_region ?_
    refine aR 2 ?_
    refine aE ?_
    exact oO hF [] [] rfl
  · refine awp_false (by kernel_rfl) h12 ?_
    refine awp_exit ?_
    exact oO hF [] [] rfl

def fleetref2_ThinOf_x2_k : api_Sample → AEx
  | _ => .normal

def fleetref2_ThinOf_x2_S (qx : List api_Sample) (qx1 : Int) (vx : List api_Sample) (vx1 : Int) (vy9 : api_Sample) : api_Sample → St
  | vx21 => Mem.st ⟨[(2, ⟨42, 4, List.map api_Sample.enc vx⟩)], [(0, [.d (.int .i64 qx1)]), (1, [.d (.int .i64 (qx.length : Int))]), (3, [.d (.str vx21.Device), .d (.str vx21.Metric), .d (.int .i64 vx21.At), .d (.int .i64 vx21.Value)])]⟩ (tl [(0, .v (.one (.d (.lst (List.map api_Sample.enc qx))))), (3, .v (.one (.box 0 0))), (6, .v (.one (.box 1 0))), (7, .v (.one (.fn 170 [1, 0]))), (8, .v (.one (.own 2 none))), (9, .v (.one (.d (.int .i64 vx1)))), (10, .v (.one (.box 3 0))), (46, .v (.one (.d (.int .i64 (IntKind.wrap .i64 (qx1 - 2)))))), (47, .v (.one (.d (.int .i64 vx1))))]) 4

def fleetref2_ThinOf_x2_I (qx : List api_Sample) (qx1 : Int) (vx : List api_Sample) (vx1 : Int) (vy9 : api_Sample) : St := Mem.st ⟨[(2, ⟨42, 4, List.map api_Sample.enc vx⟩)], [(0, [.d (.int .i64 qx1)]), (1, [.d (.int .i64 (qx.length : Int))]), (3, [.d (.str vy9.Device), .d (.str vy9.Metric), .d (.int .i64 vy9.At), .d (.int .i64 vy9.Value)])]⟩ (tl [(0, .v (.one (.d (.lst (List.map api_Sample.enc qx))))), (3, .v (.one (.box 0 0))), (6, .v (.one (.box 1 0))), (7, .v (.one (.fn 170 [1, 0]))), (8, .v (.one (.own 2 none))), (9, .v (.one (.d (.int .i64 vx1)))), (10, .v (.one (.box 3 0))), (46, .v (.one (.d (.int .i64 (IntKind.wrap .i64 (qx1 - 2)))))), (47, .v (.one (.d (.int .i64 vx1))))]) 4

theorem fleetref2_ThinOf_x2_ok (qx : List api_Sample) (qx1 : Int) (vx : List api_Sample) (vx1 : Int) (vy9 : api_Sample) {r} (hF : fleetref2_ThinOf_x2 qx qx1 vx1 vy9 = some r) : Awp prog 0 165 (cL (cR (cR (cL (cL (cR (cR (cL (cL (cR (cL (cR (cR (cR (cR (cR (cR (cB f68)))))))))))))))))) (Out 0 fleetref2_ThinOf_x2_k (fleetref2_ThinOf_x2_S qx qx1 vx vx1 vy9) r) (fleetref2_ThinOf_x2_I qx qx1 vx vx1 vy9) := by
  unfold fleetref2_ThinOf_x2 at hF
  refine awp_seq ?_
  refine awp_region ?_
  refine aR 4 ?_
  refine aE ?_
  refine cE hF (fun h8 hF => ?_) fun h8 hF => ?_
  · refine awp_true (by kernel_rfl) h8 ?_
    refine awp_seq ?_
    refine bE hF fun _ h9 hF => ?_
    refine bE hF fun _ h10 hF => ?_
    refine bE hF fun vl1 h11 hF => ?_
    refine awp_region ?_
    refine aR 4 ?_
    refine aC (fleetref2_ThinOf_1_ok h9) [(0, 1), (1, 0)] [] [] ?_
    refine aR 3 ?_
    refine aC (fleetref2_ThinOf_1_ok h10) [(0, 1), (1, 0)] [] [] ?_
    refine aX (x_slice api_Sample.enc h11) ?_
    refine aR 1 ?_
    refine aE ?_
    refine awp_seq ?_
    refine awp_region ?_
    refine aR 2 ?_
    refine aE ?_
    refine awp_seq ?_
    refine awp_seq ?_
    refine awp_region ?_
    refine aR 1 ?_
    refine aL api_Sample.enc vl1 ?_
    refine aR 1 ?_
    refine aE ?_
    refine awp_block ?_
    refine awp_to (st' := fleetref2_ThinOf_x3_H qx qx1 vx vx1 vy9 vl1 (0, 0, 0)) (oT [] []) ?_
    refine bE hF fun x h14 hF => ?_
    obtain ⟨vx19_1, vx20_1⟩ := x
    refine awp_sub (awp_loop' (fleetref2_ThinOf_x3_H qx qx1 vx vx1 vy9 vl1) fleetref2_ThinOf_x3_k (fleetref2_ThinOf_x3_S qx qx1 vx vx1 vy9 vl1) (by intro x; exact fun h => nomatch h) h14 (fleetref2_ThinOf_x3_ok qx qx1 vx vx1 vy9 vl1)) ?_
    refine bE hF fun vr3 h15 hF => ?_
    refine bE hF fun vr4 h16 hF => ?_
    refine awp_region ?_
    refine aR 2 ?_
    refine aL api_Sample.enc vl1 ?_
    refine aC (fleetref2_floor_ok h15) [] [] [] ?_
    refine aR 2 ?_
    refine aL api_Sample.enc vl1 ?_
    refine aC (fleetref2_floor_ok h16) [] [] [] ?_
    refine aR 4 ?_
    refine aE ?_
    exact oO hF [] [] rfl
  · refine awp_false (by kernel_rfl) h8 ?_
    refine awp_skip ?_
    exact oO hF [] [] rfl

def fleetref2_ThinOf_x5_k : (Int × Int) → AEx
  | _ => .normal

def fleetref2_ThinOf_x5_S (qx : List api_Sample) (qx1 : Int) (vx : List api_Sample) (vx1 : Int) (vx21_1 : api_Sample) (vy12 : api_Sample) (vx22 : Int) (vx23 : Int) (vx24 : Int) : (Int × Int) → St
  | (vx27, vx28) => Mem.st ⟨[(2, ⟨42, 4, List.map api_Sample.enc vx⟩)], [(0, [.d (.int .i64 qx1)]), (1, [.d (.int .i64 (qx.length : Int))]), (3, [.d (.str vx21_1.Device), .d (.str vx21_1.Metric), .d (.int .i64 vx21_1.At), .d (.int .i64 vx21_1.Value)]), (4, [.d (.str vy12.Device), .d (.str vy12.Metric), .d (.int .i64 vy12.At), .d (.int .i64 vy12.Value)])]⟩ (tl [(0, .v (.one (.d (.lst (List.map api_Sample.enc qx))))), (3, .v (.one (.box 0 0))), (6, .v (.one (.box 1 0))), (7, .v (.one (.fn 170 [1, 0]))), (8, .v (.one (.own 2 none))), (9, .v (.one (.d (.int .i64 vx1)))), (10, .v (.one (.box 3 0))), (16, .v (.one (.box 4 0))), (17, .v (.one (.d (.int .i64 vx27)))), (18, .v (.one (.d (.int .i64 vx28)))), (19, .v (.one (.d (.int .i64 vx24)))), (46, .v (.one (.d (.int .i64 (IntKind.wrap .i64 (qx1 - 2)))))), (47, .v (.one (.d (.int .i64 vx1))))]) 5

def fleetref2_ThinOf_x5_I (qx : List api_Sample) (qx1 : Int) (vx : List api_Sample) (vx1 : Int) (vx21_1 : api_Sample) (vy12 : api_Sample) (vx22 : Int) (vx23 : Int) (vx24 : Int) : St := Mem.st ⟨[(2, ⟨42, 4, List.map api_Sample.enc vx⟩)], [(0, [.d (.int .i64 qx1)]), (1, [.d (.int .i64 (qx.length : Int))]), (3, [.d (.str vx21_1.Device), .d (.str vx21_1.Metric), .d (.int .i64 vx21_1.At), .d (.int .i64 vx21_1.Value)]), (4, [.d (.str vy12.Device), .d (.str vy12.Metric), .d (.int .i64 vy12.At), .d (.int .i64 vy12.Value)])]⟩ (tl [(0, .v (.one (.d (.lst (List.map api_Sample.enc qx))))), (3, .v (.one (.box 0 0))), (6, .v (.one (.box 1 0))), (7, .v (.one (.fn 170 [1, 0]))), (8, .v (.one (.own 2 none))), (9, .v (.one (.d (.int .i64 vx1)))), (10, .v (.one (.box 3 0))), (16, .v (.one (.box 4 0))), (17, .v (.one (.d (.int .i64 vx22)))), (18, .v (.one (.d (.int .i64 vx23)))), (19, .v (.one (.d (.int .i64 vx24)))), (46, .v (.one (.d (.int .i64 (IntKind.wrap .i64 (qx1 - 2)))))), (47, .v (.one (.d (.int .i64 vx1))))]) 5

theorem fleetref2_ThinOf_x5_ok (qx : List api_Sample) (qx1 : Int) (vx : List api_Sample) (vx1 : Int) (vx21_1 : api_Sample) (vy12 : api_Sample) (vx22 : Int) (vx23 : Int) (vx24 : Int) {r} (hF : fleetref2_ThinOf_x5 qx vx21_1 vy12 vx22 vx23 vx24 = some r) : Awp prog 0 165 (cL (cR (cL (cL (cR (cL (cR (cR (cR (cR (cL (cL (cR (cR (cL (cL (cR (cL (cR (cR (cR (cR (cR (cR (cB f68))))))))))))))))))))))))) (Out 0 fleetref2_ThinOf_x5_k (fleetref2_ThinOf_x5_S qx qx1 vx vx1 vx21_1 vy12 vx22 vx23 vx24) r) (fleetref2_ThinOf_x5_I qx qx1 vx vx1 vx21_1 vy12 vx22 vx23 vx24) := by
  unfold fleetref2_ThinOf_x5 at hF
  refine awp_block ?_
  refine awp_seq ?_
  refine bE hF fun vy14 h22 hF => ?_
  refine aD ?_
  refine dR 2 ?_
  refine dX (x_idx api_Sample.enc h22) ?_
  refine dR 13 ?_
  refine dX (x_idx api_Sample.enc h22) ?_
  refine dR 13 ?_
  refine dE ?_
  refine awp_seq ?_
  refine awp_region ?_
  refine aR 5 ?_
  refine aE ?_
  refine awp_seq ?_
  refine awp_region ?_
  refine aR 3 ?_
  refine aE ?_
  refine cE hF (fun h23 hF => ?_) fun h23 hF => ?_
  · refine awp_true (by kernel_rfl) h23 ?_
    refine awp_region ?_
    refine aR 4 ?_
    refine aE ?_
    exact oO hF [] [] rfl
  · refine awp_false (by kernel_rfl) h23 ?_
    refine awp_skip ?_
    exact oO hF [] [] rfl

def fleetref2_ThinOf_x4_k : Int → AEx
  | _ => .exit 4

def fleetref2_ThinOf_x4_S (qx : List api_Sample) (qx1 : Int) (vx : List api_Sample) (vx1 : Int) (vx21_1 : api_Sample) (vy12 : api_Sample) : Int → St
  | vx29 => Mem.st ⟨[(2, ⟨42, 4, List.map api_Sample.enc vx⟩)], [(0, [.d (.int .i64 qx1)]), (1, [.d (.int .i64 (qx.length : Int))])]⟩ (tl [(0, .v (.one (.d (.lst (List.map api_Sample.enc qx))))), (3, .v (.one (.box 0 0))), (6, .v (.one (.box 1 0))), (7, .v (.one (.fn 170 [1, 0]))), (8, .v (.one (.own 2 none))), (17, .v (.one (.d (.int .i64 vx29)))), (46, .v (.one (.d (.int .i64 (IntKind.wrap .i64 (qx1 - 2)))))), (47, .v (.one (.d (.int .i64 vx1))))]) 3

def fleetref2_ThinOf_x4_H (qx : List api_Sample) (qx1 : Int) (vx : List api_Sample) (vx1 : Int) (vx21_1 : api_Sample) (vy12 : api_Sample) : Int × Int × Int → St
  | (vx22, vx23, vx24) => Mem.st ⟨[(2, ⟨42, 4, List.map api_Sample.enc vx⟩)], [(0, [.d (.int .i64 qx1)]), (1, [.d (.int .i64 (qx.length : Int))]), (3, [.d (.str vx21_1.Device), .d (.str vx21_1.Metric), .d (.int .i64 vx21_1.At), .d (.int .i64 vx21_1.Value)]), (4, [.d (.str vy12.Device), .d (.str vy12.Metric), .d (.int .i64 vy12.At), .d (.int .i64 vy12.Value)])]⟩ (tl [(0, .v (.one (.d (.lst (List.map api_Sample.enc qx))))), (3, .v (.one (.box 0 0))), (6, .v (.one (.box 1 0))), (7, .v (.one (.fn 170 [1, 0]))), (8, .v (.one (.own 2 none))), (9, .v (.one (.d (.int .i64 vx1)))), (10, .v (.one (.box 3 0))), (16, .v (.one (.box 4 0))), (17, .v (.one (.d (.int .i64 vx22)))), (18, .v (.one (.d (.int .i64 vx23)))), (19, .v (.one (.d (.int .i64 vx24)))), (46, .v (.one (.d (.int .i64 (IntKind.wrap .i64 (qx1 - 2)))))), (47, .v (.one (.d (.int .i64 vx1))))]) 5

theorem fleetref2_ThinOf_x4_ok (qx : List api_Sample) (qx1 : Int) (vx : List api_Sample) (vx1 : Int) (vx21_1 : api_Sample) (vy12 : api_Sample) (s : Int × Int × Int) (r : (Int × Int × Int) ⊕ (Int)) (hF : fleetref2_ThinOf_x4 qx qx1 vx1 vx21_1 vy12 s = some r) : Awp prog 0 165 (cL (cL (cR (cL (cR (cR (cR (cR (cL (cL (cR (cR (cL (cL (cR (cL (cR (cR (cR (cR (cR (cR (cB f68))))))))))))))))))))))) (Out 0 (kk fleetref2_ThinOf_x4_k) (SS (fleetref2_ThinOf_x4_H qx qx1 vx vx1 vx21_1 vy12) (fleetref2_ThinOf_x4_S qx qx1 vx vx1 vx21_1 vy12)) r) (fleetref2_ThinOf_x4_H qx qx1 vx vx1 vx21_1 vy12 s) := by
  obtain ⟨vx22, vx23, vx24⟩ := s
  unfold fleetref2_ThinOf_x4 at hF
  refine awp_seq ?_
  refine awp_seq ?_
  refine bE hF fun _ h20 hF => ?_
  refine awp_region ?_
  refine aR 4 ?_
  refine aC (fleetref2_ThinOf_1_ok h20) [(0, 1), (1, 0)] [] [] ?_
  refine aR 1 ?_
  refine aE ?_
  refine cE hF (fun h21 hF => ?_) fun h21 hF => ?_
  · refine awp_true (by kernel_rfl) h21 ?_
    refine awp_skip ?_
    refine awp_seq ?_
    refine awp_to (st' := fleetref2_ThinOf_x5_I qx qx1 vx vx1 vx21_1 vy12 vx22 vx23 vx24) (oT [] []) ?_
    refine bE hF fun x h24 hF => ?_
    obtain ⟨vx27_1, vx28_1⟩ := x
    refine awp_sub (fleetref2_ThinOf_x5_ok qx qx1 vx vx1 vx21_1 vy12 vx22 vx23 vx24 h24) ?_
    refine awp_region ?_
    refine aR 3 ?_
    refine aE ?_
    exact oO hF [] [] rfl
  · refine awp_false (by kernel_rfl) h21 ?_
    refine awp_exit ?_
    exact oO hF [] [] rfl

def fleetref2_ThinOf_x1_k : (List api_Sample) → AEx
  | _ => .exit 0

def fleetref2_ThinOf_x1_S (qx : List api_Sample) (qx1 : Int) : (List api_Sample) → St
  | vx30 => Mem.st ⟨[(1, ⟨42, 4, List.map api_Sample.enc vx30⟩)], [(0, [.d (.int .i64 (qx.length : Int))])]⟩ (tl [(0, .v (.one (.d (.lst (List.map api_Sample.enc qx))))), (6, .v (.one (.box 0 0))), (8, .v (.one (.own 1 none)))]) 2

def fleetref2_ThinOf_x1_H (qx : List api_Sample) (qx1 : Int) : (List api_Sample) × Int → St
  | (vx, vx1) => Mem.st ⟨[(2, ⟨42, 4, List.map api_Sample.enc vx⟩)], [(0, [.d (.int .i64 qx1)]), (1, [.d (.int .i64 (qx.length : Int))])]⟩ (tl [(0, .v (.one (.d (.lst (List.map api_Sample.enc qx))))), (3, .v (.one (.box 0 0))), (6, .v (.one (.box 1 0))), (7, .v (.one (.fn 170 [1, 0]))), (8, .v (.one (.own 2 none))), (46, .v (.one (.d (.int .i64 (IntKind.wrap .i64 (qx1 - 2)))))), (47, .v (.one (.d (.int .i64 vx1))))]) 3

theorem fleetref2_ThinOf_x1_ok (qx : List api_Sample) (qx1 : Int) (s : (List api_Sample) × Int) (r : ((List api_Sample) × Int) ⊕ ((List api_Sample))) (hF : fleetref2_ThinOf_x1 qx qx1 s = some r) : Awp prog 0 165 (cL (cL (cR (cL (cR (cR (cR (cR (cR (cR (cB f68))))))))))) (Out 0 (kk fleetref2_ThinOf_x1_k) (SS (fleetref2_ThinOf_x1_H qx qx1) (fleetref2_ThinOf_x1_S qx qx1)) r) (fleetref2_ThinOf_x1_H qx qx1 s) := by
  obtain ⟨vx, vx1⟩ := s
  unfold fleetref2_ThinOf_x1 at hF
  refine awp_seq ?_
  refine awp_region ?_
  refine aR 1 ?_
  refine aE ?_
  refine awp_seq ?_
  refine cE hF (fun h6 hF => ?_) fun h6 hF => ?_
  · refine awp_true (by kernel_rfl) h6 ?_
    refine awp_skip ?_
    refine awp_seq ?_
    refine awp_block ?_
    refine awp_seq ?_
    refine awp_region ?_
    refine aR 2 ?_
    refine aE ?_
    refine awp_seq ?_
    refine bE hF fun vy9 h7 hF => ?_
    refine awp_region ?_
    refine aR 3 ?_
    refine aX (x_idx api_Sample.enc h7) ?_
    refine aR 3 ?_
    refine aE ?_
    refine awp_seq ?_
    refine awp_to (st' := fleetref2_ThinOf_x2_I qx qx1 vx vx1 vy9) (oT [(3, 8003)] []) ?_
    refine bE hF fun vx21_1 h17 hF => ?_
    refine awp_sub (fleetref2_ThinOf_x2_ok qx qx1 vx vx1 vy9 h17) ?_
    refine awp_seq ?_
    refine bE hF fun vy12 h18 hF => ?_
    refine awp_region ?_
    refine aR 2 ?_
    refine aL api_Sample.enc vx ?_
    refine aR 1 ?_
    refine aX (x_idxO api_Sample.enc 2 h18) ?_
    refine aX (x_ldE api_Sample.enc h18) ?_
    refine aR 4 ?_
    refine aE ?_
    refine awp_seq ?_
    refine awp_seq ?_
    refine bE hF fun _ h19 hF => ?_
    refine awp_region ?_
    refine aR 2 ?_
    refine aC (fleetref2_ThinOf_1_ok h19) [(0, 1), (1, 0)] [] [] ?_
    refine aR 1 ?_
    refine aE ?_
    refine awp_block ?_
    refine awp_to (st' := fleetref2_ThinOf_x4_H qx qx1 vx vx1 vx21_1 vy12 ((-1), (-1), IntKind.wrap .i64 ((1 : Int) + (IntKind.wrap .i64 ((IntKind.wrap .i64 (vx1 * (IntKind.wrap .i64 ((qx.length : Int) - 2)))).tdiv (IntKind.wrap .i64 (qx1 - 2))))))) (oT [(4, 6004)] []) ?_
    refine bE hF fun vx29_1 h25 hF => ?_
    refine awp_sub (awp_loop' (fleetref2_ThinOf_x4_H qx qx1 vx vx1 vx21_1 vy12) fleetref2_ThinOf_x4_k (fleetref2_ThinOf_x4_S qx qx1 vx vx1 vx21_1 vy12) (by intro x; exact fun h => nomatch h) h25 (fleetref2_ThinOf_x4_ok qx qx1 vx vx1 vx21_1 vy12)) ?_
    refine bE hF fun vy15 h26 hF => ?_
    refine gE hF fun h27 hF => ?_
    refine awp_region ?_
    refine aR 3 ?_
    refine aX (x_idx api_Sample.enc h26) ?_
    refine aR 2 ?_
    refine aX (x_app api_Sample.enc 2 h27) ?_
    refine aR 1 ?_
    refine aE ?_
    refine awp_region ?_
    refine aR 2 ?_
    refine aE ?_
    exact oO hF [(2, 6003)] [] rfl
  · refine awp_false (by kernel_rfl) h6 ?_
    refine awp_exit ?_
    exact oO hF [(0, 1), (1, 2)] [] rfl

def fleetref2_ThinOf_R (qx : List api_Sample) (qx1 : Int) (r : (List api_Sample) × Int) : TV × Mem := (.tup [.one (.own 0 none), .one (.d (.int .i64 r.2))], ⟨[(0, ⟨42, 4, List.map api_Sample.enc r.1⟩)], []⟩)

theorem fleetref2_ThinOf_ok {qx : List api_Sample} {qx1 : Int} {r} (hF : fleetref2_ThinOf qx qx1 = some r) : Holds prog 68 [.v (.one (.d (.lst (List.map api_Sample.enc qx)))), .v (.one (.d (.int .i64 qx1)))] ⟨[], []⟩ (Is (fleetref2_ThinOf_R qx qx1 r)) := by
  unfold fleetref2_ThinOf at hF
  refine holds_of_awp hΓ (fn := f68) (c := cB f68) (A := 0) (nx := 0) (by kernel_rfl) (by kernel_rfl) (by kernel_rfl) (by kernel_rfl) (by kernel_rfl) (by kernel_rfl) (lowc_of (by kernel_rfl)) ?_
  show Awp prog 0 165 (cB f68) _ _
  refine awp_seq ?_
  refine awp_region ?_
  refine aR 3 ?_
  refine aE ?_
  refine awp_seq ?_
  refine awp_region ?_
  refine aR 1 ?_
  refine aL api_Sample.enc qx ?_
  refine aR 2 ?_
  refine aE ?_
  refine awp_seq ?_
  refine awp_seq ?_
  refine awp_region ?_
  refine aR 3 ?_
  refine aE ?_
  refine cE hF (fun h1 hF => ?_) fun h1 hF => ?_
  · refine awp_true (by kernel_rfl) h1 ?_
    refine awp_seq ?_
    refine bE hF fun vr h2 hF => ?_
    refine awp_region ?_
    refine aR 1 ?_
    refine aC (slices_Clone_api_Sample_api_Sample_ok h2) [] [] [] ?_
    refine aR 2 ?_
    refine aE ?_
    refine awp_ret ?_
    exact oF hF [(0, 11000)] []
  · refine awp_false (by kernel_rfl) h1 ?_
    refine awp_skip ?_
    refine awp_seq ?_
    refine awp_seq ?_
    refine bE hF fun vy h3 hF => ?_
    refine bE hF fun vy1 h4 hF => ?_
    refine aD ?_
    refine dR 3 ?_
    refine dX (x_idx api_Sample.enc h3) ?_
    refine dR 3 ?_
    refine dX (x_idx api_Sample.enc h4) ?_
    refine dR 4 ?_
    refine dE ?_
    refine cE hF (fun h5 hF => ?_) fun h5 hF => ?_
    · refine awp_true (by kernel_rfl) h5 ?_
      refine awp_seq ?_
      refine awp_region ?_
      refine aR 2 ?_
      refine aE ?_
      refine awp_ret ?_
      exact oF hF [] [0]
    · refine awp_false (by kernel_rfl) h5 ?_
      refine awp_skip ?_
      refine awp_seq ?_
      refine awp_region ?_
      refine aR 2 ?_
      refine aE ?_
      refine awp_seq ?_
      refine awp_region ?_
      refine aR 1 ?_
      refine aX (x_idx api_Sample.enc h4) ?_
      refine aR 3 ?_
      refine aE ?_
      refine awp_seq ?_
      refine awp_seq ?_
      refine awp_region ?_
      refine aR 3 ?_
      refine aE ?_
      refine awp_block ?_
      refine awp_to (st' := fleetref2_ThinOf_x1_H qx qx1 (([vy1] : List api_Sample), 0)) (oT [(1, 5000), (2, 27000)] []) ?_
      refine bE hF fun vx30_1 h28 hF => ?_
      refine awp_sub (awp_loop' (fleetref2_ThinOf_x1_H qx qx1) fleetref2_ThinOf_x1_k (fleetref2_ThinOf_x1_S qx qx1) (by intro x; exact fun h => nomatch h) h28 (fleetref2_ThinOf_x1_ok qx qx1)) ?_
      refine awp_seq ?_
      refine gE hF fun h29 hF => ?_
      refine awp_region ?_
      refine aR 4 ?_
      refine aX (x_idx api_Sample.enc h3) ?_
      refine aR 2 ?_
      refine aX (x_app api_Sample.enc 1 h29) ?_
      refine aR 2 ?_
      refine aE ?_
      refine awp_ret ?_
      exact oF hF [(0, 7002)] []

/-! ### slices.Equal[[]beaconfleet/api.Pairing,beaconfleet/api.Pairing] -/
def slices_Equal_api_Pairing_api_Pairing_x1_k : Unit ⊕ Unit → AEx
  | .inl _ => .exit 0
  | .inr _ => .ret

def slices_Equal_api_Pairing_api_Pairing_x1_S (qs1 : List api_Pairing) (qs2 : List api_Pairing) : Unit ⊕ Unit → St
  | .inl _ => Mem.st ⟨[], []⟩ (tl []) 0
  | .inr _ => Mem.st ⟨[], []⟩ (tl [(4, .v (.one (.d (.bool false))))]) 0

def slices_Equal_api_Pairing_api_Pairing_x1_H (qs1 : List api_Pairing) (qs2 : List api_Pairing) : Int → St
  | vx => Mem.st ⟨[], []⟩ (tl [(0, .v (.one (.d (.lst (List.map api_Pairing.enc qs1))))), (1, .v (.one (.d (.lst (List.map api_Pairing.enc qs2))))), (12, .v (.one (.d (.int .i64 (qs1.length : Int))))), (13, .v (.one (.d (.int .i64 vx))))]) 0

theorem slices_Equal_api_Pairing_api_Pairing_x1_ok (qs1 : List api_Pairing) (qs2 : List api_Pairing) (vx : Int) (r : (Int) ⊕ (Unit ⊕ Unit)) (hF : slices_Equal_api_Pairing_api_Pairing_x1 qs1 qs2 vx = some r) : Awp prog 0 26 (cL (cL (cR (cL (cR (cR (cB f69))))))) (Out 0 (kk slices_Equal_api_Pairing_api_Pairing_x1_k) (SS (slices_Equal_api_Pairing_api_Pairing_x1_H qs1 qs2) (slices_Equal_api_Pairing_api_Pairing_x1_S qs1 qs2)) r) (slices_Equal_api_Pairing_api_Pairing_x1_H qs1 qs2 vx) := by
  unfold slices_Equal_api_Pairing_api_Pairing_x1 at hF
  refine awp_seq ?_
  refine awp_region ?_
  refine aR 1 ?_
  refine aE ?_
  refine awp_seq ?_
  refine cE hF (fun h2 hF => ?_) fun h2 hF => ?_
  · refine awp_true (by kernel_rfl) h2 ?_
    refine awp_skip ?_
    refine awp_seq ?_
    refine awp_block ?_
    refine awp_seq ?_
    refine awp_region ?_
    refine aR 2 ?_
    refine aE ?_
    refine awp_seq ?_
    refine bE hF fun vy2 h3 hF => ?_
    refine bE hF fun vy3 h4 hF => ?_
    refine aD ?_
    refine dR 2 ?_
    refine dX (x_idx api_Pairing.enc h3) ?_
    refine dR 3 ?_
    refine dX (x_idx api_Pairing.enc h4) ?_
    refine dR 1 ?_
    refine dS (U := []) (stable_eqS (op := .neq) (xs := [.str vy2.A.Device, .str vy2.A.Metric, .int .i64 vy2.A.At, .int .i64 vy2.A.Value, .str vy2.B.Device, .str vy2.B.Metric, .int .i64 vy2.B.At, .int .i64 vy2.B.Value]) (ys := [.str vy3.A.Device, .str vy3.A.Metric, .int .i64 vy3.A.At, .int .i64 vy3.A.Value, .str vy3.B.Device, .str vy3.B.Metric, .int .i64 vy3.B.At, .int .i64 vy3.B.Value]) (b := ((decide (vy2.A.Device = vy3.A.Device) && (decide (vy2.A.Metric = vy3.A.Metric) && (decide (vy2.A.At = vy3.A.At) && (decide (vy2.A.Value = vy3.A.Value) && true)))) && ((decide (vy2.B.Device = vy3.B.Device) && (decide (vy2.B.Metric = vy3.B.Metric) && (decide (vy2.B.At = vy3.B.At) && (decide (vy2.B.Value = vy3.B.Value) && true)))) && true))) (c := (!((decide (vy2.A.Device = vy3.A.Device) && (decide (vy2.A.Metric = vy3.A.Metric) && (decide (vy2.A.At = vy3.A.At) && (decide (vy2.A.Value = vy3.A.Value) && true)))) && ((decide (vy2.B.Device = vy3.B.Device) && (decide (vy2.B.Metric = vy3.B.Metric) && (decide (vy2.B.At = vy3.B.At) && (decide (vy2.B.Value = vy3.B.Value) && true)))) && true)))) rfl (.inr ⟨rfl, rfl⟩) (by kernel_rfl) (by kernel_rfl) (by kernel_rfl) (by kernel_rfl) (by kernel_rfl) (by kernel_rfl)) ?_
    refine dE ?_
    refine cE hF (fun h5 hF => ?_) fun h5 hF => ?_
    · refine awp_true (by kernel_rfl) h5 ?_
      refine awp_seq ?_
      refine awp_region ?_
      refine aR 1 ?_
      refine aE ?_
      refine awp_ret ?_
      exact oO hF [] [] rfl
    · refine awp_false (by kernel_rfl) h5 ?_
      refine awp_skip ?_
      refine awp_region ?_
      refine aR 2 ?_
      refine aE ?_
      exact oO hF [] [] rfl
  · refine awp_false (by kernel_rfl) h2 ?_
    refine awp_exit ?_
    exact oO hF [] [] rfl

def slices_Equal_api_Pairing_api_Pairing_R (qs1 : List api_Pairing) (qs2 : List api_Pairing) (r : Bool) : TV × Mem := (.v (.one (.d (.bool r))), ⟨[], []⟩)

theorem slices_Equal_api_Pairing_api_Pairing_ok {qs1 : List api_Pairing} {qs2 : List api_Pairing} {r} (hF : slices_Equal_api_Pairing_api_Pairing qs1 qs2 = some r) : Holds prog 69 [.v (.one (.d (.lst (List.map api_Pairing.enc qs1)))), .v (.one (.d (.lst (List.map api_Pairing.enc qs2))))] ⟨[], []⟩ (Is (slices_Equal_api_Pairing_api_Pairing_R qs1 qs2 r)) := by
  unfold slices_Equal_api_Pairing_api_Pairing at hF
  refine holds_of_awp hΓ (fn := f69) (c := cB f69) (A := 0) (nx := 0) (by kernel_rfl) (by kernel_rfl) (by kernel_rfl) (by kernel_rfl) (by kernel_rfl) (by kernel_rfl) (lowc_of (by kernel_rfl)) ?_
  show Awp prog 0 26 (cB f69) _ _
  refine awp_seq ?_
  refine awp_region ?_
  refine aR 1 ?_
  refine aE ?_
  refine awp_seq ?_
  refine awp_seq ?_
  refine awp_region ?_
  refine aR 1 ?_
  refine aL api_Pairing.enc qs1 ?_
  refine aR 1 ?_
  refine aL api_Pairing.enc qs2 ?_
  refine aR 1 ?_
  refine aE ?_
  refine cE hF (fun h1 hF => ?_) fun h1 hF => ?_
  · refine awp_true (by kernel_rfl) h1 ?_
    refine awp_seq ?_
    refine awp_region ?_
    refine aR 1 ?_
    refine aE ?_
    refine awp_ret ?_
    exact oF hF [] []
  · refine awp_false (by kernel_rfl) h1 ?_
    refine awp_skip ?_
    refine awp_seq ?_
    refine awp_seq ?_
    refine awp_region ?_
    refine aR 1 ?_
    refine aL api_Pairing.enc qs1 ?_
    refine aR 1 ?_
    refine aE ?_
    refine awp_block ?_
    refine awp_to (st' := slices_Equal_api_Pairing_api_Pairing_x1_H qs1 qs2 0) (oT [] []) ?_
    refine bE hF fun x h6 hF => ?_
    rcases x with _ | _
    · refine awp_sub (awp_loop' (slices_Equal_api_Pairing_api_Pairing_x1_H qs1 qs2) slices_Equal_api_Pairing_api_Pairing_x1_k (slices_Equal_api_Pairing_api_Pairing_x1_S qs1 qs2) (by intro x; rcases x with x | x <;> exact fun h => nomatch h) h6 (slices_Equal_api_Pairing_api_Pairing_x1_ok qs1 qs2)) ?_
      refine awp_seq ?_
      refine awp_region ?_
      refine aR 1 ?_
      refine aE ?_
      refine awp_ret ?_
      exact oF hF [] []
    · refine awp_sub (awp_loop' (slices_Equal_api_Pairing_api_Pairing_x1_H qs1 qs2) slices_Equal_api_Pairing_api_Pairing_x1_k (slices_Equal_api_Pairing_api_Pairing_x1_S qs1 qs2) (by intro x; rcases x with x | x <;> exact fun h => nomatch h) h6 (slices_Equal_api_Pairing_api_Pairing_x1_ok qs1 qs2)) ?_
      exact oF hF [] []

/-! ### slices.Equal[[]beaconfleet/api.Sample,beaconfleet/api.Sample] -/
def slices_Equal_api_Sample_api_Sample_x1_k : Unit ⊕ Unit → AEx
  | .inl _ => .exit 0
  | .inr _ => .ret

def slices_Equal_api_Sample_api_Sample_x1_S (qs1 : List api_Sample) (qs2 : List api_Sample) : Unit ⊕ Unit → St
  | .inl _ => Mem.st ⟨[], []⟩ (tl []) 0
  | .inr _ => Mem.st ⟨[], []⟩ (tl [(4, .v (.one (.d (.bool false))))]) 0

def slices_Equal_api_Sample_api_Sample_x1_H (qs1 : List api_Sample) (qs2 : List api_Sample) : Int → St
  | vx => Mem.st ⟨[], []⟩ (tl [(0, .v (.one (.d (.lst (List.map api_Sample.enc qs1))))), (1, .v (.one (.d (.lst (List.map api_Sample.enc qs2))))), (12, .v (.one (.d (.int .i64 (qs1.length : Int))))), (13, .v (.one (.d (.int .i64 vx))))]) 0

theorem slices_Equal_api_Sample_api_Sample_x1_ok (qs1 : List api_Sample) (qs2 : List api_Sample) (vx : Int) (r : (Int) ⊕ (Unit ⊕ Unit)) (hF : slices_Equal_api_Sample_api_Sample_x1 qs1 qs2 vx = some r) : Awp prog 0 26 (cL (cL (cR (cL (cR (cR (cB f25))))))) (Out 0 (kk slices_Equal_api_Sample_api_Sample_x1_k) (SS (slices_Equal_api_Sample_api_Sample_x1_H qs1 qs2) (slices_Equal_api_Sample_api_Sample_x1_S qs1 qs2)) r) (slices_Equal_api_Sample_api_Sample_x1_H qs1 qs2 vx) := by
  unfold slices_Equal_api_Sample_api_Sample_x1 at hF
  refine awp_seq ?_
  refine awp_region ?_
  refine aR 1 ?_
  refine aE ?_
  refine awp_seq ?_
  refine cE hF (fun h2 hF => ?_) fun h2 hF => ?_
  · refine awp_true (by kernel_rfl) h2 ?_
    refine awp_skip ?_
    refine awp_seq ?_
    refine awp_block ?_
    refine awp_seq ?_
    refine awp_region ?_
    refine aR 2 ?_
    refine aE ?_
    refine awp_seq ?_
    refine bE hF fun vy2 h3 hF => ?_
    refine bE hF fun vy3 h4 hF => ?_
    refine aD ?_
    refine dR 2 ?_
    refine dX (x_idx api_Sample.enc h3) ?_
    refine dR 3 ?_
    refine dX (x_idx api_Sample.enc h4) ?_
    refine dR 1 ?_
    refine dS (U := []) (stable_eqS (op := .neq) (xs := [.str vy2.Device, .str vy2.Metric, .int .i64 vy2.At, .int .i64 vy2.Value]) (ys := [.str vy3.Device, .str vy3.Metric, .int .i64 vy3.At, .int .i64 vy3.Value]) (b := (decide (vy2.Device = vy3.Device) && (decide (vy2.Metric = vy3.Metric) && (decide (vy2.At = vy3.At) && (decide (vy2.Value = vy3.Value) && true))))) (c := (!(decide (vy2.Device = vy3.Device) && (decide (vy2.Metric = vy3.Metric) && (decide (vy2.At = vy3.At) && (decide (vy2.Value = vy3.Value) && true)))))) rfl (.inr ⟨rfl, rfl⟩) (by kernel_rfl) (by kernel_rfl) (by kernel_rfl) (by kernel_rfl) (by kernel_rfl) (by kernel_rfl)) ?_
    refine dE ?_
    refine cE hF (fun h5 hF => ?_) fun h5 hF => ?_
    · refine awp_true (by kernel_rfl) h5 ?_
      refine awp_seq ?_
      refine awp_region ?_
      refine aR 1 ?_
      refine aE ?_
      refine awp_ret ?_
      exact oO hF [] [] rfl
    · refine awp_false (by kernel_rfl) h5 ?_
      refine awp_skip ?_
      refine awp_region ?_
      refine aR 2 ?_
      refine aE ?_
      exact oO hF [] [] rfl
  · refine awp_false (by kernel_rfl) h2 ?_
    refine awp_exit ?_
    exact oO hF [] [] rfl

def slices_Equal_api_Sample_api_Sample_R (qs1 : List api_Sample) (qs2 : List api_Sample) (r : Bool) : TV × Mem := (.v (.one (.d (.bool r))), ⟨[], []⟩)

theorem slices_Equal_api_Sample_api_Sample_ok {qs1 : List api_Sample} {qs2 : List api_Sample} {r} (hF : slices_Equal_api_Sample_api_Sample qs1 qs2 = some r) : Holds prog 25 [.v (.one (.d (.lst (List.map api_Sample.enc qs1)))), .v (.one (.d (.lst (List.map api_Sample.enc qs2))))] ⟨[], []⟩ (Is (slices_Equal_api_Sample_api_Sample_R qs1 qs2 r)) := by
  unfold slices_Equal_api_Sample_api_Sample at hF
  refine holds_of_awp hΓ (fn := f25) (c := cB f25) (A := 0) (nx := 0) (by kernel_rfl) (by kernel_rfl) (by kernel_rfl) (by kernel_rfl) (by kernel_rfl) (by kernel_rfl) (lowc_of (by kernel_rfl)) ?_
  show Awp prog 0 26 (cB f25) _ _
  refine awp_seq ?_
  refine awp_region ?_
  refine aR 1 ?_
  refine aE ?_
  refine awp_seq ?_
  refine awp_seq ?_
  refine awp_region ?_
  refine aR 1 ?_
  refine aL api_Sample.enc qs1 ?_
  refine aR 1 ?_
  refine aL api_Sample.enc qs2 ?_
  refine aR 1 ?_
  refine aE ?_
  refine cE hF (fun h1 hF => ?_) fun h1 hF => ?_
  · refine awp_true (by kernel_rfl) h1 ?_
    refine awp_seq ?_
    refine awp_region ?_
    refine aR 1 ?_
    refine aE ?_
    refine awp_ret ?_
    exact oF hF [] []
  · refine awp_false (by kernel_rfl) h1 ?_
    refine awp_skip ?_
    refine awp_seq ?_
    refine awp_seq ?_
    refine awp_region ?_
    refine aR 1 ?_
    refine aL api_Sample.enc qs1 ?_
    refine aR 1 ?_
    refine aE ?_
    refine awp_block ?_
    refine awp_to (st' := slices_Equal_api_Sample_api_Sample_x1_H qs1 qs2 0) (oT [] []) ?_
    refine bE hF fun x h6 hF => ?_
    rcases x with _ | _
    · refine awp_sub (awp_loop' (slices_Equal_api_Sample_api_Sample_x1_H qs1 qs2) slices_Equal_api_Sample_api_Sample_x1_k (slices_Equal_api_Sample_api_Sample_x1_S qs1 qs2) (by intro x; rcases x with x | x <;> exact fun h => nomatch h) h6 (slices_Equal_api_Sample_api_Sample_x1_ok qs1 qs2)) ?_
      refine awp_seq ?_
      refine awp_region ?_
      refine aR 1 ?_
      refine aE ?_
      refine awp_ret ?_
      exact oF hF [] []
    · refine awp_sub (awp_loop' (slices_Equal_api_Sample_api_Sample_x1_H qs1 qs2) slices_Equal_api_Sample_api_Sample_x1_k (slices_Equal_api_Sample_api_Sample_x1_S qs1 qs2) (by intro x; rcases x with x | x <;> exact fun h => nomatch h) h6 (slices_Equal_api_Sample_api_Sample_x1_ok qs1 qs2)) ?_
      exact oF hF [] []

/-! ### beaconfleet/series.seven -/
def series_seven_n0_x1_k : ((List Int) × Int) → AEx
  | _ => .exit 0

def series_seven_n0_x1_S : ((List Int) × Int) → St
  | (vb1, vn1) => Mem.st ⟨[(0, ⟨5, 1, List.map (encI .u8) vb1⟩)], []⟩ (tl [(0, .v (.one (.own 0 none))), (1, .v (.one (.d (.int .u64 vn1))))]) 1

def series_seven_n0_x1_H : (List Int) × Int → St
  | (vb, vn) => Mem.st ⟨[(0, ⟨5, 1, List.map (encI .u8) vb⟩)], []⟩ (tl [(0, .v (.one (.own 0 none))), (1, .v (.one (.d (.int .u64 vn))))]) 1

theorem series_seven_n0_x1_ok (s : (List Int) × Int) (r : ((List Int) × Int) ⊕ (((List Int) × Int))) (hF : series_seven_n0_x1  s = some r) : Awp prog 0 21 (cL (cL (cL (cR (cB f213))))) (Out 0 (kk series_seven_n0_x1_k) (SS (series_seven_n0_x1_H ) (series_seven_n0_x1_S )) r) (series_seven_n0_x1_H  s) := by
  obtain ⟨vb, vn⟩ := s
  unfold series_seven_n0_x1 at hF
  refine awp_seq ?_
  refine awp_seq ?_
  refine awp_region ?_
  refine aR 2 ?_
  refine aE ?_
  refine cE hF (fun h1 hF => ?_) fun h1 hF => ?_
  · refine awp_true (by kernel_rfl) h1 ?_
    refine awp_skip ?_
    refine awp_block ?_
    refine gE hF fun h2 hF => ?_
    refine awp_region ?_
    refine aR 6 ?_
    refine aX (x_app (encI .u8) 0 h2) ?_
    refine aR 4 ?_
    refine aE ?_
    exact oO hF [(0, 8001)] [] rfl
  · refine awp_false (by kernel_rfl) h1 ?_
    refine awp_exit ?_
    exact oO hF [] [] rfl

def series_seven_n0_R (qn : Int) (r : (List Int)) : TV × Mem := (.v (.one (.own 0 none)), ⟨[(0, ⟨5, 1, List.map (encI .u8) r⟩)], []⟩)

theorem series_seven_n0_ok {qn : Int} {r} (hF : series_seven_n0 qn = some r) : Holds prog 213 [.v (.one (.nil)), .v (.one (.d (.int .u64 qn)))] ⟨[], []⟩ (Is (series_seven_n0_R qn r)) := by
  unfold series_seven_n0 at hF
  refine holds_of_awp hΓ (fn := f213) (c := cB f213) (A := 0) (nx := 0) (by kernel_rfl) (by kernel_rfl) (by kernel_rfl) (by kernel_rfl) (by kernel_rfl) (by kernel_rfl) (lowc_of (by kernel_rfl)) ?_
  show Awp prog 0 21 (cB f213) _ _
  refine awp_seq ?_
  refine awp_region ?_
  refine aR 1 ?_
  refine aE ?_
  refine awp_seq ?_
  refine awp_block ?_
  refine awp_to (st' := series_seven_n0_x1_H  ([], qn)) (oT [] [0]) ?_
  refine bE hF fun x h3 hF => ?_
  obtain ⟨vb1_1, vn1_1⟩ := x
  refine awp_sub (awp_loop' (series_seven_n0_x1_H ) series_seven_n0_x1_k (series_seven_n0_x1_S ) (by intro x; exact fun h => nomatch h) h3 (series_seven_n0_x1_ok )) ?_
  refine awp_seq ?_
  refine gE hF fun h4 hF => ?_
  refine awp_region ?_
  refine aR 4 ?_
  refine aX (x_app (encI .u8) 0 h4) ?_
  refine aR 1 ?_
  refine aE ?_
  refine awp_ret ?_
  exact oF hF [(0, 4001)] []

/-! ### beaconfleet/series.doubled -/
def series_doubled_R (qn : Int) (r : Int) : TV × Mem := (.v (.one (.d (.int .u64 r))), ⟨[], []⟩)

theorem series_doubled_ok {qn : Int} {r} (hF : series_doubled qn = some r) : Holds prog 214 [.v (.one (.d (.int .i64 qn)))] ⟨[], []⟩ (Is (series_doubled_R qn r)) := by
  unfold series_doubled at hF
  refine holds_of_awp hΓ (fn := f214) (c := cB f214) (A := 0) (nx := 0) (by kernel_rfl) (by kernel_rfl) (by kernel_rfl) (by kernel_rfl) (by kernel_rfl) (by kernel_rfl) (lowc_of (by kernel_rfl)) ?_
  show Awp prog 0 12 (cB f214) _ _
  refine awp_seq ?_
  refine awp_region ?_
  refine aR 1 ?_
  refine aE ?_
  refine awp_seq ?_
  refine awp_seq ?_
  refine awp_region ?_
  refine aR 2 ?_
  refine aE ?_
  refine cE hF (fun h1 hF => ?_) fun h1 hF => ?_
  · refine awp_true (by kernel_rfl) h1 ?_
    refine awp_seq ?_
    refine awp_region ?_
    refine aR 5 ?_
    refine aE ?_
    refine awp_ret ?_
    exact oF hF [] []
  · refine awp_false (by kernel_rfl) h1 ?_
    refine awp_skip ?_
    refine awp_seq ?_
    refine awp_region ?_
    refine aR 4 ?_
    refine aE ?_
    refine awp_ret ?_
    exact oF hF [] []

/-! ### beaconfleet/series.seven -/
def series_seven_o0_x1_k : ((List Int) × Int) → AEx
  | _ => .exit 0

def series_seven_o0_x1_S : ((List Int) × Int) → St
  | (vb1, vn1) => Mem.st ⟨[(0, ⟨5, 1, List.map (encI .u8) vb1⟩)], []⟩ (tl [(0, .v (.one (.own 0 none))), (1, .v (.one (.d (.int .u64 vn1))))]) 1

def series_seven_o0_x1_H : (List Int) × Int → St
  | (vb, vn) => Mem.st ⟨[(0, ⟨5, 1, List.map (encI .u8) vb⟩)], []⟩ (tl [(0, .v (.one (.own 0 none))), (1, .v (.one (.d (.int .u64 vn))))]) 1

theorem series_seven_o0_x1_ok (s : (List Int) × Int) (r : ((List Int) × Int) ⊕ (((List Int) × Int))) (hF : series_seven_o0_x1  s = some r) : Awp prog 0 21 (cL (cL (cL (cR (cB f213))))) (Out 0 (kk series_seven_o0_x1_k) (SS (series_seven_o0_x1_H ) (series_seven_o0_x1_S )) r) (series_seven_o0_x1_H  s) := by
  obtain ⟨vb, vn⟩ := s
  unfold series_seven_o0_x1 at hF
  refine awp_seq ?_
  refine awp_seq ?_
  refine awp_region ?_
  refine aR 2 ?_
  refine aE ?_
  refine cE hF (fun h1 hF => ?_) fun h1 hF => ?_
  · refine awp_true (by kernel_rfl) h1 ?_
    refine awp_skip ?_
    refine awp_block ?_
    refine gE hF fun h2 hF => ?_
    refine awp_region ?_
    refine aR 6 ?_
    refine aX (x_app (encI .u8) 0 h2) ?_
    refine aR 4 ?_
    refine aE ?_
    exact oO hF [(0, 8001)] [] rfl
  · refine awp_false (by kernel_rfl) h1 ?_
    refine awp_exit ?_
    exact oO hF [] [] rfl

def series_seven_o0_R (qb : List Int) (qn : Int) (r : (List Int)) : TV × Mem := (.v (.one (.own 0 none)), ⟨[(0, ⟨5, 1, List.map (encI .u8) r⟩)], []⟩)

theorem series_seven_o0_ok {qb : List Int} {qn : Int} {r} (hF : series_seven_o0 qb qn = some r) : Holds prog 213 [.v (.one (.own 0 none)), .v (.one (.d (.int .u64 qn)))] ⟨[(0, ⟨5, 1, List.map (encI .u8) qb⟩)], []⟩ (Is (series_seven_o0_R qb qn r)) := by
  unfold series_seven_o0 at hF
  refine holds_of_awp hΓ (fn := f213) (c := cB f213) (A := 0) (nx := 1) (by kernel_rfl) (by kernel_rfl) (by kernel_rfl) (by kernel_rfl) (by kernel_rfl) (by kernel_rfl) (lowc_of (by kernel_rfl)) ?_
  show Awp prog 0 21 (cB f213) _ _
  refine awp_seq ?_
  refine awp_region ?_
  refine aR 1 ?_
  refine aE ?_
  refine awp_seq ?_
  refine awp_block ?_
  refine awp_to (st' := series_seven_o0_x1_H  (qb, qn)) (oT [] []) ?_
  refine bE hF fun x h3 hF => ?_
  obtain ⟨vb1_1, vn1_1⟩ := x
  refine awp_sub (awp_loop' (series_seven_o0_x1_H ) series_seven_o0_x1_k (series_seven_o0_x1_S ) (by intro x; exact fun h => nomatch h) h3 (series_seven_o0_x1_ok )) ?_
  refine awp_seq ?_
  refine gE hF fun h4 hF => ?_
  refine awp_region ?_
  refine aR 4 ?_
  refine aX (x_app (encI .u8) 0 h4) ?_
  refine aR 1 ?_
  refine aE ?_
  refine awp_ret ?_
  exact oF hF [(0, 4001)] []

/-! ### beaconfleet/series.pack -/
def series_pack_x2_k : Int → AEx
  | _ => .normal

def series_pack_x2_S (ql : List api_Sample) (vat : Int) (vby : Int) (vx : Int) (vy1 : api_Sample) (vr8 : List Int) : Int → St
  | vby2 => Mem.st ⟨[(0, ⟨5, 1, List.map (encI .u8) vr8⟩)], [(1, [.d (.str vy1.Device), .d (.str vy1.Metric), .d (.int .i64 vy1.At), .d (.int .i64 vy1.Value)])]⟩ (tl [(3, .v (.one (.own 0 none))), (5, .v (.one (.d (.int .i64 vby2)))), (8, .v (.one (.box 1 0))), (14, .v (.one (.d (.lst (List.map api_Sample.enc ql))))), (15, .v (.one (.d (.int .i64 (ql.length : Int))))), (16, .v (.one (.d (.int .i64 vx))))]) 2

def series_pack_x2_I (ql : List api_Sample) (vat : Int) (vby : Int) (vx : Int) (vy1 : api_Sample) (vr8 : List Int) : St := Mem.st ⟨[(0, ⟨5, 1, List.map (encI .u8) vr8⟩)], [(1, [.d (.str vy1.Device), .d (.str vy1.Metric), .d (.int .i64 vy1.At), .d (.int .i64 vy1.Value)])]⟩ (tl [(3, .v (.one (.own 0 none))), (5, .v (.one (.d (.int .i64 vby)))), (7, .v (.one (.d (.int .i64 vx)))), (8, .v (.one (.box 1 0))), (9, .v (.one (.d (.int .i64 (IntKind.wrap .i64 (vy1.At - vat)))))), (14, .v (.one (.d (.lst (List.map api_Sample.enc ql))))), (15, .v (.one (.d (.int .i64 (ql.length : Int))))), (16, .v (.one (.d (.int .i64 vx))))]) 2

theorem series_pack_x2_ok (ql : List api_Sample) (vat : Int) (vby : Int) (vx : Int) (vy1 : api_Sample) (vr8 : List Int) {r} (hF : series_pack_x2 vat vby vx vy1 = some r) : Awp prog 0 47 (cL (cR (cR (cR (cR (cL (cL (cR (cR (cL (cL (cR (cL (cR (cR (cR (cB f123))))))))))))))))) (Out 0 series_pack_x2_k (series_pack_x2_S ql vat vby vx vy1 vr8) r) (series_pack_x2_I ql vat vby vx vy1 vr8) := by
  unfold series_pack_x2 at hF
  refine awp_seq ?_
  refine awp_region ?_
  refine aR 2 ?_
  refine aE ?_
  refine cE hF (fun h8 hF => ?_) fun h8 hF => ?_
  · refine awp_true (by kernel_rfl) h8 ?_
    refine awp_region ?_
    refine aR 2 ?_
    refine aE ?_
    exact oO hF [] [] rfl
  · refine awp_false (by kernel_rfl) h8 ?_
    refine awp_skip ?_
    exact oO hF [] [] rfl

def series_pack_x1_k : (List Int) → AEx
  | _ => .exit 0

def series_pack_x1_S (ql : List api_Sample) : (List Int) → St
  | vout1 => Mem.st ⟨[(0, ⟨5, 1, List.map (encI .u8) vout1⟩)], []⟩ (tl [(3, .v (.one (.own 0 none)))]) 1

def series_pack_x1_H (ql : List api_Sample) : (List Int) × Int × Int × Int × Int → St
  | (vout, vat, vby, vvalue, vx) => Mem.st ⟨[(0, ⟨5, 1, List.map (encI .u8) vout⟩)], []⟩ (tl [(3, .v (.one (.own 0 none))), (4, .v (.one (.d (.int .i64 vat)))), (5, .v (.one (.d (.int .i64 vby)))), (6, .v (.one (.d (.int .i64 vvalue)))), (14, .v (.one (.d (.lst (List.map api_Sample.enc ql))))), (15, .v (.one (.d (.int .i64 (ql.length : Int))))), (16, .v (.one (.d (.int .i64 vx))))]) 1

theorem series_pack_x1_ok (ql : List api_Sample) (s : (List Int) × Int × Int × Int × Int) (r : ((List Int) × Int × Int × Int × Int) ⊕ ((List Int))) (hF : series_pack_x1 ql s = some r) : Awp prog 0 47 (cL (cL (cR (cL (cR (cR (cR (cB f123)))))))) (Out 0 (kk series_pack_x1_k) (SS (series_pack_x1_H ql) (series_pack_x1_S ql)) r) (series_pack_x1_H ql s) := by
  obtain ⟨vout, vat, vby, vvalue, vx⟩ := s
  unfold series_pack_x1 at hF
  refine awp_seq ?_
  refine awp_region ?_
  refine aR 1 ?_
  refine aE ?_
  refine awp_seq ?_
  refine cE hF (fun h2 hF => ?_) fun h2 hF => ?_
  · refine awp_true (by kernel_rfl) h2 ?_
    refine awp_skip ?_
    refine awp_seq ?_
    refine awp_block ?_
    refine awp_seq ?_
    refine bE hF fun vy1 h3 hF => ?_
    refine awp_region ?_
    refine aR 1 ?_
    refine aX (x_idx api_Sample.enc h3) ?_
    refine aR 4 ?_
    refine aE ?_
    refine awp_seq ?_
    refine awp_region ?_
    refine aR 5 ?_
    refine aE ?_
    refine awp_seq ?_
    refine bE hF fun vr5 h4 hF => ?_
    refine bE hF fun vr6 h5 hF => ?_
    refine awp_region ?_
    refine aR 4 ?_
    refine aC (series_doubled_ok h4) [] [] [] ?_
    refine aC (series_seven_o0_ok h5) [] [] [] ?_
    refine aR 1 ?_
    refine aE ?_
    refine awp_seq ?_
    refine bE hF fun vr7 h6 hF => ?_
    refine bE hF fun vr8 h7 hF => ?_
    refine awp_region ?_
    refine aR 5 ?_
    refine aC (series_doubled_ok h6) [] [] [] ?_
    refine aC (series_seven_o0_ok h7) [(0, 17001)] [] [] ?_
    refine aR 1 ?_
    refine aE ?_
    refine awp_seq ?_
    refine awp_to (st' := series_pack_x2_I ql vat vby vx vy1 vr8) (oT [(0, 25001), (1, 4001)] []) ?_
    refine bE hF fun vby2_1 h9 hF => ?_
    refine awp_sub (series_pack_x2_ok ql vat vby vx vy1 vr8 h9) ?_
    refine aD ?_
    refine dR 6 ?_
    refine dE ?_
    refine awp_region ?_
    refine aR 2 ?_
    refine aE ?_
    exact oO hF [] [] rfl
  · refine awp_false (by kernel_rfl) h2 ?_
    refine awp_exit ?_
    exact oO hF [] [] rfl

def series_pack_R (ql : List api_Sample) (r : (List Int)) : TV × Mem := (.v (.one (.own 0 none)), ⟨[(0, ⟨5, 1, List.map (encI .u8) r⟩)], []⟩)

theorem series_pack_ok {ql : List api_Sample} {r} (hF : series_pack ql = some r) : Holds prog 123 [.v (.one (.d (.lst (List.map api_Sample.enc ql))))] ⟨[], []⟩ (Is (series_pack_R ql r)) := by
  unfold series_pack at hF
  refine holds_of_awp hΓ (fn := f123) (c := cB f123) (A := 0) (nx := 0) (by kernel_rfl) (by kernel_rfl) (by kernel_rfl) (by kernel_rfl) (by kernel_rfl) (by kernel_rfl) (lowc_of (by kernel_rfl)) ?_
  show Awp prog 0 47 (cB f123) _ _
  refine awp_seq ?_
  refine awp_region ?_
  refine aR 1 ?_
  refine aE ?_
  refine awp_seq ?_
  refine bE hF fun vr h1 hF => ?_
  refine awp_region ?_
  refine aR 1 ?_
  refine aL api_Sample.enc ql ?_
  refine aR 1 ?_
  refine aC (series_seven_n0_ok h1) [] [] [] ?_
  refine aR 1 ?_
  refine aE ?_
  refine awp_seq ?_
  refine awp_region ?_
  refine aR 3 ?_
  refine aE ?_
  refine awp_seq ?_
  refine awp_seq ?_
  refine awp_region ?_
  refine aR 1 ?_
  refine aL api_Sample.enc ql ?_
  refine aR 1 ?_
  refine aE ?_
  refine awp_block ?_
  refine awp_to (st' := series_pack_x1_H ql (vr, 0, 0, 0, 0)) (oT [(0, 4000)] []) ?_
  refine bE hF fun vout1_1 h10 hF => ?_
  refine awp_sub (awp_loop' (series_pack_x1_H ql) series_pack_x1_k (series_pack_x1_S ql) (by intro x; exact fun h => nomatch h) h10 (series_pack_x1_ok ql)) ?_
  refine awp_seq ?_
  refine awp_region ?_
  refine aR 2 ?_
  refine aE ?_
  refine awp_ret ?_
  exact oF hF [] []

/-! ### beaconfleet/series.Pack -/
def series_Pack_o0_R (ql : List api_Sample) (r : (List Int) × Int) : TV × Mem := (.tup [.one (.own 0 none), .one (.d (.int .i64 r.2))], ⟨[(0, ⟨5, 1, List.map (encI .u8) r.1⟩)], []⟩)

theorem series_Pack_o0_ok {ql : List api_Sample} {r} (hF : series_Pack_o0 ql = some r) : Holds prog 29 [.v (.one (.own 0 none))] ⟨[(0, ⟨42, 4, List.map api_Sample.enc ql⟩)], []⟩ (Is (series_Pack_o0_R ql r)) := by
  unfold series_Pack_o0 at hF
  refine holds_of_awp hΓ (fn := f29) (c := cB f29) (A := 0) (nx := 1) (by kernel_rfl) (by kernel_rfl) (by kernel_rfl) (by kernel_rfl) (by kernel_rfl) (by kernel_rfl) (lowc_of (by kernel_rfl)) ?_
  show Awp prog 0 12 (cB f29) _ _
  refine awp_seq ?_
  refine awp_region ?_
  refine aR 2 ?_
  refine aE ?_
  refine awp_to (oT (m := ⟨[], []⟩) (ts := [(0, .v (.one (.d (.lst (List.map api_Sample.enc ql)))))]) (nx := 0) [] []) ?_
  refine awp_seq ?_
  refine awp_seq ?_
  refine bE hF fun vr1 h1 hF => ?_
  refine awp_region ?_
  refine aR 1 ?_
  refine aC (series_CheckSeries_ok h1) [] [] [] ?_
  refine aR 1 ?_
  refine aE ?_
  refine awp_seq ?_
  refine awp_region ?_
  refine aR 2 ?_
  refine aE ?_
  refine cE hF (fun h2 hF => ?_) fun h2 hF => ?_
  · refine awp_true (by kernel_rfl) h2 ?_
    refine awp_seq ?_
    refine awp_region ?_
    refine aR 3 ?_
    refine aE ?_
    refine awp_ret ?_
    exact oF hF [] [0]
  · refine awp_false (by kernel_rfl) h2 ?_
    refine awp_skip ?_
    refine awp_seq ?_
    refine bE hF fun vr9 h3 hF => ?_
    refine awp_region ?_
    refine aR 1 ?_
    refine aC (series_pack_ok h3) [] [] [] ?_
    refine aR 2 ?_
    refine aE ?_
    refine awp_ret ?_
    exact oF hF [(0, 6000)] []

/-! ### slices.Equal[[]byte,byte] -/
def slices_Equal_byte_byte_x1_k : Unit ⊕ Unit → AEx
  | .inl _ => .exit 0
  | .inr _ => .ret

def slices_Equal_byte_byte_x1_S (qs1 : List Int) (qs2 : List Int) : Unit ⊕ Unit → St
  | .inl _ => Mem.st ⟨[], []⟩ (tl []) 0
  | .inr _ => Mem.st ⟨[], []⟩ (tl [(4, .v (.one (.d (.bool false))))]) 0

def slices_Equal_byte_byte_x1_H (qs1 : List Int) (qs2 : List Int) : Int → St
  | vx => Mem.st ⟨[], []⟩ (tl [(0, .v (.one (.d (.lst (List.map (encI .u8) qs1))))), (1, .v (.one (.d (.lst (List.map (encI .u8) qs2))))), (12, .v (.one (.d (.int .i64 (qs1.length : Int))))), (13, .v (.one (.d (.int .i64 vx))))]) 0

theorem slices_Equal_byte_byte_x1_ok (qs1 : List Int) (qs2 : List Int) (vx : Int) (r : (Int) ⊕ (Unit ⊕ Unit)) (hF : slices_Equal_byte_byte_x1 qs1 qs2 vx = some r) : Awp prog 0 26 (cL (cL (cR (cL (cR (cR (cB f34))))))) (Out 0 (kk slices_Equal_byte_byte_x1_k) (SS (slices_Equal_byte_byte_x1_H qs1 qs2) (slices_Equal_byte_byte_x1_S qs1 qs2)) r) (slices_Equal_byte_byte_x1_H qs1 qs2 vx) := by
  unfold slices_Equal_byte_byte_x1 at hF
  refine awp_seq ?_
  refine awp_region ?_
  refine aR 1 ?_
  refine aE ?_
  refine awp_seq ?_
  refine cE hF (fun h2 hF => ?_) fun h2 hF => ?_
  · refine awp_true (by kernel_rfl) h2 ?_
    refine awp_skip ?_
    refine awp_seq ?_
    refine awp_block ?_
    refine awp_seq ?_
    refine awp_region ?_
    refine aR 2 ?_
    refine aE ?_
    refine awp_seq ?_
    refine bE hF fun vy2 h3 hF => ?_
    refine bE hF fun vy3 h4 hF => ?_
    refine aD ?_
    refine dR 2 ?_
    refine dX (x_idx (encI .u8) h3) ?_
    refine dR 3 ?_
    refine dX (x_idx (encI .u8) h4) ?_
    refine dR 2 ?_
    refine dE ?_
    refine cE hF (fun h5 hF => ?_) fun h5 hF => ?_
    · refine awp_true (by kernel_rfl) h5 ?_
      refine awp_seq ?_
      refine awp_region ?_
      refine aR 1 ?_
      refine aE ?_
      refine awp_ret ?_
      exact oO hF [] [] rfl
    · refine awp_false (by kernel_rfl) h5 ?_
      refine awp_skip ?_
      refine awp_region ?_
      refine aR 2 ?_
      refine aE ?_
      exact oO hF [] [] rfl
  · refine awp_false (by kernel_rfl) h2 ?_
    refine awp_exit ?_
    exact oO hF [] [] rfl

def slices_Equal_byte_byte_R (qs1 : List Int) (qs2 : List Int) (r : Bool) : TV × Mem := (.v (.one (.d (.bool r))), ⟨[], []⟩)

theorem slices_Equal_byte_byte_ok {qs1 : List Int} {qs2 : List Int} {r} (hF : slices_Equal_byte_byte qs1 qs2 = some r) : Holds prog 34 [.v (.one (.d (.lst (List.map (encI .u8) qs1)))), .v (.one (.d (.lst (List.map (encI .u8) qs2))))] ⟨[], []⟩ (Is (slices_Equal_byte_byte_R qs1 qs2 r)) := by
  unfold slices_Equal_byte_byte at hF
  refine holds_of_awp hΓ (fn := f34) (c := cB f34) (A := 0) (nx := 0) (by kernel_rfl) (by kernel_rfl) (by kernel_rfl) (by kernel_rfl) (by kernel_rfl) (by kernel_rfl) (lowc_of (by kernel_rfl)) ?_
  show Awp prog 0 26 (cB f34) _ _
  refine awp_seq ?_
  refine awp_region ?_
  refine aR 1 ?_
  refine aE ?_
  refine awp_seq ?_
  refine awp_seq ?_
  refine awp_region ?_
  refine aR 1 ?_
  refine aL (encI .u8) qs1 ?_
  refine aR 1 ?_
  refine aL (encI .u8) qs2 ?_
  refine aR 1 ?_
  refine aE ?_
  refine cE hF (fun h1 hF => ?_) fun h1 hF => ?_
  · refine awp_true (by kernel_rfl) h1 ?_
    refine awp_seq ?_
    refine awp_region ?_
    refine aR 1 ?_
    refine aE ?_
    refine awp_ret ?_
    exact oF hF [] []
  · refine awp_false (by kernel_rfl) h1 ?_
    refine awp_skip ?_
    refine awp_seq ?_
    refine awp_seq ?_
    refine awp_region ?_
    refine aR 1 ?_
    refine aL (encI .u8) qs1 ?_
    refine aR 1 ?_
    refine aE ?_
    refine awp_block ?_
    refine awp_to (st' := slices_Equal_byte_byte_x1_H qs1 qs2 0) (oT [] []) ?_
    refine bE hF fun x h6 hF => ?_
    rcases x with _ | _
    · refine awp_sub (awp_loop' (slices_Equal_byte_byte_x1_H qs1 qs2) slices_Equal_byte_byte_x1_k (slices_Equal_byte_byte_x1_S qs1 qs2) (by intro x; rcases x with x | x <;> exact fun h => nomatch h) h6 (slices_Equal_byte_byte_x1_ok qs1 qs2)) ?_
      refine awp_seq ?_
      refine awp_region ?_
      refine aR 1 ?_
      refine aE ?_
      refine awp_ret ?_
      exact oF hF [] []
    · refine awp_sub (awp_loop' (slices_Equal_byte_byte_x1_H qs1 qs2) slices_Equal_byte_byte_x1_k (slices_Equal_byte_byte_x1_S qs1 qs2) (by intro x; rcases x with x | x <;> exact fun h => nomatch h) h6 (slices_Equal_byte_byte_x1_ok qs1 qs2)) ?_
      exact oF hF [] []

/-! ### beaconfleet/fleetlaw2.measured -/
def fleetlaw2_measured_x1_k : Bool → AEx
  | _ => .normal

def fleetlaw2_measured_x1_S (vr : List Int) (vr2 : Int) : Bool → St
  | vx => Mem.st ⟨[], []⟩ (tl [(0, .v (.one (.d (.bool vx))))]) 0

def fleetlaw2_measured_x1_I (vr : List Int) (vr2 : Int) : St := Mem.st ⟨[], []⟩ (tl [(1, .v (.one (.d (.lst (List.map (encI .u8) vr))))), (2, .v (.one (.d (.int .i64 vr2))))]) 0

theorem fleetlaw2_measured_x1_ok (vr : List Int) (vr2 : Int) {r} (hF : fleetlaw2_measured_x1 vr vr2 = some r) : Awp prog 0 16 (cL (cR (cR (cB f26)))) (Out 0 fleetlaw2_measured_x1_k (fleetlaw2_measured_x1_S vr vr2) r) (fleetlaw2_measured_x1_I vr vr2) := by
  unfold fleetlaw2_measured_x1 at hF
  refine cE hF (fun h2 hF => ?_) fun h2 hF => ?_
  · refine bE hF fun vr1 h3 hF => ?_
    refine awp_region ?_
    refine aR 1 ?_
    refine aB h2 ?_
    refine aR 3 ?_
    refine aC (slices_Equal_byte_byte_ok h3) [] [] [4000] ?_
    refine aR 2 ?_
    refine aE ?_
    exact oO hF [] [] rfl
  · refine awp_region ?_
    refine aR 1 ?_
    refine aB h2 ?_
    refine aR 6 ?_
    refine aE ?_
    exact oO hF [] [] rfl

def fleetlaw2_measured_R (r : Bool) : TV × Mem := (.v (.one (.d (.bool r))), ⟨[], []⟩)

theorem fleetlaw2_measured_ok {r} (hF : fleetlaw2_measured = some r) : Holds prog 26 [] ⟨[], []⟩ (Is (fleetlaw2_measured_R  r)) := by
  unfold fleetlaw2_measured at hF
  refine holds_of_awp hΓ (fn := f26) (c := cB f26) (A := 0) (nx := 0) (by kernel_rfl) (by kernel_rfl) (by kernel_rfl) (by kernel_rfl) (by kernel_rfl) (by kernel_rfl) (lowc_of (by kernel_rfl)) ?_
  show Awp prog 0 16 (cB f26) _ _
  refine awp_seq ?_
  refine awp_region ?_
  refine aR 1 ?_
  refine aE ?_
  refine awp_seq ?_
  refine bE hF fun x h1 hF => ?_
  obtain ⟨vr, vr2⟩ := x
  refine awp_region ?_
  refine aR 2 ?_
  refine aC (series_Pack_o0_ok h1) [(0, 2000)] [] [] ?_
  refine aR 5 ?_
  refine aE ?_
  refine awp_to (oT (m := ⟨[], []⟩) (ts := [(1, .v (.one (.d (.lst (List.map (encI .u8) vr))))), (2, .v (.one (.d (.int .i64 vr2))))]) (nx := 0) [] []) ?_
  refine awp_seq ?_
  refine awp_to (st' := fleetlaw2_measured_x1_I vr vr2) (oT [] []) ?_
  refine bE hF fun vx1 h4 hF => ?_
  refine awp_sub (fleetlaw2_measured_x1_ok vr vr2 h4) ?_
  refine awp_ret ?_
  exact oF hF [] []

end Go.Eng
