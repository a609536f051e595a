/-
The code of the Go functions that the law SeriesPacked reaches does what the plain functions say, part 1.
-/
import Derived.Test.YtjfpceigbgnjgaaGenF

import Derived.Test.YtjfpceigbgnjgaaEngZ

import Derived.Test.YtjfpceigbgnjgaaProg

import Derived.KernelRfl

namespace Go.Eng

open Go Go.Proofs.Try

set_option linter.unusedVariables false

set_option maxRecDepth 20000

set_option maxHeartbeats 0

def ti3 : TI := ⟨1, 8, [.d (.int .i64 0)], false, .int .i64⟩

def ti5 : TI := ⟨1, 1, [.d (.int .u8 0)], false, .int .u8⟩

def ti9 : TI := ⟨1, 16, [.d (.str [])], false, .str⟩

def ti22 : TI := ⟨1, 24, [.nil], false, .slice 3⟩

def ti25 : TI := ⟨2, 32, [.nil, .d (.int .i64 0)], true, .struct [(0, 22), (1, 3)]⟩

def ti26 : TI := ⟨1, 24, [.nil], false, .slice 42⟩

def ti33 : TI := ⟨1, 8, [.d (.int .i64 0)], false, .int .i64⟩

def ti42 : TI := ⟨4, 48, [.d (.str []), .d (.str []), .d (.int .i64 0), .d (.int .i64 0)], true, .struct [(0, 9), (1, 9), (2, 3), (3, 3)]⟩

def ti45 : TI := ⟨1, 24, [.nil], false, .slice 5⟩

def ti159 : TI := ⟨1, 24, [.nil], false, .slice 33⟩

def ti163 : TI := ⟨1, 24, [.nil], false, .slice 45⟩

def ti164 : TI := ⟨1, 24, [.nil], false, .slice 9⟩

def ti165 : TI := ⟨1, 8, [.d (.int .u64 0)], false, .int .u64⟩

def Γ : Types := [(3, ti3), (5, ti5), (9, ti9), (22, ti22), (25, ti25), (26, ti26), (33, ti33), (42, ti42), (45, ti45), (159, ti159), (163, ti163), (164, ti164), (165, ti165)]

theorem hΓ : TypesOk prog Γ := typesOk_of (by kernel_rfl)

instance : TOk prog Γ := ⟨hΓ⟩

theorem hm : prog.follows .mixedOrders = true := by kernel_rfl

instance : Mixed prog := ⟨hm⟩

/-! ### beaconfleet/fleetmake.Below -/
def fleetmake_Below_x1_k : Int → AEx
  | _ => .normal

def fleetmake_Below_x1_S (qx : Int) (qn : Int) : Int → St
  | vx => Mem.st ⟨[], []⟩ (tl [(0, .v (.one (.d (.int .i64 vx))))]) 0

def fleetmake_Below_x1_I (qx : Int) (qn : Int) : St := Mem.st ⟨[], []⟩ (tl [(0, .v (.one (.d (.int .i64 (qx.tmod qn))))), (1, .v (.one (.d (.int .i64 qn))))]) 0

theorem fleetmake_Below_x1_ok (qx : Int) (qn : Int) {r} (hF : fleetmake_Below_x1 qx qn = some r) : Awp prog 0 16 (cL (cR (cR (cR (cB f191))))) (Out 0 fleetmake_Below_x1_k (fleetmake_Below_x1_S qx qn) r) (fleetmake_Below_x1_I qx qn) := by
  unfold fleetmake_Below_x1 at hF
  refine awp_seq ?_
  refine awp_region ?_
  refine aR 2 ?_
  refine aE ?_
  refine cE hF (fun h3 hF => ?_) fun h3 hF => ?_
  · refine awp_true (by kernel_rfl) h3 ?_
    refine awp_region ?_
    refine aR 4 ?_
    refine aE ?_
    exact oO hF [] [] rfl
  · refine awp_false (by kernel_rfl) h3 ?_
    refine awp_skip ?_
    exact oO hF [] [] rfl

def fleetmake_Below_R (qx : Int) (qn : Int) (r : Int) : TV × Mem := (.v (.one (.d (.int .i64 r))), ⟨[], []⟩)

theorem fleetmake_Below_ok {qx : Int} {qn : Int} {r} (hF : fleetmake_Below qx qn = some r) : Holds prog 191 [.v (.one (.d (.int .i64 qx))), .v (.one (.d (.int .i64 qn)))] ⟨[], []⟩ (Is (fleetmake_Below_R qx qn r)) := by
  unfold fleetmake_Below at hF
  refine holds_of_awp hΓ (fn := f191) (c := cB f191) (A := 0) (nx := 0) (by kernel_rfl) (by kernel_rfl) (by kernel_rfl) (by kernel_rfl) (by kernel_rfl) (by kernel_rfl) (lowc_of (by kernel_rfl)) ?_
  show Awp prog 0 16 (cB f191) _ _
  refine awp_seq ?_
  refine awp_region ?_
  refine aR 1 ?_
  refine aE ?_
  refine awp_seq ?_
  refine awp_seq ?_
  refine awp_region ?_
  refine aR 2 ?_
  refine aE ?_
  refine cE hF (fun h1 hF => ?_) fun h1 hF => ?_
  · refine awp_true (by kernel_rfl) h1 ?_
    refine awp_seq ?_
    refine awp_region ?_
    refine aR 1 ?_
    refine aE ?_
    refine awp_ret ?_
    exact oF hF [] []
  · refine awp_false (by kernel_rfl) h1 ?_
    refine awp_skip ?_
    refine awp_seq ?_
    refine gE hF fun h2 hF => ?_
    refine awp_region ?_
    refine aR 2 ?_
    refine aX (x_rem h2) ?_
    refine aR 1 ?_
    refine aE ?_
    refine awp_seq ?_
    refine awp_to (st' := fleetmake_Below_x1_I qx qn) (oT [] []) ?_
    refine bE hF fun vx1 h4 hF => ?_
    refine awp_sub (fleetmake_Below_x1_ok qx qn h4) ?_
    refine awp_seq ?_
    refine awp_region ?_
    refine aR 2 ?_
    refine aE ?_
    refine awp_ret ?_
    exact oF hF [] []

/-! ### (*beaconfleet/fleetmake.Stream).Next -/
def fleetmake_Stream_Next_R (qs : fleetmake_Stream) (qn : Int) (r : Int) : TV × Mem := (.v (.one (.d (.int .i64 r))), ⟨[], [(0, [.d (.lst (List.map (encI .i64) qs.L)), .d (.int .i64 (IntKind.wrap .i64 (qs.at_ + 1)))])]⟩)

theorem fleetmake_Stream_Next_ok {qs : fleetmake_Stream} {qn : Int} {r} (hF : fleetmake_Stream_Next qs qn = some r) : Holds prog 89 [.v (.one (.box 0 0)), .v (.one (.d (.int .i64 qn)))] ⟨[], [(0, [.d (.lst (List.map (encI .i64) qs.L)), .d (.int .i64 qs.at_)])]⟩ (Is (fleetmake_Stream_Next_R qs qn r)) := by
  unfold fleetmake_Stream_Next at hF
  refine holds_of_awp hΓ (fn := f89) (c := cB f89) (A := 1) (nx := 1) (by kernel_rfl) (by kernel_rfl) (by kernel_rfl) (by kernel_rfl) (by kernel_rfl) (by kernel_rfl) (lowc_of (by kernel_rfl)) ?_
  show Awp prog 1 64 (cB f89) _ _
  refine awp_seq ?_
  refine awp_region ?_
  refine aR 1 ?_
  refine aE ?_
  refine awp_seq ?_
  refine awp_region ?_
  refine aR 8 ?_
  refine aE ?_
  refine awp_seq ?_
  refine awp_seq ?_
  refine awp_region ?_
  refine aR 4 ?_
  refine aL (encI .i64) qs.L ?_
  refine aR 1 ?_
  refine aE ?_
  refine cE hF (fun h1 hF => ?_) fun h1 hF => ?_
  · refine awp_true (by kernel_rfl) h1 ?_
    refine awp_seq ?_
    refine bE hF fun vr h2 hF => ?_
    refine awp_region ?_
    refine aR 6 ?_
    refine aC (fleetmake_Below_ok h2) [] [] [] ?_
    refine aR 1 ?_
    refine aE ?_
    refine awp_ret ?_
    exact oF hF [] []
  · refine awp_false (by kernel_rfl) h1 ?_
    refine awp_skip ?_
    refine awp_seq ?_
    refine gE hF fun h3 hF => ?_
    refine aD ?_
    refine dR 9 ?_
    refine dL (encI .i64) qs.L ?_
    refine dX (x_rem h3) ?_
    refine dR 1 ?_
    refine dE ?_
    refine awp_seq ?_
    refine aD ?_
    refine dR 9 ?_
    refine dL (encI .i64) qs.L ?_
    refine dX (x_quo h3) ?_
    refine dR 1 ?_
    refine dE ?_
    refine awp_seq ?_
    refine bE hF fun vy h4 hF => ?_
    refine bE hF fun vr1 h5 hF => ?_
    refine bE hF fun vr2 h6 hF => ?_
    refine awp_region ?_
    refine aR 5 ?_
    refine aX (x_idx (encI .i64) h4) ?_
    refine aR 1 ?_
    refine aC (fleetmake_Below_ok h5) [] [] [] ?_
    refine aR 6 ?_
    refine aC (fleetmake_Below_ok h6) [] [] [] ?_
    refine aR 1 ?_
    refine aE ?_
    refine awp_ret ?_
    exact oF hF [] []

/-! ### (*beaconfleet/fleetmake.Stream).Pick -/
def fleetmake_Stream_Pick_o1_R (qs : fleetmake_Stream) (ql : List Int) (r : Int) : TV × Mem := (.v (.one (.d (.int .i64 r))), ⟨[], [(0, [.d (.lst (List.map (encI .i64) qs.L)), .d (.int .i64 (IntKind.wrap .i64 (qs.at_ + 1)))])]⟩)

theorem fleetmake_Stream_Pick_o1_ok {qs : fleetmake_Stream} {ql : List Int} {r} (hF : fleetmake_Stream_Pick_o1 qs ql = some r) : Holds prog 17 [.v (.one (.box 0 0)), .v (.one (.own 1 none))] ⟨[(1, ⟨3, 1, List.map (encI .i64) ql⟩)], [(0, [.d (.lst (List.map (encI .i64) qs.L)), .d (.int .i64 qs.at_)])]⟩ (Is (fleetmake_Stream_Pick_o1_R qs ql r)) := by
  unfold fleetmake_Stream_Pick_o1 at hF
  refine holds_of_awp hΓ (fn := f17) (c := cB f17) (A := 2) (nx := 2) (by kernel_rfl) (by kernel_rfl) (by kernel_rfl) (by kernel_rfl) (by kernel_rfl) (by kernel_rfl) (lowc_of (by kernel_rfl)) ?_
  show Awp prog 2 12 (cB f17) _ _
  refine awp_seq ?_
  refine awp_region ?_
  refine aR 1 ?_
  refine aE ?_
  refine awp_to (oT (m := ⟨[], [(0, [.d (.lst (List.map (encI .i64) qs.L)), .d (.int .i64 qs.at_)])]⟩) (ts := [(0, .v (.one (.box 0 0))), (1, .v (.one (.d (.lst (List.map (encI .i64) ql)))))]) (nx := 2) [] []) ?_
  refine awp_seq ?_
  refine bE hF fun vr3 h1 hF => ?_
  refine bE hF fun vy h2 hF => ?_
  refine awp_region ?_
  refine aR 3 ?_
  refine aL (encI .i64) ql ?_
  refine aC (fleetmake_Stream_Next_ok h1) [] [] [] ?_
  refine aX (x_idx (encI .i64) h2) ?_
  refine aR 2 ?_
  refine aE ?_
  refine awp_ret ?_
  exact oF hF [] []

/-! ### (*beaconfleet/fleetmake.Stream).Range -/
def fleetmake_Stream_Range_R (qs : fleetmake_Stream) (qlow : Int) (qhigh : Int) (r : fleetmake_Stream × Int) : TV × Mem := (.v (.one (.d (.int .i64 r.2))), ⟨[], [(0, [.d (.lst (List.map (encI .i64) r.1.L)), .d (.int .i64 r.1.at_)])]⟩)

theorem fleetmake_Stream_Range_ok {qs : fleetmake_Stream} {qlow : Int} {qhigh : Int} {r} (hF : fleetmake_Stream_Range qs qlow qhigh = some r) : Holds prog 87 [.v (.one (.box 0 0)), .v (.one (.d (.int .i64 qlow))), .v (.one (.d (.int .i64 qhigh)))] ⟨[], [(0, [.d (.lst (List.map (encI .i64) qs.L)), .d (.int .i64 qs.at_)])]⟩ (Is (fleetmake_Stream_Range_R qs qlow qhigh r)) := by
  unfold fleetmake_Stream_Range at hF
  refine holds_of_awp hΓ (fn := f87) (c := cB f87) (A := 1) (nx := 1) (by kernel_rfl) (by kernel_rfl) (by kernel_rfl) (by kernel_rfl) (by kernel_rfl) (by kernel_rfl) (lowc_of (by kernel_rfl)) ?_
  show Awp prog 1 19 (cB f87) _ _
  refine awp_seq ?_
  refine awp_region ?_
  refine aR 1 ?_
  refine aE ?_
  refine awp_seq ?_
  refine awp_seq ?_
  refine awp_region ?_
  refine aR 3 ?_
  refine aE ?_
  refine cE hF (fun h1 hF => ?_) fun h1 hF => ?_
  · refine awp_true (by kernel_rfl) h1 ?_
    refine awp_seq ?_
    refine awp_region ?_
    refine aR 2 ?_
    refine aE ?_
    refine awp_ret ?_
    exact oF hF [] []
  · refine awp_false (by kernel_rfl) h1 ?_
    refine awp_skip ?_
    refine awp_seq ?_
    refine bE hF fun vr3 h2 hF => ?_
    refine awp_region ?_
    refine aR 6 ?_
    refine aC (fleetmake_Stream_Next_ok h2) [] [] [] ?_
    refine aR 2 ?_
    refine aE ?_
    refine awp_ret ?_
    exact oF hF [] []

/-! ### (*beaconfleet/fleetmake.Stream).RightSeries -/
def fleetmake_Stream_RightSeries_x1_k : (fleetmake_Stream × (List api_Sample)) → AEx
  | _ => .exit 0

def fleetmake_Stream_RightSeries_x1_S (qlow : Int) (vr : Int) : (fleetmake_Stream × (List api_Sample)) → St
  | (vs2, vout1) => Mem.st ⟨[(1, ⟨42, 4, List.map api_Sample.enc vout1⟩)], [(0, [.d (.lst (List.map (encI .i64) vs2.L)), .d (.int .i64 vs2.at_)])]⟩ (tl [(7, .v (.one (.own 1 none)))]) 2

def fleetmake_Stream_RightSeries_x1_H (qlow : Int) (vr : Int) : fleetmake_Stream × (List api_Sample) × Int × Int → St
  | (vs1, vout, vat, vx) => Mem.st ⟨[(1, ⟨42, 4, List.map api_Sample.enc vout⟩)], [(0, [.d (.lst (List.map (encI .i64) vs1.L)), .d (.int .i64 vs1.at_)])]⟩ (tl [(0, .v (.one (.box 0 0))), (2, .v (.one (.d (.int .i64 qlow)))), (7, .v (.one (.own 1 none))), (8, .v (.one (.d (.int .i64 vat)))), (11, .v (.one (.d (.int .i64 vr)))), (12, .v (.one (.d (.int .i64 vx))))]) 2

theorem fleetmake_Stream_RightSeries_x1_ok (qlow : Int) (vr : Int) (s : fleetmake_Stream × (List api_Sample) × Int × Int) (r : (fleetmake_Stream × (List api_Sample) × Int × Int) ⊕ ((fleetmake_Stream × (List api_Sample)))) (hF : fleetmake_Stream_RightSeries_x1 qlow vr s = some r) : Awp prog 1 31 (cL (cL (cR (cL (cR (cR (cR (cB f112)))))))) (Out 1 (kk fleetmake_Stream_RightSeries_x1_k) (SS (fleetmake_Stream_RightSeries_x1_H qlow vr) (fleetmake_Stream_RightSeries_x1_S qlow vr)) r) (fleetmake_Stream_RightSeries_x1_H qlow vr s) := by
  obtain ⟨vs1, vout, vat, vx⟩ := s
  unfold fleetmake_Stream_RightSeries_x1 at hF
  refine awp_seq ?_
  refine awp_region ?_
  refine aR 1 ?_
  refine aE ?_
  refine awp_seq ?_
  refine cE hF (fun h2 hF => ?_) fun h2 hF => ?_
  · refine awp_true (by kernel_rfl) h2 ?_
    refine awp_skip ?_
    refine awp_seq ?_
    refine awp_block ?_
    refine awp_seq ?_
    refine bE hF fun vr3 h3 hF => ?_
    refine awp_region ?_
    refine aR 3 ?_
    refine aC (fleetmake_Stream_Pick_o1_ok h3) [(1, 3002)] [] [] ?_
    refine aR 2 ?_
    refine aE ?_
    refine bE hF fun vr4 h4 hF => ?_
    refine gE hF fun h5 hF => ?_
    refine awp_region ?_
    refine aR 5 ?_
    refine aC (fleetmake_Stream_Pick_o1_ok h4) [(1, 11002)] [] [] ?_
    refine aR 3 ?_
    refine aX (x_app api_Sample.enc 1 h5) ?_
    refine aR 1 ?_
    refine aE ?_
    refine awp_region ?_
    refine aR 2 ?_
    refine aE ?_
    exact oO hF [(1, 16002)] [] rfl
  · refine awp_false (by kernel_rfl) h2 ?_
    refine awp_exit ?_
    exact oO hF [] [] rfl

def fleetmake_Stream_RightSeries_R (qs : fleetmake_Stream) (qmost : Int) (qlow : Int) (r : fleetmake_Stream × (List api_Sample)) : TV × Mem := (.v (.one (.own 1 none)), ⟨[(1, ⟨42, 4, List.map api_Sample.enc r.2⟩)], [(0, [.d (.lst (List.map (encI .i64) r.1.L)), .d (.int .i64 r.1.at_)])]⟩)

theorem fleetmake_Stream_RightSeries_ok {qs : fleetmake_Stream} {qmost : Int} {qlow : Int} {r} (hF : fleetmake_Stream_RightSeries qs qmost qlow = some r) : Holds prog 112 [.v (.one (.box 0 0)), .v (.one (.d (.int .i64 qmost))), .v (.one (.d (.int .i64 qlow)))] ⟨[], [(0, [.d (.lst (List.map (encI .i64) qs.L)), .d (.int .i64 qs.at_)])]⟩ (Is (fleetmake_Stream_RightSeries_R qs qmost qlow r)) := by
  unfold fleetmake_Stream_RightSeries at hF
  refine holds_of_awp hΓ (fn := f112) (c := cB f112) (A := 1) (nx := 1) (by kernel_rfl) (by kernel_rfl) (by kernel_rfl) (by kernel_rfl) (by kernel_rfl) (by kernel_rfl) (lowc_of (by kernel_rfl)) ?_
  show Awp prog 1 31 (cB f112) _ _
  refine awp_seq ?_
  refine awp_region ?_
  refine aR 1 ?_
  refine aE ?_
  refine awp_seq ?_
  refine awp_region ?_
  refine aR 1 ?_
  refine aE ?_
  refine awp_seq ?_
  refine awp_region ?_
  refine aR 1 ?_
  refine aE ?_
  refine awp_seq ?_
  refine awp_seq ?_
  refine bE hF fun x h1 hF => ?_
  obtain ⟨vs, vr⟩ := x
  refine awp_region ?_
  refine aR 2 ?_
  refine aC (fleetmake_Stream_Range_ok h1) [] [] [] ?_
  refine aR 1 ?_
  refine aE ?_
  refine awp_block ?_
  refine awp_to (st' := fleetmake_Stream_RightSeries_x1_H qlow vr (vs, [], 0, 0)) (oT [] [1]) ?_
  refine bE hF fun x h6 hF => ?_
  obtain ⟨vs2_1, vout1_1⟩ := x
  refine awp_sub (awp_loop' (fleetmake_Stream_RightSeries_x1_H qlow vr) fleetmake_Stream_RightSeries_x1_k (fleetmake_Stream_RightSeries_x1_S qlow vr) (by intro x; exact fun h => nomatch h) h6 (fleetmake_Stream_RightSeries_x1_ok qlow vr)) ?_
  refine awp_seq ?_
  refine awp_region ?_
  refine aR 2 ?_
  refine aE ?_
  refine awp_ret ?_
  exact oF hF [] []

/-! ### (*beaconfleet/fleetmake.Stream).Flip -/
def fleetmake_Stream_Flip_R (qs : fleetmake_Stream) (qn : Int) (r : Bool) : TV × Mem := (.v (.one (.d (.bool r))), ⟨[], [(0, [.d (.lst (List.map (encI .i64) qs.L)), .d (.int .i64 (IntKind.wrap .i64 (qs.at_ + 1)))])]⟩)

theorem fleetmake_Stream_Flip_ok {qs : fleetmake_Stream} {qn : Int} {r} (hF : fleetmake_Stream_Flip qs qn = some r) : Holds prog 18 [.v (.one (.box 0 0)), .v (.one (.d (.int .i64 qn)))] ⟨[], [(0, [.d (.lst (List.map (encI .i64) qs.L)), .d (.int .i64 qs.at_)])]⟩ (Is (fleetmake_Stream_Flip_R qs qn r)) := by
  unfold fleetmake_Stream_Flip at hF
  refine holds_of_awp hΓ (fn := f18) (c := cB f18) (A := 1) (nx := 1) (by kernel_rfl) (by kernel_rfl) (by kernel_rfl) (by kernel_rfl) (by kernel_rfl) (by kernel_rfl) (lowc_of (by kernel_rfl)) ?_
  show Awp prog 1 9 (cB f18) _ _
  refine awp_seq ?_
  refine awp_region ?_
  refine aR 1 ?_
  refine aE ?_
  refine awp_seq ?_
  refine bE hF fun vr3 h1 hF => ?_
  refine awp_region ?_
  refine aR 2 ?_
  refine aC (fleetmake_Stream_Next_ok h1) [] [] [] ?_
  refine aR 2 ?_
  refine aE ?_
  refine awp_ret ?_
  exact oF hF [] []

/-! ### (*beaconfleet/fleetmake.Stream).Some -/
def fleetmake_Stream_Some_o1_R (qs : fleetmake_Stream) (ql : List (List UInt8)) (r : (List UInt8)) : TV × Mem := (.v (.one (.d (.str r))), ⟨[], [(0, [.d (.lst (List.map (encI .i64) qs.L)), .d (.int .i64 (IntKind.wrap .i64 (qs.at_ + 1)))])]⟩)

theorem fleetmake_Stream_Some_o1_ok {qs : fleetmake_Stream} {ql : List (List UInt8)} {r} (hF : fleetmake_Stream_Some_o1 qs ql = some r) : Holds prog 28 [.v (.one (.box 0 0)), .v (.one (.own 1 none))] ⟨[(1, ⟨9, 1, List.map encS ql⟩)], [(0, [.d (.lst (List.map (encI .i64) qs.L)), .d (.int .i64 qs.at_)])]⟩ (Is (fleetmake_Stream_Some_o1_R qs ql r)) := by
  unfold fleetmake_Stream_Some_o1 at hF
  refine holds_of_awp hΓ (fn := f28) (c := cB f28) (A := 2) (nx := 2) (by kernel_rfl) (by kernel_rfl) (by kernel_rfl) (by kernel_rfl) (by kernel_rfl) (by kernel_rfl) (lowc_of (by kernel_rfl)) ?_
  show Awp prog 2 12 (cB f28) _ _
  refine awp_seq ?_
  refine awp_region ?_
  refine aR 1 ?_
  refine aE ?_
  refine awp_to (oT (m := ⟨[], [(0, [.d (.lst (List.map (encI .i64) qs.L)), .d (.int .i64 qs.at_)])]⟩) (ts := [(0, .v (.one (.box 0 0))), (1, .v (.one (.d (.lst (List.map encS ql)))))]) (nx := 2) [] []) ?_
  refine awp_seq ?_
  refine bE hF fun vr3 h1 hF => ?_
  refine bE hF fun vy h2 hF => ?_
  refine awp_region ?_
  refine aR 3 ?_
  refine aL encS ql ?_
  refine aC (fleetmake_Stream_Next_ok h1) [] [] [] ?_
  refine aX (x_idx encS h2) ?_
  refine aR 2 ?_
  refine aE ?_
  refine awp_ret ?_
  exact oF hF [] []

/-! ### (*beaconfleet/fleetmake.Stream).Odd -/
def fleetmake_Stream_Odd_R (qs : fleetmake_Stream) (qlow : Int) (qhigh : Int) (r : fleetmake_Stream × Int) : TV × Mem := (.v (.one (.d (.int .i64 r.2))), ⟨[], [(0, [.d (.lst (List.map (encI .i64) r.1.L)), .d (.int .i64 r.1.at_)])]⟩)

theorem fleetmake_Stream_Odd_ok {qs : fleetmake_Stream} {qlow : Int} {qhigh : Int} {r} (hF : fleetmake_Stream_Odd qs qlow qhigh = some r) : Holds prog 70 [.v (.one (.box 0 0)), .v (.one (.d (.int .i64 qlow))), .v (.one (.d (.int .i64 qhigh)))] ⟨[], [(0, [.d (.lst (List.map (encI .i64) qs.L)), .d (.int .i64 qs.at_)])]⟩ (Is (fleetmake_Stream_Odd_R qs qlow qhigh r)) := by
  unfold fleetmake_Stream_Odd at hF
  refine holds_of_awp hΓ (fn := f70) (c := cB f70) (A := 1) (nx := 1) (by kernel_rfl) (by kernel_rfl) (by kernel_rfl) (by kernel_rfl) (by kernel_rfl) (by kernel_rfl) (lowc_of (by kernel_rfl)) ?_
  show Awp prog 1 22 (cB f70) _ _
  refine awp_seq ?_
  refine awp_region ?_
  refine aR 1 ?_
  refine aE ?_
  refine awp_seq ?_
  refine awp_seq ?_
  refine bE hF fun vr h1 hF => ?_
  refine awp_region ?_
  refine aR 1 ?_
  refine aC (fleetmake_Stream_Flip_ok h1) [] [] [] ?_
  refine aE ?_
  refine cE hF (fun h2 hF => ?_) fun h2 hF => ?_
  · refine awp_true (by kernel_rfl) h2 ?_
    refine awp_seq ?_
    refine bE hF fun vr1 h3 hF => ?_
    refine awp_region ?_
    refine aR 8 ?_
    refine aC (fleetmake_Stream_Pick_o1_ok h3) [(1, 10001)] [] [] ?_
    refine aR 1 ?_
    refine aE ?_
    refine awp_ret ?_
    exact oF hF [] []
  · refine awp_false (by kernel_rfl) h2 ?_
    refine awp_skip ?_
    refine awp_seq ?_
    refine bE hF fun x h4 hF => ?_
    obtain ⟨vs, vr2⟩ := x
    refine awp_region ?_
    refine aR 3 ?_
    refine aC (fleetmake_Stream_Range_ok h4) [] [] [] ?_
    refine aR 1 ?_
    refine aE ?_
    refine awp_ret ?_
    exact oF hF [] []

/-! ### (*beaconfleet/fleetmake.Stream).Series -/
def fleetmake_Stream_Series_x2_k : (fleetmake_Stream × Bool) → AEx
  | _ => .normal

def fleetmake_Stream_Series_x2_S (vs3 : fleetmake_Stream) (vr5 : List api_Sample) : (fleetmake_Stream × Bool) → St
  | (vs, vx) => Mem.st ⟨[(1, ⟨42, 4, List.map api_Sample.enc vr5⟩)], [(0, [.d (.lst (List.map (encI .i64) vs.L)), .d (.int .i64 vs.at_)])]⟩ (tl [(0, .v (.one (.box 0 0))), (5, .v (.one (.own 1 none))), (20, .v (.one (.d (.bool vx))))]) 2

def fleetmake_Stream_Series_x2_I (vs3 : fleetmake_Stream) (vr5 : List api_Sample) : St := Mem.st ⟨[(1, ⟨42, 4, List.map api_Sample.enc vr5⟩)], [(0, [.d (.lst (List.map (encI .i64) vs3.L)), .d (.int .i64 vs3.at_)])]⟩ (tl [(0, .v (.one (.box 0 0))), (5, .v (.one (.own 1 none)))]) 2

theorem fleetmake_Stream_Series_x2_ok (vs3 : fleetmake_Stream) (vr5 : List api_Sample) {r} (hF : fleetmake_Stream_Series_x2 vs3 vr5 = some r) : Awp prog 1 82 (cL (cL (cR (cR (cB f15))))) (Out 1 fleetmake_Stream_Series_x2_k (fleetmake_Stream_Series_x2_S vs3 vr5) r) (fleetmake_Stream_Series_x2_I vs3 vr5) := by
  unfold fleetmake_Stream_Series_x2 at hF
  refine cE hF (fun h3 hF => ?_) fun h3 hF => ?_
  · refine bE hF fun vr1 h4 hF => ?_
    refine awp_region ?_
    refine aR 1 ?_
    refine aL api_Sample.enc vr5 ?_
    refine aB h3 ?_
    refine aR 2 ?_
    refine aC (fleetmake_Stream_Flip_ok h4) [] [] [] ?_
    refine aR 1 ?_
    refine aE ?_
    exact oO hF [] [] rfl
  · refine awp_region ?_
    refine aR 1 ?_
    refine aL api_Sample.enc vr5 ?_
    refine aB h3 ?_
    refine aR 4 ?_
    refine aE ?_
    exact oO hF [] [] rfl

def fleetmake_Stream_Series_x1_k : (fleetmake_Stream × (List api_Sample)) → AEx
  | _ => .normal

def fleetmake_Stream_Series_x1_S (vs3 : fleetmake_Stream) (vr5 : List api_Sample) : (fleetmake_Stream × (List api_Sample)) → St
  | (vs2, vx2) => Mem.st ⟨[(1, ⟨42, 4, List.map api_Sample.enc vx2⟩)], [(0, [.d (.lst (List.map (encI .i64) vs2.L)), .d (.int .i64 vs2.at_)])]⟩ (tl [(0, .v (.one (.box 0 0))), (5, .v (.one (.own 1 none)))]) 2

def fleetmake_Stream_Series_x1_I (vs3 : fleetmake_Stream) (vr5 : List api_Sample) : St := Mem.st ⟨[(1, ⟨42, 4, List.map api_Sample.enc vr5⟩)], [(0, [.d (.lst (List.map (encI .i64) vs3.L)), .d (.int .i64 vs3.at_)])]⟩ (tl [(0, .v (.one (.box 0 0))), (5, .v (.one (.own 1 none)))]) 2

theorem fleetmake_Stream_Series_x1_ok (vs3 : fleetmake_Stream) (vr5 : List api_Sample) {r} (hF : fleetmake_Stream_Series_x1 vs3 vr5 = some r) : Awp prog 1 82 (cL (cR (cR (cB f15)))) (Out 1 fleetmake_Stream_Series_x1_k (fleetmake_Stream_Series_x1_S vs3 vr5) r) (fleetmake_Stream_Series_x1_I vs3 vr5) := by
  unfold fleetmake_Stream_Series_x1 at hF
  refine awp_seq ?_
  refine awp_to (st' := fleetmake_Stream_Series_x2_I vs3 vr5) (oT [] []) ?_
  refine bE hF fun x h5 hF => ?_
  obtain ⟨vs1, vx1⟩ := x
  refine awp_sub (fleetmake_Stream_Series_x2_ok vs3 vr5 h5) ?_
  refine cE hF (fun h6 hF => ?_) fun h6 hF => ?_
  · refine awp_true (by kernel_rfl) h6 ?_
    refine awp_seq ?_
    refine bE hF fun vr3 h7 hF => ?_
    refine bE hF fun vy h8 hF => ?_
    refine awp_region ?_
    refine aR 3 ?_
    refine aL api_Sample.enc vr5 ?_
    refine aC (fleetmake_Stream_Next_ok h7) [] [] [] ?_
    refine aX (x_idxO api_Sample.enc 1 h8) ?_
    refine aR 1 ?_
    refine aE ?_
    refine awp_seq ?_
    refine bE hF fun vr3_1 h9 hF => ?_
    refine awp_region ?_
    refine aR 1 ?_
    refine aC (fleetmake_Stream_Next_ok h9) [] [] [] ?_
    refine aE ?_
    refine awp_block ?_
    refine awp_seq ?_
    refine awp_region ?_
    refine aR 2 ?_
    refine aE ?_
    refine cE hF (fun h10 hF => ?_) fun h10 hF => ?_
    · refine awp_true (by kernel_rfl) h10 ?_
      refine bE hF fun vr2 h11 hF => ?_
      refine awp_region ?_
      refine aR 3 ?_
      refine aC (fleetmake_Stream_Some_o1_ok h11) [(1, 13002)] [] [] ?_
      refine aR 2 ?_
      refine aX (x_stE api_Sample.enc (api_Sample.mk vr2 vy.Metric vy.At vy.Value) h8) ?_
      refine aE ?_
      exact oO hF [] [] rfl
    · refine awp_false (by kernel_rfl) h10 ?_
      refine awp_seq ?_
      refine awp_region ?_
      refine aR 2 ?_
      refine aE ?_
      refine cE hF (fun h12 hF => ?_) fun h12 hF => ?_
      · refine awp_true (by kernel_rfl) h12 ?_
        refine bE hF fun vr4 h13 hF => ?_
        refine awp_region ?_
        refine aR 3 ?_
        refine aC (fleetmake_Stream_Some_o1_ok h13) [(1, 15002)] [] [] ?_
        refine aR 2 ?_
        refine aX (x_stE api_Sample.enc (api_Sample.mk vy.Device vr4 vy.At vy.Value) h8) ?_
        refine aE ?_
        exact oO hF [] [] rfl
      · refine awp_false (by kernel_rfl) h12 ?_
        refine awp_seq ?_
        refine awp_region ?_
        refine aR 2 ?_
        refine aE ?_
        refine cE hF (fun h14 hF => ?_) fun h14 hF => ?_
        · refine awp_true (by kernel_rfl) h14 ?_
          refine bE hF fun x h15 hF => ?_
          obtain ⟨vs1_1, vr3_2⟩ := x
          refine awp_region ?_
          refine aR 2 ?_
          refine aC (fleetmake_Stream_Odd_ok h15) [] [] [] ?_
          refine aR 2 ?_
          refine aX (x_stE api_Sample.enc (api_Sample.mk vy.Device vy.Metric vr3_2 vy.Value) h8) ?_
          refine aE ?_
          exact oO hF [] [] rfl
        · refine awp_false (by kernel_rfl) h14 ?_
          refine bE hF fun x h16 hF => ?_
          obtain ⟨vs1_2, vr3_3⟩ := x
          refine awp_region ?_
          refine aR 2 ?_
          refine aC (fleetmake_Stream_Odd_ok h16) [] [] [] ?_
          refine aR 2 ?_
          refine aX (x_stE api_Sample.enc (api_Sample.mk vy.Device vy.Metric vy.At vr3_3) h8) ?_
          refine aE ?_
          exact oO hF [] [] rfl
  · refine awp_false (by kernel_rfl) h6 ?_
    refine awp_skip ?_
    exact oO hF [] [] rfl

def fleetmake_Stream_Series_x4_k : (fleetmake_Stream × Bool) → AEx
  | _ => .normal

def fleetmake_Stream_Series_x4_S (vs2_1 : fleetmake_Stream) (vx2_1 : List api_Sample) : (fleetmake_Stream × Bool) → St
  | (vs4, vx3) => Mem.st ⟨[(1, ⟨42, 4, List.map api_Sample.enc vx2_1⟩)], [(0, [.d (.lst (List.map (encI .i64) vs4.L)), .d (.int .i64 vs4.at_)])]⟩ (tl [(0, .v (.one (.box 0 0))), (5, .v (.one (.own 1 none))), (63, .v (.one (.d (.bool vx3))))]) 2

def fleetmake_Stream_Series_x4_I (vs2_1 : fleetmake_Stream) (vx2_1 : List api_Sample) : St := Mem.st ⟨[(1, ⟨42, 4, List.map api_Sample.enc vx2_1⟩)], [(0, [.d (.lst (List.map (encI .i64) vs2_1.L)), .d (.int .i64 vs2_1.at_)])]⟩ (tl [(0, .v (.one (.box 0 0))), (5, .v (.one (.own 1 none)))]) 2

theorem fleetmake_Stream_Series_x4_ok (vs2_1 : fleetmake_Stream) (vx2_1 : List api_Sample) {r} (hF : fleetmake_Stream_Series_x4 vs2_1 vx2_1 = some r) : Awp prog 1 82 (cL (cL (cR (cR (cR (cB f15)))))) (Out 1 fleetmake_Stream_Series_x4_k (fleetmake_Stream_Series_x4_S vs2_1 vx2_1) r) (fleetmake_Stream_Series_x4_I vs2_1 vx2_1) := by
  unfold fleetmake_Stream_Series_x4 at hF
  refine cE hF (fun h18 hF => ?_) fun h18 hF => ?_
  · refine bE hF fun vr6 h19 hF => ?_
    refine awp_region ?_
    refine aR 1 ?_
    refine aL api_Sample.enc vx2_1 ?_
    refine aB h18 ?_
    refine aR 2 ?_
    refine aC (fleetmake_Stream_Flip_ok h19) [] [] [] ?_
    refine aR 1 ?_
    refine aE ?_
    exact oO hF [] [] rfl
  · refine awp_region ?_
    refine aR 1 ?_
    refine aL api_Sample.enc vx2_1 ?_
    refine aB h18 ?_
    refine aR 4 ?_
    refine aE ?_
    exact oO hF [] [] rfl

def fleetmake_Stream_Series_x3_k : (fleetmake_Stream × (List api_Sample)) → AEx
  | _ => .normal

def fleetmake_Stream_Series_x3_S (vs2_1 : fleetmake_Stream) (vx2_1 : List api_Sample) : (fleetmake_Stream × (List api_Sample)) → St
  | (vs5, vx4) => Mem.st ⟨[(1, ⟨42, 4, List.map api_Sample.enc vx4⟩)], [(0, [.d (.lst (List.map (encI .i64) vs5.L)), .d (.int .i64 vs5.at_)])]⟩ (tl [(5, .v (.one (.own 1 none)))]) 2

def fleetmake_Stream_Series_x3_I (vs2_1 : fleetmake_Stream) (vx2_1 : List api_Sample) : St := Mem.st ⟨[(1, ⟨42, 4, List.map api_Sample.enc vx2_1⟩)], [(0, [.d (.lst (List.map (encI .i64) vs2_1.L)), .d (.int .i64 vs2_1.at_)])]⟩ (tl [(0, .v (.one (.box 0 0))), (5, .v (.one (.own 1 none)))]) 2

theorem fleetmake_Stream_Series_x3_ok (vs2_1 : fleetmake_Stream) (vx2_1 : List api_Sample) {r} (hF : fleetmake_Stream_Series_x3 vs2_1 vx2_1 = some r) : Awp prog 1 82 (cL (cR (cR (cR (cB f15))))) (Out 1 fleetmake_Stream_Series_x3_k (fleetmake_Stream_Series_x3_S vs2_1 vx2_1) r) (fleetmake_Stream_Series_x3_I vs2_1 vx2_1) := by
  unfold fleetmake_Stream_Series_x3 at hF
  refine awp_seq ?_
  refine awp_to (st' := fleetmake_Stream_Series_x4_I vs2_1 vx2_1) (oT [] []) ?_
  refine bE hF fun x h20 hF => ?_
  obtain ⟨vs4_1, vx3_1⟩ := x
  refine awp_sub (fleetmake_Stream_Series_x4_ok vs2_1 vx2_1 h20) ?_
  refine cE hF (fun h21 hF => ?_) fun h21 hF => ?_
  · refine awp_true (by kernel_rfl) h21 ?_
    refine awp_seq ?_
    refine bE hF fun vy1 h22 hF => ?_
    refine awp_region ?_
    refine aR 2 ?_
    refine aL api_Sample.enc vx2_1 ?_
    refine aR 1 ?_
    refine aX (x_idxO api_Sample.enc 1 h22) ?_
    refine aR 1 ?_
    refine aE ?_
    refine bE hF fun vr7 h23 hF => ?_
    refine bE hF fun vr8 h24 hF => ?_
    refine awp_region ?_
    refine aR 4 ?_
    refine aC (fleetmake_Stream_Pick_o1_ok h23) [(1, 9002)] [] [] ?_
    refine aR 2 ?_
    refine aC (fleetmake_Stream_Pick_o1_ok h24) [(1, 12002)] [] [] ?_
    refine aR 2 ?_
    refine aX (x_stE api_Sample.enc (api_Sample.mk vy1.Device vy1.Metric vr7 vy1.Value) h22) ?_
    refine aR 2 ?_
    refine aX (x_stE api_Sample.enc (api_Sample.mk vy1.Device vy1.Metric vr7 vr8) (at_set (z := (api_Sample.mk vy1.Device vy1.Metric vr7 vy1.Value)) h22)) ?_
    refine aE ?_
    exact oO hF [] [] rfl
  · refine awp_false (by kernel_rfl) h21 ?_
    refine awp_skip ?_
    exact oO hF [] [] rfl

def fleetmake_Stream_Series_R (qx : fleetmake_Stream) (qx1 : Int) (r : fleetmake_Stream × (List api_Sample)) : TV × Mem := (.v (.one (.own 1 none)), ⟨[(1, ⟨42, 4, List.map api_Sample.enc r.2⟩)], [(0, [.d (.lst (List.map (encI .i64) r.1.L)), .d (.int .i64 r.1.at_)])]⟩)

theorem fleetmake_Stream_Series_ok {qx : fleetmake_Stream} {qx1 : Int} {r} (hF : fleetmake_Stream_Series qx qx1 = some r) : Holds prog 15 [.v (.one (.box 0 0)), .v (.one (.d (.int .i64 qx1)))] ⟨[], [(0, [.d (.lst (List.map (encI .i64) qx.L)), .d (.int .i64 qx.at_)])]⟩ (Is (fleetmake_Stream_Series_R qx qx1 r)) := by
  unfold fleetmake_Stream_Series at hF
  refine holds_of_awp hΓ (fn := f15) (c := cB f15) (A := 1) (nx := 1) (by kernel_rfl) (by kernel_rfl) (by kernel_rfl) (by kernel_rfl) (by kernel_rfl) (by kernel_rfl) (lowc_of (by kernel_rfl)) ?_
  show Awp prog 1 82 (cB f15) _ _
  refine awp_seq ?_
  refine awp_region ?_
  refine aR 1 ?_
  refine aE ?_
  refine awp_seq ?_
  refine bE hF fun vr h1 hF => ?_
  refine bE hF fun x h2 hF => ?_
  obtain ⟨vs3, vr5⟩ := x
  refine awp_region ?_
  refine aR 4 ?_
  refine aC (fleetmake_Stream_Pick_o1_ok h1) [(1, 4001)] [] [] ?_
  refine aC (fleetmake_Stream_RightSeries_ok h2) [] [] [] ?_
  refine aR 1 ?_
  refine aE ?_
  refine awp_seq ?_
  refine awp_to (st' := fleetmake_Stream_Series_x1_I vs3 vr5) (oT [(1, 6002)] []) ?_
  refine bE hF fun x h17 hF => ?_
  obtain ⟨vs2_1, vx2_1⟩ := x
  refine awp_sub (fleetmake_Stream_Series_x1_ok vs3 vr5 h17) ?_
  refine awp_seq ?_
  refine awp_to (st' := fleetmake_Stream_Series_x3_I vs2_1 vx2_1) (oT [] []) ?_
  refine bE hF fun x h25 hF => ?_
  obtain ⟨vs5_1, vx4_1⟩ := x
  refine awp_sub (fleetmake_Stream_Series_x3_ok vs2_1 vx2_1 h25) ?_
  refine awp_seq ?_
  refine awp_region ?_
  refine aR 2 ?_
  refine aE ?_
  refine awp_ret ?_
  exact oF hF [] []

/-! ### beaconfleet/fleetref2.sevens -/
def fleetref2_sevens_R (qn : Int) (r : (List Int)) : TV × Mem := (.v (.one (.own 0 none)), ⟨[(0, ⟨5, 1, List.map (encI .u8) r⟩)], []⟩)

theorem fleetref2_sevens_n_ok (n : Nat) : ∀ {qn : Int} {r}, fleetref2_sevens_n n qn = some r → Holds prog 129 [.v (.one (.d (.int .i64 qn)))] ⟨[], []⟩ (Is (fleetref2_sevens_R qn r)) := by
  induction n with
  | zero => intro qn r hF; exact nE hF
  | succ n ih =>
    intro qn r hF
    unfold fleetref2_sevens_n at hF
    refine holds_of_awp hΓ (fn := f129) (c := cB f129) (A := 0) (nx := 0) (by kernel_rfl) (by kernel_rfl) (by kernel_rfl) (by kernel_rfl) (by kernel_rfl) (by kernel_rfl) (lowc_of (by kernel_rfl)) ?_
    show Awp prog 0 17 (cB f129) _ _
    refine awp_seq ?_
    refine awp_region ?_
    refine aR 1 ?_
    refine aE ?_
    refine awp_seq ?_
    refine awp_seq ?_
    refine awp_region ?_
    refine aR 2 ?_
    refine aE ?_
    refine cE hF (fun h1 hF => ?_) fun h1 hF => ?_
    · refine awp_true (by kernel_rfl) h1 ?_
      refine awp_seq ?_
      refine awp_region ?_
      refine aR 4 ?_
      refine aE ?_
      refine awp_ret ?_
      exact oF hF [(0, 5000)] []
    · refine awp_false (by kernel_rfl) h1 ?_
      refine awp_skip ?_
      refine awp_seq ?_
      refine bE hF fun vr h2 hF => ?_
      refine gE hF fun h3 hF => ?_
      refine awp_region ?_
      refine aR 7 ?_
      refine aC (ih h2) [] [] [] ?_
      refine aX (x_app (encI .u8) 7000 h3) ?_
      refine aR 1 ?_
      refine aE ?_
      refine awp_ret ?_
      exact oF hF [(0, 11000)] []

theorem fleetref2_sevens_ok {qn : Int} {r} (hF : fleetref2_sevens qn = some r) : Holds prog 129 [.v (.one (.d (.int .i64 qn)))] ⟨[], []⟩ (Is (fleetref2_sevens_R qn r)) :=
  let ⟨n, h⟩ := fixO_some hF
  fleetref2_sevens_n_ok n h

/-! ### beaconfleet/fleetref2.turned -/
def fleetref2_turned_R (qn : Int) (r : Int) : TV × Mem := (.v (.one (.d (.int .i64 r))), ⟨[], []⟩)

theorem fleetref2_turned_ok {qn : Int} {r} (hF : fleetref2_turned qn = some r) : Holds prog 130 [.v (.one (.d (.int .i64 qn)))] ⟨[], []⟩ (Is (fleetref2_turned_R qn r)) := by
  unfold fleetref2_turned at hF
  refine holds_of_awp hΓ (fn := f130) (c := cB f130) (A := 0) (nx := 0) (by kernel_rfl) (by kernel_rfl) (by kernel_rfl) (by kernel_rfl) (by kernel_rfl) (by kernel_rfl) (lowc_of (by kernel_rfl)) ?_
  show Awp prog 0 10 (cB f130) _ _
  refine awp_seq ?_
  refine awp_region ?_
  refine aR 1 ?_
  refine aE ?_
  refine awp_seq ?_
  refine awp_seq ?_
  refine awp_region ?_
  refine aR 2 ?_
  refine aE ?_
  refine cE hF (fun h1 hF => ?_) fun h1 hF => ?_
  · refine awp_true (by kernel_rfl) h1 ?_
    refine awp_seq ?_
    refine awp_region ?_
    refine aR 4 ?_
    refine aE ?_
    refine awp_ret ?_
    exact oF hF [] []
  · refine awp_false (by kernel_rfl) h1 ?_
    refine awp_skip ?_
    refine awp_seq ?_
    refine awp_region ?_
    refine aR 3 ?_
    refine aE ?_
    refine awp_ret ?_
    exact oF hF [] []

/-! ### beaconfleet/fleetref2.PackOf -/
def fleetref2_PackOf_o0_x2_k : ((List Int) × Int × Int × Int) → AEx
  | _ => .normal

def fleetref2_PackOf_o0_x2_S (ql : List api_Sample) (vout : List Int) (vat : Int) (vgap : Int) (vvalue : Int) (vx : Int) : ((List Int) × Int × Int × Int) → St
  | (vout2, vat2, vgap2, vvalue2) => Mem.st ⟨[(1, ⟨5, 1, List.map (encI .u8) vout2⟩)], []⟩ (tl [(3, .v (.one (.own 1 none))), (4, .v (.one (.d (.int .i64 vat2)))), (5, .v (.one (.d (.int .i64 vgap2)))), (6, .v (.one (.d (.int .i64 vvalue2)))), (13, .v (.one (.d (.lst (List.map api_Sample.enc ql))))), (14, .v (.one (.d (.int .i64 (ql.length : Int))))), (15, .v (.one (.d (.int .i64 vx))))]) 2

def fleetref2_PackOf_o0_x2_I (ql : List api_Sample) (vout : List Int) (vat : Int) (vgap : Int) (vvalue : Int) (vx : Int) : St := Mem.st ⟨[(1, ⟨5, 1, List.map (encI .u8) vout⟩)], []⟩ (tl [(3, .v (.one (.own 1 none))), (4, .v (.one (.d (.int .i64 vat)))), (5, .v (.one (.d (.int .i64 vgap)))), (6, .v (.one (.d (.int .i64 vvalue)))), (13, .v (.one (.d (.lst (List.map api_Sample.enc ql))))), (14, .v (.one (.d (.int .i64 (ql.length : Int))))), (15, .v (.one (.d (.int .i64 vx))))]) 2

theorem fleetref2_PackOf_o0_x2_ok (ql : List api_Sample) (vout : List Int) (vat : Int) (vgap : Int) (vvalue : Int) (vx : Int) {r} (hF : fleetref2_PackOf_o0_x2 ql vout vat vgap vvalue vx = some r) : Awp prog 1 48 (cL (cR (cR (cL (cL (cR (cL (cR (cR (cR (cB f32))))))))))) (Out 1 fleetref2_PackOf_o0_x2_k (fleetref2_PackOf_o0_x2_S ql vout vat vgap vvalue vx) r) (fleetref2_PackOf_o0_x2_I ql vout vat vgap vvalue vx) := by
  unfold fleetref2_PackOf_o0_x2 at hF
  refine awp_block ?_
  refine awp_seq ?_
  refine bE hF fun vy1 h3 hF => ?_
  refine awp_region ?_
  refine aR 1 ?_
  refine aX (x_idx api_Sample.enc h3) ?_
  refine aR 4 ?_
  refine aE ?_
  refine awp_seq ?_
  refine awp_region ?_
  refine aR 5 ?_
  refine aE ?_
  refine awp_seq ?_
  refine bE hF fun vr3 h4 hF => ?_
  refine bE hF fun vr1_3 h5 hF => ?_
  refine gE hF fun h6 hF => ?_
  refine awp_region ?_
  refine aR 4 ?_
  refine aC (fleetref2_turned_ok h4) [] [] [] ?_
  refine aC (fleetref2_sevens_ok h5) [] [] [] ?_
  refine aX (x_app (encI .u8) 1 h6) ?_
  refine aR 1 ?_
  refine aE ?_
  refine awp_seq ?_
  refine bE hF fun vr4 h7 hF => ?_
  refine bE hF fun vr1_4 h8 hF => ?_
  refine gE hF fun h9 hF => ?_
  refine awp_region ?_
  refine aR 5 ?_
  refine aC (fleetref2_turned_ok h7) [] [] [] ?_
  refine aC (fleetref2_sevens_ok h8) [] [] [] ?_
  refine aX (x_app (encI .u8) 17002 h9) ?_
  refine aR 1 ?_
  refine aE ?_
  refine awp_seq ?_
  refine aD ?_
  refine dR 8 ?_
  refine dE ?_
  refine awp_seq ?_
  refine awp_region ?_
  refine aR 2 ?_
  refine aE ?_
  refine cE hF (fun h10 hF => ?_) fun h10 hF => ?_
  · refine awp_true (by kernel_rfl) h10 ?_
    refine awp_region ?_
    refine aR 1 ?_
    refine aE ?_
    exact oO hF [(1, 26002)] [] rfl
  · refine awp_false (by kernel_rfl) h10 ?_
    refine awp_skip ?_
    exact oO hF [(1, 26002)] [] rfl

def fleetref2_PackOf_o0_x1_k : (List Int) → AEx
  | _ => .exit 0

def fleetref2_PackOf_o0_x1_S (ql : List api_Sample) : (List Int) → St
  | vout3 => Mem.st ⟨[(1, ⟨5, 1, List.map (encI .u8) vout3⟩)], []⟩ (tl [(3, .v (.one (.own 1 none)))]) 2

def fleetref2_PackOf_o0_x1_H (ql : List api_Sample) : (List Int) × Int × Int × Int × Int → St
  | (vout, vat, vgap, vvalue, vx) => Mem.st ⟨[(1, ⟨5, 1, List.map (encI .u8) vout⟩)], []⟩ (tl [(3, .v (.one (.own 1 none))), (4, .v (.one (.d (.int .i64 vat)))), (5, .v (.one (.d (.int .i64 vgap)))), (6, .v (.one (.d (.int .i64 vvalue)))), (13, .v (.one (.d (.lst (List.map api_Sample.enc ql))))), (14, .v (.one (.d (.int .i64 (ql.length : Int))))), (15, .v (.one (.d (.int .i64 vx))))]) 2

theorem fleetref2_PackOf_o0_x1_ok (ql : List api_Sample) (s : (List Int) × Int × Int × Int × Int) (r : ((List Int) × Int × Int × Int × Int) ⊕ ((List Int))) (hF : fleetref2_PackOf_o0_x1 ql s = some r) : Awp prog 1 48 (cL (cL (cR (cL (cR (cR (cR (cB f32)))))))) (Out 1 (kk fleetref2_PackOf_o0_x1_k) (SS (fleetref2_PackOf_o0_x1_H ql) (fleetref2_PackOf_o0_x1_S ql)) r) (fleetref2_PackOf_o0_x1_H ql s) := by
  obtain ⟨vout, vat, vgap, vvalue, vx⟩ := s
  unfold fleetref2_PackOf_o0_x1 at hF
  refine awp_seq ?_
  refine awp_region ?_
  refine aR 1 ?_
  refine aE ?_
  refine awp_seq ?_
  refine cE hF (fun h2 hF => ?_) fun h2 hF => ?_
  · refine awp_true (by kernel_rfl) h2 ?_
    refine awp_skip ?_
    refine awp_seq ?_
    refine awp_to (st' := fleetref2_PackOf_o0_x2_I ql vout vat vgap vvalue vx) (oT [] []) ?_
    refine bE hF fun x h11 hF => ?_
    obtain ⟨vout2_1, vat2_1, vgap2_1, vvalue2_1⟩ := x
    refine awp_sub (fleetref2_PackOf_o0_x2_ok ql vout vat vgap vvalue vx h11) ?_
    refine awp_region ?_
    refine aR 2 ?_
    refine aE ?_
    exact oO hF [] [] rfl
  · refine awp_false (by kernel_rfl) h2 ?_
    refine awp_exit ?_
    exact oO hF [] [] rfl

def fleetref2_PackOf_o0_R (ql : List api_Sample) (r : (List Int)) : TV × Mem := (.v (.one (.own 1 none)), ⟨[(1, ⟨5, 1, List.map (encI .u8) r⟩)], []⟩)

theorem fleetref2_PackOf_o0_ok {ql : List api_Sample} {r} (hF : fleetref2_PackOf_o0 ql = some r) : Holds prog 32 [.v (.one (.own 0 none))] ⟨[(0, ⟨42, 4, List.map api_Sample.enc ql⟩)], []⟩ (Is (fleetref2_PackOf_o0_R ql r)) := by
  unfold fleetref2_PackOf_o0 at hF
  refine holds_of_awp hΓ (fn := f32) (c := cB f32) (A := 1) (nx := 1) (by kernel_rfl) (by kernel_rfl) (by kernel_rfl) (by kernel_rfl) (by kernel_rfl) (by kernel_rfl) (lowc_of (by kernel_rfl)) ?_
  show Awp prog 1 48 (cB f32) _ _
  refine awp_seq ?_
  refine awp_region ?_
  refine aR 1 ?_
  refine aE ?_
  refine awp_to (oT (m := ⟨[], []⟩) (ts := [(0, .v (.one (.d (.lst (List.map api_Sample.enc ql)))))]) (nx := 1) [] []) ?_
  refine awp_seq ?_
  refine bE hF fun vr1 h1 hF => ?_
  refine awp_region ?_
  refine aR 1 ?_
  refine aL api_Sample.enc ql ?_
  refine aC (fleetref2_sevens_ok h1) [] [] [] ?_
  refine aR 1 ?_
  refine aE ?_
  refine awp_seq ?_
  refine awp_region ?_
  refine aR 3 ?_
  refine aE ?_
  refine awp_seq ?_
  refine awp_seq ?_
  refine awp_region ?_
  refine aR 1 ?_
  refine aL api_Sample.enc ql ?_
  refine aR 1 ?_
  refine aE ?_
  refine awp_block ?_
  refine awp_to (st' := fleetref2_PackOf_o0_x1_H ql (vr1, 0, 0, 0, 0)) (oT [(1, 2001)] []) ?_
  refine bE hF fun vout3_1 h12 hF => ?_
  refine awp_sub (awp_loop' (fleetref2_PackOf_o0_x1_H ql) fleetref2_PackOf_o0_x1_k (fleetref2_PackOf_o0_x1_S ql) (by intro x; exact fun h => nomatch h) h12 (fleetref2_PackOf_o0_x1_ok ql)) ?_
  refine awp_seq ?_
  refine awp_region ?_
  refine aR 2 ?_
  refine aE ?_
  refine awp_ret ?_
  exact oF hF [] []

/-! ### (*beaconfleet/fleetmake.Stream).Bytes -/
def fleetmake_Stream_Bytes_x2_k : (fleetmake_Stream × (List Int)) ⊕ (List Int) → AEx
  | .inl _ => .normal
  | .inr _ => .ret

def fleetmake_Stream_Bytes_x2_S (vr : Int) (vs1 : fleetmake_Stream) (vout : List Int) (vx : Int) : (fleetmake_Stream × (List Int)) ⊕ (List Int) → St
  | .inl (vs3, vout2) => Mem.st ⟨[(1, ⟨5, 1, List.map (encI .u8) vout2⟩)], [(0, [.d (.lst (List.map (encI .i64) vs3.L)), .d (.int .i64 vs3.at_)])]⟩ (tl [(0, .v (.one (.box 0 0))), (5, .v (.one (.own 1 none))), (10, .v (.one (.d (.int .i64 vr)))), (11, .v (.one (.d (.int .i64 vx))))]) 2
  | .inr vx2 => Mem.st ⟨[(1, ⟨5, 1, List.map (encI .u8) vx2⟩)], [(0, [.d (.lst (List.map (encI .i64) vs1.L)), .d (.int .i64 (IntKind.wrap .i64 (vs1.at_ + 1)))])]⟩ (tl [(4, .v (.one (.own 1 none)))]) 2

def fleetmake_Stream_Bytes_x2_I (vr : Int) (vs1 : fleetmake_Stream) (vout : List Int) (vx : Int) : St := Mem.st ⟨[(1, ⟨5, 1, List.map (encI .u8) vout⟩)], [(0, [.d (.lst (List.map (encI .i64) vs1.L)), .d (.int .i64 vs1.at_)])]⟩ (tl [(0, .v (.one (.box 0 0))), (5, .v (.one (.own 1 none))), (10, .v (.one (.d (.int .i64 vr)))), (11, .v (.one (.d (.int .i64 vx))))]) 2

theorem fleetmake_Stream_Bytes_x2_ok (vr : Int) (vs1 : fleetmake_Stream) (vout : List Int) (vx : Int) {r} (hF : fleetmake_Stream_Bytes_x2 vs1 vout = some r) : Awp prog 1 64 (cL (cR (cR (cL (cL (cR (cL (cR (cR (cB f121)))))))))) (Out 1 fleetmake_Stream_Bytes_x2_k (fleetmake_Stream_Bytes_x2_S vr vs1 vout vx) r) (fleetmake_Stream_Bytes_x2_I vr vs1 vout vx) := by
  unfold fleetmake_Stream_Bytes_x2 at hF
  refine awp_block ?_
  refine awp_seq ?_
  refine awp_seq ?_
  refine awp_region ?_
  refine aR 1 ?_
  refine aL (encI .u8) vout ?_
  refine aR 1 ?_
  refine aE ?_
  refine cE hF (fun h4 hF => ?_) fun h4 hF => ?_
  · refine awp_true (by kernel_rfl) h4 ?_
    refine awp_seq ?_
    refine bE hF fun vr3_4 h5 hF => ?_
    refine gE hF fun h6 hF => ?_
    refine awp_region ?_
    refine aR 2 ?_
    refine aC (fleetmake_Stream_Next_ok h5) [] [] [] ?_
    refine aR 2 ?_
    refine aX (x_app (encI .u8) 1 h6) ?_
    refine aR 1 ?_
    refine aE ?_
    refine awp_ret ?_
    exact oO hF [(1, 8002)] [] rfl
  · refine awp_false (by kernel_rfl) h4 ?_
    refine awp_skip ?_
    refine awp_seq ?_
    refine bE hF fun vr3_5 h7 hF => ?_
    refine awp_region ?_
    refine aR 2 ?_
    refine aL (encI .u8) vout ?_
    refine aC (fleetmake_Stream_Next_ok h7) [] [] [] ?_
    refine aR 1 ?_
    refine aE ?_
    refine awp_seq ?_
    refine bE hF fun vr3_6 h8 hF => ?_
    refine awp_region ?_
    refine aR 1 ?_
    refine aC (fleetmake_Stream_Next_ok h8) [] [] [] ?_
    refine aE ?_
    refine awp_block ?_
    refine awp_seq ?_
    refine awp_region ?_
    refine aR 2 ?_
    refine aE ?_
    refine cE hF (fun h9 hF => ?_) fun h9 hF => ?_
    · refine awp_true (by kernel_rfl) h9 ?_
      refine gE hF fun h10 hF => ?_
      refine gE hF fun h11 hF => ?_
      refine gE hF fun h12 hF => ?_
      refine aD ?_
      refine dR 2 ?_
      refine dX (x_pre (encI .u8) 1 h10) ?_
      refine dR 3 ?_
      refine dX (x_viewN (encI .u8) 1 h11) ?_
      refine dX (x_appP (encI .u8) 1 h10 h12 (mapV (encI .u8) vout (IntKind.wrap .i64 (vr3_5 + 1)).toNat ((vout.length : Int).toNat - (IntKind.wrap .i64 (vr3_5 + 1)).toNat))) ?_
      refine dR 1 ?_
      refine dE ?_
      exact oO hF [(1, 19002)] [] rfl
    · refine awp_false (by kernel_rfl) h9 ?_
      refine awp_seq ?_
      refine awp_region ?_
      refine aR 2 ?_
      refine aE ?_
      refine cE hF (fun h13 hF => ?_) fun h13 hF => ?_
      · refine awp_true (by kernel_rfl) h13 ?_
        refine gE hF fun h14 hF => ?_
        refine gE hF fun h15 hF => ?_
        refine gE hF fun h16 hF => ?_
        refine aD ?_
        refine dR 3 ?_
        refine dX (x_pre (encI .u8) 1 h14) ?_
        refine dR 2 ?_
        refine dX (x_viewN (encI .u8) 1 h15) ?_
        refine dX (x_appP (encI .u8) 1 h14 h16 (mapV (encI .u8) vout vr3_5.toNat ((vout.length : Int).toNat - vr3_5.toNat))) ?_
        refine dR 1 ?_
        refine dE ?_
        exact oO hF [(1, 21002)] [] rfl
      · refine awp_false (by kernel_rfl) h13 ?_
        refine awp_seq ?_
        refine awp_region ?_
        refine aR 2 ?_
        refine aE ?_
        refine cE hF (fun h17 hF => ?_) fun h17 hF => ?_
        · refine awp_true (by kernel_rfl) h17 ?_
          refine gE hF fun h18 hF => ?_
          refine awp_region ?_
          refine aR 2 ?_
          refine aT (encI .u8) 1 h18 rfl ?_
          refine aR 1 ?_
          refine aE ?_
          exact oO hF [(1, 18002)] [] rfl
        · refine awp_false (by kernel_rfl) h17 ?_
          refine bE hF fun vy1 h19 hF => ?_
          refine bE hF fun vr3_7 h20 hF => ?_
          refine gE hF fun h21 hF => ?_
          refine aDw [1] ?_
          refine dR 2 ?_
          refine dI (encI .u8) 1 h19 rfl ?_
          refine dX (x_ldE (encI .u8) h19) ?_
          refine dR 1 ?_
          refine dC (fleetmake_Stream_Next_ok h20) [] [] [] ?_
          refine dX (x_shl h21) ?_
          refine dR 1 ?_
          refine dI (encI .u8) 1 h19 rfl ?_
          refine dW (encI .u8) (ibits .xor .u8 vy1 (ishl .u8 1 vr3_7)) h19 rfl ?_
          refine dE ?_
          exact oO hF [] [] rfl

def fleetmake_Stream_Bytes_x1_k : (fleetmake_Stream × (List Int)) ⊕ (fleetmake_Stream × (List Int)) → AEx
  | .inl _ => .exit 0
  | .inr _ => .ret

def fleetmake_Stream_Bytes_x1_S (vr : Int) : (fleetmake_Stream × (List Int)) ⊕ (fleetmake_Stream × (List Int)) → St
  | .inl (vs4, vout3) => Mem.st ⟨[(1, ⟨5, 1, List.map (encI .u8) vout3⟩)], [(0, [.d (.lst (List.map (encI .i64) vs4.L)), .d (.int .i64 vs4.at_)])]⟩ (tl [(5, .v (.one (.own 1 none)))]) 2
  | .inr (vs5, vx3) => Mem.st ⟨[(1, ⟨5, 1, List.map (encI .u8) vx3⟩)], [(0, [.d (.lst (List.map (encI .i64) vs5.L)), .d (.int .i64 vs5.at_)])]⟩ (tl [(4, .v (.one (.own 1 none)))]) 2

def fleetmake_Stream_Bytes_x1_H (vr : Int) : fleetmake_Stream × (List Int) × Int → St
  | (vs1, vout, vx) => Mem.st ⟨[(1, ⟨5, 1, List.map (encI .u8) vout⟩)], [(0, [.d (.lst (List.map (encI .i64) vs1.L)), .d (.int .i64 vs1.at_)])]⟩ (tl [(0, .v (.one (.box 0 0))), (5, .v (.one (.own 1 none))), (10, .v (.one (.d (.int .i64 vr)))), (11, .v (.one (.d (.int .i64 vx))))]) 2

theorem fleetmake_Stream_Bytes_x1_ok (vr : Int) (s : fleetmake_Stream × (List Int) × Int) (r : (fleetmake_Stream × (List Int) × Int) ⊕ ((fleetmake_Stream × (List Int)) ⊕ (fleetmake_Stream × (List Int)))) (hF : fleetmake_Stream_Bytes_x1 vr s = some r) : Awp prog 1 64 (cL (cL (cR (cL (cR (cR (cB f121))))))) (Out 1 (kk fleetmake_Stream_Bytes_x1_k) (SS (fleetmake_Stream_Bytes_x1_H vr) (fleetmake_Stream_Bytes_x1_S vr)) r) (fleetmake_Stream_Bytes_x1_H vr s) := by
  obtain ⟨vs1, vout, vx⟩ := s
  unfold fleetmake_Stream_Bytes_x1 at hF
  refine awp_seq ?_
  refine awp_region ?_
  refine aR 1 ?_
  refine aE ?_
  refine awp_seq ?_
  refine cE hF (fun h3 hF => ?_) fun h3 hF => ?_
  · refine awp_true (by kernel_rfl) h3 ?_
    refine awp_skip ?_
    refine awp_seq ?_
    refine awp_to (st' := fleetmake_Stream_Bytes_x2_I vr vs1 vout vx) (oT [] []) ?_
    refine bE hF fun x h22 hF => ?_
    rcases x with ⟨vs3_1, vout2_1⟩ | vx2_1
    · refine awp_sub (fleetmake_Stream_Bytes_x2_ok vr vs1 vout vx h22) ?_
      refine awp_region ?_
      refine aR 2 ?_
      refine aE ?_
      exact oO hF [] [] rfl
    · refine awp_sub (fleetmake_Stream_Bytes_x2_ok vr vs1 vout vx h22) ?_
      exact oO hF [] [] rfl
  · refine awp_false (by kernel_rfl) h3 ?_
    refine awp_exit ?_
    exact oO hF [] [] rfl

def fleetmake_Stream_Bytes_R (qs : fleetmake_Stream) (qb : List Int) (r : fleetmake_Stream × (List Int)) : TV × Mem := (.v (.one (.own 1 none)), ⟨[(1, ⟨5, 1, List.map (encI .u8) r.2⟩)], [(0, [.d (.lst (List.map (encI .i64) r.1.L)), .d (.int .i64 r.1.at_)])]⟩)

theorem fleetmake_Stream_Bytes_ok {qs : fleetmake_Stream} {qb : List Int} {r} (hF : fleetmake_Stream_Bytes qs qb = some r) : Holds prog 121 [.v (.one (.box 0 0)), .v (.one (.d (.lst (List.map (encI .u8) qb))))] ⟨[], [(0, [.d (.lst (List.map (encI .i64) qs.L)), .d (.int .i64 qs.at_)])]⟩ (Is (fleetmake_Stream_Bytes_R qs qb r)) := by
  unfold fleetmake_Stream_Bytes at hF
  refine holds_of_awp hΓ (fn := f121) (c := cB f121) (A := 1) (nx := 1) (by kernel_rfl) (by kernel_rfl) (by kernel_rfl) (by kernel_rfl) (by kernel_rfl) (by kernel_rfl) (lowc_of (by kernel_rfl)) ?_
  show Awp prog 1 64 (cB f121) _ _
  refine awp_seq ?_
  refine awp_region ?_
  refine aR 1 ?_
  refine aE ?_
  refine awp_seq ?_
  refine gE hF fun h1 hF => ?_
  refine awp_region ?_
  refine aR 1 ?_
  refine aX (x_appN (encI .u8) qb h1) ?_
  refine aR 1 ?_
  refine aE ?_
  refine awp_seq ?_
  refine awp_seq ?_
  refine bE hF fun x h2 hF => ?_
  obtain ⟨vs, vr⟩ := x
  refine awp_region ?_
  refine aR 1 ?_
  refine aC (fleetmake_Stream_Range_ok h2) [] [] [] ?_
  refine aR 1 ?_
  refine aE ?_
  refine awp_block ?_
  refine awp_to (st' := fleetmake_Stream_Bytes_x1_H vr (vs, qb, 0)) (oT [(1, 2001)] []) ?_
  refine bE hF fun x h23 hF => ?_
  rcases x with ⟨vs4_1, vout3_1⟩ | ⟨vs5_1, vx3_1⟩
  · refine awp_sub (awp_loop' (fleetmake_Stream_Bytes_x1_H vr) fleetmake_Stream_Bytes_x1_k (fleetmake_Stream_Bytes_x1_S vr) (by intro x; rcases x with x | x <;> exact fun h => nomatch h) h23 (fleetmake_Stream_Bytes_x1_ok vr)) ?_
    refine awp_seq ?_
    refine awp_region ?_
    refine aR 2 ?_
    refine aE ?_
    refine awp_ret ?_
    exact oF hF [] []
  · refine awp_sub (awp_loop' (fleetmake_Stream_Bytes_x1_H vr) fleetmake_Stream_Bytes_x1_k (fleetmake_Stream_Bytes_x1_S vr) (by intro x; rcases x with x | x <;> exact fun h => nomatch h) h23 (fleetmake_Stream_Bytes_x1_ok vr)) ?_
    exact oF hF [] []

/-! ### (*beaconfleet/fleetmake.Stream).Packed -/
def fleetmake_Stream_Packed_x1_k : (fleetmake_Stream × (List Int)) → AEx
  | _ => .normal

def fleetmake_Stream_Packed_x1_S (vs3 : fleetmake_Stream) (vr5_1 : List Int) : (fleetmake_Stream × (List Int)) → St
  | (vs, vb) => Mem.st ⟨[(1, ⟨5, 1, List.map (encI .u8) vb⟩)], [(0, [.d (.lst (List.map (encI .i64) vs.L)), .d (.int .i64 vs.at_)])]⟩ (tl [(0, .v (.one (.box 0 0))), (3, .v (.one (.own 1 none)))]) 2

def fleetmake_Stream_Packed_x1_I (vs3 : fleetmake_Stream) (vr5_1 : List Int) : St := Mem.st ⟨[(1, ⟨5, 1, List.map (encI .u8) vr5_1⟩)], [(0, [.d (.lst (List.map (encI .i64) vs3.L)), .d (.int .i64 vs3.at_)])]⟩ (tl [(0, .v (.one (.box 0 0))), (3, .v (.one (.own 1 none)))]) 2

theorem fleetmake_Stream_Packed_x1_ok (vs3 : fleetmake_Stream) (vr5_1 : List Int) {r} (hF : fleetmake_Stream_Packed_x1 vs3 vr5_1 = some r) : Awp prog 1 25 (cL (cR (cR (cB f27)))) (Out 1 fleetmake_Stream_Packed_x1_k (fleetmake_Stream_Packed_x1_S vs3 vr5_1) r) (fleetmake_Stream_Packed_x1_I vs3 vr5_1) := by
  unfold fleetmake_Stream_Packed_x1 at hF
  refine awp_seq ?_
  refine bE hF fun vr h3 hF => ?_
  refine awp_region ?_
  refine aR 1 ?_
  refine aC (fleetmake_Stream_Flip_ok h3) [] [] [] ?_
  refine aE ?_
  refine cE hF (fun h4 hF => ?_) fun h4 hF => ?_
  · refine awp_true (by kernel_rfl) h4 ?_
    refine bE hF fun x h5 hF => ?_
    obtain ⟨vs6, vr1⟩ := x
    refine awp_to (oT (m := ⟨[], [(0, [.d (.lst (List.map (encI .i64) vs3.L)), .d (.int .i64 (IntKind.wrap .i64 (vs3.at_ + 1)))])]⟩) (ts := [(0, .v (.one (.box 0 0))), (3, .v (.one (.d (.lst (List.map (encI .u8) vr5_1)))))]) (nx := 2002) [] []) ?_
    refine awp_region ?_
    refine aR 2 ?_
    refine aC (fleetmake_Stream_Bytes_ok h5) [] [] [] ?_
    refine aR 1 ?_
    refine aE ?_
    exact oO hF [(1, 4003)] [] rfl
  · refine awp_false (by kernel_rfl) h4 ?_
    refine awp_skip ?_
    exact oO hF [] [] rfl

def fleetmake_Stream_Packed_x2_k : (fleetmake_Stream × (List Int)) → AEx
  | _ => .normal

def fleetmake_Stream_Packed_x2_S (vs1 : fleetmake_Stream) (vb1 : List Int) : (fleetmake_Stream × (List Int)) → St
  | (vs2, vb2) => Mem.st ⟨[], [(0, [.d (.lst (List.map (encI .i64) vs2.L)), .d (.int .i64 vs2.at_)])]⟩ (tl [(3, .v (.one (.d (.lst (List.map (encI .u8) vb2)))))]) 1

def fleetmake_Stream_Packed_x2_I (vs1 : fleetmake_Stream) (vb1 : List Int) : St := Mem.st ⟨[(1, ⟨5, 1, List.map (encI .u8) vb1⟩)], [(0, [.d (.lst (List.map (encI .i64) vs1.L)), .d (.int .i64 vs1.at_)])]⟩ (tl [(0, .v (.one (.box 0 0))), (3, .v (.one (.own 1 none)))]) 2

theorem fleetmake_Stream_Packed_x2_ok (vs1 : fleetmake_Stream) (vb1 : List Int) {r} (hF : fleetmake_Stream_Packed_x2 vs1 vb1 = some r) : Awp prog 1 25 (cL (cR (cR (cR (cB f27))))) (Out 1 fleetmake_Stream_Packed_x2_k (fleetmake_Stream_Packed_x2_S vs1 vb1) r) (fleetmake_Stream_Packed_x2_I vs1 vb1) := by
  unfold fleetmake_Stream_Packed_x2 at hF
  refine awp_seq ?_
  refine bE hF fun vr2 h7 hF => ?_
  refine awp_region ?_
  refine aR 1 ?_
  refine aC (fleetmake_Stream_Flip_ok h7) [] [] [] ?_
  refine aE ?_
  refine cE hF (fun h8 hF => ?_) fun h8 hF => ?_
  · refine awp_true (by kernel_rfl) h8 ?_
    refine bE hF fun vr3 h9 hF => ?_
    refine bE hF fun vy h10 hF => ?_
    refine awp_region ?_
    refine aR 5 ?_
    refine aF ⟨[(1, ⟨5, 1, List.map (encI .u8) vb1⟩)], [(0, [.d (.lst (List.map (encI .i64) vs1.L)), .d (.int .i64 (IntKind.wrap .i64 (vs1.at_ + 1)))])]⟩ [(0, .v (.one (.box 0 0))), (14, .v (.one (.d (.lst (List.map (encI .u8) ([0] : List Int)))))), (15, .v (.one (.d (.lst (List.map (encI .u8) ([0, 0] : List Int)))))), (16, .v (.one (.d (.lst (List.map (encI .u8) ([128, 0] : List Int)))))), (17, .v (.one (.d (.lst (List.map (encI .u8) ([1, 128, 0, 0] : List Int)))))), (18, .v (.one (.d (.lst (List.map (encI .u8) ([255, 255, 255, 255, 255, 255, 255, 255, 255, 1] : List Int))))))] ?_
    refine aR 2 ?_
    refine aC (fleetmake_Stream_Next_ok h9) [] [] [] ?_
    refine aX (x_idxO (encL (encI .u8)) 7002 h10) ?_
    refine aX (x_ldE (encL (encI .u8)) h10) ?_
    refine aR 1 ?_
    refine aE ?_
    exact oO hF [] [] rfl
  · refine awp_false (by kernel_rfl) h8 ?_
    refine awp_skip ?_
    exact oO hF [] [] rfl

def fleetmake_Stream_Packed_R (qs : fleetmake_Stream) (r : fleetmake_Stream × (List Int)) : TV × Mem := (.v (.one (.d (.lst (List.map (encI .u8) r.2)))), ⟨[], [(0, [.d (.lst (List.map (encI .i64) r.1.L)), .d (.int .i64 r.1.at_)])]⟩)

theorem fleetmake_Stream_Packed_ok {qs : fleetmake_Stream} {r} (hF : fleetmake_Stream_Packed qs = some r) : Holds prog 27 [.v (.one (.box 0 0))] ⟨[], [(0, [.d (.lst (List.map (encI .i64) qs.L)), .d (.int .i64 qs.at_)])]⟩ (Is (fleetmake_Stream_Packed_R qs r)) := by
  unfold fleetmake_Stream_Packed at hF
  refine holds_of_awp hΓ (fn := f27) (c := cB f27) (A := 1) (nx := 1) (by kernel_rfl) (by kernel_rfl) (by kernel_rfl) (by kernel_rfl) (by kernel_rfl) (by kernel_rfl) (lowc_of (by kernel_rfl)) ?_
  show Awp prog 1 25 (cB f27) _ _
  refine awp_seq ?_
  refine awp_region ?_
  refine aR 1 ?_
  refine aE ?_
  refine awp_seq ?_
  refine bE hF fun x h1 hF => ?_
  obtain ⟨vs3, vr5⟩ := x
  refine bE hF fun vr5_1 h2 hF => ?_
  refine awp_region ?_
  refine aR 1 ?_
  refine aC (fleetmake_Stream_RightSeries_ok h1) [] [] [] ?_
  refine aC (fleetref2_PackOf_o0_ok h2) [(0, 2002)] [] [] ?_
  refine aR 1 ?_
  refine aE ?_
  refine awp_seq ?_
  refine awp_to (st' := fleetmake_Stream_Packed_x1_I vs3 vr5_1) (oT [(1, 3002)] []) ?_
  refine bE hF fun x h6 hF => ?_
  obtain ⟨vs1, vb1⟩ := x
  refine awp_sub (fleetmake_Stream_Packed_x1_ok vs3 vr5_1 h6) ?_
  refine awp_seq ?_
  refine awp_to (st' := fleetmake_Stream_Packed_x2_I vs1 vb1) (oT [] []) ?_
  refine bE hF fun x h11 hF => ?_
  obtain ⟨vs2_1, vb2_1⟩ := x
  refine awp_sub (fleetmake_Stream_Packed_x2_ok vs1 vb1 h11) ?_
  refine awp_seq ?_
  refine awp_region ?_
  refine aR 2 ?_
  refine aE ?_
  refine awp_ret ?_
  exact oF hF [] []

/-! ### beaconfleet/base.Key -/
def base_Key_x1_k : Bool → AEx
  | _ => .normal

def base_Key_x1_S (qs : List UInt8) : Bool → St
  | vx => Mem.st ⟨[], []⟩ (tl [(0, .v (.one (.d (.str qs)))), (21, .v (.one (.d (.bool vx))))]) 0

def base_Key_x1_I (qs : List UInt8) : St := Mem.st ⟨[], []⟩ (tl [(0, .v (.one (.d (.str qs))))]) 0

theorem base_Key_x1_ok (qs : List UInt8) {r} (hF : base_Key_x1 qs = some r) : Awp prog 0 54 (cL (cL (cR (cB f124)))) (Out 0 base_Key_x1_k (base_Key_x1_S qs) r) (base_Key_x1_I qs) := by
  unfold base_Key_x1 at hF
  refine cE hF (fun h1 hF => ?_) fun h1 hF => ?_
  · refine awp_region ?_
    refine aR 1 ?_
    refine aB h1 ?_
    refine aR 15 ?_
    refine aE ?_
    exact oO hF [] [] rfl
  · refine cE hF (fun h2 hF => ?_) fun h2 hF => ?_
    · refine awp_region ?_
      refine aR 1 ?_
      refine aB h1 ?_
      refine aR 3 ?_
      refine aB h2 ?_
      refine aR 11 ?_
      refine aE ?_
      exact oO hF [] [] rfl
    · refine bE hF fun vc h3 hF => ?_
      refine cE hF (fun h4 hF => ?_) fun h4 hF => ?_
      · refine awp_region ?_
        refine aR 1 ?_
        refine aB h1 ?_
        refine aR 3 ?_
        refine aB h2 ?_
        refine aR 3 ?_
        refine aX (x_idxS h3) ?_
        refine aB h4 ?_
        refine aR 6 ?_
        refine aE ?_
        exact oO hF [] [] rfl
      · refine awp_region ?_
        refine aR 1 ?_
        refine aB h1 ?_
        refine aR 3 ?_
        refine aB h2 ?_
        refine aR 3 ?_
        refine aX (x_idxS h3) ?_
        refine aB h4 ?_
        refine aR 3 ?_
        refine aX (x_idxS h3) ?_
        refine aR 2 ?_
        refine aE ?_
        exact oO hF [] [] rfl

def base_Key_x3_k : Bool → AEx
  | _ => .normal

def base_Key_x3_S (qs : List UInt8) (vx2 : Int) (vc2 : UInt8) : Bool → St
  | vx4 => Mem.st ⟨[], []⟩ (tl [(0, .v (.one (.d (.str qs)))), (23, .v (.one (.d (.int .i64 (qs.length : Int))))), (24, .v (.one (.d (.int .i64 vx2)))), (52, .v (.one (.d (.bool vx4))))]) 0

def base_Key_x3_I (qs : List UInt8) (vx2 : Int) (vc2 : UInt8) : St := Mem.st ⟨[], []⟩ (tl [(0, .v (.one (.d (.str qs)))), (4, .v (.one (.d (.int .u8 (vc2.toNat : Int))))), (23, .v (.one (.d (.int .i64 (qs.length : Int))))), (24, .v (.one (.d (.int .i64 vx2))))]) 0

theorem base_Key_x3_ok (qs : List UInt8) (vx2 : Int) (vc2 : UInt8) {r} (hF : base_Key_x3 vc2 = some r) : Awp prog 0 54 (cL (cR (cR (cL (cL (cR (cR (cL (cL (cR (cL (cR (cR (cB f124)))))))))))))) (Out 0 base_Key_x3_k (base_Key_x3_S qs vx2 vc2) r) (base_Key_x3_I qs vx2 vc2) := by
  unfold base_Key_x3 at hF
  refine cE hF (fun h9 hF => ?_) fun h9 hF => ?_
  · refine cE hF (fun h10 hF => ?_) fun h10 hF => ?_
    · refine awp_region ?_
      refine aR 1 ?_
      refine aB h9 ?_
      refine aR 2 ?_
      refine aB h10 ?_
      refine aR 18 ?_
      refine aE ?_
      exact oO hF [] [] rfl
    · refine cE hF (fun h11 hF => ?_) fun h11 hF => ?_
      · refine cE hF (fun h12 hF => ?_) fun h12 hF => ?_
        · refine awp_region ?_
          refine aR 1 ?_
          refine aB h9 ?_
          refine aR 2 ?_
          refine aB h10 ?_
          refine aR 3 ?_
          refine aB h11 ?_
          refine aR 2 ?_
          refine aB h12 ?_
          refine aR 11 ?_
          refine aE ?_
          exact oO hF [] [] rfl
        · refine cE hF (fun h13 hF => ?_) fun h13 hF => ?_
          · refine awp_region ?_
            refine aR 1 ?_
            refine aB h9 ?_
            refine aR 2 ?_
            refine aB h10 ?_
            refine aR 3 ?_
            refine aB h11 ?_
            refine aR 2 ?_
            refine aB h12 ?_
            refine aR 4 ?_
            refine aB h13 ?_
            refine aR 6 ?_
            refine aE ?_
            exact oO hF [] [] rfl
          · refine awp_region ?_
            refine aR 1 ?_
            refine aB h9 ?_
            refine aR 2 ?_
            refine aB h10 ?_
            refine aR 3 ?_
            refine aB h11 ?_
            refine aR 2 ?_
            refine aB h12 ?_
            refine aR 4 ?_
            refine aB h13 ?_
            refine aR 6 ?_
            refine aE ?_
            exact oO hF [] [] rfl
      · refine cE hF (fun h14 hF => ?_) fun h14 hF => ?_
        · refine awp_region ?_
          refine aR 1 ?_
          refine aB h9 ?_
          refine aR 2 ?_
          refine aB h10 ?_
          refine aR 3 ?_
          refine aB h11 ?_
          refine aR 7 ?_
          refine aB h14 ?_
          refine aR 6 ?_
          refine aE ?_
          exact oO hF [] [] rfl
        · refine awp_region ?_
          refine aR 1 ?_
          refine aB h9 ?_
          refine aR 2 ?_
          refine aB h10 ?_
          refine aR 3 ?_
          refine aB h11 ?_
          refine aR 7 ?_
          refine aB h14 ?_
          refine aR 6 ?_
          refine aE ?_
          exact oO hF [] [] rfl
  · refine cE hF (fun h15 hF => ?_) fun h15 hF => ?_
    · refine cE hF (fun h16 hF => ?_) fun h16 hF => ?_
      · refine awp_region ?_
        refine aR 1 ?_
        refine aB h9 ?_
        refine aR 6 ?_
        refine aB h15 ?_
        refine aR 2 ?_
        refine aB h16 ?_
        refine aR 11 ?_
        refine aE ?_
        exact oO hF [] [] rfl
      · refine cE hF (fun h17 hF => ?_) fun h17 hF => ?_
        · refine awp_region ?_
          refine aR 1 ?_
          refine aB h9 ?_
          refine aR 6 ?_
          refine aB h15 ?_
          refine aR 2 ?_
          refine aB h16 ?_
          refine aR 4 ?_
          refine aB h17 ?_
          refine aR 6 ?_
          refine aE ?_
          exact oO hF [] [] rfl
        · refine awp_region ?_
          refine aR 1 ?_
          refine aB h9 ?_
          refine aR 6 ?_
          refine aB h15 ?_
          refine aR 2 ?_
          refine aB h16 ?_
          refine aR 4 ?_
          refine aB h17 ?_
          refine aR 6 ?_
          refine aE ?_
          exact oO hF [] [] rfl
    · refine cE hF (fun h18 hF => ?_) fun h18 hF => ?_
      · refine awp_region ?_
        refine aR 1 ?_
        refine aB h9 ?_
        refine aR 6 ?_
        refine aB h15 ?_
        refine aR 7 ?_
        refine aB h18 ?_
        refine aR 6 ?_
        refine aE ?_
        exact oO hF [] [] rfl
      · refine awp_region ?_
        refine aR 1 ?_
        refine aB h9 ?_
        refine aR 6 ?_
        refine aB h15 ?_
        refine aR 7 ?_
        refine aB h18 ?_
        refine aR 6 ?_
        refine aE ?_
        exact oO hF [] [] rfl

def base_Key_x2_k : Unit ⊕ Unit → AEx
  | .inl _ => .exit 0
  | .inr _ => .ret

def base_Key_x2_S (qs : List UInt8) : Unit ⊕ Unit → St
  | .inl _ => Mem.st ⟨[], []⟩ (tl []) 0
  | .inr _ => Mem.st ⟨[], []⟩ (tl [(2, .v (.one (.d (.bool false))))]) 0

def base_Key_x2_H (qs : List UInt8) : Int → St
  | vx2 => Mem.st ⟨[], []⟩ (tl [(0, .v (.one (.d (.str qs)))), (23, .v (.one (.d (.int .i64 (qs.length : Int))))), (24, .v (.one (.d (.int .i64 vx2))))]) 0

theorem base_Key_x2_ok (qs : List UInt8) (vx2 : Int) (r : (Int) ⊕ (Unit ⊕ Unit)) (hF : base_Key_x2 qs vx2 = some r) : Awp prog 0 54 (cL (cL (cR (cL (cR (cR (cB f124))))))) (Out 0 (kk base_Key_x2_k) (SS (base_Key_x2_H qs) (base_Key_x2_S qs)) r) (base_Key_x2_H qs vx2) := by
  unfold base_Key_x2 at hF
  refine awp_seq ?_
  refine awp_region ?_
  refine aR 1 ?_
  refine aE ?_
  refine awp_seq ?_
  refine cE hF (fun h7 hF => ?_) fun h7 hF => ?_
  · refine awp_true (by kernel_rfl) h7 ?_
    refine awp_skip ?_
    refine awp_seq ?_
    refine awp_block ?_
    refine awp_seq ?_
    refine awp_region ?_
    refine aR 2 ?_
    refine aE ?_
    refine awp_seq ?_
    refine bE hF fun vc2 h8 hF => ?_
    refine awp_region ?_
    refine aR 2 ?_
    refine aX (x_idxS h8) ?_
    refine aR 1 ?_
    refine aE ?_
    refine awp_seq ?_
    refine awp_to (st' := base_Key_x3_I qs vx2 vc2) (oT [] []) ?_
    refine bE hF fun vx4_1 h19 hF => ?_
    refine awp_sub (base_Key_x3_ok qs vx2 vc2 h19) ?_
    refine cE hF (fun h20 hF => ?_) fun h20 hF => ?_
    · refine awp_true (by kernel_rfl) h20 ?_
      refine awp_seq ?_
      refine awp_region ?_
      refine aR 1 ?_
      refine aE ?_
      refine awp_ret ?_
      exact oO hF [] [] rfl
    · refine awp_false (by kernel_rfl) h20 ?_
      refine awp_skip ?_
      refine awp_region ?_
      refine aR 2 ?_
      refine aE ?_
      exact oO hF [] [] rfl
  · refine awp_false (by kernel_rfl) h7 ?_
    refine awp_exit ?_
    exact oO hF [] [] rfl

def base_Key_R (qs : List UInt8) (r : Bool) : TV × Mem := (.v (.one (.d (.bool r))), ⟨[], []⟩)

theorem base_Key_ok {qs : List UInt8} {r} (hF : base_Key qs = some r) : Holds prog 124 [.v (.one (.d (.str qs)))] ⟨[], []⟩ (Is (base_Key_R qs r)) := by
  unfold base_Key at hF
  refine holds_of_awp hΓ (fn := f124) (c := cB f124) (A := 0) (nx := 0) (by kernel_rfl) (by kernel_rfl) (by kernel_rfl) (by kernel_rfl) (by kernel_rfl) (by kernel_rfl) (lowc_of (by kernel_rfl)) ?_
  show Awp prog 0 54 (cB f124) _ _
  refine awp_seq ?_
  refine awp_region ?_
  refine aR 1 ?_
  refine aE ?_
  refine awp_seq ?_
  refine awp_seq ?_
  refine awp_to (st' := base_Key_x1_I qs) (oT [] []) ?_
  refine bE hF fun vx1 h5 hF => ?_
  refine awp_sub (base_Key_x1_ok qs h5) ?_
  refine cE hF (fun h6 hF => ?_) fun h6 hF => ?_
  · refine awp_true (by kernel_rfl) h6 ?_
    refine awp_seq ?_
    refine awp_region ?_
    refine aR 1 ?_
    refine aE ?_
    refine awp_ret ?_
    exact oF hF [] []
  · refine awp_false (by kernel_rfl) h6 ?_
    refine awp_skip ?_
    refine awp_seq ?_
    refine awp_seq ?_
    refine awp_region ?_
    refine aR 3 ?_
    refine aE ?_
    refine awp_block ?_
    refine awp_to (st' := base_Key_x2_H qs 0) (oT [] []) ?_
    refine bE hF fun x h21 hF => ?_
    rcases x with _ | _
    · refine awp_sub (awp_loop' (base_Key_x2_H qs) base_Key_x2_k (base_Key_x2_S qs) (by intro x; rcases x with x | x <;> exact fun h => nomatch h) h21 (base_Key_x2_ok qs)) ?_
      refine awp_seq ?_
      refine awp_region ?_
      refine aR 1 ?_
      refine aE ?_
      refine awp_ret ?_
      exact oF hF [] []
    · refine awp_sub (awp_loop' (base_Key_x2_H qs) base_Key_x2_k (base_Key_x2_S qs) (by intro x; rcases x with x | x <;> exact fun h => nomatch h) h21 (base_Key_x2_ok qs)) ?_
      exact oF hF [] []

/-! ### beaconfleet/base.Out -/
def base_Out_x1_k : Bool → AEx
  | _ => .normal

def base_Out_x1_S (qn : Int) (qlow : Int) (qhigh : Int) : Bool → St
  | vx => Mem.st ⟨[], []⟩ (tl [(6, .v (.one (.d (.bool vx))))]) 0

def base_Out_x1_I (qn : Int) (qlow : Int) (qhigh : Int) : St := Mem.st ⟨[], []⟩ (tl [(0, .v (.one (.d (.int .i64 qn)))), (1, .v (.one (.d (.int .i64 qlow)))), (2, .v (.one (.d (.int .i64 qhigh))))]) 0

theorem base_Out_x1_ok (qn : Int) (qlow : Int) (qhigh : Int) {r} (hF : base_Out_x1 qn qlow qhigh = some r) : Awp prog 0 15 (cL (cR (cB f114))) (Out 0 base_Out_x1_k (base_Out_x1_S qn qlow qhigh) r) (base_Out_x1_I qn qlow qhigh) := by
  unfold base_Out_x1 at hF
  refine cE hF (fun h1 hF => ?_) fun h1 hF => ?_
  · refine awp_region ?_
    refine aR 2 ?_
    refine aB h1 ?_
    refine aR 6 ?_
    refine aE ?_
    exact oO hF [] [] rfl
  · refine awp_region ?_
    refine aR 2 ?_
    refine aB h1 ?_
    refine aR 6 ?_
    refine aE ?_
    exact oO hF [] [] rfl

def base_Out_R (qn : Int) (qlow : Int) (qhigh : Int) (r : Bool) : TV × Mem := (.v (.one (.d (.bool r))), ⟨[], []⟩)

theorem base_Out_ok {qn : Int} {qlow : Int} {qhigh : Int} {r} (hF : base_Out qn qlow qhigh = some r) : Holds prog 114 [.v (.one (.d (.int .i64 qn))), .v (.one (.d (.int .i64 qlow))), .v (.one (.d (.int .i64 qhigh)))] ⟨[], []⟩ (Is (base_Out_R qn qlow qhigh r)) := by
  unfold base_Out at hF
  refine holds_of_awp hΓ (fn := f114) (c := cB f114) (A := 0) (nx := 0) (by kernel_rfl) (by kernel_rfl) (by kernel_rfl) (by kernel_rfl) (by kernel_rfl) (by kernel_rfl) (lowc_of (by kernel_rfl)) ?_
  show Awp prog 0 15 (cB f114) _ _
  refine awp_seq ?_
  refine awp_region ?_
  refine aR 1 ?_
  refine aE ?_
  refine awp_seq ?_
  refine awp_to (st' := base_Out_x1_I qn qlow qhigh) (oT [] []) ?_
  refine bE hF fun vx1 h2 hF => ?_
  refine awp_sub (base_Out_x1_ok qn qlow qhigh h2) ?_
  refine awp_ret ?_
  exact oF hF [] []

/-! ### beaconfleet/base.Moment -/
def base_Moment_R (qn : Int) (r : Bool) : TV × Mem := (.v (.one (.d (.bool r))), ⟨[], []⟩)

theorem base_Moment_ok {qn : Int} {r} (hF : base_Moment qn = some r) : Holds prog 127 [.v (.one (.d (.int .i64 qn)))] ⟨[], []⟩ (Is (base_Moment_R qn r)) := by
  unfold base_Moment at hF
  refine holds_of_awp hΓ (fn := f127) (c := cB f127) (A := 0) (nx := 0) (by kernel_rfl) (by kernel_rfl) (by kernel_rfl) (by kernel_rfl) (by kernel_rfl) (by kernel_rfl) (lowc_of (by kernel_rfl)) ?_
  show Awp prog 0 6 (cB f127) _ _
  refine awp_seq ?_
  refine awp_region ?_
  refine aR 1 ?_
  refine aE ?_
  refine awp_seq ?_
  refine bE hF fun vr h1 hF => ?_
  refine awp_region ?_
  refine aR 1 ?_
  refine aC (base_Out_ok h1) [] [] [] ?_
  refine aR 2 ?_
  refine aE ?_
  refine awp_ret ?_
  exact oF hF [] []

/-! ### internal/bytealg.CompareString -/
def bytealg_CompareString_R (qa : List UInt8) (qb : List UInt8) (r : Unit) : TV × Mem := (.v (.one (.d (.int .i64 (Lib.compareBytes qa qb)))), ⟨[], []⟩)

theorem bytealg_CompareString_ok {qa : List UInt8} {qb : List UInt8} {r} (hF : bytealg_CompareString qa qb = some r) : Holds prog 248 [.v (.one (.d (.str qa))), .v (.one (.d (.str qb)))] ⟨[], []⟩ (Is (bytealg_CompareString_R qa qb r)) := by
  unfold bytealg_CompareString at hF
  refine holds_of_awp hΓ (fn := f248) (c := cB f248) (A := 0) (nx := 0) (by kernel_rfl) (by kernel_rfl) (by kernel_rfl) (by kernel_rfl) (by kernel_rfl) (by kernel_rfl) (lowc_of (by kernel_rfl)) ?_
  show Awp prog 0 8 (cB f248) _ _
  refine awp_seq ?_
  refine awp_region ?_
  refine aR 1 ?_
  refine aE ?_
  refine awp_seq ?_
  refine awp_region ?_
  refine aR 2 ?_
  refine aS (does_cmpstring (g := 265) (fn := f265) (a := qa) (b := qb) rfl (by kernel_rfl) (by kernel_rfl) (by kernel_rfl) (by kernel_rfl) (by kernel_rfl) (by kernel_rfl)) ?_
  refine aR 1 ?_
  refine aE ?_
  refine awp_ret ?_
  exact oF hF [] []

/-! ### strings.Compare -/
def strings_Compare_R (qa : List UInt8) (qb : List UInt8) (r : Unit) : TV × Mem := (.v (.one (.d (.int .i64 (Lib.compareBytes qa qb)))), ⟨[], []⟩)

theorem strings_Compare_ok {qa : List UInt8} {qb : List UInt8} {r} (hF : strings_Compare qa qb = some r) : Holds prog 229 [.v (.one (.d (.str qa))), .v (.one (.d (.str qb)))] ⟨[], []⟩ (Is (strings_Compare_R qa qb r)) := by
  unfold strings_Compare at hF
  refine holds_of_awp hΓ (fn := f229) (c := cB f229) (A := 0) (nx := 0) (by kernel_rfl) (by kernel_rfl) (by kernel_rfl) (by kernel_rfl) (by kernel_rfl) (by kernel_rfl) (lowc_of (by kernel_rfl)) ?_
  show Awp prog 0 8 (cB f229) _ _
  refine awp_seq ?_
  refine awp_region ?_
  refine aR 1 ?_
  refine aE ?_
  refine awp_seq ?_
  refine bE hF fun _ h1 hF => ?_
  refine awp_region ?_
  refine aR 2 ?_
  refine aC (bytealg_CompareString_ok h1) [] [] [] ?_
  refine aR 1 ?_
  refine aE ?_
  refine awp_ret ?_
  exact oF hF [] []

/-! ### cmp.isNaN[int] -/
def cmp_isNaN_int_R (qx : Int) (r : Unit) : TV × Mem := (.v (.one (.d (.bool (!decide (qx = qx))))), ⟨[], []⟩)

theorem cmp_isNaN_int_ok {qx : Int} {r} (hF : cmp_isNaN_int qx = some r) : Holds prog 227 [.v (.one (.d (.int .i64 qx)))] ⟨[], []⟩ (Is (cmp_isNaN_int_R qx r)) := by
  unfold cmp_isNaN_int at hF
  refine holds_of_awp hΓ (fn := f227) (c := cB f227) (A := 0) (nx := 0) (by kernel_rfl) (by kernel_rfl) (by kernel_rfl) (by kernel_rfl) (by kernel_rfl) (by kernel_rfl) (lowc_of (by kernel_rfl)) ?_
  show Awp prog 0 6 (cB f227) _ _
  refine awp_seq ?_
  refine awp_region ?_
  refine aR 1 ?_
  refine aE ?_
  refine awp_seq ?_
  refine awp_region ?_
  refine aR 4 ?_
  refine aE ?_
  refine awp_ret ?_
  exact oF hF [] []

/-! ### cmp.Compare[int] -/
def cmp_Compare_int_R (qx : Int) (qy : Int) (r : Int) : TV × Mem := (.v (.one (.d (.int .i64 r))), ⟨[], []⟩)

theorem cmp_Compare_int_ok {qx : Int} {qy : Int} {r} (hF : cmp_Compare_int qx qy = some r) : Holds prog 165 [.v (.one (.d (.int .i64 qx))), .v (.one (.d (.int .i64 qy)))] ⟨[], []⟩ (Is (cmp_Compare_int_R qx qy r)) := by
  unfold cmp_Compare_int at hF
  refine holds_of_awp hΓ (fn := f165) (c := cB f165) (A := 0) (nx := 0) (by kernel_rfl) (by kernel_rfl) (by kernel_rfl) (by kernel_rfl) (by kernel_rfl) (by kernel_rfl) (lowc_of (by kernel_rfl)) ?_
  show Awp prog 0 20 (cB f165) _ _
  refine awp_seq ?_
  refine awp_region ?_
  refine aR 1 ?_
  refine aE ?_
  refine awp_seq ?_
  refine bE hF fun _ h1 hF => ?_
  refine awp_region ?_
  refine aR 1 ?_
  refine aC (cmp_isNaN_int_ok h1) [] [] [] ?_
  refine aR 1 ?_
  refine aE ?_
  refine awp_seq ?_
  refine bE hF fun _ h2 hF => ?_
  refine awp_region ?_
  refine aR 1 ?_
  refine aC (cmp_isNaN_int_ok h2) [] [] [] ?_
  refine aR 1 ?_
  refine aE ?_
  refine awp_seq ?_
  refine awp_seq ?_
  refine awp_region ?_
  refine aR 1 ?_
  refine aE ?_
  refine cE hF (fun h3 hF => ?_) fun h3 hF => ?_
  · refine awp_true (by kernel_rfl) h3 ?_
    refine awp_seq ?_
    refine awp_seq ?_
    refine awp_region ?_
    refine aR 1 ?_
    refine aE ?_
    refine cE hF (fun h4 hF => ?_) fun h4 hF => ?_
    · refine awp_true (by kernel_rfl) h4 ?_
      refine awp_seq ?_
      refine awp_region ?_
      refine aR 1 ?_
      refine aE ?_
      refine awp_ret ?_
      exact oF hF [] []
    · refine awp_false (by kernel_rfl) h4 ?_
      refine awp_skip ?_
      refine awp_seq ?_
      refine awp_region ?_
      refine aR 1 ?_
      refine aE ?_
      refine awp_ret ?_
      exact oF hF [] []
  · refine awp_false (by kernel_rfl) h3 ?_
    refine awp_skip ?_
    refine awp_seq ?_
    refine awp_seq ?_
    refine awp_region ?_
    refine aR 1 ?_
    refine aE ?_
    refine cE hF (fun h5 hF => ?_) fun h5 hF => ?_
    · refine awp_true (by kernel_rfl) h5 ?_
      refine awp_seq ?_
      refine awp_region ?_
      refine aR 1 ?_
      refine aE ?_
      refine awp_ret ?_
      exact oF hF [] []
    · refine awp_false (by kernel_rfl) h5 ?_
      refine awp_skip ?_
      refine awp_seq ?_
      refine awp_seq ?_
      refine awp_region ?_
      refine aR 3 ?_
      refine aE ?_
      refine cE hF (fun h6 hF => ?_) fun h6 hF => ?_
      · refine awp_true (by kernel_rfl) h6 ?_
        refine awp_seq ?_
        refine awp_region ?_
        refine aR 1 ?_
        refine aE ?_
        refine awp_ret ?_
        exact oF hF [] []
      · refine awp_false (by kernel_rfl) h6 ?_
        refine awp_skip ?_
        refine awp_seq ?_
        refine awp_seq ?_
        refine awp_region ?_
        refine aR 3 ?_
        refine aE ?_
        refine cE hF (fun h7 hF => ?_) fun h7 hF => ?_
        · refine awp_true (by kernel_rfl) h7 ?_
          refine awp_seq ?_
          refine awp_region ?_
          refine aR 1 ?_
          refine aE ?_
          refine awp_ret ?_
          exact oF hF [] []
        · refine awp_false (by kernel_rfl) h7 ?_
          refine awp_skip ?_
          refine awp_seq ?_
          refine awp_region ?_
          refine aR 1 ?_
          refine aE ?_
          refine awp_ret ?_
          exact oF hF [] []

/-! ### cmp.Or[int] -/
def cmp_Or_int_x1_k : Unit ⊕ Int → AEx
  | .inl _ => .exit 0
  | .inr _ => .ret

def cmp_Or_int_x1_S (qvals : List Int) : Unit ⊕ Int → St
  | .inl _ => Mem.st ⟨[], []⟩ (tl [(3, .v (.one (.d (.int .i64 0))))]) 0
  | .inr vx1 => Mem.st ⟨[], []⟩ (tl [(2, .v (.one (.d (.int .i64 vx1))))]) 0

def cmp_Or_int_x1_H (qvals : List Int) : Int → St
  | vx => Mem.st ⟨[], []⟩ (tl [(3, .v (.one (.d (.int .i64 0)))), (6, .v (.one (.d (.lst (List.map (encI .i64) qvals))))), (7, .v (.one (.d (.int .i64 (qvals.length : Int))))), (8, .v (.one (.d (.int .i64 vx))))]) 0

theorem cmp_Or_int_x1_ok (qvals : List Int) (vx : Int) (r : (Int) ⊕ (Unit ⊕ Int)) (hF : cmp_Or_int_x1 qvals vx = some r) : Awp prog 0 18 (cL (cL (cR (cL (cR (cR (cB f233))))))) (Out 0 (kk cmp_Or_int_x1_k) (SS (cmp_Or_int_x1_H qvals) (cmp_Or_int_x1_S qvals)) r) (cmp_Or_int_x1_H qvals vx) := by
  unfold cmp_Or_int_x1 at hF
  refine awp_seq ?_
  refine awp_region ?_
  refine aR 1 ?_
  refine aE ?_
  refine awp_seq ?_
  refine cE hF (fun h1 hF => ?_) fun h1 hF => ?_
  · refine awp_true (by kernel_rfl) h1 ?_
    refine awp_skip ?_
    refine awp_seq ?_
    refine awp_block ?_
    refine awp_seq ?_
    refine bE hF fun vy1 h2 hF => ?_
    refine awp_region ?_
    refine aX (x_idx (encI .i64) h2) ?_
    refine aR 2 ?_
    refine aE ?_
    refine awp_seq ?_
    refine awp_region ?_
    refine aR 3 ?_
    refine aE ?_
    refine cE hF (fun h3 hF => ?_) fun h3 hF => ?_
    · refine awp_true (by kernel_rfl) h3 ?_
      refine awp_seq ?_
      refine awp_region ?_
      refine aR 2 ?_
      refine aE ?_
      refine awp_ret ?_
      exact oO hF [] [] rfl
    · refine awp_false (by kernel_rfl) h3 ?_
      refine awp_skip ?_
      refine awp_region ?_
      refine aR 2 ?_
      refine aE ?_
      exact oO hF [] [] rfl
  · refine awp_false (by kernel_rfl) h1 ?_
    refine awp_exit ?_
    exact oO hF [] [] rfl

def cmp_Or_int_R (qvals : List Int) (r : Int) : TV × Mem := (.v (.one (.d (.int .i64 r))), ⟨[], []⟩)

theorem cmp_Or_int_ok {qvals : List Int} {r} (hF : cmp_Or_int qvals = some r) : Holds prog 233 [.v (.one (.d (.lst (List.map (encI .i64) qvals))))] ⟨[], []⟩ (Is (cmp_Or_int_R qvals r)) := by
  unfold cmp_Or_int at hF
  refine holds_of_awp hΓ (fn := f233) (c := cB f233) (A := 0) (nx := 0) (by kernel_rfl) (by kernel_rfl) (by kernel_rfl) (by kernel_rfl) (by kernel_rfl) (by kernel_rfl) (lowc_of (by kernel_rfl)) ?_
  show Awp prog 0 18 (cB f233) _ _
  refine awp_seq ?_
  refine awp_region ?_
  refine aR 1 ?_
  refine aE ?_
  refine awp_seq ?_
  refine awp_region ?_
  refine aR 1 ?_
  refine aE ?_
  refine awp_seq ?_
  refine awp_seq ?_
  refine awp_region ?_
  refine aR 1 ?_
  refine aL (encI .i64) qvals ?_
  refine aR 1 ?_
  refine aE ?_
  refine awp_block ?_
  refine awp_to (st' := cmp_Or_int_x1_H qvals 0) (oT [] []) ?_
  refine bE hF fun x h4 hF => ?_
  rcases x with _ | vx1_1
  · refine awp_sub (awp_loop' (cmp_Or_int_x1_H qvals) cmp_Or_int_x1_k (cmp_Or_int_x1_S qvals) (by intro x; rcases x with x | x <;> exact fun h => nomatch h) h4 (cmp_Or_int_x1_ok qvals)) ?_
    refine awp_seq ?_
    refine awp_region ?_
    refine aR 2 ?_
    refine aE ?_
    refine awp_ret ?_
    exact oF hF [] []
  · refine awp_sub (awp_loop' (cmp_Or_int_x1_H qvals) cmp_Or_int_x1_k (cmp_Or_int_x1_S qvals) (by intro x; rcases x with x | x <;> exact fun h => nomatch h) h4 (cmp_Or_int_x1_ok qvals)) ?_
    exact oF hF [] []

/-! ### beaconfleet/series.byDevice -/
def series_byDevice_R (qa : api_Sample) (qb : api_Sample) (r : Int) : TV × Mem := (.v (.one (.d (.int .i64 r))), ⟨[], []⟩)

theorem series_byDevice_ok {qa : api_Sample} {qb : api_Sample} {r} (hF : series_byDevice qa qb = some r) : Holds prog 246 [.v (.agg [.d (.str qa.Device), .d (.str qa.Metric), .d (.int .i64 qa.At), .d (.int .i64 qa.Value)]), .v (.agg [.d (.str qb.Device), .d (.str qb.Metric), .d (.int .i64 qb.At), .d (.int .i64 qb.Value)])] ⟨[], []⟩ (Is (series_byDevice_R qa qb r)) := by
  unfold series_byDevice at hF
  refine holds_of_awp hΓ (fn := f246) (c := cB f246) (A := 0) (nx := 0) (by kernel_rfl) (by kernel_rfl) (by kernel_rfl) (by kernel_rfl) (by kernel_rfl) (by kernel_rfl) (lowc_of (by kernel_rfl)) ?_
  show Awp prog 0 22 (cB f246) _ _
  refine awp_seq ?_
  refine awp_region ?_
  refine aR 3 ?_
  refine aE ?_
  refine awp_seq ?_
  refine bE hF fun _ h1 hF => ?_
  refine bE hF fun _ h2 hF => ?_
  refine bE hF fun vr h3 hF => ?_
  refine bE hF fun vr1 h4 hF => ?_
  refine aD ?_
  refine dR 4 ?_
  refine dC (strings_Compare_ok h1) [] [] [] ?_
  refine dR 4 ?_
  refine dC (strings_Compare_ok h2) [] [] [] ?_
  refine dR 4 ?_
  refine dC (cmp_Compare_int_ok h3) [] [] [] ?_
  refine dR 1 ?_
  refine dC (cmp_Or_int_ok h4) [] [] [18000] ?_
  refine dR 1 ?_
  refine dE ?_
  refine awp_ret ?_
  exact oF hF [] []

/-! ### beaconfleet/series.Check -/
def series_Check_x2_k : Bool → AEx
  | _ => .normal

def series_Check_x2_S (ql : List api_Sample) (vx : Int) (vy2 : api_Sample) : Bool → St
  | vx4 => Mem.st ⟨[], [(0, [.d (.str vy2.Device), .d (.str vy2.Metric), .d (.int .i64 vy2.At), .d (.int .i64 vy2.Value)])]⟩ (tl [(0, .v (.one (.d (.lst (List.map api_Sample.enc ql))))), (3, .v (.one (.d (.int .i64 vx)))), (4, .v (.one (.box 0 0))), (8, .v (.one (.d (.lst (List.map api_Sample.enc ql))))), (9, .v (.one (.d (.int .i64 (ql.length : Int))))), (10, .v (.one (.d (.int .i64 vx)))), (15, .v (.one (.d (.bool vx4))))]) 1

def series_Check_x2_I (ql : List api_Sample) (vx : Int) (vy2 : api_Sample) : St := Mem.st ⟨[], [(0, [.d (.str vy2.Device), .d (.str vy2.Metric), .d (.int .i64 vy2.At), .d (.int .i64 vy2.Value)])]⟩ (tl [(0, .v (.one (.d (.lst (List.map api_Sample.enc ql))))), (3, .v (.one (.d (.int .i64 vx)))), (4, .v (.one (.box 0 0))), (8, .v (.one (.d (.lst (List.map api_Sample.enc ql))))), (9, .v (.one (.d (.int .i64 (ql.length : Int))))), (10, .v (.one (.d (.int .i64 vx))))]) 1

theorem series_Check_x2_ok (ql : List api_Sample) (vx : Int) (vy2 : api_Sample) {r} (hF : series_Check_x2 vy2 = some r) : Awp prog 0 50 (cL (cL (cR (cL (cL (cR (cR (cL (cL (cR (cL (cR (cR (cB f211)))))))))))))) (Out 0 series_Check_x2_k (series_Check_x2_S ql vx vy2) r) (series_Check_x2_I ql vx vy2) := by
  unfold series_Check_x2 at hF
  refine bE hF fun vr3 h4 hF => ?_
  refine cE hF (fun h5 hF => ?_) fun h5 hF => ?_
  · refine awp_region ?_
    refine aR 2 ?_
    refine aC (base_Key_ok h4) [] [] [] ?_
    refine aB h5 ?_
    refine aR 7 ?_
    refine aE ?_
    exact oO hF [] [] rfl
  · refine bE hF fun vr4 h6 hF => ?_
    refine awp_region ?_
    refine aR 2 ?_
    refine aC (base_Key_ok h4) [] [] [] ?_
    refine aB h5 ?_
    refine aR 3 ?_
    refine aC (base_Key_ok h6) [] [] [] ?_
    refine aR 3 ?_
    refine aE ?_
    exact oO hF [] [] rfl

def series_Check_x3_k : Bool → AEx
  | _ => .normal

def series_Check_x3_S (ql : List api_Sample) (vx : Int) (vy2 : api_Sample) : Bool → St
  | vx5 => Mem.st ⟨[], [(0, [.d (.str vy2.Device), .d (.str vy2.Metric), .d (.int .i64 vy2.At), .d (.int .i64 vy2.Value)])]⟩ (tl [(0, .v (.one (.d (.lst (List.map api_Sample.enc ql))))), (3, .v (.one (.d (.int .i64 vx)))), (4, .v (.one (.box 0 0))), (8, .v (.one (.d (.lst (List.map api_Sample.enc ql))))), (9, .v (.one (.d (.int .i64 (ql.length : Int))))), (10, .v (.one (.d (.int .i64 vx)))), (26, .v (.one (.d (.bool vx5))))]) 1

def series_Check_x3_I (ql : List api_Sample) (vx : Int) (vy2 : api_Sample) : St := Mem.st ⟨[], [(0, [.d (.str vy2.Device), .d (.str vy2.Metric), .d (.int .i64 vy2.At), .d (.int .i64 vy2.Value)])]⟩ (tl [(0, .v (.one (.d (.lst (List.map api_Sample.enc ql))))), (3, .v (.one (.d (.int .i64 vx)))), (4, .v (.one (.box 0 0))), (8, .v (.one (.d (.lst (List.map api_Sample.enc ql))))), (9, .v (.one (.d (.int .i64 (ql.length : Int))))), (10, .v (.one (.d (.int .i64 vx))))]) 1

theorem series_Check_x3_ok (ql : List api_Sample) (vx : Int) (vy2 : api_Sample) {r} (hF : series_Check_x3 vy2 = some r) : Awp prog 0 50 (cL (cR (cR (cL (cR (cL (cL (cR (cR (cL (cL (cR (cL (cR (cR (cB f211)))))))))))))))) (Out 0 series_Check_x3_k (series_Check_x3_S ql vx vy2) r) (series_Check_x3_I ql vx vy2) := by
  unfold series_Check_x3 at hF
  refine bE hF fun vr1_2 h9 hF => ?_
  refine cE hF (fun h10 hF => ?_) fun h10 hF => ?_
  · refine awp_region ?_
    refine aR 2 ?_
    refine aC (base_Moment_ok h9) [] [] [] ?_
    refine aB h10 ?_
    refine aR 6 ?_
    refine aE ?_
    exact oO hF [] [] rfl
  · refine bE hF fun vr5 h11 hF => ?_
    refine awp_region ?_
    refine aR 2 ?_
    refine aC (base_Moment_ok h9) [] [] [] ?_
    refine aB h10 ?_
    refine aR 3 ?_
    refine aC (base_Out_ok h11) [] [] [] ?_
    refine aR 2 ?_
    refine aE ?_
    exact oO hF [] [] rfl

def series_Check_x4_k : Bool → AEx
  | _ => .normal

def series_Check_x4_S (ql : List api_Sample) (vx : Int) (vy2 : api_Sample) : Bool → St
  | vx6 => Mem.st ⟨[], []⟩ (tl [(0, .v (.one (.d (.lst (List.map api_Sample.enc ql))))), (8, .v (.one (.d (.lst (List.map api_Sample.enc ql))))), (9, .v (.one (.d (.int .i64 (ql.length : Int))))), (10, .v (.one (.d (.int .i64 vx)))), (36, .v (.one (.d (.bool vx6))))]) 0

def series_Check_x4_I (ql : List api_Sample) (vx : Int) (vy2 : api_Sample) : St := Mem.st ⟨[], [(0, [.d (.str vy2.Device), .d (.str vy2.Metric), .d (.int .i64 vy2.At), .d (.int .i64 vy2.Value)])]⟩ (tl [(0, .v (.one (.d (.lst (List.map api_Sample.enc ql))))), (3, .v (.one (.d (.int .i64 vx)))), (4, .v (.one (.box 0 0))), (8, .v (.one (.d (.lst (List.map api_Sample.enc ql))))), (9, .v (.one (.d (.int .i64 (ql.length : Int))))), (10, .v (.one (.d (.int .i64 vx))))]) 1

theorem series_Check_x4_ok (ql : List api_Sample) (vx : Int) (vy2 : api_Sample) {r} (hF : series_Check_x4 ql vx vy2 = some r) : Awp prog 0 50 (cL (cR (cR (cR (cR (cL (cR (cL (cL (cR (cR (cL (cL (cR (cL (cR (cR (cB f211)))))))))))))))))) (Out 0 series_Check_x4_k (series_Check_x4_S ql vx vy2) r) (series_Check_x4_I ql vx vy2) := by
  unfold series_Check_x4 at hF
  refine cE hF (fun h14 hF => ?_) fun h14 hF => ?_
  · refine bE hF fun vy3 h15 hF => ?_
    refine bE hF fun vr2_2 h16 hF => ?_
    refine aD ?_
    refine dR 1 ?_
    refine dB h14 ?_
    refine dR 5 ?_
    refine dX (x_idx api_Sample.enc h15) ?_
    refine dR 1 ?_
    refine dC (series_byDevice_ok h16) [] [] [] ?_
    refine dR 3 ?_
    refine dE ?_
    exact oO hF [] [] rfl
  · refine aD ?_
    refine dR 1 ?_
    refine dB h14 ?_
    refine dR 11 ?_
    refine dE ?_
    exact oO hF [] [] rfl

def series_Check_x1_k : Unit ⊕ Int → AEx
  | .inl _ => .exit 0
  | .inr _ => .ret

def series_Check_x1_S (ql : List api_Sample) : Unit ⊕ Int → St
  | .inl _ => Mem.st ⟨[], []⟩ (tl []) 0
  | .inr vx7 => Mem.st ⟨[], []⟩ (tl [(2, .v (.one (.d (.int .i64 vx7))))]) 0

def series_Check_x1_H (ql : List api_Sample) : Int → St
  | vx => Mem.st ⟨[], []⟩ (tl [(0, .v (.one (.d (.lst (List.map api_Sample.enc ql))))), (8, .v (.one (.d (.lst (List.map api_Sample.enc ql))))), (9, .v (.one (.d (.int .i64 (ql.length : Int))))), (10, .v (.one (.d (.int .i64 vx))))]) 0

theorem series_Check_x1_ok (ql : List api_Sample) (vx : Int) (r : (Int) ⊕ (Unit ⊕ Int)) (hF : series_Check_x1 ql vx = some r) : Awp prog 0 50 (cL (cL (cR (cL (cR (cR (cB f211))))))) (Out 0 (kk series_Check_x1_k) (SS (series_Check_x1_H ql) (series_Check_x1_S ql)) r) (series_Check_x1_H ql vx) := by
  unfold series_Check_x1 at hF
  refine awp_seq ?_
  refine awp_region ?_
  refine aR 1 ?_
  refine aE ?_
  refine awp_seq ?_
  refine cE hF (fun h2 hF => ?_) fun h2 hF => ?_
  · refine awp_true (by kernel_rfl) h2 ?_
    refine awp_skip ?_
    refine awp_seq ?_
    refine awp_block ?_
    refine awp_seq ?_
    refine bE hF fun vy2 h3 hF => ?_
    refine awp_region ?_
    refine aR 1 ?_
    refine aX (x_idx api_Sample.enc h3) ?_
    refine aR 4 ?_
    refine aE ?_
    refine awp_block ?_
    refine awp_seq ?_
    refine awp_to (st' := series_Check_x2_I ql vx vy2) (oT [(0, 4000)] []) ?_
    refine bE hF fun vx4_1 h7 hF => ?_
    refine awp_sub (series_Check_x2_ok ql vx vy2 h7) ?_
    refine cE hF (fun h8 hF => ?_) fun h8 hF => ?_
    · refine awp_true (by kernel_rfl) h8 ?_
      refine awp_seq ?_
      refine awp_region ?_
      refine aR 1 ?_
      refine aE ?_
      refine awp_ret ?_
      exact oO hF [] [] rfl
    · refine awp_false (by kernel_rfl) h8 ?_
      refine awp_seq ?_
      refine awp_to (st' := series_Check_x3_I ql vx vy2) (oT [] []) ?_
      refine bE hF fun vx5_1 h12 hF => ?_
      refine awp_sub (series_Check_x3_ok ql vx vy2 h12) ?_
      refine cE hF (fun h13 hF => ?_) fun h13 hF => ?_
      · refine awp_true (by kernel_rfl) h13 ?_
        refine awp_seq ?_
        refine awp_region ?_
        refine aR 1 ?_
        refine aE ?_
        refine awp_ret ?_
        exact oO hF [] [] rfl
      · refine awp_false (by kernel_rfl) h13 ?_
        refine awp_seq ?_
        refine awp_to (st' := series_Check_x4_I ql vx vy2) (oT [] []) ?_
        refine bE hF fun vx6_1 h17 hF => ?_
        refine awp_sub (series_Check_x4_ok ql vx vy2 h17) ?_
        refine cE hF (fun h18 hF => ?_) fun h18 hF => ?_
        · refine awp_true (by kernel_rfl) h18 ?_
          refine awp_seq ?_
          refine awp_region ?_
          refine aR 1 ?_
          refine aE ?_
          refine awp_ret ?_
          exact oO hF [] [] rfl
        · refine awp_false (by kernel_rfl) h18 ?_
          refine awp_skip ?_
          refine awp_region ?_
          refine aR 2 ?_
          refine aE ?_
          exact oO hF [] [] rfl
  · refine awp_false (by kernel_rfl) h2 ?_
    refine awp_exit ?_
    exact oO hF [] [] rfl

def series_Check_R (ql : List api_Sample) (r : Int) : TV × Mem := (.v (.one (.d (.int .i64 r))), ⟨[], []⟩)

theorem series_Check_ok {ql : List api_Sample} {r} (hF : series_Check ql = some r) : Holds prog 211 [.v (.one (.d (.lst (List.map api_Sample.enc ql))))] ⟨[], []⟩ (Is (series_Check_R ql r)) := by
  unfold series_Check at hF
  refine holds_of_awp hΓ (fn := f211) (c := cB f211) (A := 0) (nx := 0) (by kernel_rfl) (by kernel_rfl) (by kernel_rfl) (by kernel_rfl) (by kernel_rfl) (by kernel_rfl) (lowc_of (by kernel_rfl)) ?_
  show Awp prog 0 50 (cB f211) _ _
  refine awp_seq ?_
  refine awp_region ?_
  refine aR 1 ?_
  refine aE ?_
  refine awp_seq ?_
  refine awp_seq ?_
  refine awp_region ?_
  refine aR 1 ?_
  refine aL api_Sample.enc ql ?_
  refine aR 1 ?_
  refine aE ?_
  refine cE hF (fun h1 hF => ?_) fun h1 hF => ?_
  · refine awp_true (by kernel_rfl) h1 ?_
    refine awp_seq ?_
    refine awp_region ?_
    refine aR 1 ?_
    refine aE ?_
    refine awp_ret ?_
    exact oF hF [] []
  · refine awp_false (by kernel_rfl) h1 ?_
    refine awp_skip ?_
    refine awp_seq ?_
    refine awp_seq ?_
    refine awp_region ?_
    refine aR 1 ?_
    refine aL api_Sample.enc ql ?_
    refine aR 1 ?_
    refine aE ?_
    refine awp_block ?_
    refine awp_to (st' := series_Check_x1_H ql 0) (oT [] []) ?_
    refine bE hF fun x h19 hF => ?_
    rcases x with _ | vx7_1
    · refine awp_sub (awp_loop' (series_Check_x1_H ql) series_Check_x1_k (series_Check_x1_S ql) (by intro x; rcases x with x | x <;> exact fun h => nomatch h) h19 (series_Check_x1_ok ql)) ?_
      refine awp_seq ?_
      refine awp_region ?_
      refine aR 1 ?_
      refine aE ?_
      refine awp_ret ?_
      exact oF hF [] []
    · refine awp_sub (awp_loop' (series_Check_x1_H ql) series_Check_x1_k (series_Check_x1_S ql) (by intro x; rcases x with x | x <;> exact fun h => nomatch h) h19 (series_Check_x1_ok ql)) ?_
      exact oF hF [] []

/-! ### beaconfleet/series.CheckSeries$1 -/
def series_CheckSeries_1_x1_k : Bool → AEx
  | _ => .normal

def series_CheckSeries_1_x1_S (qs : api_Sample) (qx : List api_Sample) : Bool → St
  | vx => Mem.st ⟨[], [(0, [.d (.lst (List.map api_Sample.enc qx))])]⟩ (tl [(3, .v (.one (.d (.bool vx))))]) 1

def series_CheckSeries_1_x1_I (qs : api_Sample) (qx : List api_Sample) : St := Mem.st ⟨[], [(0, [.d (.lst (List.map api_Sample.enc qx))]), (1, [.d (.str qs.Device), .d (.str qs.Metric), .d (.int .i64 qs.At), .d (.int .i64 qs.Value)])]⟩ (tl [(1, .v (.one (.box 0 0))), (2, .v (.one (.box 1 0)))]) 2

theorem series_CheckSeries_1_x1_ok (qs : api_Sample) (qx : List api_Sample) {r} (hF : series_CheckSeries_1_x1 qs qx = some r) : Awp prog 1 20 (cL (cR (cB f212))) (Out 1 series_CheckSeries_1_x1_k (series_CheckSeries_1_x1_S qs qx) r) (series_CheckSeries_1_x1_I qs qx) := by
  unfold series_CheckSeries_1_x1 at hF
  refine bE hF fun vy h1 hF => ?_
  refine cE hF (fun h2 hF => ?_) fun h2 hF => ?_
  · refine aD ?_
    refine dR 3 ?_
    refine dX (x_idx api_Sample.enc h1) ?_
    refine dR 2 ?_
    refine dB h2 ?_
    refine dR 10 ?_
    refine dE ?_
    exact oO hF [] [] rfl
  · refine aD ?_
    refine dR 3 ?_
    refine dX (x_idx api_Sample.enc h1) ?_
    refine dR 2 ?_
    refine dB h2 ?_
    refine dR 4 ?_
    refine dX (x_idx api_Sample.enc h1) ?_
    refine dR 5 ?_
    refine dE ?_
    exact oO hF [] [] rfl

def series_CheckSeries_1_R (qs : api_Sample) (qx : List api_Sample) (r : Bool) : TV × Mem := (.v (.one (.d (.bool r))), ⟨[], [(0, [.d (.lst (List.map api_Sample.enc qx))])]⟩)

theorem series_CheckSeries_1_ok {qs : api_Sample} {qx : List api_Sample} {r} (hF : series_CheckSeries_1 qs qx = some r) : Holds prog 212 [.v (.agg [.d (.str qs.Device), .d (.str qs.Metric), .d (.int .i64 qs.At), .d (.int .i64 qs.Value)]), .v (.one (.box 0 0))] ⟨[], [(0, [.d (.lst (List.map api_Sample.enc qx))])]⟩ (Is (series_CheckSeries_1_R qs qx r)) := by
  unfold series_CheckSeries_1 at hF
  refine holds_of_awp hΓ (fn := f212) (c := cB f212) (A := 1) (nx := 1) (by kernel_rfl) (by kernel_rfl) (by kernel_rfl) (by kernel_rfl) (by kernel_rfl) (by kernel_rfl) (lowc_of (by kernel_rfl)) ?_
  show Awp prog 1 20 (cB f212) _ _
  refine awp_seq ?_
  refine awp_region ?_
  refine aR 2 ?_
  refine aE ?_
  refine awp_seq ?_
  refine awp_to (st' := series_CheckSeries_1_x1_I qs qx) (oT [] []) ?_
  refine bE hF fun vx1 h3 hF => ?_
  refine awp_sub (series_CheckSeries_1_x1_ok qs qx h3) ?_
  refine awp_ret ?_
  exact oF hF [] []

/-! ### slices.IndexFunc[[]beaconfleet/api.Sample,beaconfleet/api.Sample] -/
def slices_IndexFunc_api_Sample_api_Sample_f1_series_CheckSeries_1_x1_k : Unit ⊕ Int → AEx
  | .inl _ => .exit 0
  | .inr _ => .ret

def slices_IndexFunc_api_Sample_api_Sample_f1_series_CheckSeries_1_x1_S (qs : List api_Sample) : Unit ⊕ Int → St
  | .inl _ => Mem.st ⟨[], [(0, [.d (.lst (List.map api_Sample.enc qs))])]⟩ (tl []) 1
  | .inr vx1 => Mem.st ⟨[], [(0, [.d (.lst (List.map api_Sample.enc qs))])]⟩ (tl [(4, .v (.one (.d (.int .i64 vx1))))]) 1

def slices_IndexFunc_api_Sample_api_Sample_f1_series_CheckSeries_1_x1_H (qs : List api_Sample) : Int → St
  | vx => Mem.st ⟨[], [(0, [.d (.lst (List.map api_Sample.enc qs))])]⟩ (tl [(0, .v (.one (.d (.lst (List.map api_Sample.enc qs))))), (1, .v (.one (.fn 212 [0]))), (7, .v (.one (.d (.int .i64 (qs.length : Int))))), (8, .v (.one (.d (.int .i64 vx))))]) 1

theorem slices_IndexFunc_api_Sample_api_Sample_f1_series_CheckSeries_1_x1_ok (qs : List api_Sample) (vx : Int) (r : (Int) ⊕ (Unit ⊕ Int)) (hF : slices_IndexFunc_api_Sample_api_Sample_f1_series_CheckSeries_1_x1 qs vx = some r) : Awp prog 1 19 (cL (cL (cR (cL (cR (cB f210)))))) (Out 1 (kk slices_IndexFunc_api_Sample_api_Sample_f1_series_CheckSeries_1_x1_k) (SS (slices_IndexFunc_api_Sample_api_Sample_f1_series_CheckSeries_1_x1_H qs) (slices_IndexFunc_api_Sample_api_Sample_f1_series_CheckSeries_1_x1_S qs)) r) (slices_IndexFunc_api_Sample_api_Sample_f1_series_CheckSeries_1_x1_H qs vx) := by
  unfold slices_IndexFunc_api_Sample_api_Sample_f1_series_CheckSeries_1_x1 at hF
  refine awp_seq ?_
  refine awp_region ?_
  refine aR 1 ?_
  refine aE ?_
  refine awp_seq ?_
  refine cE hF (fun h1 hF => ?_) fun h1 hF => ?_
  · refine awp_true (by kernel_rfl) h1 ?_
    refine awp_skip ?_
    refine awp_seq ?_
    refine awp_block ?_
    refine awp_seq ?_
    refine awp_region ?_
    refine aR 2 ?_
    refine aE ?_
    refine awp_seq ?_
    refine bE hF fun vy1 h2 hF => ?_
    refine bE hF fun vr1 h3 hF => ?_
    refine awp_region ?_
    refine aR 3 ?_
    refine aX (x_idx api_Sample.enc h2) ?_
    refine aR 1 ?_
    refine aC (series_CheckSeries_1_ok h3) [] [] [] ?_
    refine aE ?_
    refine cE hF (fun h4 hF => ?_) fun h4 hF => ?_
    · refine awp_true (by kernel_rfl) h4 ?_
      refine awp_seq ?_
      refine awp_region ?_
      refine aR 2 ?_
      refine aE ?_
      refine awp_ret ?_
      exact oO hF [] [] rfl
    · refine awp_false (by kernel_rfl) h4 ?_
      refine awp_skip ?_
      refine awp_region ?_
      refine aR 2 ?_
      refine aE ?_
      exact oO hF [] [] rfl
  · refine awp_false (by kernel_rfl) h1 ?_
    refine awp_exit ?_
    exact oO hF [] [] rfl

def slices_IndexFunc_api_Sample_api_Sample_f1_series_CheckSeries_1_R (qs : List api_Sample) (r : Int) : TV × Mem := (.v (.one (.d (.int .i64 r))), ⟨[], [(0, [.d (.lst (List.map api_Sample.enc qs))])]⟩)

theorem slices_IndexFunc_api_Sample_api_Sample_f1_series_CheckSeries_1_ok {qs : List api_Sample} {r} (hF : slices_IndexFunc_api_Sample_api_Sample_f1_series_CheckSeries_1 qs = some r) : Holds prog 210 [.v (.one (.d (.lst (List.map api_Sample.enc qs)))), .v (.one (.fn 212 [0]))] ⟨[], [(0, [.d (.lst (List.map api_Sample.enc qs))])]⟩ (Is (slices_IndexFunc_api_Sample_api_Sample_f1_series_CheckSeries_1_R qs r)) := by
  unfold slices_IndexFunc_api_Sample_api_Sample_f1_series_CheckSeries_1 at hF
  refine holds_of_awp hΓ (fn := f210) (c := cB f210) (A := 1) (nx := 1) (by kernel_rfl) (by kernel_rfl) (by kernel_rfl) (by kernel_rfl) (by kernel_rfl) (by kernel_rfl) (lowc_of (by kernel_rfl)) ?_
  show Awp prog 1 19 (cB f210) _ _
  refine awp_seq ?_
  refine awp_region ?_
  refine aR 1 ?_
  refine aE ?_
  refine awp_seq ?_
  refine awp_seq ?_
  refine awp_region ?_
  refine aR 1 ?_
  refine aL api_Sample.enc qs ?_
  refine aR 1 ?_
  refine aE ?_
  refine awp_block ?_
  refine awp_to (st' := slices_IndexFunc_api_Sample_api_Sample_f1_series_CheckSeries_1_x1_H qs 0) (oT [] []) ?_
  refine bE hF fun x h5 hF => ?_
  rcases x with _ | vx1_1
  · refine awp_sub (awp_loop' (slices_IndexFunc_api_Sample_api_Sample_f1_series_CheckSeries_1_x1_H qs) slices_IndexFunc_api_Sample_api_Sample_f1_series_CheckSeries_1_x1_k (slices_IndexFunc_api_Sample_api_Sample_f1_series_CheckSeries_1_x1_S qs) (by intro x; rcases x with x | x <;> exact fun h => nomatch h) h5 (slices_IndexFunc_api_Sample_api_Sample_f1_series_CheckSeries_1_x1_ok qs)) ?_
    refine awp_seq ?_
    refine awp_region ?_
    refine aR 1 ?_
    refine aE ?_
    refine awp_ret ?_
    exact oF hF [] []
  · refine awp_sub (awp_loop' (slices_IndexFunc_api_Sample_api_Sample_f1_series_CheckSeries_1_x1_H qs) slices_IndexFunc_api_Sample_api_Sample_f1_series_CheckSeries_1_x1_k (slices_IndexFunc_api_Sample_api_Sample_f1_series_CheckSeries_1_x1_S qs) (by intro x; rcases x with x | x <;> exact fun h => nomatch h) h5 (slices_IndexFunc_api_Sample_api_Sample_f1_series_CheckSeries_1_x1_ok qs)) ?_
    exact oF hF [] []

/-! ### slices.ContainsFunc[[]beaconfleet/api.Sample,beaconfleet/api.Sample] -/
def slices_ContainsFunc_api_Sample_api_Sample_f1_series_CheckSeries_1_R (qs : List api_Sample) (r : Bool) : TV × Mem := (.v (.one (.d (.bool r))), ⟨[], [(0, [.d (.lst (List.map api_Sample.enc qs))])]⟩)

theorem slices_ContainsFunc_api_Sample_api_Sample_f1_series_CheckSeries_1_ok {qs : List api_Sample} {r} (hF : slices_ContainsFunc_api_Sample_api_Sample_f1_series_CheckSeries_1 qs = some r) : Holds prog 117 [.v (.one (.d (.lst (List.map api_Sample.enc qs)))), .v (.one (.fn 212 [0]))] ⟨[], [(0, [.d (.lst (List.map api_Sample.enc qs))])]⟩ (Is (slices_ContainsFunc_api_Sample_api_Sample_f1_series_CheckSeries_1_R qs r)) := by
  unfold slices_ContainsFunc_api_Sample_api_Sample_f1_series_CheckSeries_1 at hF
  refine holds_of_awp hΓ (fn := f117) (c := cB f117) (A := 1) (nx := 1) (by kernel_rfl) (by kernel_rfl) (by kernel_rfl) (by kernel_rfl) (by kernel_rfl) (by kernel_rfl) (lowc_of (by kernel_rfl)) ?_
  show Awp prog 1 9 (cB f117) _ _
  refine awp_seq ?_
  refine awp_region ?_
  refine aR 1 ?_
  refine aE ?_
  refine awp_seq ?_
  refine bE hF fun vr2 h1 hF => ?_
  refine awp_region ?_
  refine aR 2 ?_
  refine aC (slices_IndexFunc_api_Sample_api_Sample_f1_series_CheckSeries_1_ok h1) [] [] [] ?_
  refine aR 2 ?_
  refine aE ?_
  refine awp_ret ?_
  exact oF hF [] []

/-! ### beaconfleet/series.CheckSeries -/
def series_CheckSeries_R (ql : List api_Sample) (r : Int) : TV × Mem := (.v (.one (.d (.int .i64 r))), ⟨[], []⟩)

theorem series_CheckSeries_ok {ql : List api_Sample} {r} (hF : series_CheckSeries ql = some r) : Holds prog 122 [.v (.one (.d (.lst (List.map api_Sample.enc ql))))] ⟨[], []⟩ (Is (series_CheckSeries_R ql r)) := by
  unfold series_CheckSeries at hF
  refine holds_of_awp hΓ (fn := f122) (c := cB f122) (A := 0) (nx := 0) (by kernel_rfl) (by kernel_rfl) (by kernel_rfl) (by kernel_rfl) (by kernel_rfl) (by kernel_rfl) (lowc_of (by kernel_rfl)) ?_
  show Awp prog 0 12 (cB f122) _ _
  refine awp_seq ?_
  refine awp_region ?_
  refine aR 2 ?_
  refine aE ?_
  refine awp_seq ?_
  refine awp_seq ?_
  refine bE hF fun vr6 h1 hF => ?_
  refine awp_region ?_
  refine aR 1 ?_
  refine aC (series_Check_ok h1) [] [] [] ?_
  refine aR 1 ?_
  refine aE ?_
  refine awp_seq ?_
  refine awp_region ?_
  refine aR 2 ?_
  refine aE ?_
  refine cE hF (fun h2 hF => ?_) fun h2 hF => ?_
  · refine awp_true (by kernel_rfl) h2 ?_
    refine awp_seq ?_
    refine awp_region ?_
    refine aR 2 ?_
    refine aE ?_
    refine awp_ret ?_
    exact oF hF [] []
  · refine awp_false (by kernel_rfl) h2 ?_
    refine awp_skip ?_
    refine awp_seq ?_
    refine awp_seq ?_
    refine bE hF fun vr h3 hF => ?_
    refine awp_region ?_
    refine aR 2 ?_
    refine aC (slices_ContainsFunc_api_Sample_api_Sample_f1_series_CheckSeries_1_ok h3) [] [] [] ?_
    refine aE ?_
    refine cE hF (fun h4 hF => ?_) fun h4 hF => ?_
    · refine awp_true (by kernel_rfl) h4 ?_
      refine awp_seq ?_
      refine awp_region ?_
      refine aR 1 ?_
      refine aE ?_
      refine awp_ret ?_
      exact oF hF [] []
    · refine awp_false (by kernel_rfl) h4 ?_
      refine awp_skip ?_
      refine awp_seq ?_
      refine awp_region ?_
      refine aR 1 ?_
      refine aE ?_
      refine awp_ret ?_
      exact oF hF [] []

/-! ### beaconfleet/series.seven -/
def series_seven_n0_x1_k : ((List Int) × Int) → AEx
  | _ => .exit 0

def series_seven_n0_x1_S : ((List Int) × Int) → St
  | (vb1, vn1) => Mem.st ⟨[(0, ⟨5, 1, List.map (encI .u8) vb1⟩)], []⟩ (tl [(0, .v (.one (.own 0 none))), (1, .v (.one (.d (.int .u64 vn1))))]) 1

def series_seven_n0_x1_H : (List Int) × Int → St
  | (vb, vn) => Mem.st ⟨[(0, ⟨5, 1, List.map (encI .u8) vb⟩)], []⟩ (tl [(0, .v (.one (.own 0 none))), (1, .v (.one (.d (.int .u64 vn))))]) 1

theorem series_seven_n0_x1_ok (s : (List Int) × Int) (r : ((List Int) × Int) ⊕ (((List Int) × Int))) (hF : series_seven_n0_x1  s = some r) : Awp prog 0 21 (cL (cL (cL (cR (cB f213))))) (Out 0 (kk series_seven_n0_x1_k) (SS (series_seven_n0_x1_H ) (series_seven_n0_x1_S )) r) (series_seven_n0_x1_H  s) := by
  obtain ⟨vb, vn⟩ := s
  unfold series_seven_n0_x1 at hF
  refine awp_seq ?_
  refine awp_seq ?_
  refine awp_region ?_
  refine aR 2 ?_
  refine aE ?_
  refine cE hF (fun h1 hF => ?_) fun h1 hF => ?_
  · refine awp_true (by kernel_rfl) h1 ?_
    refine awp_skip ?_
    refine awp_block ?_
    refine gE hF fun h2 hF => ?_
    refine awp_region ?_
    refine aR 6 ?_
    refine aX (x_app (encI .u8) 0 h2) ?_
    refine aR 4 ?_
    refine aE ?_
    exact oO hF [(0, 8001)] [] rfl
  · refine awp_false (by kernel_rfl) h1 ?_
    refine awp_exit ?_
    exact oO hF [] [] rfl

def series_seven_n0_R (qn : Int) (r : (List Int)) : TV × Mem := (.v (.one (.own 0 none)), ⟨[(0, ⟨5, 1, List.map (encI .u8) r⟩)], []⟩)

theorem series_seven_n0_ok {qn : Int} {r} (hF : series_seven_n0 qn = some r) : Holds prog 213 [.v (.one (.nil)), .v (.one (.d (.int .u64 qn)))] ⟨[], []⟩ (Is (series_seven_n0_R qn r)) := by
  unfold series_seven_n0 at hF
  refine holds_of_awp hΓ (fn := f213) (c := cB f213) (A := 0) (nx := 0) (by kernel_rfl) (by kernel_rfl) (by kernel_rfl) (by kernel_rfl) (by kernel_rfl) (by kernel_rfl) (lowc_of (by kernel_rfl)) ?_
  show Awp prog 0 21 (cB f213) _ _
  refine awp_seq ?_
  refine awp_region ?_
  refine aR 1 ?_
  refine aE ?_
  refine awp_seq ?_
  refine awp_block ?_
  refine awp_to (st' := series_seven_n0_x1_H  ([], qn)) (oT [] [0]) ?_
  refine bE hF fun x h3 hF => ?_
  obtain ⟨vb1_1, vn1_1⟩ := x
  refine awp_sub (awp_loop' (series_seven_n0_x1_H ) series_seven_n0_x1_k (series_seven_n0_x1_S ) (by intro x; exact fun h => nomatch h) h3 (series_seven_n0_x1_ok )) ?_
  refine awp_seq ?_
  refine gE hF fun h4 hF => ?_
  refine awp_region ?_
  refine aR 4 ?_
  refine aX (x_app (encI .u8) 0 h4) ?_
  refine aR 1 ?_
  refine aE ?_
  refine awp_ret ?_
  exact oF hF [(0, 4001)] []

/-! ### beaconfleet/series.doubled -/
def series_doubled_R (qn : Int) (r : Int) : TV × Mem := (.v (.one (.d (.int .u64 r))), ⟨[], []⟩)

theorem series_doubled_ok {qn : Int} {r} (hF : series_doubled qn = some r) : Holds prog 214 [.v (.one (.d (.int .i64 qn)))] ⟨[], []⟩ (Is (series_doubled_R qn r)) := by
  unfold series_doubled at hF
  refine holds_of_awp hΓ (fn := f214) (c := cB f214) (A := 0) (nx := 0) (by kernel_rfl) (by kernel_rfl) (by kernel_rfl) (by kernel_rfl) (by kernel_rfl) (by kernel_rfl) (lowc_of (by kernel_rfl)) ?_
  show Awp prog 0 12 (cB f214) _ _
  refine awp_seq ?_
  refine awp_region ?_
  refine aR 1 ?_
  refine aE ?_
  refine awp_seq ?_
  refine awp_seq ?_
  refine awp_region ?_
  refine aR 2 ?_
  refine aE ?_
  refine cE hF (fun h1 hF => ?_) fun h1 hF => ?_
  · refine awp_true (by kernel_rfl) h1 ?_
    refine awp_seq ?_
    refine awp_region ?_
    refine aR 5 ?_
    refine aE ?_
    refine awp_ret ?_
    exact oF hF [] []
  · refine awp_false (by kernel_rfl) h1 ?_
    refine awp_skip ?_
    refine awp_seq ?_
    refine awp_region ?_
    refine aR 4 ?_
    refine aE ?_
    refine awp_ret ?_
    exact oF hF [] []

/-! ### beaconfleet/series.seven -/
def series_seven_o0_x1_k : ((List Int) × Int) → AEx
  | _ => .exit 0

def series_seven_o0_x1_S : ((List Int) × Int) → St
  | (vb1, vn1) => Mem.st ⟨[(1, ⟨5, 1, List.map (encI .u8) vb1⟩)], []⟩ (tl [(0, .v (.one (.own 1 none))), (1, .v (.one (.d (.int .u64 vn1))))]) 2

def series_seven_o0_x1_H : (List Int) × Int → St
  | (vb, vn) => Mem.st ⟨[(1, ⟨5, 1, List.map (encI .u8) vb⟩)], []⟩ (tl [(0, .v (.one (.own 1 none))), (1, .v (.one (.d (.int .u64 vn))))]) 2

theorem series_seven_o0_x1_ok (s : (List Int) × Int) (r : ((List Int) × Int) ⊕ (((List Int) × Int))) (hF : series_seven_o0_x1  s = some r) : Awp prog 1 21 (cL (cL (cL (cR (cB f213))))) (Out 1 (kk series_seven_o0_x1_k) (SS (series_seven_o0_x1_H ) (series_seven_o0_x1_S )) r) (series_seven_o0_x1_H  s) := by
  obtain ⟨vb, vn⟩ := s
  unfold series_seven_o0_x1 at hF
  refine awp_seq ?_
  refine awp_seq ?_
  refine awp_region ?_
  refine aR 2 ?_
  refine aE ?_
  refine cE hF (fun h1 hF => ?_) fun h1 hF => ?_
  · refine awp_true (by kernel_rfl) h1 ?_
    refine awp_skip ?_
    refine awp_block ?_
    refine gE hF fun h2 hF => ?_
    refine awp_region ?_
    refine aR 6 ?_
    refine aX (x_app (encI .u8) 1 h2) ?_
    refine aR 4 ?_
    refine aE ?_
    exact oO hF [(1, 8002)] [] rfl
  · refine awp_false (by kernel_rfl) h1 ?_
    refine awp_exit ?_
    exact oO hF [] [] rfl

def series_seven_o0_R (qb : List Int) (qn : Int) (r : (List Int)) : TV × Mem := (.v (.one (.own 1 none)), ⟨[(1, ⟨5, 1, List.map (encI .u8) r⟩)], []⟩)

theorem series_seven_o0_ok {qb : List Int} {qn : Int} {r} (hF : series_seven_o0 qb qn = some r) : Holds prog 213 [.v (.one (.own 0 none)), .v (.one (.d (.int .u64 qn)))] ⟨[(0, ⟨5, 1, List.map (encI .u8) qb⟩)], []⟩ (Is (series_seven_o0_R qb qn r)) := by
  unfold series_seven_o0 at hF
  refine holds_of_awp hΓ (fn := f213) (c := cB f213) (A := 1) (nx := 1) (by kernel_rfl) (by kernel_rfl) (by kernel_rfl) (by kernel_rfl) (by kernel_rfl) (by kernel_rfl) (lowc_of (by kernel_rfl)) ?_
  show Awp prog 1 21 (cB f213) _ _
  refine awp_seq ?_
  refine awp_region ?_
  refine aR 1 ?_
  refine aE ?_
  refine awp_seq ?_
  refine awp_block ?_
  refine awp_to (st' := series_seven_o0_x1_H  (qb, qn)) (oT [(1, 0)] []) ?_
  refine bE hF fun x h3 hF => ?_
  obtain ⟨vb1_1, vn1_1⟩ := x
  refine awp_sub (awp_loop' (series_seven_o0_x1_H ) series_seven_o0_x1_k (series_seven_o0_x1_S ) (by intro x; exact fun h => nomatch h) h3 (series_seven_o0_x1_ok )) ?_
  refine awp_seq ?_
  refine gE hF fun h4 hF => ?_
  refine awp_region ?_
  refine aR 4 ?_
  refine aX (x_app (encI .u8) 1 h4) ?_
  refine aR 1 ?_
  refine aE ?_
  refine awp_ret ?_
  exact oF hF [(1, 4002)] []

/-! ### beaconfleet/series.pack -/
def series_pack_x2_k : Int → AEx
  | _ => .normal

def series_pack_x2_S (ql : List api_Sample) (vat : Int) (vby : Int) (vx : Int) (vy1 : api_Sample) (vr8 : List Int) : Int → St
  | vby2 => Mem.st ⟨[(0, ⟨5, 1, List.map (encI .u8) vr8⟩)], [(1, [.d (.str vy1.Device), .d (.str vy1.Metric), .d (.int .i64 vy1.At), .d (.int .i64 vy1.Value)])]⟩ (tl [(3, .v (.one (.own 0 none))), (5, .v (.one (.d (.int .i64 vby2)))), (8, .v (.one (.box 1 0))), (14, .v (.one (.d (.lst (List.map api_Sample.enc ql))))), (15, .v (.one (.d (.int .i64 (ql.length : Int))))), (16, .v (.one (.d (.int .i64 vx))))]) 2

def series_pack_x2_I (ql : List api_Sample) (vat : Int) (vby : Int) (vx : Int) (vy1 : api_Sample) (vr8 : List Int) : St := Mem.st ⟨[(0, ⟨5, 1, List.map (encI .u8) vr8⟩)], [(1, [.d (.str vy1.Device), .d (.str vy1.Metric), .d (.int .i64 vy1.At), .d (.int .i64 vy1.Value)])]⟩ (tl [(3, .v (.one (.own 0 none))), (5, .v (.one (.d (.int .i64 vby)))), (7, .v (.one (.d (.int .i64 vx)))), (8, .v (.one (.box 1 0))), (9, .v (.one (.d (.int .i64 (IntKind.wrap .i64 (vy1.At - vat)))))), (14, .v (.one (.d (.lst (List.map api_Sample.enc ql))))), (15, .v (.one (.d (.int .i64 (ql.length : Int))))), (16, .v (.one (.d (.int .i64 vx))))]) 2

theorem series_pack_x2_ok (ql : List api_Sample) (vat : Int) (vby : Int) (vx : Int) (vy1 : api_Sample) (vr8 : List Int) {r} (hF : series_pack_x2 vat vby vx vy1 = some r) : Awp prog 0 47 (cL (cR (cR (cR (cR (cL (cL (cR (cR (cL (cL (cR (cL (cR (cR (cR (cB f123))))))))))))))))) (Out 0 series_pack_x2_k (series_pack_x2_S ql vat vby vx vy1 vr8) r) (series_pack_x2_I ql vat vby vx vy1 vr8) := by
  unfold series_pack_x2 at hF
  refine awp_seq ?_
  refine awp_region ?_
  refine aR 2 ?_
  refine aE ?_
  refine cE hF (fun h8 hF => ?_) fun h8 hF => ?_
  · refine awp_true (by kernel_rfl) h8 ?_
    refine awp_region ?_
    refine aR 2 ?_
    refine aE ?_
    exact oO hF [] [] rfl
  · refine awp_false (by kernel_rfl) h8 ?_
    refine awp_skip ?_
    exact oO hF [] [] rfl

def series_pack_x1_k : (List Int) → AEx
  | _ => .exit 0

def series_pack_x1_S (ql : List api_Sample) : (List Int) → St
  | vout1 => Mem.st ⟨[(0, ⟨5, 1, List.map (encI .u8) vout1⟩)], []⟩ (tl [(3, .v (.one (.own 0 none)))]) 1

def series_pack_x1_H (ql : List api_Sample) : (List Int) × Int × Int × Int × Int → St
  | (vout, vat, vby, vvalue, vx) => Mem.st ⟨[(0, ⟨5, 1, List.map (encI .u8) vout⟩)], []⟩ (tl [(3, .v (.one (.own 0 none))), (4, .v (.one (.d (.int .i64 vat)))), (5, .v (.one (.d (.int .i64 vby)))), (6, .v (.one (.d (.int .i64 vvalue)))), (14, .v (.one (.d (.lst (List.map api_Sample.enc ql))))), (15, .v (.one (.d (.int .i64 (ql.length : Int))))), (16, .v (.one (.d (.int .i64 vx))))]) 1

theorem series_pack_x1_ok (ql : List api_Sample) (s : (List Int) × Int × Int × Int × Int) (r : ((List Int) × Int × Int × Int × Int) ⊕ ((List Int))) (hF : series_pack_x1 ql s = some r) : Awp prog 0 47 (cL (cL (cR (cL (cR (cR (cR (cB f123)))))))) (Out 0 (kk series_pack_x1_k) (SS (series_pack_x1_H ql) (series_pack_x1_S ql)) r) (series_pack_x1_H ql s) := by
  obtain ⟨vout, vat, vby, vvalue, vx⟩ := s
  unfold series_pack_x1 at hF
  refine awp_seq ?_
  refine awp_region ?_
  refine aR 1 ?_
  refine aE ?_
  refine awp_seq ?_
  refine cE hF (fun h2 hF => ?_) fun h2 hF => ?_
  · refine awp_true (by kernel_rfl) h2 ?_
    refine awp_skip ?_
    refine awp_seq ?_
    refine awp_block ?_
    refine awp_seq ?_
    refine bE hF fun vy1 h3 hF => ?_
    refine awp_region ?_
    refine aR 1 ?_
    refine aX (x_idx api_Sample.enc h3) ?_
    refine aR 4 ?_
    refine aE ?_
    refine awp_seq ?_
    refine awp_region ?_
    refine aR 5 ?_
    refine aE ?_
    refine awp_seq ?_
    refine bE hF fun vr5 h4 hF => ?_
    refine bE hF fun vr6 h5 hF => ?_
    refine awp_region ?_
    refine aR 4 ?_
    refine aC (series_doubled_ok h4) [] [] [] ?_
    refine aC (series_seven_o0_ok h5) [] [] [] ?_
    refine aR 1 ?_
    refine aE ?_
    refine awp_seq ?_
    refine bE hF fun vr7 h6 hF => ?_
    refine bE hF fun vr8 h7 hF => ?_
    refine awp_region ?_
    refine aR 5 ?_
    refine aC (series_doubled_ok h6) [] [] [] ?_
    refine aC (series_seven_o0_ok h7) [(0, 17002)] [] [] ?_
    refine aR 1 ?_
    refine aE ?_
    refine awp_seq ?_
    refine awp_to (st' := series_pack_x2_I ql vat vby vx vy1 vr8) (oT [(0, 25002), (1, 4001)] []) ?_
    refine bE hF fun vby2_1 h9 hF => ?_
    refine awp_sub (series_pack_x2_ok ql vat vby vx vy1 vr8 h9) ?_
    refine aD ?_
    refine dR 6 ?_
    refine dE ?_
    refine awp_region ?_
    refine aR 2 ?_
    refine aE ?_
    exact oO hF [] [] rfl
  · refine awp_false (by kernel_rfl) h2 ?_
    refine awp_exit ?_
    exact oO hF [] [] rfl

def series_pack_R (ql : List api_Sample) (r : (List Int)) : TV × Mem := (.v (.one (.own 0 none)), ⟨[(0, ⟨5, 1, List.map (encI .u8) r⟩)], []⟩)

theorem series_pack_ok {ql : List api_Sample} {r} (hF : series_pack ql = some r) : Holds prog 123 [.v (.one (.d (.lst (List.map api_Sample.enc ql))))] ⟨[], []⟩ (Is (series_pack_R ql r)) := by
  unfold series_pack at hF
  refine holds_of_awp hΓ (fn := f123) (c := cB f123) (A := 0) (nx := 0) (by kernel_rfl) (by kernel_rfl) (by kernel_rfl) (by kernel_rfl) (by kernel_rfl) (by kernel_rfl) (lowc_of (by kernel_rfl)) ?_
  show Awp prog 0 47 (cB f123) _ _
  refine awp_seq ?_
  refine awp_region ?_
  refine aR 1 ?_
  refine aE ?_
  refine awp_seq ?_
  refine bE hF fun vr h1 hF => ?_
  refine awp_region ?_
  refine aR 1 ?_
  refine aL api_Sample.enc ql ?_
  refine aR 1 ?_
  refine aC (series_seven_n0_ok h1) [] [] [] ?_
  refine aR 1 ?_
  refine aE ?_
  refine awp_seq ?_
  refine awp_region ?_
  refine aR 3 ?_
  refine aE ?_
  refine awp_seq ?_
  refine awp_seq ?_
  refine awp_region ?_
  refine aR 1 ?_
  refine aL api_Sample.enc ql ?_
  refine aR 1 ?_
  refine aE ?_
  refine awp_block ?_
  refine awp_to (st' := series_pack_x1_H ql (vr, 0, 0, 0, 0)) (oT [(0, 4000)] []) ?_
  refine bE hF fun vout1_1 h10 hF => ?_
  refine awp_sub (awp_loop' (series_pack_x1_H ql) series_pack_x1_k (series_pack_x1_S ql) (by intro x; exact fun h => nomatch h) h10 (series_pack_x1_ok ql)) ?_
  refine awp_seq ?_
  refine awp_region ?_
  refine aR 2 ?_
  refine aE ?_
  refine awp_ret ?_
  exact oF hF [] []

/-! ### beaconfleet/series.Pack -/
def series_Pack_R (ql : List api_Sample) (r : (List Int) × Int) : TV × Mem := (.tup [.one (.own 0 none), .one (.d (.int .i64 r.2))], ⟨[(0, ⟨5, 1, List.map (encI .u8) r.1⟩)], []⟩)

theorem series_Pack_ok {ql : List api_Sample} {r} (hF : series_Pack ql = some r) : Holds prog 29 [.v (.one (.d (.lst (List.map api_Sample.enc ql))))] ⟨[], []⟩ (Is (series_Pack_R ql r)) := by
  unfold series_Pack at hF
  refine holds_of_awp hΓ (fn := f29) (c := cB f29) (A := 0) (nx := 0) (by kernel_rfl) (by kernel_rfl) (by kernel_rfl) (by kernel_rfl) (by kernel_rfl) (by kernel_rfl) (lowc_of (by kernel_rfl)) ?_
  show Awp prog 0 12 (cB f29) _ _
  refine awp_seq ?_
  refine awp_region ?_
  refine aR 2 ?_
  refine aE ?_
  refine awp_seq ?_
  refine awp_seq ?_
  refine bE hF fun vr1 h1 hF => ?_
  refine awp_region ?_
  refine aR 1 ?_
  refine aC (series_CheckSeries_ok h1) [] [] [] ?_
  refine aR 1 ?_
  refine aE ?_
  refine awp_seq ?_
  refine awp_region ?_
  refine aR 2 ?_
  refine aE ?_
  refine cE hF (fun h2 hF => ?_) fun h2 hF => ?_
  · refine awp_true (by kernel_rfl) h2 ?_
    refine awp_seq ?_
    refine awp_region ?_
    refine aR 3 ?_
    refine aE ?_
    refine awp_ret ?_
    exact oF hF [] [0]
  · refine awp_false (by kernel_rfl) h2 ?_
    refine awp_skip ?_
    refine awp_seq ?_
    refine bE hF fun vr9 h3 hF => ?_
    refine awp_region ?_
    refine aR 1 ?_
    refine aC (series_pack_ok h3) [] [] [] ?_
    refine aR 2 ?_
    refine aE ?_
    refine awp_ret ?_
    exact oF hF [(0, 8000)] []

/-! ### beaconfleet/series.unseven -/
def series_unseven_x1_k : Unit ⊕ (Int × (List Int) × Bool) → AEx
  | .inl _ => .exit 0
  | .inr _ => .ret

def series_unseven_x1_S (qb : List Int) : Unit ⊕ (Int × (List Int) × Bool) → St
  | .inl _ => Mem.st ⟨[], []⟩ (tl []) 0
  | .inr (vn1, vrest, vok) => Mem.st ⟨[], []⟩ (tl [(2, .v (.one (.d (.int .u64 vn1)))), (3, .v (.one (.d (.lst (List.map (encI .u8) vrest))))), (4, .v (.one (.d (.bool vok))))]) 0

def series_unseven_x1_H (qb : List Int) : Int × Int → St
  | (vn, vx) => Mem.st ⟨[], []⟩ (tl [(0, .v (.one (.d (.lst (List.map (encI .u8) qb))))), (2, .v (.one (.d (.int .u64 vn)))), (7, .v (.one (.d (.lst (List.map (encI .u8) qb))))), (8, .v (.one (.d (.int .i64 (qb.length : Int))))), (9, .v (.one (.d (.int .i64 vx))))]) 0

theorem series_unseven_x1_ok (qb : List Int) (s : Int × Int) (r : (Int × Int) ⊕ (Unit ⊕ (Int × (List Int) × Bool))) (hF : series_unseven_x1 qb s = some r) : Awp prog 0 32 (cL (cL (cR (cL (cR (cB f125)))))) (Out 0 (kk series_unseven_x1_k) (SS (series_unseven_x1_H qb) (series_unseven_x1_S qb)) r) (series_unseven_x1_H qb s) := by
  obtain ⟨vn, vx⟩ := s
  unfold series_unseven_x1 at hF
  refine awp_seq ?_
  refine awp_region ?_
  refine aR 1 ?_
  refine aE ?_
  refine awp_seq ?_
  refine cE hF (fun h1 hF => ?_) fun h1 hF => ?_
  · refine awp_true (by kernel_rfl) h1 ?_
    refine awp_skip ?_
    refine awp_seq ?_
    refine awp_block ?_
    refine awp_seq ?_
    refine bE hF fun vy1 h2 hF => ?_
    refine awp_region ?_
    refine aR 1 ?_
    refine aX (x_idx (encI .u8) h2) ?_
    refine aR 3 ?_
    refine aE ?_
    refine awp_seq ?_
    refine awp_seq ?_
    refine awp_region ?_
    refine aR 2 ?_
    refine aE ?_
    refine cE hF (fun h3 hF => ?_) fun h3 hF => ?_
    · refine awp_true (by kernel_rfl) h3 ?_
      refine awp_seq ?_
      refine awp_region ?_
      refine aR 3 ?_
      refine aE ?_
      refine awp_ret ?_
      exact oO hF [] [] rfl
    · refine awp_false (by kernel_rfl) h3 ?_
      refine awp_skip ?_
      refine awp_seq ?_
      refine gE hF fun h4 hF => ?_
      refine awp_region ?_
      refine aR 6 ?_
      refine aX (x_shl h4) ?_
      refine aR 2 ?_
      refine aE ?_
      refine awp_seq ?_
      refine awp_region ?_
      refine aR 2 ?_
      refine aE ?_
      refine cE hF (fun h5 hF => ?_) fun h5 hF => ?_
      · refine awp_true (by kernel_rfl) h5 ?_
        refine awp_seq ?_
        refine bE hF fun vl1 h6 hF => ?_
        refine aD ?_
        refine dR 4 ?_
        refine dX (x_sliceN (encI .u8) h6) ?_
        refine dR 3 ?_
        refine dE ?_
        refine awp_ret ?_
        exact oO hF [] [] rfl
      · refine awp_false (by kernel_rfl) h5 ?_
        refine awp_skip ?_
        refine awp_region ?_
        refine aR 2 ?_
        refine aE ?_
        exact oO hF [] [] rfl
  · refine awp_false (by kernel_rfl) h1 ?_
    refine awp_exit ?_
    exact oO hF [] [] rfl

def series_unseven_R (qb : List Int) (r : Int × (List Int) × Bool) : TV × Mem := (.tup [.one (.d (.int .u64 r.1)), .one (.d (.lst (List.map (encI .u8) r.2.1))), .one (.d (.bool r.2.2))], ⟨[], []⟩)

theorem series_unseven_ok {qb : List Int} {r} (hF : series_unseven qb = some r) : Holds prog 125 [.v (.one (.d (.lst (List.map (encI .u8) qb))))] ⟨[], []⟩ (Is (series_unseven_R qb r)) := by
  unfold series_unseven at hF
  refine holds_of_awp hΓ (fn := f125) (c := cB f125) (A := 0) (nx := 0) (by kernel_rfl) (by kernel_rfl) (by kernel_rfl) (by kernel_rfl) (by kernel_rfl) (by kernel_rfl) (lowc_of (by kernel_rfl)) ?_
  show Awp prog 0 32 (cB f125) _ _
  refine awp_seq ?_
  refine awp_region ?_
  refine aR 3 ?_
  refine aE ?_
  refine awp_seq ?_
  refine awp_seq ?_
  refine awp_region ?_
  refine aR 1 ?_
  refine aL (encI .u8) qb ?_
  refine aR 1 ?_
  refine aE ?_
  refine awp_block ?_
  refine awp_to (st' := series_unseven_x1_H qb (0, 0)) (oT [] []) ?_
  refine bE hF fun x h7 hF => ?_
  rcases x with _ | ⟨vn1_1, vrest1, vok1⟩
  · refine awp_sub (awp_loop' (series_unseven_x1_H qb) series_unseven_x1_k (series_unseven_x1_S qb) (by intro x; rcases x with x | x <;> exact fun h => nomatch h) h7 (series_unseven_x1_ok qb)) ?_
    refine awp_seq ?_
    refine awp_region ?_
    refine aR 3 ?_
    refine aE ?_
    refine awp_ret ?_
    exact oF hF [] []
  · refine awp_sub (awp_loop' (series_unseven_x1_H qb) series_unseven_x1_k (series_unseven_x1_S qb) (by intro x; rcases x with x | x <;> exact fun h => nomatch h) h7 (series_unseven_x1_ok qb)) ?_
    exact oF hF [] []

/-! ### beaconfleet/series.halved -/
def series_halved_R (qn : Int) (r : Int) : TV × Mem := (.v (.one (.d (.int .i64 r))), ⟨[], []⟩)

theorem series_halved_ok {qn : Int} {r} (hF : series_halved qn = some r) : Holds prog 126 [.v (.one (.d (.int .u64 qn)))] ⟨[], []⟩ (Is (series_halved_R qn r)) := by
  unfold series_halved at hF
  refine holds_of_awp hΓ (fn := f126) (c := cB f126) (A := 0) (nx := 0) (by kernel_rfl) (by kernel_rfl) (by kernel_rfl) (by kernel_rfl) (by kernel_rfl) (by kernel_rfl) (lowc_of (by kernel_rfl)) ?_
  show Awp prog 0 14 (cB f126) _ _
  refine awp_seq ?_
  refine awp_region ?_
  refine aR 1 ?_
  refine aE ?_
  refine awp_seq ?_
  refine awp_seq ?_
  refine awp_region ?_
  refine aR 3 ?_
  refine aE ?_
  refine cE hF (fun h1 hF => ?_) fun h1 hF => ?_
  · refine awp_true (by kernel_rfl) h1 ?_
    refine awp_seq ?_
    refine awp_region ?_
    refine aR 6 ?_
    refine aE ?_
    refine awp_ret ?_
    exact oF hF [] []
  · refine awp_false (by kernel_rfl) h1 ?_
    refine awp_skip ?_
    refine awp_seq ?_
    refine awp_region ?_
    refine aR 4 ?_
    refine aE ?_
    refine awp_ret ?_
    exact oF hF [] []

/-! ### slices.Equal[[]byte,byte] -/
def slices_Equal_byte_byte_x1_k : Unit ⊕ Unit → AEx
  | .inl _ => .exit 0
  | .inr _ => .ret

def slices_Equal_byte_byte_x1_S (qs1 : List Int) (qs2 : List Int) : Unit ⊕ Unit → St
  | .inl _ => Mem.st ⟨[], []⟩ (tl []) 0
  | .inr _ => Mem.st ⟨[], []⟩ (tl [(4, .v (.one (.d (.bool false))))]) 0

def slices_Equal_byte_byte_x1_H (qs1 : List Int) (qs2 : List Int) : Int → St
  | vx => Mem.st ⟨[], []⟩ (tl [(0, .v (.one (.d (.lst (List.map (encI .u8) qs1))))), (1, .v (.one (.d (.lst (List.map (encI .u8) qs2))))), (12, .v (.one (.d (.int .i64 (qs1.length : Int))))), (13, .v (.one (.d (.int .i64 vx))))]) 0

theorem slices_Equal_byte_byte_x1_ok (qs1 : List Int) (qs2 : List Int) (vx : Int) (r : (Int) ⊕ (Unit ⊕ Unit)) (hF : slices_Equal_byte_byte_x1 qs1 qs2 vx = some r) : Awp prog 0 26 (cL (cL (cR (cL (cR (cR (cB f34))))))) (Out 0 (kk slices_Equal_byte_byte_x1_k) (SS (slices_Equal_byte_byte_x1_H qs1 qs2) (slices_Equal_byte_byte_x1_S qs1 qs2)) r) (slices_Equal_byte_byte_x1_H qs1 qs2 vx) := by
  unfold slices_Equal_byte_byte_x1 at hF
  refine awp_seq ?_
  refine awp_region ?_
  refine aR 1 ?_
  refine aE ?_
  refine awp_seq ?_
  refine cE hF (fun h2 hF => ?_) fun h2 hF => ?_
  · refine awp_true (by kernel_rfl) h2 ?_
    refine awp_skip ?_
    refine awp_seq ?_
    refine awp_block ?_
    refine awp_seq ?_
    refine awp_region ?_
    refine aR 2 ?_
    refine aE ?_
    refine awp_seq ?_
    refine bE hF fun vy2 h3 hF => ?_
    refine bE hF fun vy3 h4 hF => ?_
    refine aD ?_
    refine dR 2 ?_
    refine dX (x_idx (encI .u8) h3) ?_
    refine dR 3 ?_
    refine dX (x_idx (encI .u8) h4) ?_
    refine dR 2 ?_
    refine dE ?_
    refine cE hF (fun h5 hF => ?_) fun h5 hF => ?_
    · refine awp_true (by kernel_rfl) h5 ?_
      refine awp_seq ?_
      refine awp_region ?_
      refine aR 1 ?_
      refine aE ?_
      refine awp_ret ?_
      exact oO hF [] [] rfl
    · refine awp_false (by kernel_rfl) h5 ?_
      refine awp_skip ?_
      refine awp_region ?_
      refine aR 2 ?_
      refine aE ?_
      exact oO hF [] [] rfl
  · refine awp_false (by kernel_rfl) h2 ?_
    refine awp_exit ?_
    exact oO hF [] [] rfl

def slices_Equal_byte_byte_R (qs1 : List Int) (qs2 : List Int) (r : Bool) : TV × Mem := (.v (.one (.d (.bool r))), ⟨[], []⟩)

theorem slices_Equal_byte_byte_ok {qs1 : List Int} {qs2 : List Int} {r} (hF : slices_Equal_byte_byte qs1 qs2 = some r) : Holds prog 34 [.v (.one (.d (.lst (List.map (encI .u8) qs1)))), .v (.one (.d (.lst (List.map (encI .u8) qs2))))] ⟨[], []⟩ (Is (slices_Equal_byte_byte_R qs1 qs2 r)) := by
  unfold slices_Equal_byte_byte at hF
  refine holds_of_awp hΓ (fn := f34) (c := cB f34) (A := 0) (nx := 0) (by kernel_rfl) (by kernel_rfl) (by kernel_rfl) (by kernel_rfl) (by kernel_rfl) (by kernel_rfl) (lowc_of (by kernel_rfl)) ?_
  show Awp prog 0 26 (cB f34) _ _
  refine awp_seq ?_
  refine awp_region ?_
  refine aR 1 ?_
  refine aE ?_
  refine awp_seq ?_
  refine awp_seq ?_
  refine awp_region ?_
  refine aR 1 ?_
  refine aL (encI .u8) qs1 ?_
  refine aR 1 ?_
  refine aL (encI .u8) qs2 ?_
  refine aR 1 ?_
  refine aE ?_
  refine cE hF (fun h1 hF => ?_) fun h1 hF => ?_
  · refine awp_true (by kernel_rfl) h1 ?_
    refine awp_seq ?_
    refine awp_region ?_
    refine aR 1 ?_
    refine aE ?_
    refine awp_ret ?_
    exact oF hF [] []
  · refine awp_false (by kernel_rfl) h1 ?_
    refine awp_skip ?_
    refine awp_seq ?_
    refine awp_seq ?_
    refine awp_region ?_
    refine aR 1 ?_
    refine aL (encI .u8) qs1 ?_
    refine aR 1 ?_
    refine aE ?_
    refine awp_block ?_
    refine awp_to (st' := slices_Equal_byte_byte_x1_H qs1 qs2 0) (oT [] []) ?_
    refine bE hF fun x h6 hF => ?_
    rcases x with _ | _
    · refine awp_sub (awp_loop' (slices_Equal_byte_byte_x1_H qs1 qs2) slices_Equal_byte_byte_x1_k (slices_Equal_byte_byte_x1_S qs1 qs2) (by intro x; rcases x with x | x <;> exact fun h => nomatch h) h6 (slices_Equal_byte_byte_x1_ok qs1 qs2)) ?_
      refine awp_seq ?_
      refine awp_region ?_
      refine aR 1 ?_
      refine aE ?_
      refine awp_ret ?_
      exact oF hF [] []
    · refine awp_sub (awp_loop' (slices_Equal_byte_byte_x1_H qs1 qs2) slices_Equal_byte_byte_x1_k (slices_Equal_byte_byte_x1_S qs1 qs2) (by intro x; rcases x with x | x <;> exact fun h => nomatch h) h6 (slices_Equal_byte_byte_x1_ok qs1 qs2)) ?_
      exact oF hF [] []

/-! ### beaconfleet/series.Unpack -/
def series_Unpack_x1_k : Bool → AEx
  | _ => .normal

def series_Unpack_x1_S (qx : List Int) (qx1 : List UInt8) (qx2 : List UInt8) : Bool → St
  | vx => Mem.st ⟨[], []⟩ (tl [(0, .v (.one (.d (.lst (List.map (encI .u8) qx))))), (1, .v (.one (.d (.str qx1)))), (2, .v (.one (.d (.str qx2)))), (19, .v (.one (.d (.bool vx))))]) 0

def series_Unpack_x1_I (qx : List Int) (qx1 : List UInt8) (qx2 : List UInt8) : St := Mem.st ⟨[], []⟩ (tl [(0, .v (.one (.d (.lst (List.map (encI .u8) qx))))), (1, .v (.one (.d (.str qx1)))), (2, .v (.one (.d (.str qx2))))]) 0

theorem series_Unpack_x1_ok (qx : List Int) (qx1 : List UInt8) (qx2 : List UInt8) {r} (hF : series_Unpack_x1 qx1 qx2 = some r) : Awp prog 0 105 (cL (cL (cL (cR (cB f30))))) (Out 0 series_Unpack_x1_k (series_Unpack_x1_S qx qx1 qx2) r) (series_Unpack_x1_I qx qx1 qx2) := by
  unfold series_Unpack_x1 at hF
  refine bE hF fun vr h1 hF => ?_
  refine cE hF (fun h2 hF => ?_) fun h2 hF => ?_
  · refine awp_region ?_
    refine aR 1 ?_
    refine aC (base_Key_ok h1) [] [] [] ?_
    refine aB h2 ?_
    refine aR 6 ?_
    refine aE ?_
    exact oO hF [] [] rfl
  · refine bE hF fun vr1 h3 hF => ?_
    refine awp_region ?_
    refine aR 1 ?_
    refine aC (base_Key_ok h1) [] [] [] ?_
    refine aB h2 ?_
    refine aR 2 ?_
    refine aC (base_Key_ok h3) [] [] [] ?_
    refine aR 3 ?_
    refine aE ?_
    exact oO hF [] [] rfl

def series_Unpack_x2_k : Bool → AEx
  | _ => .normal

def series_Unpack_x2_S (qx : List Int) (qx1 : List UInt8) (qx2 : List UInt8) (vr2 : Int) (vr1_1 : List Int) (vr2_1 : Bool) : Bool → St
  | vx2 => Mem.st ⟨[], []⟩ (tl [(0, .v (.one (.d (.lst (List.map (encI .u8) qx))))), (1, .v (.one (.d (.str qx1)))), (2, .v (.one (.d (.str qx2)))), (8, .v (.one (.d (.int .u64 vr2)))), (9, .v (.one (.d (.lst (List.map (encI .u8) vr1_1))))), (43, .v (.one (.d (.bool vx2))))]) 0

def series_Unpack_x2_I (qx : List Int) (qx1 : List UInt8) (qx2 : List UInt8) (vr2 : Int) (vr1_1 : List Int) (vr2_1 : Bool) : St := Mem.st ⟨[], []⟩ (tl [(0, .v (.one (.d (.lst (List.map (encI .u8) qx))))), (1, .v (.one (.d (.str qx1)))), (2, .v (.one (.d (.str qx2)))), (8, .v (.one (.d (.int .u64 vr2)))), (9, .v (.one (.d (.lst (List.map (encI .u8) vr1_1))))), (10, .v (.one (.d (.bool vr2_1))))]) 0

theorem series_Unpack_x2_ok (qx : List Int) (qx1 : List UInt8) (qx2 : List UInt8) (vr2 : Int) (vr1_1 : List Int) (vr2_1 : Bool) {r} (hF : series_Unpack_x2 vr2 vr2_1 = some r) : Awp prog 0 105 (cL (cL (cR (cR (cR (cB f30)))))) (Out 0 series_Unpack_x2_k (series_Unpack_x2_S qx qx1 qx2 vr2 vr1_1 vr2_1) r) (series_Unpack_x2_I qx qx1 qx2 vr2 vr1_1 vr2_1) := by
  unfold series_Unpack_x2 at hF
  refine cE hF (fun h8 hF => ?_) fun h8 hF => ?_
  · refine awp_region ?_
    refine aR 1 ?_
    refine aB h8 ?_
    refine aR 4 ?_
    refine aE ?_
    exact oO hF [] [] rfl
  · refine awp_region ?_
    refine aR 1 ?_
    refine aB h8 ?_
    refine aR 4 ?_
    refine aE ?_
    exact oO hF [] [] rfl

def series_Unpack_x4_k : ((List Int) × Bool × Int) → AEx
  | _ => .normal

def series_Unpack_x4_S (qx : List Int) (qx1 : List UInt8) (qx2 : List UInt8) (vr2 : Int) (vx4 : List api_Sample) (vx5 : Int) (vx6 : Int) (vx7 : Int) (vx8 : Int) (vr8 : Int) (vr1_5 : List Int) (vr2_4 : Bool) : ((List Int) × Bool × Int) → St
  | (vx14, vx15, vx16) => Mem.st ⟨[(0, ⟨42, 4, List.map api_Sample.enc vx4⟩)], []⟩ (tl [(0, .v (.one (.d (.lst (List.map (encI .u8) qx))))), (1, .v (.one (.d (.str qx1)))), (2, .v (.one (.d (.str qx2)))), (9, .v (.one (.d (.lst (List.map (encI .u8) vx14))))), (10, .v (.one (.d (.bool vx15)))), (11, .v (.one (.own 0 none))), (12, .v (.one (.d (.int .i64 vx5)))), (13, .v (.one (.d (.int .i64 vx6)))), (14, .v (.one (.d (.int .i64 vx7)))), (15, .v (.one (.d (.int .i64 vx8)))), (16, .v (.one (.d (.int .u64 vr8)))), (17, .v (.one (.d (.int .u64 vx16)))), (45, .v (.one (.d (.int .i64 (IntKind.wrap .i64 (vr2)))))), (46, .v (.one (.d (.int .i64 vx8))))]) 1

def series_Unpack_x4_I (qx : List Int) (qx1 : List UInt8) (qx2 : List UInt8) (vr2 : Int) (vx4 : List api_Sample) (vx5 : Int) (vx6 : Int) (vx7 : Int) (vx8 : Int) (vr8 : Int) (vr1_5 : List Int) (vr2_4 : Bool) : St := Mem.st ⟨[(0, ⟨42, 4, List.map api_Sample.enc vx4⟩)], []⟩ (tl [(0, .v (.one (.d (.lst (List.map (encI .u8) qx))))), (1, .v (.one (.d (.str qx1)))), (2, .v (.one (.d (.str qx2)))), (9, .v (.one (.d (.lst (List.map (encI .u8) vr1_5))))), (10, .v (.one (.d (.bool vr2_4)))), (11, .v (.one (.own 0 none))), (12, .v (.one (.d (.int .i64 vx5)))), (13, .v (.one (.d (.int .i64 vx6)))), (14, .v (.one (.d (.int .i64 vx7)))), (15, .v (.one (.d (.int .i64 vx8)))), (16, .v (.one (.d (.int .u64 vr8)))), (17, .v (.one (.d (.int .u64 0)))), (45, .v (.one (.d (.int .i64 (IntKind.wrap .i64 (vr2)))))), (46, .v (.one (.d (.int .i64 vx8))))]) 1

theorem series_Unpack_x4_ok (qx : List Int) (qx1 : List UInt8) (qx2 : List UInt8) (vr2 : Int) (vx4 : List api_Sample) (vx5 : Int) (vx6 : Int) (vx7 : Int) (vx8 : Int) (vr8 : Int) (vr1_5 : List Int) (vr2_4 : Bool) {r} (hF : series_Unpack_x4 vr1_5 vr2_4 = some r) : Awp prog 0 105 (cL (cR (cR (cR (cL (cL (cR (cR (cL (cL (cR (cL (cR (cR (cR (cR (cR (cR (cB f30))))))))))))))))))) (Out 0 series_Unpack_x4_k (series_Unpack_x4_S qx qx1 qx2 vr2 vx4 vx5 vx6 vx7 vx8 vr8 vr1_5 vr2_4) r) (series_Unpack_x4_I qx qx1 qx2 vr2 vx4 vx5 vx6 vx7 vx8 vr8 vr1_5 vr2_4) := by
  unfold series_Unpack_x4 at hF
  refine awp_seq ?_
  refine awp_region ?_
  refine aR 1 ?_
  refine aE ?_
  refine cE hF (fun h13 hF => ?_) fun h13 hF => ?_
  · refine awp_true (by kernel_rfl) h13 ?_
    refine bE hF fun x h14 hF => ?_
    obtain ⟨vr9, vr1_6, vr2_5⟩ := x
    refine awp_region ?_
    refine aR 1 ?_
    refine aC (series_unseven_ok h14) [] [] [] ?_
    refine aR 7 ?_
    refine aE ?_
    exact oO hF [] [] rfl
  · refine awp_false (by kernel_rfl) h13 ?_
    refine awp_skip ?_
    exact oO hF [] [] rfl

def series_Unpack_x5_k : Bool → AEx
  | _ => .normal

def series_Unpack_x5_S (qx : List Int) (qx1 : List UInt8) (qx2 : List UInt8) (vr2 : Int) (vx4 : List api_Sample) (vx5 : Int) (vx6 : Int) (vx7 : Int) (vx8 : Int) (vx14_1 : List Int) (vr10 : Int) (vr11 : Int) : Bool → St
  | vx17 => Mem.st ⟨[(0, ⟨42, 4, List.map api_Sample.enc vx4⟩)], []⟩ (tl [(0, .v (.one (.d (.lst (List.map (encI .u8) qx))))), (1, .v (.one (.d (.str qx1)))), (2, .v (.one (.d (.str qx2)))), (9, .v (.one (.d (.lst (List.map (encI .u8) vx14_1))))), (11, .v (.one (.own 0 none))), (12, .v (.one (.d (.int .i64 (IntKind.wrap .i64 (vx5 + (IntKind.wrap .i64 (vx6 + vr10)))))))), (13, .v (.one (.d (.int .i64 vx6)))), (14, .v (.one (.d (.int .i64 (IntKind.wrap .i64 (vx7 + vr11)))))), (15, .v (.one (.d (.int .i64 vx8)))), (18, .v (.one (.d (.int .i64 (IntKind.wrap .i64 (vx6 + vr10)))))), (45, .v (.one (.d (.int .i64 (IntKind.wrap .i64 (vr2)))))), (46, .v (.one (.d (.int .i64 vx8)))), (81, .v (.one (.d (.bool vx17))))]) 1

def series_Unpack_x5_I (qx : List Int) (qx1 : List UInt8) (qx2 : List UInt8) (vr2 : Int) (vx4 : List api_Sample) (vx5 : Int) (vx6 : Int) (vx7 : Int) (vx8 : Int) (vx14_1 : List Int) (vr10 : Int) (vr11 : Int) : St := Mem.st ⟨[(0, ⟨42, 4, List.map api_Sample.enc vx4⟩)], []⟩ (tl [(0, .v (.one (.d (.lst (List.map (encI .u8) qx))))), (1, .v (.one (.d (.str qx1)))), (2, .v (.one (.d (.str qx2)))), (9, .v (.one (.d (.lst (List.map (encI .u8) vx14_1))))), (11, .v (.one (.own 0 none))), (12, .v (.one (.d (.int .i64 (IntKind.wrap .i64 (vx5 + (IntKind.wrap .i64 (vx6 + vr10)))))))), (13, .v (.one (.d (.int .i64 vx6)))), (14, .v (.one (.d (.int .i64 (IntKind.wrap .i64 (vx7 + vr11)))))), (15, .v (.one (.d (.int .i64 vx8)))), (18, .v (.one (.d (.int .i64 (IntKind.wrap .i64 (vx6 + vr10)))))), (45, .v (.one (.d (.int .i64 (IntKind.wrap .i64 (vr2)))))), (46, .v (.one (.d (.int .i64 vx8))))]) 1

theorem series_Unpack_x5_ok (qx : List Int) (qx1 : List UInt8) (qx2 : List UInt8) (vr2 : Int) (vx4 : List api_Sample) (vx5 : Int) (vx6 : Int) (vx7 : Int) (vx8 : Int) (vx14_1 : List Int) (vr10 : Int) (vr11 : Int) {r} (hF : series_Unpack_x5 vx5 vx6 vx7 vr10 vr11 = some r) : Awp prog 0 105 (cL (cL (cR (cR (cR (cR (cR (cR (cR (cL (cL (cR (cR (cL (cL (cR (cL (cR (cR (cR (cR (cR (cR (cB f30)))))))))))))))))))))))) (Out 0 series_Unpack_x5_k (series_Unpack_x5_S qx qx1 qx2 vr2 vx4 vx5 vx6 vx7 vx8 vx14_1 vr10 vr11) r) (series_Unpack_x5_I qx qx1 qx2 vr2 vx4 vx5 vx6 vx7 vx8 vx14_1 vr10 vr11) := by
  unfold series_Unpack_x5 at hF
  refine bE hF fun vr12 h19 hF => ?_
  refine cE hF (fun h20 hF => ?_) fun h20 hF => ?_
  · refine awp_region ?_
    refine aR 1 ?_
    refine aCb (base_Out_ok h19) [] [] [] h20 ?_
    refine aR 5 ?_
    refine aE ?_
    exact oO hF [] [] rfl
  · refine bE hF fun vr1_7 h21 hF => ?_
    refine awp_region ?_
    refine aR 1 ?_
    refine aCb (base_Out_ok h19) [] [] [] h20 ?_
    refine aR 2 ?_
    refine aC (base_Moment_ok h21) [] [] [] ?_
    refine aR 2 ?_
    refine aE ?_
    exact oO hF [] [] rfl

def series_Unpack_x6_k : Int → AEx
  | _ => .normal

def series_Unpack_x6_S (qx : List Int) (qx1 : List UInt8) (qx2 : List UInt8) (vr2 : Int) (vx4 : List api_Sample) (vx5 : Int) (vx6 : Int) (vx7 : Int) (vx8 : Int) (vx14_1 : List Int) (vr10 : Int) (vr11 : Int) : Int → St
  | vx18 => Mem.st ⟨[(0, ⟨42, 4, List.map api_Sample.enc vx4⟩)], []⟩ (tl [(0, .v (.one (.d (.lst (List.map (encI .u8) qx))))), (1, .v (.one (.d (.str qx1)))), (2, .v (.one (.d (.str qx2)))), (9, .v (.one (.d (.lst (List.map (encI .u8) vx14_1))))), (11, .v (.one (.own 0 none))), (12, .v (.one (.d (.int .i64 (IntKind.wrap .i64 (vx5 + (IntKind.wrap .i64 (vx6 + vr10)))))))), (13, .v (.one (.d (.int .i64 vx18)))), (14, .v (.one (.d (.int .i64 (IntKind.wrap .i64 (vx7 + vr11)))))), (45, .v (.one (.d (.int .i64 (IntKind.wrap .i64 (vr2)))))), (46, .v (.one (.d (.int .i64 vx8))))]) 1

def series_Unpack_x6_I (qx : List Int) (qx1 : List UInt8) (qx2 : List UInt8) (vr2 : Int) (vx4 : List api_Sample) (vx5 : Int) (vx6 : Int) (vx7 : Int) (vx8 : Int) (vx14_1 : List Int) (vr10 : Int) (vr11 : Int) : St := Mem.st ⟨[(0, ⟨42, 4, List.map api_Sample.enc vx4⟩)], []⟩ (tl [(0, .v (.one (.d (.lst (List.map (encI .u8) qx))))), (1, .v (.one (.d (.str qx1)))), (2, .v (.one (.d (.str qx2)))), (9, .v (.one (.d (.lst (List.map (encI .u8) vx14_1))))), (11, .v (.one (.own 0 none))), (12, .v (.one (.d (.int .i64 (IntKind.wrap .i64 (vx5 + (IntKind.wrap .i64 (vx6 + vr10)))))))), (13, .v (.one (.d (.int .i64 vx6)))), (14, .v (.one (.d (.int .i64 (IntKind.wrap .i64 (vx7 + vr11)))))), (15, .v (.one (.d (.int .i64 vx8)))), (18, .v (.one (.d (.int .i64 (IntKind.wrap .i64 (vx6 + vr10)))))), (45, .v (.one (.d (.int .i64 (IntKind.wrap .i64 (vr2)))))), (46, .v (.one (.d (.int .i64 vx8))))]) 1

theorem series_Unpack_x6_ok (qx : List Int) (qx1 : List UInt8) (qx2 : List UInt8) (vr2 : Int) (vx4 : List api_Sample) (vx5 : Int) (vx6 : Int) (vx7 : Int) (vx8 : Int) (vx14_1 : List Int) (vr10 : Int) (vr11 : Int) {r} (hF : series_Unpack_x6 vx6 vx8 vr10 = some r) : Awp prog 0 105 (cL (cR (cR (cR (cR (cR (cR (cR (cR (cL (cL (cR (cR (cL (cL (cR (cL (cR (cR (cR (cR (cR (cR (cB f30)))))))))))))))))))))))) (Out 0 series_Unpack_x6_k (series_Unpack_x6_S qx qx1 qx2 vr2 vx4 vx5 vx6 vx7 vx8 vx14_1 vr10 vr11) r) (series_Unpack_x6_I qx qx1 qx2 vr2 vx4 vx5 vx6 vx7 vx8 vx14_1 vr10 vr11) := by
  unfold series_Unpack_x6 at hF
  refine awp_seq ?_
  refine awp_region ?_
  refine aR 2 ?_
  refine aE ?_
  refine cE hF (fun h24 hF => ?_) fun h24 hF => ?_
  · refine awp_true (by kernel_rfl) h24 ?_
    refine awp_region ?_
    refine aR 2 ?_
    refine aE ?_
    exact oO hF [] [] rfl
  · refine awp_false (by kernel_rfl) h24 ?_
    refine awp_skip ?_
    exact oO hF [] [] rfl

def series_Unpack_x3_k : (List api_Sample) ⊕ Unit → AEx
  | .inl _ => .exit 1
  | .inr _ => .ret

def series_Unpack_x3_S (qx : List Int) (qx1 : List UInt8) (qx2 : List UInt8) (vr2 : Int) : (List api_Sample) ⊕ Unit → St
  | .inl vx19 => Mem.st ⟨[(0, ⟨42, 4, List.map api_Sample.enc vx19⟩)], []⟩ (tl [(0, .v (.one (.d (.lst (List.map (encI .u8) qx))))), (11, .v (.one (.own 0 none)))]) 1
  | .inr _ => Mem.st ⟨[], []⟩ (tl [(6, .v (.one (.nil))), (7, .v (.one (.d (.int .i64 9))))]) 0

def series_Unpack_x3_H (qx : List Int) (qx1 : List UInt8) (qx2 : List UInt8) (vr2 : Int) : (List Int) × (List api_Sample) × Int × Int × Int × Int → St
  | (vx3, vx4, vx5, vx6, vx7, vx8) => Mem.st ⟨[(0, ⟨42, 4, List.map api_Sample.enc vx4⟩)], []⟩ (tl [(0, .v (.one (.d (.lst (List.map (encI .u8) qx))))), (1, .v (.one (.d (.str qx1)))), (2, .v (.one (.d (.str qx2)))), (9, .v (.one (.d (.lst (List.map (encI .u8) vx3))))), (11, .v (.one (.own 0 none))), (12, .v (.one (.d (.int .i64 vx5)))), (13, .v (.one (.d (.int .i64 vx6)))), (14, .v (.one (.d (.int .i64 vx7)))), (45, .v (.one (.d (.int .i64 (IntKind.wrap .i64 (vr2)))))), (46, .v (.one (.d (.int .i64 vx8))))]) 1

theorem series_Unpack_x3_ok (qx : List Int) (qx1 : List UInt8) (qx2 : List UInt8) (vr2 : Int) (s : (List Int) × (List api_Sample) × Int × Int × Int × Int) (r : ((List Int) × (List api_Sample) × Int × Int × Int × Int) ⊕ ((List api_Sample) ⊕ Unit)) (hF : series_Unpack_x3 qx1 qx2 vr2 s = some r) : Awp prog 0 105 (cL (cL (cR (cL (cR (cR (cR (cR (cR (cR (cB f30))))))))))) (Out 0 (kk series_Unpack_x3_k) (SS (series_Unpack_x3_H qx qx1 qx2 vr2) (series_Unpack_x3_S qx qx1 qx2 vr2)) r) (series_Unpack_x3_H qx qx1 qx2 vr2 s) := by
  obtain ⟨vx3, vx4, vx5, vx6, vx7, vx8⟩ := s
  unfold series_Unpack_x3 at hF
  refine awp_seq ?_
  refine awp_region ?_
  refine aR 1 ?_
  refine aE ?_
  refine awp_seq ?_
  refine cE hF (fun h11 hF => ?_) fun h11 hF => ?_
  · refine awp_true (by kernel_rfl) h11 ?_
    refine awp_skip ?_
    refine awp_seq ?_
    refine awp_block ?_
    refine awp_seq ?_
    refine awp_region ?_
    refine aR 2 ?_
    refine aE ?_
    refine awp_seq ?_
    refine awp_region ?_
    refine aR 2 ?_
    refine aE ?_
    refine awp_seq ?_
    refine bE hF fun x h12 hF => ?_
    obtain ⟨vr8, vr1_5, vr2_4⟩ := x
    refine awp_region ?_
    refine aR 1 ?_
    refine aC (series_unseven_ok h12) [] [] [] ?_
    refine aR 7 ?_
    refine aE ?_
    refine awp_seq ?_
    refine awp_to (st' := series_Unpack_x4_I qx qx1 qx2 vr2 vx4 vx5 vx6 vx7 vx8 vr8 vr1_5 vr2_4) (oT [] []) ?_
    refine bE hF fun x h15 hF => ?_
    obtain ⟨vx14_1, vx15_1, vx16_1⟩ := x
    refine awp_sub (series_Unpack_x4_ok qx qx1 qx2 vr2 vx4 vx5 vx6 vx7 vx8 vr8 vr1_5 vr2_4 h15) ?_
    refine awp_seq ?_
    refine awp_seq ?_
    refine awp_region ?_
    refine aR 2 ?_
    refine aE ?_
    refine cE hF (fun h16 hF => ?_) fun h16 hF => ?_
    · refine awp_true (by kernel_rfl) h16 ?_
      refine awp_seq ?_
      refine awp_region ?_
      refine aR 2 ?_
      refine aE ?_
      refine awp_ret ?_
      exact oO hF [] [] rfl
    · refine awp_false (by kernel_rfl) h16 ?_
      refine awp_skip ?_
      refine awp_seq ?_
      refine bE hF fun vr10 h17 hF => ?_
      refine awp_region ?_
      refine aR 2 ?_
      refine aC (series_halved_ok h17) [] [] [] ?_
      refine aR 2 ?_
      refine aE ?_
      refine awp_seq ?_
      refine bE hF fun vr11 h18 hF => ?_
      refine awp_region ?_
      refine aR 5 ?_
      refine aC (series_halved_ok h18) [] [] [] ?_
      refine aR 3 ?_
      refine aE ?_
      refine awp_seq ?_
      refine awp_seq ?_
      refine awp_to (st' := series_Unpack_x5_I qx qx1 qx2 vr2 vx4 vx5 vx6 vx7 vx8 vx14_1 vr10 vr11) (oT [] []) ?_
      refine bE hF fun vx17_1 h22 hF => ?_
      refine awp_sub (series_Unpack_x5_ok qx qx1 qx2 vr2 vx4 vx5 vx6 vx7 vx8 vx14_1 vr10 vr11 h22) ?_
      refine cE hF (fun h23 hF => ?_) fun h23 hF => ?_
      · refine awp_true (by kernel_rfl) h23 ?_
        refine awp_seq ?_
        refine awp_region ?_
        refine aR 2 ?_
        refine aE ?_
        refine awp_ret ?_
        exact oO hF [] [] rfl
      · refine awp_false (by kernel_rfl) h23 ?_
        refine awp_skip ?_
        refine awp_seq ?_
        refine awp_to (st' := series_Unpack_x6_I qx qx1 qx2 vr2 vx4 vx5 vx6 vx7 vx8 vx14_1 vr10 vr11) (oT [] []) ?_
        refine bE hF fun vx18_1 h25 hF => ?_
        refine awp_sub (series_Unpack_x6_ok qx qx1 qx2 vr2 vx4 vx5 vx6 vx7 vx8 vx14_1 vr10 vr11 h25) ?_
        refine gE hF fun h26 hF => ?_
        refine awp_region ?_
        refine aR 7 ?_
        refine aX (x_app api_Sample.enc 0 h26) ?_
        refine aR 1 ?_
        refine aE ?_
        refine awp_region ?_
        refine aR 2 ?_
        refine aE ?_
        exact oO hF [(0, 7001)] [] rfl
  · refine awp_false (by kernel_rfl) h11 ?_
    refine awp_exit ?_
    exact oO hF [] [] rfl

def series_Unpack_x7_k : Bool → AEx
  | _ => .normal

def series_Unpack_x7_S (qx : List Int) (vx19_1 : List api_Sample) : Bool → St
  | vx20 => Mem.st ⟨[], []⟩ (tl [(11, .v (.one (.d (.lst (List.map api_Sample.enc vx19_1))))), (103, .v (.one (.d (.bool vx20))))]) 0

def series_Unpack_x7_I (qx : List Int) (vx19_1 : List api_Sample) : St := Mem.st ⟨[(0, ⟨42, 4, List.map api_Sample.enc vx19_1⟩)], []⟩ (tl [(0, .v (.one (.d (.lst (List.map (encI .u8) qx))))), (11, .v (.one (.own 0 none)))]) 1

theorem series_Unpack_x7_ok (qx : List Int) (vx19_1 : List api_Sample) {r} (hF : series_Unpack_x7 qx vx19_1 = some r) : Awp prog 0 105 (cL (cL (cR (cR (cR (cR (cR (cR (cR (cB f30)))))))))) (Out 0 series_Unpack_x7_k (series_Unpack_x7_S qx vx19_1) r) (series_Unpack_x7_I qx vx19_1) := by
  unfold series_Unpack_x7 at hF
  refine bE hF fun vr1_8 h28 hF => ?_
  refine cE hF (fun h29 hF => ?_) fun h29 hF => ?_
  · refine awp_region ?_
    refine aR 1 ?_
    refine aC (series_CheckSeries_ok h28) [] [] [0] ?_
    refine aB h29 ?_
    refine aR 7 ?_
    refine aE ?_
    exact oO hF [] [] rfl
  · refine bE hF fun vr9_1 h30 hF => ?_
    refine awp_to (oT (m := ⟨[], []⟩) (ts := [(0, .v (.one (.d (.lst (List.map (encI .u8) qx))))), (11, .v (.one (.d (.lst (List.map api_Sample.enc vx19_1)))))]) (nx := 1) [] []) ?_
    refine bE hF fun vr13 h31 hF => ?_
    refine awp_region ?_
    refine aR 1 ?_
    refine aC (series_CheckSeries_ok h28) [] [] [] ?_
    refine aB h29 ?_
    refine aR 2 ?_
    refine aC (series_pack_ok h30) [] [] [] ?_
    refine aR 1 ?_
    refine aC (slices_Equal_byte_byte_ok h31) [] [] [5001] ?_
    refine aR 2 ?_
    refine aE ?_
    exact oO hF [] [] rfl

def series_Unpack_R (qx : List Int) (qx1 : List UInt8) (qx2 : List UInt8) (r : (List api_Sample) × Int) : TV × Mem := (.tup [.one (.d (.lst (List.map api_Sample.enc r.1))), .one (.d (.int .i64 r.2))], ⟨[], []⟩)

theorem series_Unpack_ok {qx : List Int} {qx1 : List UInt8} {qx2 : List UInt8} {r} (hF : series_Unpack qx qx1 qx2 = some r) : Holds prog 30 [.v (.one (.d (.lst (List.map (encI .u8) qx)))), .v (.one (.d (.str qx1))), .v (.one (.d (.str qx2)))] ⟨[], []⟩ (Is (series_Unpack_R qx qx1 qx2 r)) := by
  unfold series_Unpack at hF
  refine holds_of_awp hΓ (fn := f30) (c := cB f30) (A := 0) (nx := 0) (by kernel_rfl) (by kernel_rfl) (by kernel_rfl) (by kernel_rfl) (by kernel_rfl) (by kernel_rfl) (lowc_of (by kernel_rfl)) ?_
  show Awp prog 0 105 (cB f30) _ _
  refine awp_seq ?_
  refine awp_region ?_
  refine aR 2 ?_
  refine aE ?_
  refine awp_seq ?_
  refine awp_block ?_
  refine awp_seq ?_
  refine awp_to (st' := series_Unpack_x1_I qx qx1 qx2) (oT [] []) ?_
  refine bE hF fun vx1 h4 hF => ?_
  refine awp_sub (series_Unpack_x1_ok qx qx1 qx2 h4) ?_
  refine cE hF (fun h5 hF => ?_) fun h5 hF => ?_
  · refine awp_true (by kernel_rfl) h5 ?_
    refine awp_seq ?_
    refine awp_region ?_
    refine aR 2 ?_
    refine aE ?_
    refine awp_ret ?_
    exact oF hF [] []
  · refine awp_false (by kernel_rfl) h5 ?_
    refine awp_seq ?_
    refine awp_region ?_
    refine aR 1 ?_
    refine aL (encI .u8) qx ?_
    refine aR 2 ?_
    refine aE ?_
    refine cE hF (fun h6 hF => ?_) fun h6 hF => ?_
    · refine awp_true (by kernel_rfl) h6 ?_
      refine awp_seq ?_
      refine awp_region ?_
      refine aR 2 ?_
      refine aE ?_
      refine awp_ret ?_
      exact oF hF [] []
    · refine awp_false (by kernel_rfl) h6 ?_
      refine awp_skip ?_
      refine awp_seq ?_
      refine bE hF fun x h7 hF => ?_
      obtain ⟨vr2, vr1_1, vr2_1⟩ := x
      refine awp_region ?_
      refine aR 1 ?_
      refine aC (series_unseven_ok h7) [] [] [] ?_
      refine aR 7 ?_
      refine aE ?_
      refine awp_seq ?_
      refine awp_seq ?_
      refine awp_to (st' := series_Unpack_x2_I qx qx1 qx2 vr2 vr1_1 vr2_1) (oT [] []) ?_
      refine bE hF fun vx2_1 h9 hF => ?_
      refine awp_sub (series_Unpack_x2_ok qx qx1 qx2 vr2 vr1_1 vr2_1 h9) ?_
      refine cE hF (fun h10 hF => ?_) fun h10 hF => ?_
      · refine awp_true (by kernel_rfl) h10 ?_
        refine awp_seq ?_
        refine awp_region ?_
        refine aR 2 ?_
        refine aE ?_
        refine awp_ret ?_
        exact oF hF [] []
      · refine awp_false (by kernel_rfl) h10 ?_
        refine awp_skip ?_
        refine awp_seq ?_
        refine awp_region ?_
        refine aR 1 ?_
        refine aE ?_
        refine awp_seq ?_
        refine awp_region ?_
        refine aR 3 ?_
        refine aE ?_
        refine awp_seq ?_
        refine awp_seq ?_
        refine awp_region ?_
        refine aR 3 ?_
        refine aE ?_
        refine awp_block ?_
        refine awp_to (st' := series_Unpack_x3_H qx qx1 qx2 vr2 (vr1_1, [], 0, 0, 0, 0)) (oT [] [0]) ?_
        refine bE hF fun x h27 hF => ?_
        rcases x with vx19_1 | _
        · refine awp_sub (awp_loop' (series_Unpack_x3_H qx qx1 qx2 vr2) series_Unpack_x3_k (series_Unpack_x3_S qx qx1 qx2 vr2) (by intro x; rcases x with x | x <;> exact fun h => nomatch h) h27 (series_Unpack_x3_ok qx qx1 qx2 vr2)) ?_
          refine awp_seq ?_
          refine awp_seq ?_
          refine awp_to (st' := series_Unpack_x7_I qx vx19_1) (oT [] []) ?_
          refine bE hF fun vx20_1 h32 hF => ?_
          refine awp_sub (series_Unpack_x7_ok qx vx19_1 h32) ?_
          refine cE hF (fun h33 hF => ?_) fun h33 hF => ?_
          · refine awp_true (by kernel_rfl) h33 ?_
            refine awp_seq ?_
            refine awp_region ?_
            refine aR 2 ?_
            refine aE ?_
            refine awp_ret ?_
            exact oF hF [] []
          · refine awp_false (by kernel_rfl) h33 ?_
            refine awp_skip ?_
            refine awp_seq ?_
            refine awp_region ?_
            refine aR 3 ?_
            refine aE ?_
            refine awp_ret ?_
            exact oF hF [] []
        · refine awp_sub (awp_loop' (series_Unpack_x3_H qx qx1 qx2 vr2) series_Unpack_x3_k (series_Unpack_x3_S qx qx1 qx2 vr2) (by intro x; rcases x with x | x <;> exact fun h => nomatch h) h27 (series_Unpack_x3_ok qx qx1 qx2 vr2)) ?_
          exact oF hF [] []

/-! ### beaconfleet/fleetref2.in -/
def fleetref2_in_x1_k : Bool → AEx
  | _ => .normal

def fleetref2_in_x1_S (qn : Int) (qlow : Int) (qhigh : Int) : Bool → St
  | vx => Mem.st ⟨[], []⟩ (tl [(6, .v (.one (.d (.bool vx))))]) 0

def fleetref2_in_x1_I (qn : Int) (qlow : Int) (qhigh : Int) : St := Mem.st ⟨[], []⟩ (tl [(0, .v (.one (.d (.int .i64 qn)))), (1, .v (.one (.d (.int .i64 qlow)))), (2, .v (.one (.d (.int .i64 qhigh))))]) 0

theorem fleetref2_in_x1_ok (qn : Int) (qlow : Int) (qhigh : Int) {r} (hF : fleetref2_in_x1 qn qlow qhigh = some r) : Awp prog 0 15 (cL (cR (cB f119))) (Out 0 fleetref2_in_x1_k (fleetref2_in_x1_S qn qlow qhigh) r) (fleetref2_in_x1_I qn qlow qhigh) := by
  unfold fleetref2_in_x1 at hF
  refine cE hF (fun h1 hF => ?_) fun h1 hF => ?_
  · refine awp_region ?_
    refine aR 2 ?_
    refine aB h1 ?_
    refine aR 6 ?_
    refine aE ?_
    exact oO hF [] [] rfl
  · refine awp_region ?_
    refine aR 2 ?_
    refine aB h1 ?_
    refine aR 6 ?_
    refine aE ?_
    exact oO hF [] [] rfl

def fleetref2_in_R (qn : Int) (qlow : Int) (qhigh : Int) (r : Bool) : TV × Mem := (.v (.one (.d (.bool r))), ⟨[], []⟩)

theorem fleetref2_in_ok {qn : Int} {qlow : Int} {qhigh : Int} {r} (hF : fleetref2_in qn qlow qhigh = some r) : Holds prog 119 [.v (.one (.d (.int .i64 qn))), .v (.one (.d (.int .i64 qlow))), .v (.one (.d (.int .i64 qhigh)))] ⟨[], []⟩ (Is (fleetref2_in_R qn qlow qhigh r)) := by
  unfold fleetref2_in at hF
  refine holds_of_awp hΓ (fn := f119) (c := cB f119) (A := 0) (nx := 0) (by kernel_rfl) (by kernel_rfl) (by kernel_rfl) (by kernel_rfl) (by kernel_rfl) (by kernel_rfl) (lowc_of (by kernel_rfl)) ?_
  show Awp prog 0 15 (cB f119) _ _
  refine awp_seq ?_
  refine awp_region ?_
  refine aR 1 ?_
  refine aE ?_
  refine awp_seq ?_
  refine awp_to (st' := fleetref2_in_x1_I qn qlow qhigh) (oT [] []) ?_
  refine bE hF fun vx1 h2 hF => ?_
  refine awp_sub (fleetref2_in_x1_ok qn qlow qhigh h2) ?_
  refine awp_ret ?_
  exact oF hF [] []

/-! ### internal/stringslite.IndexByte -/
def stringslite_IndexByte_R (qs : List UInt8) (qc : Int) (r : Unit) : TV × Mem := (.v (.one (.d (.int .i64 (Lib.indexByte qs qc.toNat.toUInt8)))), ⟨[], []⟩)

theorem stringslite_IndexByte_ok {qs : List UInt8} {qc : Int} {r} (hF : stringslite_IndexByte qs qc = some r) : Holds prog 247 [.v (.one (.d (.str qs))), .v (.one (.d (.int .u8 qc)))] ⟨[], []⟩ (Is (stringslite_IndexByte_R qs qc r)) := by
  unfold stringslite_IndexByte at hF
  refine holds_of_awp hΓ (fn := f247) (c := cB f247) (A := 0) (nx := 0) (by kernel_rfl) (by kernel_rfl) (by kernel_rfl) (by kernel_rfl) (by kernel_rfl) (by kernel_rfl) (lowc_of (by kernel_rfl)) ?_
  show Awp prog 0 8 (cB f247) _ _
  refine awp_seq ?_
  refine awp_region ?_
  refine aR 1 ?_
  refine aE ?_
  refine awp_seq ?_
  refine awp_region ?_
  refine aR 2 ?_
  refine aS (does_indexByte (g := 264) (fn := f264) (a := qs) (c := qc) rfl (by kernel_rfl) (by kernel_rfl) (by kernel_rfl) (by kernel_rfl) (by kernel_rfl) (by kernel_rfl)) ?_
  refine aR 1 ?_
  refine aE ?_
  refine awp_ret ?_
  exact oF hF [] []

/-! ### strings.IndexByte -/
def strings_IndexByte_R (qs : List UInt8) (qc : Int) (r : Unit) : TV × Mem := (.v (.one (.d (.int .i64 (Lib.indexByte qs qc.toNat.toUInt8)))), ⟨[], []⟩)

theorem strings_IndexByte_ok {qs : List UInt8} {qc : Int} {r} (hF : strings_IndexByte qs qc = some r) : Holds prog 215 [.v (.one (.d (.str qs))), .v (.one (.d (.int .u8 qc)))] ⟨[], []⟩ (Is (strings_IndexByte_R qs qc r)) := by
  unfold strings_IndexByte at hF
  refine holds_of_awp hΓ (fn := f215) (c := cB f215) (A := 0) (nx := 0) (by kernel_rfl) (by kernel_rfl) (by kernel_rfl) (by kernel_rfl) (by kernel_rfl) (by kernel_rfl) (lowc_of (by kernel_rfl)) ?_
  show Awp prog 0 8 (cB f215) _ _
  refine awp_seq ?_
  refine awp_region ?_
  refine aR 1 ?_
  refine aE ?_
  refine awp_seq ?_
  refine bE hF fun _ h1 hF => ?_
  refine awp_region ?_
  refine aR 2 ?_
  refine aC (stringslite_IndexByte_ok h1) [] [] [] ?_
  refine aR 1 ?_
  refine aE ?_
  refine awp_ret ?_
  exact oF hF [] []

/-! ### beaconfleet/fleetref2.only -/
def fleetref2_only_x1_k : Unit ⊕ Unit → AEx
  | .inl _ => .exit 0
  | .inr _ => .ret

def fleetref2_only_x1_S (qs : List UInt8) (qsome : List UInt8) : Unit ⊕ Unit → St
  | .inl _ => Mem.st ⟨[], []⟩ (tl []) 0
  | .inr _ => Mem.st ⟨[], []⟩ (tl [(4, .v (.one (.d (.bool false))))]) 0

def fleetref2_only_x1_H (qs : List UInt8) (qsome : List UInt8) : Int → St
  | vx => Mem.st ⟨[], []⟩ (tl [(0, .v (.one (.d (.str qs)))), (1, .v (.one (.d (.str qsome)))), (7, .v (.one (.d (.int .i64 (qs.length : Int))))), (8, .v (.one (.d (.int .i64 vx))))]) 0

theorem fleetref2_only_x1_ok (qs : List UInt8) (qsome : List UInt8) (vx : Int) (r : (Int) ⊕ (Unit ⊕ Unit)) (hF : fleetref2_only_x1 qs qsome vx = some r) : Awp prog 0 18 (cL (cL (cR (cL (cR (cB f128)))))) (Out 0 (kk fleetref2_only_x1_k) (SS (fleetref2_only_x1_H qs qsome) (fleetref2_only_x1_S qs qsome)) r) (fleetref2_only_x1_H qs qsome vx) := by
  unfold fleetref2_only_x1 at hF
  refine awp_seq ?_
  refine awp_region ?_
  refine aR 1 ?_
  refine aE ?_
  refine awp_seq ?_
  refine cE hF (fun h1 hF => ?_) fun h1 hF => ?_
  · refine awp_true (by kernel_rfl) h1 ?_
    refine awp_skip ?_
    refine awp_seq ?_
    refine awp_block ?_
    refine awp_seq ?_
    refine awp_region ?_
    refine aR 2 ?_
    refine aE ?_
    refine awp_seq ?_
    refine bE hF fun vc1 h2 hF => ?_
    refine bE hF fun _ h3 hF => ?_
    refine awp_region ?_
    refine aR 3 ?_
    refine aX (x_idxS h2) ?_
    refine aC (strings_IndexByte_ok h3) [] [] [] ?_
    refine aR 1 ?_
    refine aE ?_
    refine cE hF (fun h4 hF => ?_) fun h4 hF => ?_
    · refine awp_true (by kernel_rfl) h4 ?_
      refine awp_seq ?_
      refine awp_region ?_
      refine aR 1 ?_
      refine aE ?_
      refine awp_ret ?_
      exact oO hF [] [] rfl
    · refine awp_false (by kernel_rfl) h4 ?_
      refine awp_skip ?_
      refine awp_region ?_
      refine aR 2 ?_
      refine aE ?_
      exact oO hF [] [] rfl
  · refine awp_false (by kernel_rfl) h1 ?_
    refine awp_exit ?_
    exact oO hF [] [] rfl

def fleetref2_only_R (qs : List UInt8) (qsome : List UInt8) (r : Bool) : TV × Mem := (.v (.one (.d (.bool r))), ⟨[], []⟩)

theorem fleetref2_only_ok {qs : List UInt8} {qsome : List UInt8} {r} (hF : fleetref2_only qs qsome = some r) : Holds prog 128 [.v (.one (.d (.str qs))), .v (.one (.d (.str qsome)))] ⟨[], []⟩ (Is (fleetref2_only_R qs qsome r)) := by
  unfold fleetref2_only at hF
  refine holds_of_awp hΓ (fn := f128) (c := cB f128) (A := 0) (nx := 0) (by kernel_rfl) (by kernel_rfl) (by kernel_rfl) (by kernel_rfl) (by kernel_rfl) (by kernel_rfl) (lowc_of (by kernel_rfl)) ?_
  show Awp prog 0 18 (cB f128) _ _
  refine awp_seq ?_
  refine awp_region ?_
  refine aR 1 ?_
  refine aE ?_
  refine awp_seq ?_
  refine awp_seq ?_
  refine awp_region ?_
  refine aR 3 ?_
  refine aE ?_
  refine awp_block ?_
  refine awp_to (st' := fleetref2_only_x1_H qs qsome 0) (oT [] []) ?_
  refine bE hF fun x h5 hF => ?_
  rcases x with _ | _
  · refine awp_sub (awp_loop' (fleetref2_only_x1_H qs qsome) fleetref2_only_x1_k (fleetref2_only_x1_S qs qsome) (by intro x; rcases x with x | x <;> exact fun h => nomatch h) h5 (fleetref2_only_x1_ok qs qsome)) ?_
    refine awp_seq ?_
    refine awp_region ?_
    refine aR 1 ?_
    refine aE ?_
    refine awp_ret ?_
    exact oF hF [] []
  · refine awp_sub (awp_loop' (fleetref2_only_x1_H qs qsome) fleetref2_only_x1_k (fleetref2_only_x1_S qs qsome) (by intro x; rcases x with x | x <;> exact fun h => nomatch h) h5 (fleetref2_only_x1_ok qs qsome)) ?_
    exact oF hF [] []

/-! ### beaconfleet/fleetref2.Key -/
def fleetref2_Key_x1_k : Bool → AEx
  | _ => .normal

def fleetref2_Key_x1_S (qs : List UInt8) : Bool → St
  | vx => Mem.st ⟨[], []⟩ (tl [(2, .v (.one (.d (.bool vx))))]) 0

def fleetref2_Key_x1_I (qs : List UInt8) : St := Mem.st ⟨[], []⟩ (tl [(0, .v (.one (.d (.str qs))))]) 0

theorem fleetref2_Key_x1_ok (qs : List UInt8) {r} (hF : fleetref2_Key_x1 qs = some r) : Awp prog 0 15 (cL (cR (cB f31))) (Out 0 fleetref2_Key_x1_k (fleetref2_Key_x1_S qs) r) (fleetref2_Key_x1_I qs) := by
  unfold fleetref2_Key_x1 at hF
  refine bE hF fun vr h1 hF => ?_
  refine cE hF (fun h2 hF => ?_) fun h2 hF => ?_
  · refine bE hF fun vs h3 hF => ?_
    refine bE hF fun vr1 h4 hF => ?_
    refine cE hF (fun h5 hF => ?_) fun h5 hF => ?_
    · refine bE hF fun vr2 h6 hF => ?_
      refine awp_region ?_
      refine aR 2 ?_
      refine aCb (fleetref2_in_ok h1) [] [] [] h2 ?_
      refine aR 2 ?_
      refine aX (x_sliceS h3) ?_
      refine aCb (fleetref2_only_ok h4) [] [] [] h5 ?_
      refine aR 3 ?_
      refine aC (fleetref2_only_ok h6) [] [] [] ?_
      refine aR 2 ?_
      refine aE ?_
      exact oO hF [] [] rfl
    · refine awp_region ?_
      refine aR 2 ?_
      refine aCb (fleetref2_in_ok h1) [] [] [] h2 ?_
      refine aR 2 ?_
      refine aX (x_sliceS h3) ?_
      refine aCb (fleetref2_only_ok h4) [] [] [] h5 ?_
      refine aR 6 ?_
      refine aE ?_
      exact oO hF [] [] rfl
  · refine awp_region ?_
    refine aR 2 ?_
    refine aCb (fleetref2_in_ok h1) [] [] [] h2 ?_
    refine aR 10 ?_
    refine aE ?_
    exact oO hF [] [] rfl

def fleetref2_Key_R (qs : List UInt8) (r : Bool) : TV × Mem := (.v (.one (.d (.bool r))), ⟨[], []⟩)

theorem fleetref2_Key_ok {qs : List UInt8} {r} (hF : fleetref2_Key qs = some r) : Holds prog 31 [.v (.one (.d (.str qs)))] ⟨[], []⟩ (Is (fleetref2_Key_R qs r)) := by
  unfold fleetref2_Key at hF
  refine holds_of_awp hΓ (fn := f31) (c := cB f31) (A := 0) (nx := 0) (by kernel_rfl) (by kernel_rfl) (by kernel_rfl) (by kernel_rfl) (by kernel_rfl) (by kernel_rfl) (lowc_of (by kernel_rfl)) ?_
  show Awp prog 0 15 (cB f31) _ _
  refine awp_seq ?_
  refine awp_region ?_
  refine aR 1 ?_
  refine aE ?_
  refine awp_seq ?_
  refine awp_to (st' := fleetref2_Key_x1_I qs) (oT [] []) ?_
  refine bE hF fun vx1 h7 hF => ?_
  refine awp_sub (fleetref2_Key_x1_ok qs h7) ?_
  refine awp_ret ?_
  exact oF hF [] []

/-! ### beaconfleet/fleetref2.Moment -/
def fleetref2_Moment_R (qat : Int) (r : Bool) : TV × Mem := (.v (.one (.d (.bool r))), ⟨[], []⟩)

theorem fleetref2_Moment_ok {qat : Int} {r} (hF : fleetref2_Moment qat = some r) : Holds prog 133 [.v (.one (.d (.int .i64 qat)))] ⟨[], []⟩ (Is (fleetref2_Moment_R qat r)) := by
  unfold fleetref2_Moment at hF
  refine holds_of_awp hΓ (fn := f133) (c := cB f133) (A := 0) (nx := 0) (by kernel_rfl) (by kernel_rfl) (by kernel_rfl) (by kernel_rfl) (by kernel_rfl) (by kernel_rfl) (lowc_of (by kernel_rfl)) ?_
  show Awp prog 0 5 (cB f133) _ _
  refine awp_seq ?_
  refine awp_region ?_
  refine aR 1 ?_
  refine aE ?_
  refine awp_seq ?_
  refine bE hF fun vr h1 hF => ?_
  refine awp_region ?_
  refine aR 1 ?_
  refine aC (fleetref2_in_ok h1) [] [] [] ?_
  refine aR 1 ?_
  refine aE ?_
  refine awp_ret ?_
  exact oF hF [] []

/-! ### cmp.isNaN[string] -/
def cmp_isNaN_string_R (qx : List UInt8) (r : Unit) : TV × Mem := (.v (.one (.d (.bool (!decide (qx = qx))))), ⟨[], []⟩)

theorem cmp_isNaN_string_ok {qx : List UInt8} {r} (hF : cmp_isNaN_string qx = some r) : Holds prog 280 [.v (.one (.d (.str qx)))] ⟨[], []⟩ (Is (cmp_isNaN_string_R qx r)) := by
  unfold cmp_isNaN_string at hF
  refine holds_of_awp hΓ (fn := f280) (c := cB f280) (A := 0) (nx := 0) (by kernel_rfl) (by kernel_rfl) (by kernel_rfl) (by kernel_rfl) (by kernel_rfl) (by kernel_rfl) (lowc_of (by kernel_rfl)) ?_
  show Awp prog 0 6 (cB f280) _ _
  refine awp_seq ?_
  refine awp_region ?_
  refine aR 1 ?_
  refine aE ?_
  refine awp_seq ?_
  refine awp_region ?_
  refine aR 4 ?_
  refine aE ?_
  refine awp_ret ?_
  exact oF hF [] []

/-! ### cmp.Compare[string] -/
def cmp_Compare_string_R (qx : List UInt8) (qy : List UInt8) (r : Int) : TV × Mem := (.v (.one (.d (.int .i64 r))), ⟨[], []⟩)

theorem cmp_Compare_string_ok {qx : List UInt8} {qy : List UInt8} {r} (hF : cmp_Compare_string qx qy = some r) : Holds prog 263 [.v (.one (.d (.str qx))), .v (.one (.d (.str qy)))] ⟨[], []⟩ (Is (cmp_Compare_string_R qx qy r)) := by
  unfold cmp_Compare_string at hF
  refine holds_of_awp hΓ (fn := f263) (c := cB f263) (A := 0) (nx := 0) (by kernel_rfl) (by kernel_rfl) (by kernel_rfl) (by kernel_rfl) (by kernel_rfl) (by kernel_rfl) (lowc_of (by kernel_rfl)) ?_
  show Awp prog 0 20 (cB f263) _ _
  refine awp_seq ?_
  refine awp_region ?_
  refine aR 1 ?_
  refine aE ?_
  refine awp_seq ?_
  refine bE hF fun _ h1 hF => ?_
  refine awp_region ?_
  refine aR 1 ?_
  refine aC (cmp_isNaN_string_ok h1) [] [] [] ?_
  refine aR 1 ?_
  refine aE ?_
  refine awp_seq ?_
  refine bE hF fun _ h2 hF => ?_
  refine awp_region ?_
  refine aR 1 ?_
  refine aC (cmp_isNaN_string_ok h2) [] [] [] ?_
  refine aR 1 ?_
  refine aE ?_
  refine awp_seq ?_
  refine awp_seq ?_
  refine awp_region ?_
  refine aR 1 ?_
  refine aE ?_
  refine cE hF (fun h3 hF => ?_) fun h3 hF => ?_
  · refine awp_true (by kernel_rfl) h3 ?_
    refine awp_seq ?_
    refine awp_seq ?_
    refine awp_region ?_
    refine aR 1 ?_
    refine aE ?_
    refine cE hF (fun h4 hF => ?_) fun h4 hF => ?_
    · refine awp_true (by kernel_rfl) h4 ?_
      refine awp_seq ?_
      refine awp_region ?_
      refine aR 1 ?_
      refine aE ?_
      refine awp_ret ?_
      exact oF hF [] []
    · refine awp_false (by kernel_rfl) h4 ?_
      refine awp_skip ?_
      refine awp_seq ?_
      refine awp_region ?_
      refine aR 1 ?_
      refine aE ?_
      refine awp_ret ?_
      exact oF hF [] []
  · refine awp_false (by kernel_rfl) h3 ?_
    refine awp_skip ?_
    refine awp_seq ?_
    refine awp_seq ?_
    refine awp_region ?_
    refine aR 1 ?_
    refine aE ?_
    refine cE hF (fun h5 hF => ?_) fun h5 hF => ?_
    · refine awp_true (by kernel_rfl) h5 ?_
      refine awp_seq ?_
      refine awp_region ?_
      refine aR 1 ?_
      refine aE ?_
      refine awp_ret ?_
      exact oF hF [] []
    · refine awp_false (by kernel_rfl) h5 ?_
      refine awp_skip ?_
      refine awp_seq ?_
      refine awp_seq ?_
      refine awp_region ?_
      refine aR 3 ?_
      refine aE ?_
      refine cE hF (fun h6 hF => ?_) fun h6 hF => ?_
      · refine awp_true (by kernel_rfl) h6 ?_
        refine awp_seq ?_
        refine awp_region ?_
        refine aR 1 ?_
        refine aE ?_
        refine awp_ret ?_
        exact oF hF [] []
      · refine awp_false (by kernel_rfl) h6 ?_
        refine awp_skip ?_
        refine awp_seq ?_
        refine awp_seq ?_
        refine awp_region ?_
        refine aR 3 ?_
        refine aE ?_
        refine cE hF (fun h7 hF => ?_) fun h7 hF => ?_
        · refine awp_true (by kernel_rfl) h7 ?_
          refine awp_seq ?_
          refine awp_region ?_
          refine aR 1 ?_
          refine aE ?_
          refine awp_ret ?_
          exact oF hF [] []
        · refine awp_false (by kernel_rfl) h7 ?_
          refine awp_skip ?_
          refine awp_seq ?_
          refine awp_region ?_
          refine aR 1 ?_
          refine aE ?_
          refine awp_ret ?_
          exact oF hF [] []

/-! ### slices.Compare[[]string,string] -/
def slices_Compare_string_string_x1_k : Unit ⊕ Int → AEx
  | .inl _ => .exit 0
  | .inr _ => .ret

def slices_Compare_string_string_x1_S (qs1 : List (List UInt8)) (qs2 : List (List UInt8)) : Unit ⊕ Int → St
  | .inl _ => Mem.st ⟨[], []⟩ (tl [(0, .v (.one (.d (.lst (List.map encS qs1))))), (1, .v (.one (.d (.lst (List.map encS qs2)))))]) 0
  | .inr vx1 => Mem.st ⟨[], []⟩ (tl [(4, .v (.one (.d (.int .i64 vx1))))]) 0

def slices_Compare_string_string_x1_H (qs1 : List (List UInt8)) (qs2 : List (List UInt8)) : Int → St
  | vx => Mem.st ⟨[], []⟩ (tl [(0, .v (.one (.d (.lst (List.map encS qs1))))), (1, .v (.one (.d (.lst (List.map encS qs2))))), (9, .v (.one (.d (.lst (List.map encS qs1))))), (10, .v (.one (.d (.int .i64 (qs1.length : Int))))), (11, .v (.one (.d (.int .i64 vx))))]) 0

theorem slices_Compare_string_string_x1_ok (qs1 : List (List UInt8)) (qs2 : List (List UInt8)) (vx : Int) (r : (Int) ⊕ (Unit ⊕ Int)) (hF : slices_Compare_string_string_x1 qs1 qs2 vx = some r) : Awp prog 0 36 (cL (cL (cR (cL (cR (cB f245)))))) (Out 0 (kk slices_Compare_string_string_x1_k) (SS (slices_Compare_string_string_x1_H qs1 qs2) (slices_Compare_string_string_x1_S qs1 qs2)) r) (slices_Compare_string_string_x1_H qs1 qs2 vx) := by
  unfold slices_Compare_string_string_x1 at hF
  refine awp_seq ?_
  refine awp_region ?_
  refine aR 1 ?_
  refine aE ?_
  refine awp_seq ?_
  refine cE hF (fun h1 hF => ?_) fun h1 hF => ?_
  · refine awp_true (by kernel_rfl) h1 ?_
    refine awp_skip ?_
    refine awp_seq ?_
    refine awp_block ?_
    refine awp_seq ?_
    refine bE hF fun vy2 h2 hF => ?_
    refine awp_region ?_
    refine aR 1 ?_
    refine aX (x_idx encS h2) ?_
    refine aR 3 ?_
    refine aE ?_
    refine awp_seq ?_
    refine awp_seq ?_
    refine awp_region ?_
    refine aR 2 ?_
    refine aL encS qs2 ?_
    refine aR 1 ?_
    refine aE ?_
    refine cE hF (fun h3 hF => ?_) fun h3 hF => ?_
    · refine awp_true (by kernel_rfl) h3 ?_
      refine awp_seq ?_
      refine awp_region ?_
      refine aR 1 ?_
      refine aE ?_
      refine awp_ret ?_
      exact oO hF [] [] rfl
    · refine awp_false (by kernel_rfl) h3 ?_
      refine awp_skip ?_
      refine awp_seq ?_
      refine bE hF fun vy3 h4 hF => ?_
      refine awp_region ?_
      refine aR 2 ?_
      refine aX (x_idx encS h4) ?_
      refine aR 2 ?_
      refine aE ?_
      refine awp_seq ?_
      refine bE hF fun vr1 h5 hF => ?_
      refine awp_region ?_
      refine aR 2 ?_
      refine aC (cmp_Compare_string_ok h5) [] [] [] ?_
      refine aR 1 ?_
      refine aE ?_
      refine awp_seq ?_
      refine awp_region ?_
      refine aR 2 ?_
      refine aE ?_
      refine cE hF (fun h6 hF => ?_) fun h6 hF => ?_
      · refine awp_true (by kernel_rfl) h6 ?_
        refine awp_seq ?_
        refine awp_region ?_
        refine aR 2 ?_
        refine aE ?_
        refine awp_ret ?_
        exact oO hF [] [] rfl
      · refine awp_false (by kernel_rfl) h6 ?_
        refine awp_skip ?_
        refine awp_region ?_
        refine aR 2 ?_
        refine aE ?_
        exact oO hF [] [] rfl
  · refine awp_false (by kernel_rfl) h1 ?_
    refine awp_exit ?_
    exact oO hF [] [] rfl

def slices_Compare_string_string_R (qs1 : List (List UInt8)) (qs2 : List (List UInt8)) (r : Int) : TV × Mem := (.v (.one (.d (.int .i64 r))), ⟨[], []⟩)

theorem slices_Compare_string_string_ok {qs1 : List (List UInt8)} {qs2 : List (List UInt8)} {r} (hF : slices_Compare_string_string qs1 qs2 = some r) : Holds prog 245 [.v (.one (.d (.lst (List.map encS qs1)))), .v (.one (.d (.lst (List.map encS qs2))))] ⟨[], []⟩ (Is (slices_Compare_string_string_R qs1 qs2 r)) := by
  unfold slices_Compare_string_string at hF
  refine holds_of_awp hΓ (fn := f245) (c := cB f245) (A := 0) (nx := 0) (by kernel_rfl) (by kernel_rfl) (by kernel_rfl) (by kernel_rfl) (by kernel_rfl) (by kernel_rfl) (lowc_of (by kernel_rfl)) ?_
  show Awp prog 0 36 (cB f245) _ _
  refine awp_seq ?_
  refine awp_region ?_
  refine aR 1 ?_
  refine aE ?_
  refine awp_seq ?_
  refine awp_seq ?_
  refine awp_region ?_
  refine aR 1 ?_
  refine aL encS qs1 ?_
  refine aR 1 ?_
  refine aE ?_
  refine awp_block ?_
  refine awp_to (st' := slices_Compare_string_string_x1_H qs1 qs2 0) (oT [] []) ?_
  refine bE hF fun x h7 hF => ?_
  rcases x with _ | vx1_1
  · refine awp_sub (awp_loop' (slices_Compare_string_string_x1_H qs1 qs2) slices_Compare_string_string_x1_k (slices_Compare_string_string_x1_S qs1 qs2) (by intro x; rcases x with x | x <;> exact fun h => nomatch h) h7 (slices_Compare_string_string_x1_ok qs1 qs2)) ?_
    refine awp_seq ?_
    refine awp_seq ?_
    refine awp_region ?_
    refine aR 1 ?_
    refine aL encS qs1 ?_
    refine aR 1 ?_
    refine aL encS qs2 ?_
    refine aR 1 ?_
    refine aE ?_
    refine cE hF (fun h8 hF => ?_) fun h8 hF => ?_
    · refine awp_true (by kernel_rfl) h8 ?_
      refine awp_seq ?_
      refine awp_region ?_
      refine aR 1 ?_
      refine aE ?_
      refine awp_ret ?_
      exact oF hF [] []
    · refine awp_false (by kernel_rfl) h8 ?_
      refine awp_skip ?_
      refine awp_seq ?_
      refine awp_region ?_
      refine aR 1 ?_
      refine aE ?_
      refine awp_ret ?_
      exact oF hF [] []
  · refine awp_sub (awp_loop' (slices_Compare_string_string_x1_H qs1 qs2) slices_Compare_string_string_x1_k (slices_Compare_string_string_x1_S qs1 qs2) (by intro x; rcases x with x | x <;> exact fun h => nomatch h) h7 (slices_Compare_string_string_x1_ok qs1 qs2)) ?_
    exact oF hF [] []

/-! ### beaconfleet/fleetref2.sign -/
def fleetref2_sign_R (qn : Int) (r : Int) : TV × Mem := (.v (.one (.d (.int .i64 r))), ⟨[], []⟩)

theorem fleetref2_sign_ok {qn : Int} {r} (hF : fleetref2_sign qn = some r) : Holds prog 224 [.v (.one (.d (.int .i64 qn)))] ⟨[], []⟩ (Is (fleetref2_sign_R qn r)) := by
  unfold fleetref2_sign at hF
  refine holds_of_awp hΓ (fn := f224) (c := cB f224) (A := 0) (nx := 0) (by kernel_rfl) (by kernel_rfl) (by kernel_rfl) (by kernel_rfl) (by kernel_rfl) (by kernel_rfl) (lowc_of (by kernel_rfl)) ?_
  show Awp prog 0 9 (cB f224) _ _
  refine awp_seq ?_
  refine awp_region ?_
  refine aR 1 ?_
  refine aE ?_
  refine awp_seq ?_
  refine awp_block ?_
  refine awp_seq ?_
  refine awp_region ?_
  refine aR 3 ?_
  refine aE ?_
  refine cE hF (fun h1 hF => ?_) fun h1 hF => ?_
  · refine awp_true (by kernel_rfl) h1 ?_
    refine awp_seq ?_
    refine awp_region ?_
    refine aR 1 ?_
    refine aE ?_
    refine awp_ret ?_
    exact oF hF [] []
  · refine awp_false (by kernel_rfl) h1 ?_
    refine awp_seq ?_
    refine awp_region ?_
    refine aR 3 ?_
    refine aE ?_
    refine cE hF (fun h2 hF => ?_) fun h2 hF => ?_
    · refine awp_true (by kernel_rfl) h2 ?_
      refine awp_seq ?_
      refine awp_region ?_
      refine aR 1 ?_
      refine aE ?_
      refine awp_ret ?_
      exact oF hF [] []
    · refine awp_false (by kernel_rfl) h2 ?_
      refine awp_skip ?_
      refine awp_seq ?_
      refine awp_region ?_
      refine aR 1 ?_
      refine aE ?_
      refine awp_ret ?_
      exact oF hF [] []

/-! ### beaconfleet/fleetref2.SampleOrder -/
def fleetref2_SampleOrder_R (qa : api_Sample) (qb : api_Sample) (r : Int) : TV × Mem := (.v (.one (.d (.int .i64 r))), ⟨[], []⟩)

theorem fleetref2_SampleOrder_ok {qa : api_Sample} {qb : api_Sample} {r} (hF : fleetref2_SampleOrder qa qb = some r) : Holds prog 209 [.v (.agg [.d (.str qa.Device), .d (.str qa.Metric), .d (.int .i64 qa.At), .d (.int .i64 qa.Value)]), .v (.agg [.d (.str qb.Device), .d (.str qb.Metric), .d (.int .i64 qb.At), .d (.int .i64 qb.Value)])] ⟨[], []⟩ (Is (fleetref2_SampleOrder_R qa qb r)) := by
  unfold fleetref2_SampleOrder at hF
  refine holds_of_awp hΓ (fn := f209) (c := cB f209) (A := 0) (nx := 0) (by kernel_rfl) (by kernel_rfl) (by kernel_rfl) (by kernel_rfl) (by kernel_rfl) (by kernel_rfl) (lowc_of (by kernel_rfl)) ?_
  show Awp prog 0 26 (cB f209) _ _
  refine awp_seq ?_
  refine awp_region ?_
  refine aR 3 ?_
  refine aE ?_
  refine awp_seq ?_
  refine awp_seq ?_
  refine bE hF fun vr2 h1 hF => ?_
  refine awp_region ?_
  refine aR 10 ?_
  refine aC (slices_Compare_string_string_ok h1) [] [] [7000, 12000] ?_
  refine aR 1 ?_
  refine aE ?_
  refine awp_seq ?_
  refine awp_region ?_
  refine aR 2 ?_
  refine aE ?_
  refine cE hF (fun h2 hF => ?_) fun h2 hF => ?_
  · refine awp_true (by kernel_rfl) h2 ?_
    refine awp_seq ?_
    refine awp_region ?_
    refine aR 2 ?_
    refine aE ?_
    refine awp_ret ?_
    exact oF hF [] []
  · refine awp_false (by kernel_rfl) h2 ?_
    refine awp_skip ?_
    refine awp_seq ?_
    refine bE hF fun vr h3 hF => ?_
    refine awp_region ?_
    refine aR 5 ?_
    refine aC (fleetref2_sign_ok h3) [] [] [] ?_
    refine aR 1 ?_
    refine aE ?_
    refine awp_ret ?_
    exact oF hF [] []

/-! ### beaconfleet/fleetref2.SamplesFault -/
def fleetref2_SamplesFault_x2_k : Bool → AEx
  | _ => .normal

def fleetref2_SamplesFault_x2_S (ql : List api_Sample) (vx : Int) (vy2 : api_Sample) : Bool → St
  | vx4 => Mem.st ⟨[], [(0, [.d (.str vy2.Device), .d (.str vy2.Metric), .d (.int .i64 vy2.At), .d (.int .i64 vy2.Value)])]⟩ (tl [(0, .v (.one (.d (.lst (List.map api_Sample.enc ql))))), (3, .v (.one (.d (.int .i64 vx)))), (4, .v (.one (.box 0 0))), (8, .v (.one (.d (.lst (List.map api_Sample.enc ql))))), (9, .v (.one (.d (.int .i64 (ql.length : Int))))), (10, .v (.one (.d (.int .i64 vx)))), (15, .v (.one (.d (.bool vx4))))]) 1

def fleetref2_SamplesFault_x2_I (ql : List api_Sample) (vx : Int) (vy2 : api_Sample) : St := Mem.st ⟨[], [(0, [.d (.str vy2.Device), .d (.str vy2.Metric), .d (.int .i64 vy2.At), .d (.int .i64 vy2.Value)])]⟩ (tl [(0, .v (.one (.d (.lst (List.map api_Sample.enc ql))))), (3, .v (.one (.d (.int .i64 vx)))), (4, .v (.one (.box 0 0))), (8, .v (.one (.d (.lst (List.map api_Sample.enc ql))))), (9, .v (.one (.d (.int .i64 (ql.length : Int))))), (10, .v (.one (.d (.int .i64 vx))))]) 1

theorem fleetref2_SamplesFault_x2_ok (ql : List api_Sample) (vx : Int) (vy2 : api_Sample) {r} (hF : fleetref2_SamplesFault_x2 vy2 = some r) : Awp prog 0 51 (cL (cL (cR (cL (cL (cR (cR (cL (cL (cR (cL (cR (cR (cB f116)))))))))))))) (Out 0 fleetref2_SamplesFault_x2_k (fleetref2_SamplesFault_x2_S ql vx vy2) r) (fleetref2_SamplesFault_x2_I ql vx vy2) := by
  unfold fleetref2_SamplesFault_x2 at hF
  refine bE hF fun vr3_2 h4 hF => ?_
  refine cE hF (fun h5 hF => ?_) fun h5 hF => ?_
  · refine awp_region ?_
    refine aR 2 ?_
    refine aC (fleetref2_Key_ok h4) [] [] [] ?_
    refine aB h5 ?_
    refine aR 7 ?_
    refine aE ?_
    exact oO hF [] [] rfl
  · refine bE hF fun vr3_3 h6 hF => ?_
    refine awp_region ?_
    refine aR 2 ?_
    refine aC (fleetref2_Key_ok h4) [] [] [] ?_
    refine aB h5 ?_
    refine aR 3 ?_
    refine aC (fleetref2_Key_ok h6) [] [] [] ?_
    refine aR 3 ?_
    refine aE ?_
    exact oO hF [] [] rfl

def fleetref2_SamplesFault_x3_k : Bool → AEx
  | _ => .normal

def fleetref2_SamplesFault_x3_S (ql : List api_Sample) (vx : Int) (vy2 : api_Sample) : Bool → St
  | vx5 => Mem.st ⟨[], [(0, [.d (.str vy2.Device), .d (.str vy2.Metric), .d (.int .i64 vy2.At), .d (.int .i64 vy2.Value)])]⟩ (tl [(0, .v (.one (.d (.lst (List.map api_Sample.enc ql))))), (3, .v (.one (.d (.int .i64 vx)))), (4, .v (.one (.box 0 0))), (8, .v (.one (.d (.lst (List.map api_Sample.enc ql))))), (9, .v (.one (.d (.int .i64 (ql.length : Int))))), (10, .v (.one (.d (.int .i64 vx)))), (26, .v (.one (.d (.bool vx5))))]) 1

def fleetref2_SamplesFault_x3_I (ql : List api_Sample) (vx : Int) (vy2 : api_Sample) : St := Mem.st ⟨[], [(0, [.d (.str vy2.Device), .d (.str vy2.Metric), .d (.int .i64 vy2.At), .d (.int .i64 vy2.Value)])]⟩ (tl [(0, .v (.one (.d (.lst (List.map api_Sample.enc ql))))), (3, .v (.one (.d (.int .i64 vx)))), (4, .v (.one (.box 0 0))), (8, .v (.one (.d (.lst (List.map api_Sample.enc ql))))), (9, .v (.one (.d (.int .i64 (ql.length : Int))))), (10, .v (.one (.d (.int .i64 vx))))]) 1

theorem fleetref2_SamplesFault_x3_ok (ql : List api_Sample) (vx : Int) (vy2 : api_Sample) {r} (hF : fleetref2_SamplesFault_x3 vy2 = some r) : Awp prog 0 51 (cL (cR (cR (cL (cR (cL (cL (cR (cR (cL (cL (cR (cL (cR (cR (cB f116)))))))))))))))) (Out 0 fleetref2_SamplesFault_x3_k (fleetref2_SamplesFault_x3_S ql vx vy2) r) (fleetref2_SamplesFault_x3_I ql vx vy2) := by
  unfold fleetref2_SamplesFault_x3 at hF
  refine bE hF fun vr1_2 h9 hF => ?_
  refine cE hF (fun h10 hF => ?_) fun h10 hF => ?_
  · refine awp_region ?_
    refine aR 2 ?_
    refine aC (fleetref2_Moment_ok h9) [] [] [] ?_
    refine aB h10 ?_
    refine aR 7 ?_
    refine aE ?_
    exact oO hF [] [] rfl
  · refine bE hF fun vr2 h11 hF => ?_
    refine awp_region ?_
    refine aR 2 ?_
    refine aC (fleetref2_Moment_ok h9) [] [] [] ?_
    refine aB h10 ?_
    refine aR 3 ?_
    refine aC (fleetref2_in_ok h11) [] [] [] ?_
    refine aR 3 ?_
    refine aE ?_
    exact oO hF [] [] rfl

def fleetref2_SamplesFault_x4_k : Bool → AEx
  | _ => .normal

def fleetref2_SamplesFault_x4_S (ql : List api_Sample) (vx : Int) (vy2 : api_Sample) : Bool → St
  | vx6 => Mem.st ⟨[], []⟩ (tl [(0, .v (.one (.d (.lst (List.map api_Sample.enc ql))))), (8, .v (.one (.d (.lst (List.map api_Sample.enc ql))))), (9, .v (.one (.d (.int .i64 (ql.length : Int))))), (10, .v (.one (.d (.int .i64 vx)))), (37, .v (.one (.d (.bool vx6))))]) 0

def fleetref2_SamplesFault_x4_I (ql : List api_Sample) (vx : Int) (vy2 : api_Sample) : St := Mem.st ⟨[], [(0, [.d (.str vy2.Device), .d (.str vy2.Metric), .d (.int .i64 vy2.At), .d (.int .i64 vy2.Value)])]⟩ (tl [(0, .v (.one (.d (.lst (List.map api_Sample.enc ql))))), (3, .v (.one (.d (.int .i64 vx)))), (4, .v (.one (.box 0 0))), (8, .v (.one (.d (.lst (List.map api_Sample.enc ql))))), (9, .v (.one (.d (.int .i64 (ql.length : Int))))), (10, .v (.one (.d (.int .i64 vx))))]) 1

theorem fleetref2_SamplesFault_x4_ok (ql : List api_Sample) (vx : Int) (vy2 : api_Sample) {r} (hF : fleetref2_SamplesFault_x4 ql vx vy2 = some r) : Awp prog 0 51 (cL (cR (cR (cR (cR (cL (cR (cL (cL (cR (cR (cL (cL (cR (cL (cR (cR (cB f116)))))))))))))))))) (Out 0 fleetref2_SamplesFault_x4_k (fleetref2_SamplesFault_x4_S ql vx vy2) r) (fleetref2_SamplesFault_x4_I ql vx vy2) := by
  unfold fleetref2_SamplesFault_x4 at hF
  refine cE hF (fun h14 hF => ?_) fun h14 hF => ?_
  · refine bE hF fun vy3 h15 hF => ?_
    refine bE hF fun vr1_3 h16 hF => ?_
    refine aD ?_
    refine dR 1 ?_
    refine dB h14 ?_
    refine dR 4 ?_
    refine dX (x_idx api_Sample.enc h15) ?_
    refine dR 2 ?_
    refine dC (fleetref2_SampleOrder_ok h16) [] [] [] ?_
    refine dR 3 ?_
    refine dE ?_
    exact oO hF [] [] rfl
  · refine aD ?_
    refine dR 1 ?_
    refine dB h14 ?_
    refine dR 11 ?_
    refine dE ?_
    exact oO hF [] [] rfl

def fleetref2_SamplesFault_x1_k : Unit ⊕ Int → AEx
  | .inl _ => .exit 0
  | .inr _ => .ret

def fleetref2_SamplesFault_x1_S (ql : List api_Sample) : Unit ⊕ Int → St
  | .inl _ => Mem.st ⟨[], []⟩ (tl []) 0
  | .inr vx7 => Mem.st ⟨[], []⟩ (tl [(2, .v (.one (.d (.int .i64 vx7))))]) 0

def fleetref2_SamplesFault_x1_H (ql : List api_Sample) : Int → St
  | vx => Mem.st ⟨[], []⟩ (tl [(0, .v (.one (.d (.lst (List.map api_Sample.enc ql))))), (8, .v (.one (.d (.lst (List.map api_Sample.enc ql))))), (9, .v (.one (.d (.int .i64 (ql.length : Int))))), (10, .v (.one (.d (.int .i64 vx))))]) 0

theorem fleetref2_SamplesFault_x1_ok (ql : List api_Sample) (vx : Int) (r : (Int) ⊕ (Unit ⊕ Int)) (hF : fleetref2_SamplesFault_x1 ql vx = some r) : Awp prog 0 51 (cL (cL (cR (cL (cR (cR (cB f116))))))) (Out 0 (kk fleetref2_SamplesFault_x1_k) (SS (fleetref2_SamplesFault_x1_H ql) (fleetref2_SamplesFault_x1_S ql)) r) (fleetref2_SamplesFault_x1_H ql vx) := by
  unfold fleetref2_SamplesFault_x1 at hF
  refine awp_seq ?_
  refine awp_region ?_
  refine aR 1 ?_
  refine aE ?_
  refine awp_seq ?_
  refine cE hF (fun h2 hF => ?_) fun h2 hF => ?_
  · refine awp_true (by kernel_rfl) h2 ?_
    refine awp_skip ?_
    refine awp_seq ?_
    refine awp_block ?_
    refine awp_seq ?_
    refine bE hF fun vy2 h3 hF => ?_
    refine awp_region ?_
    refine aR 1 ?_
    refine aX (x_idx api_Sample.enc h3) ?_
    refine aR 4 ?_
    refine aE ?_
    refine awp_block ?_
    refine awp_seq ?_
    refine awp_to (st' := fleetref2_SamplesFault_x2_I ql vx vy2) (oT [(0, 4000)] []) ?_
    refine bE hF fun vx4_1 h7 hF => ?_
    refine awp_sub (fleetref2_SamplesFault_x2_ok ql vx vy2 h7) ?_
    refine cE hF (fun h8 hF => ?_) fun h8 hF => ?_
    · refine awp_true (by kernel_rfl) h8 ?_
      refine awp_seq ?_
      refine awp_region ?_
      refine aR 1 ?_
      refine aE ?_
      refine awp_ret ?_
      exact oO hF [] [] rfl
    · refine awp_false (by kernel_rfl) h8 ?_
      refine awp_seq ?_
      refine awp_to (st' := fleetref2_SamplesFault_x3_I ql vx vy2) (oT [] []) ?_
      refine bE hF fun vx5_1 h12 hF => ?_
      refine awp_sub (fleetref2_SamplesFault_x3_ok ql vx vy2 h12) ?_
      refine cE hF (fun h13 hF => ?_) fun h13 hF => ?_
      · refine awp_true (by kernel_rfl) h13 ?_
        refine awp_seq ?_
        refine awp_region ?_
        refine aR 1 ?_
        refine aE ?_
        refine awp_ret ?_
        exact oO hF [] [] rfl
      · refine awp_false (by kernel_rfl) h13 ?_
        refine awp_seq ?_
        refine awp_to (st' := fleetref2_SamplesFault_x4_I ql vx vy2) (oT [] []) ?_
        refine bE hF fun vx6_1 h17 hF => ?_
        refine awp_sub (fleetref2_SamplesFault_x4_ok ql vx vy2 h17) ?_
        refine cE hF (fun h18 hF => ?_) fun h18 hF => ?_
        · refine awp_true (by kernel_rfl) h18 ?_
          refine awp_seq ?_
          refine awp_region ?_
          refine aR 1 ?_
          refine aE ?_
          refine awp_ret ?_
          exact oO hF [] [] rfl
        · refine awp_false (by kernel_rfl) h18 ?_
          refine awp_skip ?_
          refine awp_region ?_
          refine aR 2 ?_
          refine aE ?_
          exact oO hF [] [] rfl
  · refine awp_false (by kernel_rfl) h2 ?_
    refine awp_exit ?_
    exact oO hF [] [] rfl

def fleetref2_SamplesFault_R (ql : List api_Sample) (r : Int) : TV × Mem := (.v (.one (.d (.int .i64 r))), ⟨[], []⟩)

theorem fleetref2_SamplesFault_ok {ql : List api_Sample} {r} (hF : fleetref2_SamplesFault ql = some r) : Holds prog 116 [.v (.one (.d (.lst (List.map api_Sample.enc ql))))] ⟨[], []⟩ (Is (fleetref2_SamplesFault_R ql r)) := by
  unfold fleetref2_SamplesFault at hF
  refine holds_of_awp hΓ (fn := f116) (c := cB f116) (A := 0) (nx := 0) (by kernel_rfl) (by kernel_rfl) (by kernel_rfl) (by kernel_rfl) (by kernel_rfl) (by kernel_rfl) (lowc_of (by kernel_rfl)) ?_
  show Awp prog 0 51 (cB f116) _ _
  refine awp_seq ?_
  refine awp_region ?_
  refine aR 1 ?_
  refine aE ?_
  refine awp_seq ?_
  refine awp_seq ?_
  refine awp_region ?_
  refine aR 1 ?_
  refine aL api_Sample.enc ql ?_
  refine aR 1 ?_
  refine aE ?_
  refine cE hF (fun h1 hF => ?_) fun h1 hF => ?_
  · refine awp_true (by kernel_rfl) h1 ?_
    refine awp_seq ?_
    refine awp_region ?_
    refine aR 1 ?_
    refine aE ?_
    refine awp_ret ?_
    exact oF hF [] []
  · refine awp_false (by kernel_rfl) h1 ?_
    refine awp_skip ?_
    refine awp_seq ?_
    refine awp_seq ?_
    refine awp_region ?_
    refine aR 1 ?_
    refine aL api_Sample.enc ql ?_
    refine aR 1 ?_
    refine aE ?_
    refine awp_block ?_
    refine awp_to (st' := fleetref2_SamplesFault_x1_H ql 0) (oT [] []) ?_
    refine bE hF fun x h19 hF => ?_
    rcases x with _ | vx7_1
    · refine awp_sub (awp_loop' (fleetref2_SamplesFault_x1_H ql) fleetref2_SamplesFault_x1_k (fleetref2_SamplesFault_x1_S ql) (by intro x; rcases x with x | x <;> exact fun h => nomatch h) h19 (fleetref2_SamplesFault_x1_ok ql)) ?_
      refine awp_seq ?_
      refine awp_region ?_
      refine aR 1 ?_
      refine aE ?_
      refine awp_ret ?_
      exact oF hF [] []
    · refine awp_sub (awp_loop' (fleetref2_SamplesFault_x1_H ql) fleetref2_SamplesFault_x1_k (fleetref2_SamplesFault_x1_S ql) (by intro x; rcases x with x | x <;> exact fun h => nomatch h) h19 (fleetref2_SamplesFault_x1_ok ql)) ?_
      exact oF hF [] []

/-! ### beaconfleet/fleetref2.SeriesFault$1 -/
def fleetref2_SeriesFault_1_x1_k : Bool → AEx
  | _ => .normal

def fleetref2_SeriesFault_1_x1_S (qs : api_Sample) (qx : List api_Sample) : Bool → St
  | vx => Mem.st ⟨[], [(0, [.d (.lst (List.map api_Sample.enc qx))])]⟩ (tl [(3, .v (.one (.d (.bool vx))))]) 1

def fleetref2_SeriesFault_1_x1_I (qs : api_Sample) (qx : List api_Sample) : St := Mem.st ⟨[], [(0, [.d (.lst (List.map api_Sample.enc qx))]), (1, [.d (.str qs.Device), .d (.str qs.Metric), .d (.int .i64 qs.At), .d (.int .i64 qs.Value)])]⟩ (tl [(1, .v (.one (.box 0 0))), (2, .v (.one (.box 1 0)))]) 2

theorem fleetref2_SeriesFault_1_x1_ok (qs : api_Sample) (qx : List api_Sample) {r} (hF : fleetref2_SeriesFault_1_x1 qs qx = some r) : Awp prog 1 20 (cL (cR (cB f118))) (Out 1 fleetref2_SeriesFault_1_x1_k (fleetref2_SeriesFault_1_x1_S qs qx) r) (fleetref2_SeriesFault_1_x1_I qs qx) := by
  unfold fleetref2_SeriesFault_1_x1 at hF
  refine bE hF fun vy h1 hF => ?_
  refine cE hF (fun h2 hF => ?_) fun h2 hF => ?_
  · refine aD ?_
    refine dR 3 ?_
    refine dX (x_idx api_Sample.enc h1) ?_
    refine dR 2 ?_
    refine dB h2 ?_
    refine dR 10 ?_
    refine dE ?_
    exact oO hF [] [] rfl
  · refine aD ?_
    refine dR 3 ?_
    refine dX (x_idx api_Sample.enc h1) ?_
    refine dR 2 ?_
    refine dB h2 ?_
    refine dR 4 ?_
    refine dX (x_idx api_Sample.enc h1) ?_
    refine dR 5 ?_
    refine dE ?_
    exact oO hF [] [] rfl

def fleetref2_SeriesFault_1_R (qs : api_Sample) (qx : List api_Sample) (r : Bool) : TV × Mem := (.v (.one (.d (.bool r))), ⟨[], [(0, [.d (.lst (List.map api_Sample.enc qx))])]⟩)

theorem fleetref2_SeriesFault_1_ok {qs : api_Sample} {qx : List api_Sample} {r} (hF : fleetref2_SeriesFault_1 qs qx = some r) : Holds prog 118 [.v (.agg [.d (.str qs.Device), .d (.str qs.Metric), .d (.int .i64 qs.At), .d (.int .i64 qs.Value)]), .v (.one (.box 0 0))] ⟨[], [(0, [.d (.lst (List.map api_Sample.enc qx))])]⟩ (Is (fleetref2_SeriesFault_1_R qs qx r)) := by
  unfold fleetref2_SeriesFault_1 at hF
  refine holds_of_awp hΓ (fn := f118) (c := cB f118) (A := 1) (nx := 1) (by kernel_rfl) (by kernel_rfl) (by kernel_rfl) (by kernel_rfl) (by kernel_rfl) (by kernel_rfl) (lowc_of (by kernel_rfl)) ?_
  show Awp prog 1 20 (cB f118) _ _
  refine awp_seq ?_
  refine awp_region ?_
  refine aR 2 ?_
  refine aE ?_
  refine awp_seq ?_
  refine awp_to (st' := fleetref2_SeriesFault_1_x1_I qs qx) (oT [] []) ?_
  refine bE hF fun vx1 h3 hF => ?_
  refine awp_sub (fleetref2_SeriesFault_1_x1_ok qs qx h3) ?_
  refine awp_ret ?_
  exact oF hF [] []

/-! ### slices.IndexFunc[[]beaconfleet/api.Sample,beaconfleet/api.Sample] -/
def slices_IndexFunc_api_Sample_api_Sample_f1_fleetref2_SeriesFault_1_x1_k : Unit ⊕ Int → AEx
  | .inl _ => .exit 0
  | .inr _ => .ret

def slices_IndexFunc_api_Sample_api_Sample_f1_fleetref2_SeriesFault_1_x1_S (qs : List api_Sample) : Unit ⊕ Int → St
  | .inl _ => Mem.st ⟨[], [(0, [.d (.lst (List.map api_Sample.enc qs))])]⟩ (tl []) 1
  | .inr vx1 => Mem.st ⟨[], [(0, [.d (.lst (List.map api_Sample.enc qs))])]⟩ (tl [(4, .v (.one (.d (.int .i64 vx1))))]) 1

def slices_IndexFunc_api_Sample_api_Sample_f1_fleetref2_SeriesFault_1_x1_H (qs : List api_Sample) : Int → St
  | vx => Mem.st ⟨[], [(0, [.d (.lst (List.map api_Sample.enc qs))])]⟩ (tl [(0, .v (.one (.d (.lst (List.map api_Sample.enc qs))))), (1, .v (.one (.fn 118 [0]))), (7, .v (.one (.d (.int .i64 (qs.length : Int))))), (8, .v (.one (.d (.int .i64 vx))))]) 1

theorem slices_IndexFunc_api_Sample_api_Sample_f1_fleetref2_SeriesFault_1_x1_ok (qs : List api_Sample) (vx : Int) (r : (Int) ⊕ (Unit ⊕ Int)) (hF : slices_IndexFunc_api_Sample_api_Sample_f1_fleetref2_SeriesFault_1_x1 qs vx = some r) : Awp prog 1 19 (cL (cL (cR (cL (cR (cB f210)))))) (Out 1 (kk slices_IndexFunc_api_Sample_api_Sample_f1_fleetref2_SeriesFault_1_x1_k) (SS (slices_IndexFunc_api_Sample_api_Sample_f1_fleetref2_SeriesFault_1_x1_H qs) (slices_IndexFunc_api_Sample_api_Sample_f1_fleetref2_SeriesFault_1_x1_S qs)) r) (slices_IndexFunc_api_Sample_api_Sample_f1_fleetref2_SeriesFault_1_x1_H qs vx) := by
  unfold slices_IndexFunc_api_Sample_api_Sample_f1_fleetref2_SeriesFault_1_x1 at hF
  refine awp_seq ?_
  refine awp_region ?_
  refine aR 1 ?_
  refine aE ?_
  refine awp_seq ?_
  refine cE hF (fun h1 hF => ?_) fun h1 hF => ?_
  · refine awp_true (by kernel_rfl) h1 ?_
    refine awp_skip ?_
    refine awp_seq ?_
    refine awp_block ?_
    refine awp_seq ?_
    refine awp_region ?_
    refine aR 2 ?_
    refine aE ?_
    refine awp_seq ?_
    refine bE hF fun vy1 h2 hF => ?_
    refine bE hF fun vr1 h3 hF => ?_
    refine awp_region ?_
    refine aR 3 ?_
    refine aX (x_idx api_Sample.enc h2) ?_
    refine aR 1 ?_
    refine aC (fleetref2_SeriesFault_1_ok h3) [] [] [] ?_
    refine aE ?_
    refine cE hF (fun h4 hF => ?_) fun h4 hF => ?_
    · refine awp_true (by kernel_rfl) h4 ?_
      refine awp_seq ?_
      refine awp_region ?_
      refine aR 2 ?_
      refine aE ?_
      refine awp_ret ?_
      exact oO hF [] [] rfl
    · refine awp_false (by kernel_rfl) h4 ?_
      refine awp_skip ?_
      refine awp_region ?_
      refine aR 2 ?_
      refine aE ?_
      exact oO hF [] [] rfl
  · refine awp_false (by kernel_rfl) h1 ?_
    refine awp_exit ?_
    exact oO hF [] [] rfl

def slices_IndexFunc_api_Sample_api_Sample_f1_fleetref2_SeriesFault_1_R (qs : List api_Sample) (r : Int) : TV × Mem := (.v (.one (.d (.int .i64 r))), ⟨[], [(0, [.d (.lst (List.map api_Sample.enc qs))])]⟩)

theorem slices_IndexFunc_api_Sample_api_Sample_f1_fleetref2_SeriesFault_1_ok {qs : List api_Sample} {r} (hF : slices_IndexFunc_api_Sample_api_Sample_f1_fleetref2_SeriesFault_1 qs = some r) : Holds prog 210 [.v (.one (.d (.lst (List.map api_Sample.enc qs)))), .v (.one (.fn 118 [0]))] ⟨[], [(0, [.d (.lst (List.map api_Sample.enc qs))])]⟩ (Is (slices_IndexFunc_api_Sample_api_Sample_f1_fleetref2_SeriesFault_1_R qs r)) := by
  unfold slices_IndexFunc_api_Sample_api_Sample_f1_fleetref2_SeriesFault_1 at hF
  refine holds_of_awp hΓ (fn := f210) (c := cB f210) (A := 1) (nx := 1) (by kernel_rfl) (by kernel_rfl) (by kernel_rfl) (by kernel_rfl) (by kernel_rfl) (by kernel_rfl) (lowc_of (by kernel_rfl)) ?_
  show Awp prog 1 19 (cB f210) _ _
  refine awp_seq ?_
  refine awp_region ?_
  refine aR 1 ?_
  refine aE ?_
  refine awp_seq ?_
  refine awp_seq ?_
  refine awp_region ?_
  refine aR 1 ?_
  refine aL api_Sample.enc qs ?_
  refine aR 1 ?_
  refine aE ?_
  refine awp_block ?_
  refine awp_to (st' := slices_IndexFunc_api_Sample_api_Sample_f1_fleetref2_SeriesFault_1_x1_H qs 0) (oT [] []) ?_
  refine bE hF fun x h5 hF => ?_
  rcases x with _ | vx1_1
  · refine awp_sub (awp_loop' (slices_IndexFunc_api_Sample_api_Sample_f1_fleetref2_SeriesFault_1_x1_H qs) slices_IndexFunc_api_Sample_api_Sample_f1_fleetref2_SeriesFault_1_x1_k (slices_IndexFunc_api_Sample_api_Sample_f1_fleetref2_SeriesFault_1_x1_S qs) (by intro x; rcases x with x | x <;> exact fun h => nomatch h) h5 (slices_IndexFunc_api_Sample_api_Sample_f1_fleetref2_SeriesFault_1_x1_ok qs)) ?_
    refine awp_seq ?_
    refine awp_region ?_
    refine aR 1 ?_
    refine aE ?_
    refine awp_ret ?_
    exact oF hF [] []
  · refine awp_sub (awp_loop' (slices_IndexFunc_api_Sample_api_Sample_f1_fleetref2_SeriesFault_1_x1_H qs) slices_IndexFunc_api_Sample_api_Sample_f1_fleetref2_SeriesFault_1_x1_k (slices_IndexFunc_api_Sample_api_Sample_f1_fleetref2_SeriesFault_1_x1_S qs) (by intro x; rcases x with x | x <;> exact fun h => nomatch h) h5 (slices_IndexFunc_api_Sample_api_Sample_f1_fleetref2_SeriesFault_1_x1_ok qs)) ?_
    exact oF hF [] []

/-! ### slices.ContainsFunc[[]beaconfleet/api.Sample,beaconfleet/api.Sample] -/
def slices_ContainsFunc_api_Sample_api_Sample_f1_fleetref2_SeriesFault_1_R (qs : List api_Sample) (r : Bool) : TV × Mem := (.v (.one (.d (.bool r))), ⟨[], [(0, [.d (.lst (List.map api_Sample.enc qs))])]⟩)

theorem slices_ContainsFunc_api_Sample_api_Sample_f1_fleetref2_SeriesFault_1_ok {qs : List api_Sample} {r} (hF : slices_ContainsFunc_api_Sample_api_Sample_f1_fleetref2_SeriesFault_1 qs = some r) : Holds prog 117 [.v (.one (.d (.lst (List.map api_Sample.enc qs)))), .v (.one (.fn 118 [0]))] ⟨[], [(0, [.d (.lst (List.map api_Sample.enc qs))])]⟩ (Is (slices_ContainsFunc_api_Sample_api_Sample_f1_fleetref2_SeriesFault_1_R qs r)) := by
  unfold slices_ContainsFunc_api_Sample_api_Sample_f1_fleetref2_SeriesFault_1 at hF
  refine holds_of_awp hΓ (fn := f117) (c := cB f117) (A := 1) (nx := 1) (by kernel_rfl) (by kernel_rfl) (by kernel_rfl) (by kernel_rfl) (by kernel_rfl) (by kernel_rfl) (lowc_of (by kernel_rfl)) ?_
  show Awp prog 1 9 (cB f117) _ _
  refine awp_seq ?_
  refine awp_region ?_
  refine aR 1 ?_
  refine aE ?_
  refine awp_seq ?_
  refine bE hF fun vr2 h1 hF => ?_
  refine awp_region ?_
  refine aR 2 ?_
  refine aC (slices_IndexFunc_api_Sample_api_Sample_f1_fleetref2_SeriesFault_1_ok h1) [] [] [] ?_
  refine aR 2 ?_
  refine aE ?_
  refine awp_ret ?_
  exact oF hF [] []

/-! ### beaconfleet/fleetref2.SeriesFault -/
def fleetref2_SeriesFault_R (ql : List api_Sample) (r : Int) : TV × Mem := (.v (.one (.d (.int .i64 r))), ⟨[], []⟩)

theorem fleetref2_SeriesFault_ok {ql : List api_Sample} {r} (hF : fleetref2_SeriesFault ql = some r) : Holds prog 21 [.v (.one (.d (.lst (List.map api_Sample.enc ql))))] ⟨[], []⟩ (Is (fleetref2_SeriesFault_R ql r)) := by
  unfold fleetref2_SeriesFault at hF
  refine holds_of_awp hΓ (fn := f21) (c := cB f21) (A := 0) (nx := 0) (by kernel_rfl) (by kernel_rfl) (by kernel_rfl) (by kernel_rfl) (by kernel_rfl) (by kernel_rfl) (lowc_of (by kernel_rfl)) ?_
  show Awp prog 0 12 (cB f21) _ _
  refine awp_seq ?_
  refine awp_region ?_
  refine aR 2 ?_
  refine aE ?_
  refine awp_seq ?_
  refine awp_seq ?_
  refine bE hF fun vr4 h1 hF => ?_
  refine awp_region ?_
  refine aR 1 ?_
  refine aC (fleetref2_SamplesFault_ok h1) [] [] [] ?_
  refine aR 1 ?_
  refine aE ?_
  refine awp_seq ?_
  refine awp_region ?_
  refine aR 2 ?_
  refine aE ?_
  refine cE hF (fun h2 hF => ?_) fun h2 hF => ?_
  · refine awp_true (by kernel_rfl) h2 ?_
    refine awp_seq ?_
    refine awp_region ?_
    refine aR 2 ?_
    refine aE ?_
    refine awp_ret ?_
    exact oF hF [] []
  · refine awp_false (by kernel_rfl) h2 ?_
    refine awp_skip ?_
    refine awp_seq ?_
    refine awp_seq ?_
    refine bE hF fun vr h3 hF => ?_
    refine awp_region ?_
    refine aR 2 ?_
    refine aC (slices_ContainsFunc_api_Sample_api_Sample_f1_fleetref2_SeriesFault_1_ok h3) [] [] [] ?_
    refine aE ?_
    refine cE hF (fun h4 hF => ?_) fun h4 hF => ?_
    · refine awp_true (by kernel_rfl) h4 ?_
      refine awp_seq ?_
      refine awp_region ?_
      refine aR 1 ?_
      refine aE ?_
      refine awp_ret ?_
      exact oF hF [] []
    · refine awp_false (by kernel_rfl) h4 ?_
      refine awp_skip ?_
      refine awp_seq ?_
      refine awp_region ?_
      refine aR 1 ?_
      refine aE ?_
      refine awp_ret ?_
      exact oF hF [] []

/-! ### beaconfleet/fleetlaw2.when -/
def fleetlaw2_when_R (qis : Bool) (qe : Int) (r : Int) : TV × Mem := (.v (.one (.d (.int .i64 r))), ⟨[], []⟩)

theorem fleetlaw2_when_ok {qis : Bool} {qe : Int} {r} (hF : fleetlaw2_when qis qe = some r) : Holds prog 23 [.v (.one (.d (.bool qis))), .v (.one (.d (.int .i64 qe)))] ⟨[], []⟩ (Is (fleetlaw2_when_R qis qe r)) := by
  unfold fleetlaw2_when at hF
  refine holds_of_awp hΓ (fn := f23) (c := cB f23) (A := 0) (nx := 0) (by kernel_rfl) (by kernel_rfl) (by kernel_rfl) (by kernel_rfl) (by kernel_rfl) (by kernel_rfl) (lowc_of (by kernel_rfl)) ?_
  show Awp prog 0 7 (cB f23) _ _
  refine awp_seq ?_
  refine awp_region ?_
  refine aR 1 ?_
  refine aE ?_
  refine awp_seq ?_
  refine awp_seq ?_
  refine awp_region ?_
  refine aR 1 ?_
  refine aE ?_
  refine cE hF (fun h1 hF => ?_) fun h1 hF => ?_
  · refine awp_true (by kernel_rfl) h1 ?_
    refine awp_seq ?_
    refine awp_region ?_
    refine aR 2 ?_
    refine aE ?_
    refine awp_ret ?_
    exact oF hF [] []
  · refine awp_false (by kernel_rfl) h1 ?_
    refine awp_skip ?_
    refine awp_seq ?_
    refine awp_region ?_
    refine aR 1 ?_
    refine aE ?_
    refine awp_ret ?_
    exact oF hF [] []

/-! ### beaconfleet/fleetlaw2.errs -/
def fleetlaw2_errs_x1_k : Unit ⊕ Int → AEx
  | .inl _ => .exit 0
  | .inr _ => .ret

def fleetlaw2_errs_x1_S (ql : List Int) : Unit ⊕ Int → St
  | .inl _ => Mem.st ⟨[], []⟩ (tl []) 0
  | .inr vx1 => Mem.st ⟨[], []⟩ (tl [(2, .v (.one (.d (.int .i64 vx1))))]) 0

def fleetlaw2_errs_x1_H (ql : List Int) : Int → St
  | vx => Mem.st ⟨[], []⟩ (tl [(5, .v (.one (.d (.lst (List.map (encI .i64) ql))))), (6, .v (.one (.d (.int .i64 (ql.length : Int))))), (7, .v (.one (.d (.int .i64 vx))))]) 0

theorem fleetlaw2_errs_x1_ok (ql : List Int) (vx : Int) (r : (Int) ⊕ (Unit ⊕ Int)) (hF : fleetlaw2_errs_x1 ql vx = some r) : Awp prog 0 15 (cL (cL (cR (cL (cR (cB f20)))))) (Out 0 (kk fleetlaw2_errs_x1_k) (SS (fleetlaw2_errs_x1_H ql) (fleetlaw2_errs_x1_S ql)) r) (fleetlaw2_errs_x1_H ql vx) := by
  unfold fleetlaw2_errs_x1 at hF
  refine awp_seq ?_
  refine awp_region ?_
  refine aR 1 ?_
  refine aE ?_
  refine awp_seq ?_
  refine cE hF (fun h1 hF => ?_) fun h1 hF => ?_
  · refine awp_true (by kernel_rfl) h1 ?_
    refine awp_skip ?_
    refine awp_seq ?_
    refine awp_block ?_
    refine awp_seq ?_
    refine bE hF fun vy1 h2 hF => ?_
    refine awp_region ?_
    refine aX (x_idx (encI .i64) h2) ?_
    refine aR 2 ?_
    refine aE ?_
    refine awp_seq ?_
    refine awp_region ?_
    refine aR 2 ?_
    refine aE ?_
    refine cE hF (fun h3 hF => ?_) fun h3 hF => ?_
    · refine awp_true (by kernel_rfl) h3 ?_
      refine awp_seq ?_
      refine awp_region ?_
      refine aR 2 ?_
      refine aE ?_
      refine awp_ret ?_
      exact oO hF [] [] rfl
    · refine awp_false (by kernel_rfl) h3 ?_
      refine awp_skip ?_
      refine awp_region ?_
      refine aR 2 ?_
      refine aE ?_
      exact oO hF [] [] rfl
  · refine awp_false (by kernel_rfl) h1 ?_
    refine awp_exit ?_
    exact oO hF [] [] rfl

def fleetlaw2_errs_R (ql : List Int) (r : Int) : TV × Mem := (.v (.one (.d (.int .i64 r))), ⟨[], []⟩)

theorem fleetlaw2_errs_ok {ql : List Int} {r} (hF : fleetlaw2_errs ql = some r) : Holds prog 20 [.v (.one (.d (.lst (List.map (encI .i64) ql))))] ⟨[], []⟩ (Is (fleetlaw2_errs_R ql r)) := by
  unfold fleetlaw2_errs at hF
  refine holds_of_awp hΓ (fn := f20) (c := cB f20) (A := 0) (nx := 0) (by kernel_rfl) (by kernel_rfl) (by kernel_rfl) (by kernel_rfl) (by kernel_rfl) (by kernel_rfl) (lowc_of (by kernel_rfl)) ?_
  show Awp prog 0 15 (cB f20) _ _
  refine awp_seq ?_
  refine awp_region ?_
  refine aR 1 ?_
  refine aE ?_
  refine awp_seq ?_
  refine awp_seq ?_
  refine awp_region ?_
  refine aR 1 ?_
  refine aL (encI .i64) ql ?_
  refine aR 1 ?_
  refine aE ?_
  refine awp_block ?_
  refine awp_to (st' := fleetlaw2_errs_x1_H ql 0) (oT [] []) ?_
  refine bE hF fun x h4 hF => ?_
  rcases x with _ | vx1_1
  · refine awp_sub (awp_loop' (fleetlaw2_errs_x1_H ql) fleetlaw2_errs_x1_k (fleetlaw2_errs_x1_S ql) (by intro x; rcases x with x | x <;> exact fun h => nomatch h) h4 (fleetlaw2_errs_x1_ok ql)) ?_
    refine awp_seq ?_
    refine awp_region ?_
    refine aR 1 ?_
    refine aE ?_
    refine awp_ret ?_
    exact oF hF [] []
  · refine awp_sub (awp_loop' (fleetlaw2_errs_x1_H ql) fleetlaw2_errs_x1_k (fleetlaw2_errs_x1_S ql) (by intro x; rcases x with x | x <;> exact fun h => nomatch h) h4 (fleetlaw2_errs_x1_ok ql)) ?_
    exact oF hF [] []

/-! ### beaconfleet/fleetref2.PackOf -/
def fleetref2_PackOf_x2_k : ((List Int) × Int × Int × Int) → AEx
  | _ => .normal

def fleetref2_PackOf_x2_S (ql : List api_Sample) (vout : List Int) (vat : Int) (vgap : Int) (vvalue : Int) (vx : Int) : ((List Int) × Int × Int × Int) → St
  | (vout2, vat2, vgap2, vvalue2) => Mem.st ⟨[(0, ⟨5, 1, List.map (encI .u8) vout2⟩)], []⟩ (tl [(3, .v (.one (.own 0 none))), (4, .v (.one (.d (.int .i64 vat2)))), (5, .v (.one (.d (.int .i64 vgap2)))), (6, .v (.one (.d (.int .i64 vvalue2)))), (13, .v (.one (.d (.lst (List.map api_Sample.enc ql))))), (14, .v (.one (.d (.int .i64 (ql.length : Int))))), (15, .v (.one (.d (.int .i64 vx))))]) 1

def fleetref2_PackOf_x2_I (ql : List api_Sample) (vout : List Int) (vat : Int) (vgap : Int) (vvalue : Int) (vx : Int) : St := Mem.st ⟨[(0, ⟨5, 1, List.map (encI .u8) vout⟩)], []⟩ (tl [(3, .v (.one (.own 0 none))), (4, .v (.one (.d (.int .i64 vat)))), (5, .v (.one (.d (.int .i64 vgap)))), (6, .v (.one (.d (.int .i64 vvalue)))), (13, .v (.one (.d (.lst (List.map api_Sample.enc ql))))), (14, .v (.one (.d (.int .i64 (ql.length : Int))))), (15, .v (.one (.d (.int .i64 vx))))]) 1

theorem fleetref2_PackOf_x2_ok (ql : List api_Sample) (vout : List Int) (vat : Int) (vgap : Int) (vvalue : Int) (vx : Int) {r} (hF : fleetref2_PackOf_x2 ql vout vat vgap vvalue vx = some r) : Awp prog 0 48 (cL (cR (cR (cL (cL (cR (cL (cR (cR (cR (cB f32))))))))))) (Out 0 fleetref2_PackOf_x2_k (fleetref2_PackOf_x2_S ql vout vat vgap vvalue vx) r) (fleetref2_PackOf_x2_I ql vout vat vgap vvalue vx) := by
  unfold fleetref2_PackOf_x2 at hF
  refine awp_block ?_
  refine awp_seq ?_
  refine bE hF fun vy1 h3 hF => ?_
  refine awp_region ?_
  refine aR 1 ?_
  refine aX (x_idx api_Sample.enc h3) ?_
  refine aR 4 ?_
  refine aE ?_
  refine awp_seq ?_
  refine awp_region ?_
  refine aR 5 ?_
  refine aE ?_
  refine awp_seq ?_
  refine bE hF fun vr3 h4 hF => ?_
  refine bE hF fun vr1_3 h5 hF => ?_
  refine gE hF fun h6 hF => ?_
  refine awp_region ?_
  refine aR 4 ?_
  refine aC (fleetref2_turned_ok h4) [] [] [] ?_
  refine aC (fleetref2_sevens_ok h5) [] [] [] ?_
  refine aX (x_app (encI .u8) 0 h6) ?_
  refine aR 1 ?_
  refine aE ?_
  refine awp_seq ?_
  refine bE hF fun vr4 h7 hF => ?_
  refine bE hF fun vr1_4 h8 hF => ?_
  refine gE hF fun h9 hF => ?_
  refine awp_region ?_
  refine aR 5 ?_
  refine aC (fleetref2_turned_ok h7) [] [] [] ?_
  refine aC (fleetref2_sevens_ok h8) [] [] [] ?_
  refine aX (x_app (encI .u8) 17001 h9) ?_
  refine aR 1 ?_
  refine aE ?_
  refine awp_seq ?_
  refine aD ?_
  refine dR 8 ?_
  refine dE ?_
  refine awp_seq ?_
  refine awp_region ?_
  refine aR 2 ?_
  refine aE ?_
  refine cE hF (fun h10 hF => ?_) fun h10 hF => ?_
  · refine awp_true (by kernel_rfl) h10 ?_
    refine awp_region ?_
    refine aR 1 ?_
    refine aE ?_
    exact oO hF [(0, 26001)] [] rfl
  · refine awp_false (by kernel_rfl) h10 ?_
    refine awp_skip ?_
    exact oO hF [(0, 26001)] [] rfl

def fleetref2_PackOf_x1_k : (List Int) → AEx
  | _ => .exit 0

def fleetref2_PackOf_x1_S (ql : List api_Sample) : (List Int) → St
  | vout3 => Mem.st ⟨[(0, ⟨5, 1, List.map (encI .u8) vout3⟩)], []⟩ (tl [(3, .v (.one (.own 0 none)))]) 1

def fleetref2_PackOf_x1_H (ql : List api_Sample) : (List Int) × Int × Int × Int × Int → St
  | (vout, vat, vgap, vvalue, vx) => Mem.st ⟨[(0, ⟨5, 1, List.map (encI .u8) vout⟩)], []⟩ (tl [(3, .v (.one (.own 0 none))), (4, .v (.one (.d (.int .i64 vat)))), (5, .v (.one (.d (.int .i64 vgap)))), (6, .v (.one (.d (.int .i64 vvalue)))), (13, .v (.one (.d (.lst (List.map api_Sample.enc ql))))), (14, .v (.one (.d (.int .i64 (ql.length : Int))))), (15, .v (.one (.d (.int .i64 vx))))]) 1

theorem fleetref2_PackOf_x1_ok (ql : List api_Sample) (s : (List Int) × Int × Int × Int × Int) (r : ((List Int) × Int × Int × Int × Int) ⊕ ((List Int))) (hF : fleetref2_PackOf_x1 ql s = some r) : Awp prog 0 48 (cL (cL (cR (cL (cR (cR (cR (cB f32)))))))) (Out 0 (kk fleetref2_PackOf_x1_k) (SS (fleetref2_PackOf_x1_H ql) (fleetref2_PackOf_x1_S ql)) r) (fleetref2_PackOf_x1_H ql s) := by
  obtain ⟨vout, vat, vgap, vvalue, vx⟩ := s
  unfold fleetref2_PackOf_x1 at hF
  refine awp_seq ?_
  refine awp_region ?_
  refine aR 1 ?_
  refine aE ?_
  refine awp_seq ?_
  refine cE hF (fun h2 hF => ?_) fun h2 hF => ?_
  · refine awp_true (by kernel_rfl) h2 ?_
    refine awp_skip ?_
    refine awp_seq ?_
    refine awp_to (st' := fleetref2_PackOf_x2_I ql vout vat vgap vvalue vx) (oT [] []) ?_
    refine bE hF fun x h11 hF => ?_
    obtain ⟨vout2_1, vat2_1, vgap2_1, vvalue2_1⟩ := x
    refine awp_sub (fleetref2_PackOf_x2_ok ql vout vat vgap vvalue vx h11) ?_
    refine awp_region ?_
    refine aR 2 ?_
    refine aE ?_
    exact oO hF [] [] rfl
  · refine awp_false (by kernel_rfl) h2 ?_
    refine awp_exit ?_
    exact oO hF [] [] rfl

def fleetref2_PackOf_R (ql : List api_Sample) (r : (List Int)) : TV × Mem := (.v (.one (.own 0 none)), ⟨[(0, ⟨5, 1, List.map (encI .u8) r⟩)], []⟩)

theorem fleetref2_PackOf_ok {ql : List api_Sample} {r} (hF : fleetref2_PackOf ql = some r) : Holds prog 32 [.v (.one (.d (.lst (List.map api_Sample.enc ql))))] ⟨[], []⟩ (Is (fleetref2_PackOf_R ql r)) := by
  unfold fleetref2_PackOf at hF
  refine holds_of_awp hΓ (fn := f32) (c := cB f32) (A := 0) (nx := 0) (by kernel_rfl) (by kernel_rfl) (by kernel_rfl) (by kernel_rfl) (by kernel_rfl) (by kernel_rfl) (lowc_of (by kernel_rfl)) ?_
  show Awp prog 0 48 (cB f32) _ _
  refine awp_seq ?_
  refine awp_region ?_
  refine aR 1 ?_
  refine aE ?_
  refine awp_seq ?_
  refine bE hF fun vr1 h1 hF => ?_
  refine awp_region ?_
  refine aR 1 ?_
  refine aL api_Sample.enc ql ?_
  refine aC (fleetref2_sevens_ok h1) [] [] [] ?_
  refine aR 1 ?_
  refine aE ?_
  refine awp_seq ?_
  refine awp_region ?_
  refine aR 3 ?_
  refine aE ?_
  refine awp_seq ?_
  refine awp_seq ?_
  refine awp_region ?_
  refine aR 1 ?_
  refine aL api_Sample.enc ql ?_
  refine aR 1 ?_
  refine aE ?_
  refine awp_block ?_
  refine awp_to (st' := fleetref2_PackOf_x1_H ql (vr1, 0, 0, 0, 0)) (oT [(0, 3000)] []) ?_
  refine bE hF fun vout3_1 h12 hF => ?_
  refine awp_sub (awp_loop' (fleetref2_PackOf_x1_H ql) fleetref2_PackOf_x1_k (fleetref2_PackOf_x1_S ql) (by intro x; exact fun h => nomatch h) h12 (fleetref2_PackOf_x1_ok ql)) ?_
  refine awp_seq ?_
  refine awp_region ?_
  refine aR 2 ?_
  refine aE ?_
  refine awp_ret ?_
  exact oF hF [] []

/-! ### beaconfleet/fleetref2.takeSeven -/
def fleetref2_takeSeven_x1_k : Unit ⊕ (Int × (List Int) × Bool) → AEx
  | .inl _ => .exit 0
  | .inr _ => .ret

def fleetref2_takeSeven_x1_S (qb : List Int) : Unit ⊕ (Int × (List Int) × Bool) → St
  | .inl _ => Mem.st ⟨[], []⟩ (tl []) 0
  | .inr (vx1, vx2, vx3) => Mem.st ⟨[], []⟩ (tl [(2, .v (.one (.d (.int .i64 vx1)))), (3, .v (.one (.d (.lst (List.map (encI .u8) vx2))))), (4, .v (.one (.d (.bool vx3))))]) 0

def fleetref2_takeSeven_x1_H (qb : List Int) : Int × Int → St
  | (vn, vx) => Mem.st ⟨[], []⟩ (tl [(0, .v (.one (.d (.lst (List.map (encI .u8) qb))))), (5, .v (.one (.d (.int .i64 vn)))), (8, .v (.one (.d (.lst (List.map (encI .u8) qb))))), (9, .v (.one (.d (.int .i64 (qb.length : Int))))), (10, .v (.one (.d (.int .i64 vx))))]) 0

theorem fleetref2_takeSeven_x1_ok (qb : List Int) (s : Int × Int) (r : (Int × Int) ⊕ (Unit ⊕ (Int × (List Int) × Bool))) (hF : fleetref2_takeSeven_x1 qb s = some r) : Awp prog 0 33 (cL (cL (cR (cL (cR (cR (cB f131))))))) (Out 0 (kk fleetref2_takeSeven_x1_k) (SS (fleetref2_takeSeven_x1_H qb) (fleetref2_takeSeven_x1_S qb)) r) (fleetref2_takeSeven_x1_H qb s) := by
  obtain ⟨vn, vx⟩ := s
  unfold fleetref2_takeSeven_x1 at hF
  refine awp_seq ?_
  refine awp_region ?_
  refine aR 1 ?_
  refine aE ?_
  refine awp_seq ?_
  refine cE hF (fun h1 hF => ?_) fun h1 hF => ?_
  · refine awp_true (by kernel_rfl) h1 ?_
    refine awp_skip ?_
    refine awp_seq ?_
    refine awp_block ?_
    refine awp_seq ?_
    refine bE hF fun vy1 h2 hF => ?_
    refine awp_region ?_
    refine aR 1 ?_
    refine aX (x_idx (encI .u8) h2) ?_
    refine aR 3 ?_
    refine aE ?_
    refine awp_seq ?_
    refine awp_seq ?_
    refine awp_region ?_
    refine aR 2 ?_
    refine aE ?_
    refine cE hF (fun h3 hF => ?_) fun h3 hF => ?_
    · refine awp_true (by kernel_rfl) h3 ?_
      refine awp_seq ?_
      refine awp_region ?_
      refine aR 3 ?_
      refine aE ?_
      refine awp_ret ?_
      exact oO hF [] [] rfl
    · refine awp_false (by kernel_rfl) h3 ?_
      refine awp_skip ?_
      refine awp_seq ?_
      refine gE hF fun h4 hF => ?_
      refine awp_region ?_
      refine aR 6 ?_
      refine aX (x_shl h4) ?_
      refine aR 2 ?_
      refine aE ?_
      refine awp_seq ?_
      refine awp_region ?_
      refine aR 2 ?_
      refine aE ?_
      refine cE hF (fun h5 hF => ?_) fun h5 hF => ?_
      · refine awp_true (by kernel_rfl) h5 ?_
        refine awp_seq ?_
        refine bE hF fun vl1 h6 hF => ?_
        refine aD ?_
        refine dR 4 ?_
        refine dX (x_sliceN (encI .u8) h6) ?_
        refine dR 3 ?_
        refine dE ?_
        refine awp_ret ?_
        exact oO hF [] [] rfl
      · refine awp_false (by kernel_rfl) h5 ?_
        refine awp_skip ?_
        refine awp_region ?_
        refine aR 2 ?_
        refine aE ?_
        exact oO hF [] [] rfl
  · refine awp_false (by kernel_rfl) h1 ?_
    refine awp_exit ?_
    exact oO hF [] [] rfl

def fleetref2_takeSeven_R (qb : List Int) (r : Int × (List Int) × Bool) : TV × Mem := (.tup [.one (.d (.int .i64 r.1)), .one (.d (.lst (List.map (encI .u8) r.2.1))), .one (.d (.bool r.2.2))], ⟨[], []⟩)

theorem fleetref2_takeSeven_ok {qb : List Int} {r} (hF : fleetref2_takeSeven qb = some r) : Holds prog 131 [.v (.one (.d (.lst (List.map (encI .u8) qb))))] ⟨[], []⟩ (Is (fleetref2_takeSeven_R qb r)) := by
  unfold fleetref2_takeSeven at hF
  refine holds_of_awp hΓ (fn := f131) (c := cB f131) (A := 0) (nx := 0) (by kernel_rfl) (by kernel_rfl) (by kernel_rfl) (by kernel_rfl) (by kernel_rfl) (by kernel_rfl) (lowc_of (by kernel_rfl)) ?_
  show Awp prog 0 33 (cB f131) _ _
  refine awp_seq ?_
  refine awp_region ?_
  refine aR 3 ?_
  refine aE ?_
  refine awp_seq ?_
  refine awp_region ?_
  refine aR 1 ?_
  refine aE ?_
  refine awp_seq ?_
  refine awp_seq ?_
  refine awp_region ?_
  refine aR 1 ?_
  refine aL (encI .u8) qb ?_
  refine aR 1 ?_
  refine aE ?_
  refine awp_block ?_
  refine awp_to (st' := fleetref2_takeSeven_x1_H qb (0, 0)) (oT [] []) ?_
  refine bE hF fun x h7 hF => ?_
  rcases x with _ | ⟨vx1_1, vx2_1, vx3_1⟩
  · refine awp_sub (awp_loop' (fleetref2_takeSeven_x1_H qb) fleetref2_takeSeven_x1_k (fleetref2_takeSeven_x1_S qb) (by intro x; rcases x with x | x <;> exact fun h => nomatch h) h7 (fleetref2_takeSeven_x1_ok qb)) ?_
    refine awp_seq ?_
    refine awp_region ?_
    refine aR 3 ?_
    refine aE ?_
    refine awp_ret ?_
    exact oF hF [] []
  · refine awp_sub (awp_loop' (fleetref2_takeSeven_x1_H qb) fleetref2_takeSeven_x1_k (fleetref2_takeSeven_x1_S qb) (by intro x; rcases x with x | x <;> exact fun h => nomatch h) h7 (fleetref2_takeSeven_x1_ok qb)) ?_
    exact oF hF [] []

/-! ### beaconfleet/fleetref2.back -/
def fleetref2_back_R (qn : Int) (r : Int) : TV × Mem := (.v (.one (.d (.int .i64 r))), ⟨[], []⟩)

theorem fleetref2_back_ok {qn : Int} {r} (hF : fleetref2_back qn = some r) : Holds prog 132 [.v (.one (.d (.int .i64 qn)))] ⟨[], []⟩ (Is (fleetref2_back_R qn r)) := by
  unfold fleetref2_back at hF
  refine holds_of_awp hΓ (fn := f132) (c := cB f132) (A := 0) (nx := 0) (by kernel_rfl) (by kernel_rfl) (by kernel_rfl) (by kernel_rfl) (by kernel_rfl) (by kernel_rfl) (lowc_of (by kernel_rfl)) ?_
  show Awp prog 0 12 (cB f132) _ _
  refine awp_seq ?_
  refine awp_region ?_
  refine aR 1 ?_
  refine aE ?_
  refine awp_seq ?_
  refine awp_seq ?_
  refine awp_region ?_
  refine aR 3 ?_
  refine aE ?_
  refine cE hF (fun h1 hF => ?_) fun h1 hF => ?_
  · refine awp_true (by kernel_rfl) h1 ?_
    refine awp_seq ?_
    refine awp_region ?_
    refine aR 5 ?_
    refine aE ?_
    refine awp_ret ?_
    exact oF hF [] []
  · refine awp_false (by kernel_rfl) h1 ?_
    refine awp_skip ?_
    refine awp_seq ?_
    refine awp_region ?_
    refine aR 3 ?_
    refine aE ?_
    refine awp_ret ?_
    exact oF hF [] []

/-! ### beaconfleet/fleetref2.UnpackOf -/
def fleetref2_UnpackOf_x2_k : Bool → AEx
  | _ => .normal

def fleetref2_UnpackOf_x2_S (qx : List Int) (qx1 : List UInt8) (qx2 : List UInt8) (vr : Int) (vx : List Int) (vx1 : Bool) (vx2 : List api_Sample) (vx3 : Int) (vx4 : Int) (vx5 : Int) (vx6 : Int) : Bool → St
  | vx16 => Mem.st ⟨[(0, ⟨42, 4, List.map api_Sample.enc vx2⟩)], []⟩ (tl [(0, .v (.one (.d (.lst (List.map (encI .u8) qx))))), (1, .v (.one (.d (.str qx1)))), (2, .v (.one (.d (.str qx2)))), (8, .v (.one (.d (.int .i64 vr)))), (9, .v (.one (.d (.lst (List.map (encI .u8) vx))))), (10, .v (.one (.d (.bool vx1)))), (11, .v (.one (.own 0 none))), (12, .v (.one (.d (.int .i64 vx3)))), (13, .v (.one (.d (.int .i64 vx4)))), (14, .v (.one (.d (.int .i64 vx5)))), (15, .v (.one (.d (.int .i64 vx6)))), (34, .v (.one (.d (.bool vx16))))]) 1

def fleetref2_UnpackOf_x2_I (qx : List Int) (qx1 : List UInt8) (qx2 : List UInt8) (vr : Int) (vx : List Int) (vx1 : Bool) (vx2 : List api_Sample) (vx3 : Int) (vx4 : Int) (vx5 : Int) (vx6 : Int) : St := Mem.st ⟨[(0, ⟨42, 4, List.map api_Sample.enc vx2⟩)], []⟩ (tl [(0, .v (.one (.d (.lst (List.map (encI .u8) qx))))), (1, .v (.one (.d (.str qx1)))), (2, .v (.one (.d (.str qx2)))), (8, .v (.one (.d (.int .i64 vr)))), (9, .v (.one (.d (.lst (List.map (encI .u8) vx))))), (10, .v (.one (.d (.bool vx1)))), (11, .v (.one (.own 0 none))), (12, .v (.one (.d (.int .i64 vx3)))), (13, .v (.one (.d (.int .i64 vx4)))), (14, .v (.one (.d (.int .i64 vx5)))), (15, .v (.one (.d (.int .i64 vx6))))]) 1

theorem fleetref2_UnpackOf_x2_ok (qx : List Int) (qx1 : List UInt8) (qx2 : List UInt8) (vr : Int) (vx : List Int) (vx1 : Bool) (vx2 : List api_Sample) (vx3 : Int) (vx4 : Int) (vx5 : Int) (vx6 : Int) {r} (hF : fleetref2_UnpackOf_x2 vr vx1 vx6 = some r) : Awp prog 0 96 (cL (cL (cL (cL (cR (cL (cR (cR (cR (cR (cB f33))))))))))) (Out 0 fleetref2_UnpackOf_x2_k (fleetref2_UnpackOf_x2_S qx qx1 qx2 vr vx vx1 vx2 vx3 vx4 vx5 vx6) r) (fleetref2_UnpackOf_x2_I qx qx1 qx2 vr vx vx1 vx2 vx3 vx4 vx5 vx6) := by
  unfold fleetref2_UnpackOf_x2 at hF
  refine cE hF (fun h2 hF => ?_) fun h2 hF => ?_
  · refine cE hF (fun h3 hF => ?_) fun h3 hF => ?_
    · refine awp_region ?_
      refine aB h2 ?_
      refine aR 3 ?_
      refine aB h3 ?_
      refine aR 5 ?_
      refine aE ?_
      exact oO hF [] [] rfl
    · refine awp_region ?_
      refine aB h2 ?_
      refine aR 3 ?_
      refine aB h3 ?_
      refine aR 5 ?_
      refine aE ?_
      exact oO hF [] [] rfl
  · refine awp_region ?_
    refine aB h2 ?_
    refine aR 9 ?_
    refine aE ?_
    exact oO hF [] [] rfl

def fleetref2_UnpackOf_x4_k : Int → AEx
  | _ => .normal

def fleetref2_UnpackOf_x4_S (qx : List Int) (qx1 : List UInt8) (qx2 : List UInt8) (vr : Int) (vx2 : List api_Sample) (vx3 : Int) (vx4 : Int) (vx5 : Int) (vx6 : Int) (vr1_5 : List Int) (vr10 : Int) (vr11 : Int) : Int → St
  | vx17 => Mem.st ⟨[(0, ⟨42, 4, List.map api_Sample.enc vx2⟩)], []⟩ (tl [(0, .v (.one (.d (.lst (List.map (encI .u8) qx))))), (1, .v (.one (.d (.str qx1)))), (2, .v (.one (.d (.str qx2)))), (8, .v (.one (.d (.int .i64 vr)))), (9, .v (.one (.d (.lst (List.map (encI .u8) vr1_5))))), (11, .v (.one (.own 0 none))), (12, .v (.one (.d (.int .i64 (IntKind.wrap .i64 (vx3 + (IntKind.wrap .i64 (vr10 + vx4)))))))), (13, .v (.one (.d (.int .i64 vx17)))), (14, .v (.one (.d (.int .i64 (IntKind.wrap .i64 (vx5 + vr11)))))), (15, .v (.one (.d (.int .i64 vx6))))]) 1

def fleetref2_UnpackOf_x4_I (qx : List Int) (qx1 : List UInt8) (qx2 : List UInt8) (vr : Int) (vx2 : List api_Sample) (vx3 : Int) (vx4 : Int) (vx5 : Int) (vx6 : Int) (vr1_5 : List Int) (vr10 : Int) (vr11 : Int) : St := Mem.st ⟨[(0, ⟨42, 4, List.map api_Sample.enc vx2⟩)], []⟩ (tl [(0, .v (.one (.d (.lst (List.map (encI .u8) qx))))), (1, .v (.one (.d (.str qx1)))), (2, .v (.one (.d (.str qx2)))), (8, .v (.one (.d (.int .i64 vr)))), (9, .v (.one (.d (.lst (List.map (encI .u8) vr1_5))))), (11, .v (.one (.own 0 none))), (12, .v (.one (.d (.int .i64 (IntKind.wrap .i64 (vx3 + (IntKind.wrap .i64 (vr10 + vx4)))))))), (13, .v (.one (.d (.int .i64 (IntKind.wrap .i64 (vr10 + vx4)))))), (14, .v (.one (.d (.int .i64 (IntKind.wrap .i64 (vx5 + vr11)))))), (15, .v (.one (.d (.int .i64 vx6))))]) 1

theorem fleetref2_UnpackOf_x4_ok (qx : List Int) (qx1 : List UInt8) (qx2 : List UInt8) (vr : Int) (vx2 : List api_Sample) (vx3 : Int) (vx4 : Int) (vx5 : Int) (vx6 : Int) (vr1_5 : List Int) (vr10 : Int) (vr11 : Int) {r} (hF : fleetref2_UnpackOf_x4 vx4 vx6 vr10 = some r) : Awp prog 0 96 (cL (cR (cR (cR (cR (cR (cL (cL (cR (cL (cL (cR (cL (cR (cR (cR (cR (cB f33)))))))))))))))))) (Out 0 fleetref2_UnpackOf_x4_k (fleetref2_UnpackOf_x4_S qx qx1 qx2 vr vx2 vx3 vx4 vx5 vx6 vr1_5 vr10 vr11) r) (fleetref2_UnpackOf_x4_I qx qx1 qx2 vr vx2 vx3 vx4 vx5 vx6 vr1_5 vr10 vr11) := by
  unfold fleetref2_UnpackOf_x4 at hF
  refine awp_seq ?_
  refine awp_region ?_
  refine aR 2 ?_
  refine aE ?_
  refine cE hF (fun h12 hF => ?_) fun h12 hF => ?_
  · refine awp_true (by kernel_rfl) h12 ?_
    refine awp_region ?_
    refine aR 1 ?_
    refine aE ?_
    exact oO hF [] [] rfl
  · refine awp_false (by kernel_rfl) h12 ?_
    refine awp_skip ?_
    exact oO hF [] [] rfl

def fleetref2_UnpackOf_x3_k : ((List Int) × Bool × (List api_Sample) × Int × Int × Int) ⊕ Bool → AEx
  | .inl _ => .normal
  | .inr _ => .exit 0

def fleetref2_UnpackOf_x3_S (qx : List Int) (qx1 : List UInt8) (qx2 : List UInt8) (vr : Int) (vx : List Int) (vx2 : List api_Sample) (vx3 : Int) (vx4 : Int) (vx5 : Int) (vx6 : Int) : ((List Int) × Bool × (List api_Sample) × Int × Int × Int) ⊕ Bool → St
  | .inl (vx18, vx19, vx20, vx21, vx22, vx23) => Mem.st ⟨[(0, ⟨42, 4, List.map api_Sample.enc vx20⟩)], []⟩ (tl [(0, .v (.one (.d (.lst (List.map (encI .u8) qx))))), (1, .v (.one (.d (.str qx1)))), (2, .v (.one (.d (.str qx2)))), (8, .v (.one (.d (.int .i64 vr)))), (9, .v (.one (.d (.lst (List.map (encI .u8) vx18))))), (10, .v (.one (.d (.bool vx19)))), (11, .v (.one (.own 0 none))), (12, .v (.one (.d (.int .i64 vx21)))), (13, .v (.one (.d (.int .i64 vx22)))), (14, .v (.one (.d (.int .i64 vx23)))), (15, .v (.one (.d (.int .i64 vx6))))]) 1
  | .inr vx24 => Mem.st ⟨[(0, ⟨42, 4, List.map api_Sample.enc vx2⟩)], []⟩ (tl [(0, .v (.one (.d (.lst (List.map (encI .u8) qx))))), (10, .v (.one (.d (.bool vx24)))), (11, .v (.one (.own 0 none)))]) 1

def fleetref2_UnpackOf_x3_I (qx : List Int) (qx1 : List UInt8) (qx2 : List UInt8) (vr : Int) (vx : List Int) (vx2 : List api_Sample) (vx3 : Int) (vx4 : Int) (vx5 : Int) (vx6 : Int) : St := Mem.st ⟨[(0, ⟨42, 4, List.map api_Sample.enc vx2⟩)], []⟩ (tl [(0, .v (.one (.d (.lst (List.map (encI .u8) qx))))), (1, .v (.one (.d (.str qx1)))), (2, .v (.one (.d (.str qx2)))), (8, .v (.one (.d (.int .i64 vr)))), (9, .v (.one (.d (.lst (List.map (encI .u8) vx))))), (11, .v (.one (.own 0 none))), (12, .v (.one (.d (.int .i64 vx3)))), (13, .v (.one (.d (.int .i64 vx4)))), (14, .v (.one (.d (.int .i64 vx5)))), (15, .v (.one (.d (.int .i64 vx6))))]) 1

theorem fleetref2_UnpackOf_x3_ok (qx : List Int) (qx1 : List UInt8) (qx2 : List UInt8) (vr : Int) (vx : List Int) (vx2 : List api_Sample) (vx3 : Int) (vx4 : Int) (vx5 : Int) (vx6 : Int) {r} (hF : fleetref2_UnpackOf_x3 qx1 qx2 vx vx2 vx3 vx4 vx5 vx6 = some r) : Awp prog 0 96 (cL (cR (cL (cL (cR (cL (cR (cR (cR (cR (cB f33))))))))))) (Out 0 fleetref2_UnpackOf_x3_k (fleetref2_UnpackOf_x3_S qx qx1 qx2 vr vx vx2 vx3 vx4 vx5 vx6) r) (fleetref2_UnpackOf_x3_I qx qx1 qx2 vr vx vx2 vx3 vx4 vx5 vx6) := by
  unfold fleetref2_UnpackOf_x3 at hF
  refine awp_block ?_
  refine awp_seq ?_
  refine awp_region ?_
  refine aR 2 ?_
  refine aE ?_
  refine awp_seq ?_
  refine awp_seq ?_
  refine bE hF fun x h6 hF => ?_
  obtain ⟨vr8, vr1_4, vr2_3⟩ := x
  refine awp_region ?_
  refine aR 1 ?_
  refine aC (fleetref2_takeSeven_ok h6) [] [] [] ?_
  refine aR 7 ?_
  refine aE ?_
  refine awp_seq ?_
  refine awp_region ?_
  refine aR 2 ?_
  refine aE ?_
  refine cE hF (fun h7 hF => ?_) fun h7 hF => ?_
  · refine awp_true (by kernel_rfl) h7 ?_
    refine awp_exit ?_
    exact oO hF [] [] rfl
  · refine awp_false (by kernel_rfl) h7 ?_
    refine awp_skip ?_
    refine awp_seq ?_
    refine awp_seq ?_
    refine bE hF fun x h8 hF => ?_
    obtain ⟨vr9, vr1_5, vr2_4⟩ := x
    refine awp_region ?_
    refine aR 1 ?_
    refine aC (fleetref2_takeSeven_ok h8) [] [] [] ?_
    refine aR 7 ?_
    refine aE ?_
    refine awp_seq ?_
    refine awp_region ?_
    refine aR 2 ?_
    refine aE ?_
    refine cE hF (fun h9 hF => ?_) fun h9 hF => ?_
    · refine awp_true (by kernel_rfl) h9 ?_
      refine awp_exit ?_
      exact oO hF [] [] rfl
    · refine awp_false (by kernel_rfl) h9 ?_
      refine awp_skip ?_
      refine awp_seq ?_
      refine bE hF fun vr10 h10 hF => ?_
      refine awp_region ?_
      refine aR 1 ?_
      refine aC (fleetref2_back_ok h10) [] [] [] ?_
      refine aR 3 ?_
      refine aE ?_
      refine awp_seq ?_
      refine bE hF fun vr11 h11 hF => ?_
      refine awp_region ?_
      refine aR 5 ?_
      refine aC (fleetref2_back_ok h11) [] [] [] ?_
      refine aR 5 ?_
      refine aE ?_
      refine awp_seq ?_
      refine awp_to (st' := fleetref2_UnpackOf_x4_I qx qx1 qx2 vr vx2 vx3 vx4 vx5 vx6 vr1_5 vr10 vr11) (oT [] []) ?_
      refine bE hF fun vx17_1 h13 hF => ?_
      refine awp_sub (fleetref2_UnpackOf_x4_ok qx qx1 qx2 vr vx2 vx3 vx4 vx5 vx6 vr1_5 vr10 vr11 h13) ?_
      refine awp_seq ?_
      refine gE hF fun h14 hF => ?_
      refine awp_region ?_
      refine aR 7 ?_
      refine aX (x_app api_Sample.enc 0 h14) ?_
      refine aR 1 ?_
      refine aE ?_
      refine bE hF fun vr1_6 h15 hF => ?_
      refine cE hF (fun h16 hF => ?_) fun h16 hF => ?_
      · refine bE hF fun vr12 h17 hF => ?_
        refine awp_region ?_
        refine aR 1 ?_
        refine aCb (fleetref2_Moment_ok h15) [] [] [] h16 ?_
        refine aR 2 ?_
        refine aC (fleetref2_in_ok h17) [] [] [] ?_
        refine aR 2 ?_
        refine aE ?_
        exact oO hF [(0, 7001)] [] rfl
      · refine awp_region ?_
        refine aR 1 ?_
        refine aCb (fleetref2_Moment_ok h15) [] [] [] h16 ?_
        refine aR 5 ?_
        refine aE ?_
        exact oO hF [(0, 7001)] [] rfl

def fleetref2_UnpackOf_x1_k : (Bool × (List api_Sample)) → AEx
  | _ => .exit 0

def fleetref2_UnpackOf_x1_S (qx : List Int) (qx1 : List UInt8) (qx2 : List UInt8) (vr : Int) : (Bool × (List api_Sample)) → St
  | (vx25, vx26) => Mem.st ⟨[(0, ⟨42, 4, List.map api_Sample.enc vx26⟩)], []⟩ (tl [(0, .v (.one (.d (.lst (List.map (encI .u8) qx))))), (10, .v (.one (.d (.bool vx25)))), (11, .v (.one (.own 0 none)))]) 1

def fleetref2_UnpackOf_x1_H (qx : List Int) (qx1 : List UInt8) (qx2 : List UInt8) (vr : Int) : (List Int) × Bool × (List api_Sample) × Int × Int × Int × Int → St
  | (vx, vx1, vx2, vx3, vx4, vx5, vx6) => Mem.st ⟨[(0, ⟨42, 4, List.map api_Sample.enc vx2⟩)], []⟩ (tl [(0, .v (.one (.d (.lst (List.map (encI .u8) qx))))), (1, .v (.one (.d (.str qx1)))), (2, .v (.one (.d (.str qx2)))), (8, .v (.one (.d (.int .i64 vr)))), (9, .v (.one (.d (.lst (List.map (encI .u8) vx))))), (10, .v (.one (.d (.bool vx1)))), (11, .v (.one (.own 0 none))), (12, .v (.one (.d (.int .i64 vx3)))), (13, .v (.one (.d (.int .i64 vx4)))), (14, .v (.one (.d (.int .i64 vx5)))), (15, .v (.one (.d (.int .i64 vx6))))]) 1

theorem fleetref2_UnpackOf_x1_ok (qx : List Int) (qx1 : List UInt8) (qx2 : List UInt8) (vr : Int) (s : (List Int) × Bool × (List api_Sample) × Int × Int × Int × Int) (r : ((List Int) × Bool × (List api_Sample) × Int × Int × Int × Int) ⊕ ((Bool × (List api_Sample)))) (hF : fleetref2_UnpackOf_x1 qx1 qx2 vr s = some r) : Awp prog 0 96 (cL (cL (cR (cL (cR (cR (cR (cR (cB f33))))))))) (Out 0 (kk fleetref2_UnpackOf_x1_k) (SS (fleetref2_UnpackOf_x1_H qx qx1 qx2 vr) (fleetref2_UnpackOf_x1_S qx qx1 qx2 vr)) r) (fleetref2_UnpackOf_x1_H qx qx1 qx2 vr s) := by
  obtain ⟨vx, vx1, vx2, vx3, vx4, vx5, vx6⟩ := s
  unfold fleetref2_UnpackOf_x1 at hF
  refine awp_seq ?_
  refine awp_seq ?_
  refine awp_to (st' := fleetref2_UnpackOf_x2_I qx qx1 qx2 vr vx vx1 vx2 vx3 vx4 vx5 vx6) (oT [] []) ?_
  refine bE hF fun vx16_1 h4 hF => ?_
  refine awp_sub (fleetref2_UnpackOf_x2_ok qx qx1 qx2 vr vx vx1 vx2 vx3 vx4 vx5 vx6 h4) ?_
  refine cE hF (fun h5 hF => ?_) fun h5 hF => ?_
  · refine awp_true (by kernel_rfl) h5 ?_
    refine awp_skip ?_
    refine awp_seq ?_
    refine awp_to (st' := fleetref2_UnpackOf_x3_I qx qx1 qx2 vr vx vx2 vx3 vx4 vx5 vx6) (oT [] []) ?_
    refine bE hF fun x h18 hF => ?_
    rcases x with ⟨vx18_1, vx19_1, vx20_1, vx21_1, vx22_1, vx23_1⟩ | vx24_1
    · refine awp_sub (fleetref2_UnpackOf_x3_ok qx qx1 qx2 vr vx vx2 vx3 vx4 vx5 vx6 h18) ?_
      refine awp_region ?_
      refine aR 3 ?_
      refine aE ?_
      exact oO hF [] [] rfl
    · refine awp_sub (fleetref2_UnpackOf_x3_ok qx qx1 qx2 vr vx vx2 vx3 vx4 vx5 vx6 h18) ?_
      exact oO hF [] [] rfl
  · refine awp_false (by kernel_rfl) h5 ?_
    refine awp_exit ?_
    exact oO hF [] [] rfl

def fleetref2_UnpackOf_x5_k : Bool → AEx
  | _ => .normal

def fleetref2_UnpackOf_x5_S (qx : List Int) (vx25_1 : Bool) (vx26_1 : List api_Sample) : Bool → St
  | vx27 => Mem.st ⟨[], []⟩ (tl [(11, .v (.one (.d (.lst (List.map api_Sample.enc vx26_1))))), (94, .v (.one (.d (.bool vx27))))]) 0

def fleetref2_UnpackOf_x5_I (qx : List Int) (vx25_1 : Bool) (vx26_1 : List api_Sample) : St := Mem.st ⟨[(0, ⟨42, 4, List.map api_Sample.enc vx26_1⟩)], []⟩ (tl [(0, .v (.one (.d (.lst (List.map (encI .u8) qx))))), (10, .v (.one (.d (.bool vx25_1)))), (11, .v (.one (.own 0 none)))]) 1

theorem fleetref2_UnpackOf_x5_ok (qx : List Int) (vx25_1 : Bool) (vx26_1 : List api_Sample) {r} (hF : fleetref2_UnpackOf_x5 qx vx25_1 vx26_1 = some r) : Awp prog 0 96 (cL (cL (cR (cR (cR (cR (cR (cB f33)))))))) (Out 0 fleetref2_UnpackOf_x5_k (fleetref2_UnpackOf_x5_S qx vx25_1 vx26_1) r) (fleetref2_UnpackOf_x5_I qx vx25_1 vx26_1) := by
  unfold fleetref2_UnpackOf_x5 at hF
  refine cE hF (fun h20 hF => ?_) fun h20 hF => ?_
  · refine awp_region ?_
    refine aR 1 ?_
    refine aB h20 ?_
    refine aR 12 ?_
    refine aE ?_
    exact oO hF [] [] rfl
  · refine bE hF fun vr1_7 h21 hF => ?_
    refine cE hF (fun h22 hF => ?_) fun h22 hF => ?_
    · refine awp_region ?_
      refine aR 1 ?_
      refine aB h20 ?_
      refine aR 2 ?_
      refine aC (fleetref2_SeriesFault_ok h21) [] [] [0] ?_
      refine aB h22 ?_
      refine aR 8 ?_
      refine aE ?_
      exact oO hF [] [] rfl
    · refine bE hF fun vr5_1 h23 hF => ?_
      refine awp_to (oT (m := ⟨[], []⟩) (ts := [(0, .v (.one (.d (.lst (List.map (encI .u8) qx))))), (10, .v (.one (.d (.bool vx25_1)))), (11, .v (.one (.d (.lst (List.map api_Sample.enc vx26_1)))))]) (nx := 1) [] []) ?_
      refine bE hF fun vr13 h24 hF => ?_
      refine awp_region ?_
      refine aR 1 ?_
      refine aB h20 ?_
      refine aR 2 ?_
      refine aC (fleetref2_SeriesFault_ok h21) [] [] [] ?_
      refine aB h22 ?_
      refine aR 3 ?_
      refine aC (fleetref2_PackOf_ok h23) [] [] [] ?_
      refine aR 1 ?_
      refine aC (slices_Equal_byte_byte_ok h24) [] [] [9001] ?_
      refine aR 2 ?_
      refine aE ?_
      exact oO hF [] [] rfl

def fleetref2_UnpackOf_R (qx : List Int) (qx1 : List UInt8) (qx2 : List UInt8) (r : (List api_Sample) × Int) : TV × Mem := (.tup [.one (.d (.lst (List.map api_Sample.enc r.1))), .one (.d (.int .i64 r.2))], ⟨[], []⟩)

theorem fleetref2_UnpackOf_ok {qx : List Int} {qx1 : List UInt8} {qx2 : List UInt8} {r} (hF : fleetref2_UnpackOf qx qx1 qx2 = some r) : Holds prog 33 [.v (.one (.d (.lst (List.map (encI .u8) qx)))), .v (.one (.d (.str qx1))), .v (.one (.d (.str qx2)))] ⟨[], []⟩ (Is (fleetref2_UnpackOf_R qx qx1 qx2 r)) := by
  unfold fleetref2_UnpackOf at hF
  refine holds_of_awp hΓ (fn := f33) (c := cB f33) (A := 0) (nx := 0) (by kernel_rfl) (by kernel_rfl) (by kernel_rfl) (by kernel_rfl) (by kernel_rfl) (by kernel_rfl) (lowc_of (by kernel_rfl)) ?_
  show Awp prog 0 96 (cB f33) _ _
  refine awp_seq ?_
  refine awp_region ?_
  refine aR 2 ?_
  refine aE ?_
  refine awp_seq ?_
  refine bE hF fun x h1 hF => ?_
  obtain ⟨vr, vr1, vr2⟩ := x
  refine awp_region ?_
  refine aR 1 ?_
  refine aC (fleetref2_takeSeven_ok h1) [] [] [] ?_
  refine aR 7 ?_
  refine aE ?_
  refine awp_seq ?_
  refine awp_region ?_
  refine aR 1 ?_
  refine aE ?_
  refine awp_seq ?_
  refine awp_region ?_
  refine aR 3 ?_
  refine aE ?_
  refine awp_seq ?_
  refine awp_seq ?_
  refine awp_region ?_
  refine aR 1 ?_
  refine aE ?_
  refine awp_block ?_
  refine awp_to (st' := fleetref2_UnpackOf_x1_H qx qx1 qx2 vr (vr1, vr2, [], 0, 0, 0, 0)) (oT [] [0]) ?_
  refine bE hF fun x h19 hF => ?_
  obtain ⟨vx25_1, vx26_1⟩ := x
  refine awp_sub (awp_loop' (fleetref2_UnpackOf_x1_H qx qx1 qx2 vr) fleetref2_UnpackOf_x1_k (fleetref2_UnpackOf_x1_S qx qx1 qx2 vr) (by intro x; exact fun h => nomatch h) h19 (fleetref2_UnpackOf_x1_ok qx qx1 qx2 vr)) ?_
  refine awp_seq ?_
  refine awp_seq ?_
  refine awp_to (st' := fleetref2_UnpackOf_x5_I qx vx25_1 vx26_1) (oT [] []) ?_
  refine bE hF fun vx27_1 h25 hF => ?_
  refine awp_sub (fleetref2_UnpackOf_x5_ok qx vx25_1 vx26_1 h25) ?_
  refine cE hF (fun h26 hF => ?_) fun h26 hF => ?_
  · refine awp_true (by kernel_rfl) h26 ?_
    refine awp_seq ?_
    refine awp_region ?_
    refine aR 2 ?_
    refine aE ?_
    refine awp_ret ?_
    exact oF hF [] []
  · refine awp_false (by kernel_rfl) h26 ?_
    refine awp_skip ?_
    refine awp_seq ?_
    refine awp_region ?_
    refine aR 3 ?_
    refine aE ?_
    refine awp_ret ?_
    exact oF hF [] []

/-! ### slices.Equal[[]beaconfleet/api.Sample,beaconfleet/api.Sample] -/
def slices_Equal_api_Sample_api_Sample_x1_k : Unit ⊕ Unit → AEx
  | .inl _ => .exit 0
  | .inr _ => .ret

def slices_Equal_api_Sample_api_Sample_x1_S (qs1 : List api_Sample) (qs2 : List api_Sample) : Unit ⊕ Unit → St
  | .inl _ => Mem.st ⟨[], []⟩ (tl []) 0
  | .inr _ => Mem.st ⟨[], []⟩ (tl [(4, .v (.one (.d (.bool false))))]) 0

def slices_Equal_api_Sample_api_Sample_x1_H (qs1 : List api_Sample) (qs2 : List api_Sample) : Int → St
  | vx => Mem.st ⟨[], []⟩ (tl [(0, .v (.one (.d (.lst (List.map api_Sample.enc qs1))))), (1, .v (.one (.d (.lst (List.map api_Sample.enc qs2))))), (12, .v (.one (.d (.int .i64 (qs1.length : Int))))), (13, .v (.one (.d (.int .i64 vx))))]) 0

theorem slices_Equal_api_Sample_api_Sample_x1_ok (qs1 : List api_Sample) (qs2 : List api_Sample) (vx : Int) (r : (Int) ⊕ (Unit ⊕ Unit)) (hF : slices_Equal_api_Sample_api_Sample_x1 qs1 qs2 vx = some r) : Awp prog 0 26 (cL (cL (cR (cL (cR (cR (cB f25))))))) (Out 0 (kk slices_Equal_api_Sample_api_Sample_x1_k) (SS (slices_Equal_api_Sample_api_Sample_x1_H qs1 qs2) (slices_Equal_api_Sample_api_Sample_x1_S qs1 qs2)) r) (slices_Equal_api_Sample_api_Sample_x1_H qs1 qs2 vx) := by
  unfold slices_Equal_api_Sample_api_Sample_x1 at hF
  refine awp_seq ?_
  refine awp_region ?_
  refine aR 1 ?_
  refine aE ?_
  refine awp_seq ?_
  refine cE hF (fun h2 hF => ?_) fun h2 hF => ?_
  · refine awp_true (by kernel_rfl) h2 ?_
    refine awp_skip ?_
    refine awp_seq ?_
    refine awp_block ?_
    refine awp_seq ?_
    refine awp_region ?_
    refine aR 2 ?_
    refine aE ?_
    refine awp_seq ?_
    refine bE hF fun vy2 h3 hF => ?_
    refine bE hF fun vy3 h4 hF => ?_
    refine aD ?_
    refine dR 2 ?_
    refine dX (x_idx api_Sample.enc h3) ?_
    refine dR 3 ?_
    refine dX (x_idx api_Sample.enc h4) ?_
    refine dR 1 ?_
    refine dS (U := []) (stable_eqS (op := .neq) (xs := [.str vy2.Device, .str vy2.Metric, .int .i64 vy2.At, .int .i64 vy2.Value]) (ys := [.str vy3.Device, .str vy3.Metric, .int .i64 vy3.At, .int .i64 vy3.Value]) (b := (decide (vy2.Device = vy3.Device) && (decide (vy2.Metric = vy3.Metric) && (decide (vy2.At = vy3.At) && (decide (vy2.Value = vy3.Value) && true))))) (c := (!(decide (vy2.Device = vy3.Device) && (decide (vy2.Metric = vy3.Metric) && (decide (vy2.At = vy3.At) && (decide (vy2.Value = vy3.Value) && true)))))) rfl (.inr ⟨rfl, rfl⟩) (by kernel_rfl) (by kernel_rfl) (by kernel_rfl) (by kernel_rfl) (by kernel_rfl) (by kernel_rfl)) ?_
    refine dE ?_
    refine cE hF (fun h5 hF => ?_) fun h5 hF => ?_
    · refine awp_true (by kernel_rfl) h5 ?_
      refine awp_seq ?_
      refine awp_region ?_
      refine aR 1 ?_
      refine aE ?_
      refine awp_ret ?_
      exact oO hF [] [] rfl
    · refine awp_false (by kernel_rfl) h5 ?_
      refine awp_skip ?_
      refine awp_region ?_
      refine aR 2 ?_
      refine aE ?_
      exact oO hF [] [] rfl
  · refine awp_false (by kernel_rfl) h2 ?_
    refine awp_exit ?_
    exact oO hF [] [] rfl

def slices_Equal_api_Sample_api_Sample_R (qs1 : List api_Sample) (qs2 : List api_Sample) (r : Bool) : TV × Mem := (.v (.one (.d (.bool r))), ⟨[], []⟩)

theorem slices_Equal_api_Sample_api_Sample_ok {qs1 : List api_Sample} {qs2 : List api_Sample} {r} (hF : slices_Equal_api_Sample_api_Sample qs1 qs2 = some r) : Holds prog 25 [.v (.one (.d (.lst (List.map api_Sample.enc qs1)))), .v (.one (.d (.lst (List.map api_Sample.enc qs2))))] ⟨[], []⟩ (Is (slices_Equal_api_Sample_api_Sample_R qs1 qs2 r)) := by
  unfold slices_Equal_api_Sample_api_Sample at hF
  refine holds_of_awp hΓ (fn := f25) (c := cB f25) (A := 0) (nx := 0) (by kernel_rfl) (by kernel_rfl) (by kernel_rfl) (by kernel_rfl) (by kernel_rfl) (by kernel_rfl) (lowc_of (by kernel_rfl)) ?_
  show Awp prog 0 26 (cB f25) _ _
  refine awp_seq ?_
  refine awp_region ?_
  refine aR 1 ?_
  refine aE ?_
  refine awp_seq ?_
  refine awp_seq ?_
  refine awp_region ?_
  refine aR 1 ?_
  refine aL api_Sample.enc qs1 ?_
  refine aR 1 ?_
  refine aL api_Sample.enc qs2 ?_
  refine aR 1 ?_
  refine aE ?_
  refine cE hF (fun h1 hF => ?_) fun h1 hF => ?_
  · refine awp_true (by kernel_rfl) h1 ?_
    refine awp_seq ?_
    refine awp_region ?_
    refine aR 1 ?_
    refine aE ?_
    refine awp_ret ?_
    exact oF hF [] []
  · refine awp_false (by kernel_rfl) h1 ?_
    refine awp_skip ?_
    refine awp_seq ?_
    refine awp_seq ?_
    refine awp_region ?_
    refine aR 1 ?_
    refine aL api_Sample.enc qs1 ?_
    refine aR 1 ?_
    refine aE ?_
    refine awp_block ?_
    refine awp_to (st' := slices_Equal_api_Sample_api_Sample_x1_H qs1 qs2 0) (oT [] []) ?_
    refine bE hF fun x h6 hF => ?_
    rcases x with _ | _
    · refine awp_sub (awp_loop' (slices_Equal_api_Sample_api_Sample_x1_H qs1 qs2) slices_Equal_api_Sample_api_Sample_x1_k (slices_Equal_api_Sample_api_Sample_x1_S qs1 qs2) (by intro x; rcases x with x | x <;> exact fun h => nomatch h) h6 (slices_Equal_api_Sample_api_Sample_x1_ok qs1 qs2)) ?_
      refine awp_seq ?_
      refine awp_region ?_
      refine aR 1 ?_
      refine aE ?_
      refine awp_ret ?_
      exact oF hF [] []
    · refine awp_sub (awp_loop' (slices_Equal_api_Sample_api_Sample_x1_H qs1 qs2) slices_Equal_api_Sample_api_Sample_x1_k (slices_Equal_api_Sample_api_Sample_x1_S qs1 qs2) (by intro x; rcases x with x | x <;> exact fun h => nomatch h) h6 (slices_Equal_api_Sample_api_Sample_x1_ok qs1 qs2)) ?_
      exact oF hF [] []

/-! ### beaconfleet/series.Pack -/
def series_Pack_o0_R (ql : List api_Sample) (r : (List Int) × Int) : TV × Mem := (.tup [.one (.own 1 none), .one (.d (.int .i64 r.2))], ⟨[(1, ⟨5, 1, List.map (encI .u8) r.1⟩)], []⟩)

theorem series_Pack_o0_ok {ql : List api_Sample} {r} (hF : series_Pack_o0 ql = some r) : Holds prog 29 [.v (.one (.own 0 none))] ⟨[(0, ⟨42, 4, List.map api_Sample.enc ql⟩)], []⟩ (Is (series_Pack_o0_R ql r)) := by
  unfold series_Pack_o0 at hF
  refine holds_of_awp hΓ (fn := f29) (c := cB f29) (A := 1) (nx := 1) (by kernel_rfl) (by kernel_rfl) (by kernel_rfl) (by kernel_rfl) (by kernel_rfl) (by kernel_rfl) (lowc_of (by kernel_rfl)) ?_
  show Awp prog 1 12 (cB f29) _ _
  refine awp_seq ?_
  refine awp_region ?_
  refine aR 2 ?_
  refine aE ?_
  refine awp_to (oT (m := ⟨[], []⟩) (ts := [(0, .v (.one (.d (.lst (List.map api_Sample.enc ql)))))]) (nx := 1) [] []) ?_
  refine awp_seq ?_
  refine awp_seq ?_
  refine bE hF fun vr1 h1 hF => ?_
  refine awp_region ?_
  refine aR 1 ?_
  refine aC (series_CheckSeries_ok h1) [] [] [] ?_
  refine aR 1 ?_
  refine aE ?_
  refine awp_seq ?_
  refine awp_region ?_
  refine aR 2 ?_
  refine aE ?_
  refine cE hF (fun h2 hF => ?_) fun h2 hF => ?_
  · refine awp_true (by kernel_rfl) h2 ?_
    refine awp_seq ?_
    refine awp_region ?_
    refine aR 3 ?_
    refine aE ?_
    refine awp_ret ?_
    exact oF hF [] [1]
  · refine awp_false (by kernel_rfl) h2 ?_
    refine awp_skip ?_
    refine awp_seq ?_
    refine bE hF fun vr9 h3 hF => ?_
    refine awp_region ?_
    refine aR 1 ?_
    refine aC (series_pack_ok h3) [] [] [] ?_
    refine aR 2 ?_
    refine aE ?_
    refine awp_ret ?_
    exact oF hF [(1, 6001)] []

/-! ### beaconfleet/fleetlaw2.measured -/
def fleetlaw2_measured_x1_k : Bool → AEx
  | _ => .normal

def fleetlaw2_measured_x1_S (vr : List Int) (vr2 : Int) : Bool → St
  | vx => Mem.st ⟨[], []⟩ (tl [(0, .v (.one (.d (.bool vx))))]) 0

def fleetlaw2_measured_x1_I (vr : List Int) (vr2 : Int) : St := Mem.st ⟨[], []⟩ (tl [(1, .v (.one (.d (.lst (List.map (encI .u8) vr))))), (2, .v (.one (.d (.int .i64 vr2))))]) 0

theorem fleetlaw2_measured_x1_ok (vr : List Int) (vr2 : Int) {r} (hF : fleetlaw2_measured_x1 vr vr2 = some r) : Awp prog 0 16 (cL (cR (cR (cB f26)))) (Out 0 fleetlaw2_measured_x1_k (fleetlaw2_measured_x1_S vr vr2) r) (fleetlaw2_measured_x1_I vr vr2) := by
  unfold fleetlaw2_measured_x1 at hF
  refine cE hF (fun h2 hF => ?_) fun h2 hF => ?_
  · refine bE hF fun vr1 h3 hF => ?_
    refine awp_region ?_
    refine aR 1 ?_
    refine aB h2 ?_
    refine aR 3 ?_
    refine aC (slices_Equal_byte_byte_ok h3) [] [] [4000] ?_
    refine aR 2 ?_
    refine aE ?_
    exact oO hF [] [] rfl
  · refine awp_region ?_
    refine aR 1 ?_
    refine aB h2 ?_
    refine aR 6 ?_
    refine aE ?_
    exact oO hF [] [] rfl

def fleetlaw2_measured_R (r : Bool) : TV × Mem := (.v (.one (.d (.bool r))), ⟨[], []⟩)

theorem fleetlaw2_measured_ok {r} (hF : fleetlaw2_measured = some r) : Holds prog 26 [] ⟨[], []⟩ (Is (fleetlaw2_measured_R  r)) := by
  unfold fleetlaw2_measured at hF
  refine holds_of_awp hΓ (fn := f26) (c := cB f26) (A := 0) (nx := 0) (by kernel_rfl) (by kernel_rfl) (by kernel_rfl) (by kernel_rfl) (by kernel_rfl) (by kernel_rfl) (lowc_of (by kernel_rfl)) ?_
  show Awp prog 0 16 (cB f26) _ _
  refine awp_seq ?_
  refine awp_region ?_
  refine aR 1 ?_
  refine aE ?_
  refine awp_seq ?_
  refine bE hF fun x h1 hF => ?_
  obtain ⟨vr, vr2⟩ := x
  refine awp_region ?_
  refine aR 2 ?_
  refine aC (series_Pack_o0_ok h1) [(0, 2000)] [] [] ?_
  refine aR 5 ?_
  refine aE ?_
  refine awp_to (oT (m := ⟨[], []⟩) (ts := [(1, .v (.one (.d (.lst (List.map (encI .u8) vr))))), (2, .v (.one (.d (.int .i64 vr2))))]) (nx := 0) [] []) ?_
  refine awp_seq ?_
  refine awp_to (st' := fleetlaw2_measured_x1_I vr vr2) (oT [] []) ?_
  refine bE hF fun vx1 h4 hF => ?_
  refine awp_sub (fleetlaw2_measured_x1_ok vr vr2 h4) ?_
  refine awp_ret ?_
  exact oF hF [] []

/-! ### beaconfleet/fleetlaw2.SeriesPacked -/
def fleetlaw2_SeriesPacked_x1_k : (List Int) → AEx
  | _ => .normal

def fleetlaw2_SeriesPacked_x1_S (vr9 : List api_Sample) (vs4 : fleetmake_Stream) (vr4 : List Int) (vr : List UInt8) (vr1 : List UInt8) : (List Int) → St
  | vx => Mem.st ⟨[], []⟩ (tl [(4, .v (.one (.d (.lst (List.map api_Sample.enc vr9))))), (5, .v (.one (.d (.lst (List.map (encI .u8) vx))))), (6, .v (.one (.d (.str vr)))), (7, .v (.one (.d (.str vr1))))]) 0

def fleetlaw2_SeriesPacked_x1_I (vr9 : List api_Sample) (vs4 : fleetmake_Stream) (vr4 : List Int) (vr : List UInt8) (vr1 : List UInt8) : St := Mem.st ⟨[], [(0, [.d (.lst (List.map (encI .i64) vs4.L)), .d (.int .i64 (IntKind.wrap .i64 ((IntKind.wrap .i64 (vs4.at_ + 1)) + 1)))])]⟩ (tl [(3, .v (.one (.box 0 0))), (4, .v (.one (.d (.lst (List.map api_Sample.enc vr9))))), (5, .v (.one (.d (.lst (List.map (encI .u8) vr4))))), (6, .v (.one (.d (.str vr)))), (7, .v (.one (.d (.str vr1))))]) 1

theorem fleetlaw2_SeriesPacked_x1_ok (vr9 : List api_Sample) (vs4 : fleetmake_Stream) (vr4 : List Int) (vr : List UInt8) (vr1 : List UInt8) {r} (hF : fleetlaw2_SeriesPacked_x1 vs4 vr4 = some r) : Awp prog 0 95 (cL (cR (cR (cR (cB f4))))) (Out 0 fleetlaw2_SeriesPacked_x1_k (fleetlaw2_SeriesPacked_x1_S vr9 vs4 vr4 vr vr1) r) (fleetlaw2_SeriesPacked_x1_I vr9 vs4 vr4 vr vr1) := by
  unfold fleetlaw2_SeriesPacked_x1 at hF
  refine awp_seq ?_
  refine bE hF fun vr2 h5 hF => ?_
  refine awp_region ?_
  refine aR 1 ?_
  refine aC (fleetmake_Stream_Flip_ok h5) [] [] [] ?_
  refine aE ?_
  refine cE hF (fun h6 hF => ?_) fun h6 hF => ?_
  · refine awp_true (by kernel_rfl) h6 ?_
    refine gE hF fun h7 hF => ?_
    refine awp_region ?_
    refine aX (x_mk (encI .u8) (0 : Int) h7) ?_
    refine aR 1 ?_
    refine aE ?_
    exact oO hF [] [] rfl
  · refine awp_false (by kernel_rfl) h6 ?_
    refine awp_skip ?_
    exact oO hF [] [] rfl

def fleetlaw2_SeriesPacked_x2_k : Int → AEx
  | _ => .normal

def fleetlaw2_SeriesPacked_x2_S (vr9 : List api_Sample) (vr : List UInt8) (vr1 : List UInt8) (vx1 : List Int) (vr3 : List Int) (vr2_1 : Int) (vr14 : List api_Sample) (vr15 : Int) (vr1_1 : Int) : Int → St
  | vx2 => Mem.st ⟨[], []⟩ (tl [(4, .v (.one (.d (.lst (List.map api_Sample.enc vr9))))), (5, .v (.one (.d (.lst (List.map (encI .u8) vx1))))), (6, .v (.one (.d (.str vr)))), (7, .v (.one (.d (.str vr1)))), (8, .v (.one (.d (.lst (List.map (encI .u8) vr3))))), (9, .v (.one (.d (.int .i64 vr2_1)))), (10, .v (.one (.d (.lst (List.map api_Sample.enc vr14))))), (11, .v (.one (.d (.int .i64 vr15)))), (12, .v (.one (.d (.int .i64 vr1_1)))), (13, .v (.one (.d (.int .i64 vx2))))]) 0

def fleetlaw2_SeriesPacked_x2_I (vr9 : List api_Sample) (vr : List UInt8) (vr1 : List UInt8) (vx1 : List Int) (vr3 : List Int) (vr2_1 : Int) (vr14 : List api_Sample) (vr15 : Int) (vr1_1 : Int) : St := Mem.st ⟨[], []⟩ (tl [(4, .v (.one (.d (.lst (List.map api_Sample.enc vr9))))), (5, .v (.one (.d (.lst (List.map (encI .u8) vx1))))), (6, .v (.one (.d (.str vr)))), (7, .v (.one (.d (.str vr1)))), (8, .v (.one (.d (.lst (List.map (encI .u8) vr3))))), (9, .v (.one (.d (.int .i64 vr2_1)))), (10, .v (.one (.d (.lst (List.map api_Sample.enc vr14))))), (11, .v (.one (.d (.int .i64 vr15)))), (12, .v (.one (.d (.int .i64 vr1_1))))]) 0

theorem fleetlaw2_SeriesPacked_x2_ok (vr9 : List api_Sample) (vr : List UInt8) (vr1 : List UInt8) (vx1 : List Int) (vr3 : List Int) (vr2_1 : Int) (vr14 : List api_Sample) (vr15 : Int) (vr1_1 : Int) {r} (hF : fleetlaw2_SeriesPacked_x2 vr vr1 vx1 = some r) : Awp prog 0 95 (cL (cR (cR (cR (cR (cR (cR (cR (cB f4))))))))) (Out 0 fleetlaw2_SeriesPacked_x2_k (fleetlaw2_SeriesPacked_x2_S vr9 vr vr1 vx1 vr3 vr2_1 vr14 vr15 vr1_1) r) (fleetlaw2_SeriesPacked_x2_I vr9 vr vr1 vx1 vr3 vr2_1 vr14 vr15 vr1_1) := by
  unfold fleetlaw2_SeriesPacked_x2 at hF
  refine bE hF fun vr3_1 h12 hF => ?_
  refine cE hF (fun h13 hF => ?_) fun h13 hF => ?_
  · refine bE hF fun vr5 h14 hF => ?_
    refine bE hF fun vr6 h15 hF => ?_
    refine bE hF fun vr7 h16 hF => ?_
    refine awp_region ?_
    refine aR 1 ?_
    refine aC (fleetref2_Key_ok h12) [] [] [] ?_
    refine aB h13 ?_
    refine aR 5 ?_
    refine aC (fleetlaw2_when_ok h14) [] [] [] ?_
    refine aR 1 ?_
    refine aL (encI .u8) vx1 ?_
    refine aR 1 ?_
    refine aC (fleetlaw2_when_ok h15) [] [] [] ?_
    refine aR 1 ?_
    refine aC (fleetlaw2_errs_ok h16) [] [] [13000] ?_
    refine aR 1 ?_
    refine aE ?_
    exact oO hF [] [] rfl
  · refine bE hF fun vr3_2 h17 hF => ?_
    refine bE hF fun vr8 h18 hF => ?_
    refine bE hF fun vr10 h19 hF => ?_
    refine bE hF fun vr11 h20 hF => ?_
    refine awp_region ?_
    refine aR 1 ?_
    refine aC (fleetref2_Key_ok h12) [] [] [] ?_
    refine aB h13 ?_
    refine aR 2 ?_
    refine aC (fleetref2_Key_ok h17) [] [] [] ?_
    refine aR 2 ?_
    refine aC (fleetlaw2_when_ok h18) [] [] [] ?_
    refine aR 1 ?_
    refine aL (encI .u8) vx1 ?_
    refine aR 1 ?_
    refine aC (fleetlaw2_when_ok h19) [] [] [] ?_
    refine aR 1 ?_
    refine aC (fleetlaw2_errs_ok h20) [] [] [13000] ?_
    refine aR 1 ?_
    refine aE ?_
    exact oO hF [] [] rfl

def fleetlaw2_SeriesPacked_x3_k : (List Int) → AEx
  | _ => .normal

def fleetlaw2_SeriesPacked_x3_S (vr9 : List api_Sample) (vr : List UInt8) (vr1 : List UInt8) (vx1 : List Int) (vr3 : List Int) (vr2_1 : Int) (vr14 : List api_Sample) (vr15 : Int) (vr1_1 : Int) (vx2_1 : Int) : (List Int) → St
  | vx3 => Mem.st ⟨[], []⟩ (tl [(5, .v (.one (.d (.lst (List.map (encI .u8) vx1))))), (6, .v (.one (.d (.str vr)))), (7, .v (.one (.d (.str vr1)))), (8, .v (.one (.d (.lst (List.map (encI .u8) vr3))))), (9, .v (.one (.d (.int .i64 vr2_1)))), (10, .v (.one (.d (.lst (List.map api_Sample.enc vr14))))), (11, .v (.one (.d (.int .i64 vr15)))), (12, .v (.one (.d (.int .i64 vr1_1)))), (13, .v (.one (.d (.int .i64 vx2_1)))), (14, .v (.one (.d (.lst (List.map (encI .u8) vx3)))))]) 0

def fleetlaw2_SeriesPacked_x3_I (vr9 : List api_Sample) (vr : List UInt8) (vr1 : List UInt8) (vx1 : List Int) (vr3 : List Int) (vr2_1 : Int) (vr14 : List api_Sample) (vr15 : Int) (vr1_1 : Int) (vx2_1 : Int) : St := Mem.st ⟨[], []⟩ (tl [(4, .v (.one (.d (.lst (List.map api_Sample.enc vr9))))), (5, .v (.one (.d (.lst (List.map (encI .u8) vx1))))), (6, .v (.one (.d (.str vr)))), (7, .v (.one (.d (.str vr1)))), (8, .v (.one (.d (.lst (List.map (encI .u8) vr3))))), (9, .v (.one (.d (.int .i64 vr2_1)))), (10, .v (.one (.d (.lst (List.map api_Sample.enc vr14))))), (11, .v (.one (.d (.int .i64 vr15)))), (12, .v (.one (.d (.int .i64 vr1_1)))), (13, .v (.one (.d (.int .i64 vx2_1)))), (14, .v (.one (.nil)))]) 0

theorem fleetlaw2_SeriesPacked_x3_ok (vr9 : List api_Sample) (vr : List UInt8) (vr1 : List UInt8) (vx1 : List Int) (vr3 : List Int) (vr2_1 : Int) (vr14 : List api_Sample) (vr15 : Int) (vr1_1 : Int) (vx2_1 : Int) {r} (hF : fleetlaw2_SeriesPacked_x3 vr9 vr1_1 = some r) : Awp prog 0 95 (cL (cR (cR (cR (cR (cR (cR (cR (cR (cR (cB f4))))))))))) (Out 0 fleetlaw2_SeriesPacked_x3_k (fleetlaw2_SeriesPacked_x3_S vr9 vr vr1 vx1 vr3 vr2_1 vr14 vr15 vr1_1 vx2_1) r) (fleetlaw2_SeriesPacked_x3_I vr9 vr vr1 vx1 vr3 vr2_1 vr14 vr15 vr1_1 vx2_1) := by
  unfold fleetlaw2_SeriesPacked_x3 at hF
  refine awp_seq ?_
  refine awp_region ?_
  refine aR 2 ?_
  refine aE ?_
  refine cE hF (fun h22 hF => ?_) fun h22 hF => ?_
  · refine awp_true (by kernel_rfl) h22 ?_
    refine bE hF fun vr5_1 h23 hF => ?_
    refine awp_region ?_
    refine aR 1 ?_
    refine aC (fleetref2_PackOf_ok h23) [] [] [] ?_
    refine aR 1 ?_
    refine aE ?_
    exact oO hF [] [] rfl
  · refine awp_false (by kernel_rfl) h22 ?_
    refine awp_skip ?_
    exact oO hF [] [] rfl

def fleetlaw2_SeriesPacked_x4_k : (Int × (List api_Sample)) → AEx
  | _ => .normal

def fleetlaw2_SeriesPacked_x4_S (vr : List UInt8) (vr1 : List UInt8) (vx1 : List Int) (vr3 : List Int) (vr2_1 : Int) (vr14 : List api_Sample) (vr15 : Int) (vr1_1 : Int) (vx2_1 : Int) (vx3_1 : List Int) : (Int × (List api_Sample)) → St
  | (vx4, vx5) => Mem.st ⟨[], []⟩ (tl [(8, .v (.one (.d (.lst (List.map (encI .u8) vr3))))), (9, .v (.one (.d (.int .i64 vr2_1)))), (10, .v (.one (.d (.lst (List.map api_Sample.enc vr14))))), (11, .v (.one (.d (.int .i64 vr15)))), (12, .v (.one (.d (.int .i64 vr1_1)))), (13, .v (.one (.d (.int .i64 vx4)))), (14, .v (.one (.d (.lst (List.map (encI .u8) vx3_1))))), (15, .v (.one (.d (.lst (List.map api_Sample.enc vx5)))))]) 0

def fleetlaw2_SeriesPacked_x4_I (vr : List UInt8) (vr1 : List UInt8) (vx1 : List Int) (vr3 : List Int) (vr2_1 : Int) (vr14 : List api_Sample) (vr15 : Int) (vr1_1 : Int) (vx2_1 : Int) (vx3_1 : List Int) : St := Mem.st ⟨[], []⟩ (tl [(5, .v (.one (.d (.lst (List.map (encI .u8) vx1))))), (6, .v (.one (.d (.str vr)))), (7, .v (.one (.d (.str vr1)))), (8, .v (.one (.d (.lst (List.map (encI .u8) vr3))))), (9, .v (.one (.d (.int .i64 vr2_1)))), (10, .v (.one (.d (.lst (List.map api_Sample.enc vr14))))), (11, .v (.one (.d (.int .i64 vr15)))), (12, .v (.one (.d (.int .i64 vr1_1)))), (13, .v (.one (.d (.int .i64 vx2_1)))), (14, .v (.one (.d (.lst (List.map (encI .u8) vx3_1))))), (15, .v (.one (.nil)))]) 0

theorem fleetlaw2_SeriesPacked_x4_ok (vr : List UInt8) (vr1 : List UInt8) (vx1 : List Int) (vr3 : List Int) (vr2_1 : Int) (vr14 : List api_Sample) (vr15 : Int) (vr1_1 : Int) (vx2_1 : Int) (vx3_1 : List Int) {r} (hF : fleetlaw2_SeriesPacked_x4 vr vr1 vx1 vx2_1 = some r) : Awp prog 0 95 (cL (cR (cR (cR (cR (cR (cR (cR (cR (cR (cR (cR (cB f4))))))))))))) (Out 0 fleetlaw2_SeriesPacked_x4_k (fleetlaw2_SeriesPacked_x4_S vr vr1 vx1 vr3 vr2_1 vr14 vr15 vr1_1 vx2_1 vx3_1) r) (fleetlaw2_SeriesPacked_x4_I vr vr1 vx1 vr3 vr2_1 vr14 vr15 vr1_1 vx2_1 vx3_1) := by
  unfold fleetlaw2_SeriesPacked_x4 at hF
  refine awp_seq ?_
  refine awp_region ?_
  refine aR 2 ?_
  refine aE ?_
  refine cE hF (fun h25 hF => ?_) fun h25 hF => ?_
  · refine awp_true (by kernel_rfl) h25 ?_
    refine bE hF fun x h26 hF => ?_
    obtain ⟨vr14_1, vr15_1⟩ := x
    refine awp_region ?_
    refine aR 3 ?_
    refine aC (fleetref2_UnpackOf_ok h26) [] [] [] ?_
    refine aR 5 ?_
    refine aE ?_
    exact oO hF [] [] rfl
  · refine awp_false (by kernel_rfl) h25 ?_
    refine awp_skip ?_
    exact oO hF [] [] rfl

def fleetlaw2_SeriesPacked_x5_k : Bool → AEx
  | _ => .normal

def fleetlaw2_SeriesPacked_x5_S (vr3 : List Int) (vr2_1 : Int) (vr14 : List api_Sample) (vr15 : Int) (vr1_1 : Int) (vx3_1 : List Int) (vx4_1 : Int) (vx5_1 : List api_Sample) : Bool → St
  | vx6 => Mem.st ⟨[], []⟩ (tl [(2, .v (.one (.d (.bool vx6))))]) 0

def fleetlaw2_SeriesPacked_x5_I (vr3 : List Int) (vr2_1 : Int) (vr14 : List api_Sample) (vr15 : Int) (vr1_1 : Int) (vx3_1 : List Int) (vx4_1 : Int) (vx5_1 : List api_Sample) : St := Mem.st ⟨[], []⟩ (tl [(8, .v (.one (.d (.lst (List.map (encI .u8) vr3))))), (9, .v (.one (.d (.int .i64 vr2_1)))), (10, .v (.one (.d (.lst (List.map api_Sample.enc vr14))))), (11, .v (.one (.d (.int .i64 vr15)))), (12, .v (.one (.d (.int .i64 vr1_1)))), (13, .v (.one (.d (.int .i64 vx4_1)))), (14, .v (.one (.d (.lst (List.map (encI .u8) vx3_1))))), (15, .v (.one (.d (.lst (List.map api_Sample.enc vx5_1)))))]) 0

theorem fleetlaw2_SeriesPacked_x5_ok (vr3 : List Int) (vr2_1 : Int) (vr14 : List api_Sample) (vr15 : Int) (vr1_1 : Int) (vx3_1 : List Int) (vx4_1 : Int) (vx5_1 : List api_Sample) {r} (hF : fleetlaw2_SeriesPacked_x5 vr3 vr2_1 vr14 vr15 vr1_1 vx3_1 vx4_1 vx5_1 = some r) : Awp prog 0 95 (cL (cR (cR (cR (cR (cR (cR (cR (cR (cR (cR (cR (cR (cB f4)))))))))))))) (Out 0 fleetlaw2_SeriesPacked_x5_k (fleetlaw2_SeriesPacked_x5_S vr3 vr2_1 vr14 vr15 vr1_1 vx3_1 vx4_1 vx5_1) r) (fleetlaw2_SeriesPacked_x5_I vr3 vr2_1 vr14 vr15 vr1_1 vx3_1 vx4_1 vx5_1) := by
  unfold fleetlaw2_SeriesPacked_x5 at hF
  refine cE hF (fun h28 hF => ?_) fun h28 hF => ?_
  · refine bE hF fun vr12 h29 hF => ?_
    refine cE hF (fun h30 hF => ?_) fun h30 hF => ?_
    · refine cE hF (fun h31 hF => ?_) fun h31 hF => ?_
      · refine bE hF fun vr13 h32 hF => ?_
        refine cE hF (fun h33 hF => ?_) fun h33 hF => ?_
        · refine bE hF fun vr3_3 h34 hF => ?_
          refine awp_region ?_
          refine aR 2 ?_
          refine aB h28 ?_
          refine aR 3 ?_
          refine aCb (slices_Equal_byte_byte_ok h29) [] [] [] h30 ?_
          refine aR 4 ?_
          refine aB h31 ?_
          refine aR 4 ?_
          refine aCb (slices_Equal_api_Sample_api_Sample_ok h32) [] [] [] h33 ?_
          refine aR 2 ?_
          refine aC (fleetlaw2_measured_ok h34) [] [] [] ?_
          refine aR 2 ?_
          refine aE ?_
          exact oO hF [] [] rfl
        · refine awp_region ?_
          refine aR 2 ?_
          refine aB h28 ?_
          refine aR 3 ?_
          refine aCb (slices_Equal_byte_byte_ok h29) [] [] [] h30 ?_
          refine aR 4 ?_
          refine aB h31 ?_
          refine aR 4 ?_
          refine aCb (slices_Equal_api_Sample_api_Sample_ok h32) [] [] [] h33 ?_
          refine aR 5 ?_
          refine aE ?_
          exact oO hF [] [] rfl
      · refine awp_region ?_
        refine aR 2 ?_
        refine aB h28 ?_
        refine aR 3 ?_
        refine aCb (slices_Equal_byte_byte_ok h29) [] [] [] h30 ?_
        refine aR 4 ?_
        refine aB h31 ?_
        refine aR 10 ?_
        refine aE ?_
        exact oO hF [] [] rfl
    · refine awp_region ?_
      refine aR 2 ?_
      refine aB h28 ?_
      refine aR 3 ?_
      refine aCb (slices_Equal_byte_byte_ok h29) [] [] [] h30 ?_
      refine aR 15 ?_
      refine aE ?_
      exact oO hF [] [] rfl
  · refine awp_region ?_
    refine aR 2 ?_
    refine aB h28 ?_
    refine aR 19 ?_
    refine aE ?_
    exact oO hF [] [] rfl

def fleetlaw2_SeriesPacked_R (qx : List Int) (r : Bool) : TV × Mem := (.v (.one (.d (.bool r))), ⟨[], []⟩)

theorem fleetlaw2_SeriesPacked_ok {qx : List Int} {r} (hF : fleetlaw2_SeriesPacked qx = some r) : Holds prog 4 [.v (.one (.d (.lst (List.map (encI .i64) qx))))] ⟨[], []⟩ (Is (fleetlaw2_SeriesPacked_R qx r)) := by
  unfold fleetlaw2_SeriesPacked at hF
  refine holds_of_awp hΓ (fn := f4) (c := cB f4) (A := 0) (nx := 0) (by kernel_rfl) (by kernel_rfl) (by kernel_rfl) (by kernel_rfl) (by kernel_rfl) (by kernel_rfl) (lowc_of (by kernel_rfl)) ?_
  show Awp prog 0 95 (cB f4) _ _
  refine awp_seq ?_
  refine awp_region ?_
  refine aR 1 ?_
  refine aE ?_
  refine awp_seq ?_
  refine awp_region ?_
  refine aR 4 ?_
  refine aE ?_
  refine awp_seq ?_
  refine bE hF fun x h1 hF => ?_
  obtain ⟨vs6, vr9⟩ := x
  refine bE hF fun x h2 hF => ?_
  obtain ⟨vs4, vr4⟩ := x
  refine bE hF fun vr h3 hF => ?_
  refine bE hF fun vr1 h4 hF => ?_
  refine awp_region ?_
  refine aR 1 ?_
  refine aC (fleetmake_Stream_Series_ok h1) [(0, 3000)] [] [] ?_
  refine aR 1 ?_
  refine aC (fleetmake_Stream_Packed_ok h2) [(0, 3000)] [] [] ?_
  refine aR 2 ?_
  refine aC (fleetmake_Stream_Some_o1_ok h3) [(0, 3000), (1, 10000)] [] [] ?_
  refine aR 2 ?_
  refine aC (fleetmake_Stream_Some_o1_ok h4) [(0, 3000), (1, 13000)] [] [] ?_
  refine aR 4 ?_
  refine aE ?_
  refine awp_to (oT (m := ⟨[], [(0, [.d (.lst (List.map (encI .i64) vs4.L)), .d (.int .i64 (IntKind.wrap .i64 ((IntKind.wrap .i64 (vs4.at_ + 1)) + 1)))])]⟩) (ts := [(3, .v (.one (.box 0 0))), (4, .v (.one (.d (.lst (List.map api_Sample.enc vr9))))), (5, .v (.one (.d (.lst (List.map (encI .u8) vr4))))), (6, .v (.one (.d (.str vr)))), (7, .v (.one (.d (.str vr1))))]) (nx := 1) [(0, 3000)] []) ?_
  refine awp_seq ?_
  refine awp_to (st' := fleetlaw2_SeriesPacked_x1_I vr9 vs4 vr4 vr vr1) (oT [] []) ?_
  refine bE hF fun vx1 h8 hF => ?_
  refine awp_sub (fleetlaw2_SeriesPacked_x1_ok vr9 vs4 vr4 vr vr1 h8) ?_
  refine awp_seq ?_
  refine bE hF fun x h9 hF => ?_
  obtain ⟨vr3, vr2_1⟩ := x
  refine awp_region ?_
  refine aR 1 ?_
  refine aC (series_Pack_ok h9) [] [] [] ?_
  refine aR 5 ?_
  refine aE ?_
  refine awp_to (oT (m := ⟨[], []⟩) (ts := [(4, .v (.one (.d (.lst (List.map api_Sample.enc vr9))))), (5, .v (.one (.d (.lst (List.map (encI .u8) vx1))))), (6, .v (.one (.d (.str vr)))), (7, .v (.one (.d (.str vr1)))), (8, .v (.one (.d (.lst (List.map (encI .u8) vr3))))), (9, .v (.one (.d (.int .i64 vr2_1))))]) (nx := 0) [] []) ?_
  refine awp_seq ?_
  refine bE hF fun x h10 hF => ?_
  obtain ⟨vr14, vr15⟩ := x
  refine awp_region ?_
  refine aR 3 ?_
  refine aC (series_Unpack_ok h10) [] [] [] ?_
  refine aR 5 ?_
  refine aE ?_
  refine awp_seq ?_
  refine bE hF fun vr1_1 h11 hF => ?_
  refine awp_region ?_
  refine aR 1 ?_
  refine aC (fleetref2_SeriesFault_ok h11) [] [] [] ?_
  refine aR 1 ?_
  refine aE ?_
  refine awp_seq ?_
  refine awp_to (st' := fleetlaw2_SeriesPacked_x2_I vr9 vr vr1 vx1 vr3 vr2_1 vr14 vr15 vr1_1) (oT [] []) ?_
  refine bE hF fun vx2_1 h21 hF => ?_
  refine awp_sub (fleetlaw2_SeriesPacked_x2_ok vr9 vr vr1 vx1 vr3 vr2_1 vr14 vr15 vr1_1 h21) ?_
  refine awp_seq ?_
  refine awp_region ?_
  refine aR 1 ?_
  refine aE ?_
  refine awp_seq ?_
  refine awp_to (st' := fleetlaw2_SeriesPacked_x3_I vr9 vr vr1 vx1 vr3 vr2_1 vr14 vr15 vr1_1 vx2_1) (oT [] []) ?_
  refine bE hF fun vx3_1 h24 hF => ?_
  refine awp_sub (fleetlaw2_SeriesPacked_x3_ok vr9 vr vr1 vx1 vr3 vr2_1 vr14 vr15 vr1_1 vx2_1 h24) ?_
  refine awp_seq ?_
  refine awp_region ?_
  refine aR 1 ?_
  refine aE ?_
  refine awp_seq ?_
  refine awp_to (st' := fleetlaw2_SeriesPacked_x4_I vr vr1 vx1 vr3 vr2_1 vr14 vr15 vr1_1 vx2_1 vx3_1) (oT [] []) ?_
  refine bE hF fun x h27 hF => ?_
  obtain ⟨vx4_1, vx5_1⟩ := x
  refine awp_sub (fleetlaw2_SeriesPacked_x4_ok vr vr1 vx1 vr3 vr2_1 vr14 vr15 vr1_1 vx2_1 vx3_1 h27) ?_
  refine awp_seq ?_
  refine awp_to (st' := fleetlaw2_SeriesPacked_x5_I vr3 vr2_1 vr14 vr15 vr1_1 vx3_1 vx4_1 vx5_1) (oT [] []) ?_
  refine bE hF fun vx6_1 h35 hF => ?_
  refine awp_sub (fleetlaw2_SeriesPacked_x5_ok vr3 vr2_1 vr14 vr15 vr1_1 vx3_1 vx4_1 vx5_1 h35) ?_
  refine awp_ret ?_
  exact oF hF [] []

end Go.Eng
