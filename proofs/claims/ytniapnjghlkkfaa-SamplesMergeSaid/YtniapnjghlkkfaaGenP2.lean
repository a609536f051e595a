/-
The code of the Go functions that the law SamplesMerge reaches does what the plain functions say, part 2.
-/
import Derived.Test.YtniapnjghlkkfaaGenP1

namespace Go.Eng

open Go Go.Proofs.Try

set_option linter.unusedVariables false

set_option maxRecDepth 20000

set_option maxHeartbeats 0

/-! ### slices.breakPatternsCmpFunc[beaconfleet/api.Sample] -/
def slices_breakPatternsCmpFunc_api_Sample_o0_f3_series_byDevice_x2_k : Int → AEx
  | _ => .normal

def slices_breakPatternsCmpFunc_api_Sample_o0_f3_series_byDevice_x2_S (qx1 : Int) (qx2 : Int) (vr : Int) (vl : List api_Sample) (vx : Int) (vx1 : Int) : Int → St
  | vx3 => Mem.st ⟨[(0, ⟨32, 4, List.map api_Sample.enc vl⟩)], [(1, [.d (.int .u64 (ibits .xor .u64 (ibits .xor .u64 (ibits .xor .u64 vx (ishl .u64 vx 13)) (ishr .u64 (ibits .xor .u64 vx (ishl .u64 vx 13)) 7)) (ishl .u64 (ibits .xor .u64 (ibits .xor .u64 vx (ishl .u64 vx 13)) (ishr .u64 (ibits .xor .u64 vx (ishl .u64 vx 13)) 7)) 17)))])]⟩ (tl [(0, .v (.one (.own 0 none))), (1, .v (.one (.d (.int .i64 qx1)))), (8, .v (.one (.d (.int .i64 (IntKind.wrap .i64 (qx2 - qx1)))))), (9, .v (.one (.box 1 0))), (10, .v (.one (.d (.int .u64 vr)))), (11, .v (.one (.d (.int .i64 vx1)))), (12, .v (.one (.d (.int .i64 vx3))))]) 2

def slices_breakPatternsCmpFunc_api_Sample_o0_f3_series_byDevice_x2_I (qx1 : Int) (qx2 : Int) (vr : Int) (vl : List api_Sample) (vx : Int) (vx1 : Int) : St := Mem.st ⟨[(0, ⟨32, 4, List.map api_Sample.enc vl⟩)], [(1, [.d (.int .u64 (ibits .xor .u64 (ibits .xor .u64 (ibits .xor .u64 vx (ishl .u64 vx 13)) (ishr .u64 (ibits .xor .u64 vx (ishl .u64 vx 13)) 7)) (ishl .u64 (ibits .xor .u64 (ibits .xor .u64 vx (ishl .u64 vx 13)) (ishr .u64 (ibits .xor .u64 vx (ishl .u64 vx 13)) 7)) 17)))])]⟩ (tl [(0, .v (.one (.own 0 none))), (1, .v (.one (.d (.int .i64 qx1)))), (8, .v (.one (.d (.int .i64 (IntKind.wrap .i64 (qx2 - qx1)))))), (9, .v (.one (.box 1 0))), (10, .v (.one (.d (.int .u64 vr)))), (11, .v (.one (.d (.int .i64 vx1)))), (12, .v (.one (.d (.int .i64 (IntKind.wrap .i64 (ibits .and .u64 (ibits .xor .u64 (ibits .xor .u64 (ibits .xor .u64 vx (ishl .u64 vx 13)) (ishr .u64 (ibits .xor .u64 vx (ishl .u64 vx 13)) 7)) (ishl .u64 (ibits .xor .u64 (ibits .xor .u64 vx (ishl .u64 vx 13)) (ishr .u64 (ibits .xor .u64 vx (ishl .u64 vx 13)) 7)) 17)) (IntKind.wrap .u64 (vr - 1))))))))]) 2

theorem slices_breakPatternsCmpFunc_api_Sample_o0_f3_series_byDevice_x2_ok (qx1 : Int) (qx2 : Int) (vr : Int) (vl : List api_Sample) (vx : Int) (vx1 : Int) {r} (hF : slices_breakPatternsCmpFunc_api_Sample_o0_f3_series_byDevice_x2 qx1 qx2 vr vx = some r) : Awp prog 1 67 (cL (cR (cL (cL (cR (cL (cL (cR (cR (cR (cL (cR (cR (cB f71)))))))))))))) (Out 1 slices_breakPatternsCmpFunc_api_Sample_o0_f3_series_byDevice_x2_k (slices_breakPatternsCmpFunc_api_Sample_o0_f3_series_byDevice_x2_S qx1 qx2 vr vl vx vx1) r) (slices_breakPatternsCmpFunc_api_Sample_o0_f3_series_byDevice_x2_I qx1 qx2 vr vl vx vx1) := by
  unfold slices_breakPatternsCmpFunc_api_Sample_o0_f3_series_byDevice_x2 at hF
  refine awp_seq ?_
  refine awp_region ?_
  refine aR 3 ?_
  refine aE ?_
  refine cE hF (fun h5 hF => ?_) fun h5 hF => ?_
  · refine awp_true (by kernel_rfl) h5 ?_
    refine awp_region ?_
    refine aR 4 ?_
    refine aE ?_
    exact oO hF [] [] rfl
  · refine awp_false (by kernel_rfl) h5 ?_
    refine awp_skip ?_
    exact oO hF [] [] rfl

def slices_breakPatternsCmpFunc_api_Sample_o0_f3_series_byDevice_x1_k : (List api_Sample) → AEx
  | _ => .exit 0

def slices_breakPatternsCmpFunc_api_Sample_o0_f3_series_byDevice_x1_S (qx1 : Int) (qx2 : Int) (vr : Int) : (List api_Sample) → St
  | vl1 => Mem.st ⟨[(0, ⟨32, 4, List.map api_Sample.enc vl1⟩)], []⟩ (tl []) 1

def slices_breakPatternsCmpFunc_api_Sample_o0_f3_series_byDevice_x1_H (qx1 : Int) (qx2 : Int) (vr : Int) : (List api_Sample) × Int × Int → St
  | (vl, vx, vx1) => Mem.st ⟨[(0, ⟨32, 4, List.map api_Sample.enc vl⟩)], [(1, [.d (.int .u64 vx)])]⟩ (tl [(0, .v (.one (.own 0 none))), (1, .v (.one (.d (.int .i64 qx1)))), (8, .v (.one (.d (.int .i64 (IntKind.wrap .i64 (qx2 - qx1)))))), (9, .v (.one (.box 1 0))), (10, .v (.one (.d (.int .u64 vr)))), (11, .v (.one (.d (.int .i64 vx1))))]) 2

theorem slices_breakPatternsCmpFunc_api_Sample_o0_f3_series_byDevice_x1_ok (qx1 : Int) (qx2 : Int) (vr : Int) (s : (List api_Sample) × Int × Int) (r : ((List api_Sample) × Int × Int) ⊕ ((List api_Sample))) (hF : slices_breakPatternsCmpFunc_api_Sample_o0_f3_series_byDevice_x1 qx1 qx2 vr s = some r) : Awp prog 1 67 (cL (cL (cR (cR (cR (cL (cR (cR (cB f71))))))))) (Out 1 (kk slices_breakPatternsCmpFunc_api_Sample_o0_f3_series_byDevice_x1_k) (SS (slices_breakPatternsCmpFunc_api_Sample_o0_f3_series_byDevice_x1_H qx1 qx2 vr) (slices_breakPatternsCmpFunc_api_Sample_o0_f3_series_byDevice_x1_S qx1 qx2 vr)) r) (slices_breakPatternsCmpFunc_api_Sample_o0_f3_series_byDevice_x1_H qx1 qx2 vr s) := by
  obtain ⟨vl, vx, vx1⟩ := s
  unfold slices_breakPatternsCmpFunc_api_Sample_o0_f3_series_byDevice_x1 at hF
  refine awp_seq ?_
  refine awp_seq ?_
  refine awp_region ?_
  refine aR 8 ?_
  refine aE ?_
  refine cE hF (fun h3 hF => ?_) fun h3 hF => ?_
  · refine awp_true (by kernel_rfl) h3 ?_
    refine awp_skip ?_
    refine awp_seq ?_
    refine awp_block ?_
    refine awp_seq ?_
    refine bE hF fun _ h4 hF => ?_
    refine awp_region ?_
    refine aC (slices_xorshift_Next_ok h4) [(0, 1)] [] [] ?_
    refine aR 5 ?_
    refine aE ?_
    refine awp_seq ?_
    refine awp_to (st' := slices_breakPatternsCmpFunc_api_Sample_o0_f3_series_byDevice_x2_I qx1 qx2 vr vl vx vx1) (oT [] []) ?_
    refine bE hF fun vx3_1 h6 hF => ?_
    refine awp_sub (slices_breakPatternsCmpFunc_api_Sample_o0_f3_series_byDevice_x2_ok qx1 qx2 vr vl vx vx1 h6) ?_
    refine bE hF fun vy3 h7 hF => ?_
    refine bE hF fun vy4 h8 hF => ?_
    refine bE hF fun vy5 h9 hF => ?_
    refine aDw [0] ?_
    refine dR 10 ?_
    refine dI api_Sample.enc 0 h7 rfl ?_
    refine dX (x_ldE api_Sample.enc h7) ?_
    refine dR 2 ?_
    refine dI api_Sample.enc 0 h8 rfl ?_
    refine dX (x_ldE api_Sample.enc h8) ?_
    refine dI api_Sample.enc 0 h8 rfl ?_
    refine dW api_Sample.enc vy3 h8 rfl ?_
    refine dI api_Sample.enc 0 h9 rfl ?_
    refine dW api_Sample.enc vy4 h9 rfl ?_
    refine dE ?_
    refine awp_region ?_
    refine aR 3 ?_
    refine aE ?_
    exact oO hF [] [] rfl
  · refine awp_false (by kernel_rfl) h3 ?_
    refine awp_exit ?_
    exact oO hF [] [] rfl

def slices_breakPatternsCmpFunc_api_Sample_o0_f3_series_byDevice_R (qx : List api_Sample) (qx1 : Int) (qx2 : Int) (r : (List api_Sample)) : TV × Mem := (.tup [], ⟨[(0, ⟨32, 4, List.map api_Sample.enc r⟩)], []⟩)

theorem slices_breakPatternsCmpFunc_api_Sample_o0_f3_series_byDevice_ok {qx : List api_Sample} {qx1 : Int} {qx2 : Int} {r} (hF : slices_breakPatternsCmpFunc_api_Sample_o0_f3_series_byDevice qx qx1 qx2 = some r) : Holds prog 71 [.v (.one (.own 0 none)), .v (.one (.d (.int .i64 qx1))), .v (.one (.d (.int .i64 qx2))), .v (.one (.fn 37 []))] ⟨[(0, ⟨32, 4, List.map api_Sample.enc qx⟩)], []⟩ (Is (slices_breakPatternsCmpFunc_api_Sample_o0_f3_series_byDevice_R qx qx1 qx2 r)) := by
  unfold slices_breakPatternsCmpFunc_api_Sample_o0_f3_series_byDevice at hF
  refine holds_of_awp hΓ (fn := f71) (c := cB f71) (A := 1) (nx := 1) (by kernel_rfl) (by kernel_rfl) (by kernel_rfl) (by kernel_rfl) (by kernel_rfl) (by kernel_rfl) (lowc_of (by kernel_rfl)) ?_
  show Awp prog 1 67 (cB f71) _ _
  refine awp_seq ?_
  refine awp_region ?_
  refine aR 4 ?_
  refine aE ?_
  refine awp_seq ?_
  refine awp_region ?_
  refine aR 2 ?_
  refine aE ?_
  refine cE hF (fun h1 hF => ?_) fun h1 hF => ?_
  · refine awp_true (by kernel_rfl) h1 ?_
    refine awp_seq ?_
    refine awp_region ?_
    refine aR 4 ?_
    refine aE ?_
    refine awp_seq ?_
    refine bE hF fun vr h2 hF => ?_
    refine awp_region ?_
    refine aR 1 ?_
    refine aC (slices_nextPowerOfTwo_ok h2) [] [] [] ?_
    refine aR 1 ?_
    refine aE ?_
    refine awp_seq ?_
    refine awp_region ?_
    refine aR 7 ?_
    refine aE ?_
    refine awp_block ?_
    refine awp_to (st' := slices_breakPatternsCmpFunc_api_Sample_o0_f3_series_byDevice_x1_H qx1 qx2 vr (qx, IntKind.wrap .u64 (IntKind.wrap .i64 (qx2 - qx1)), IntKind.wrap .i64 ((IntKind.wrap .i64 (qx1 + (IntKind.wrap .i64 ((IntKind.wrap .i64 ((IntKind.wrap .i64 (qx2 - qx1)).tdiv 4)) * 2)))) - 1))) (oT [(1, 8001)] []) ?_
    refine bE hF fun vl1_1 h10 hF => ?_
    refine awp_sub (awp_loop' (slices_breakPatternsCmpFunc_api_Sample_o0_f3_series_byDevice_x1_H qx1 qx2 vr) slices_breakPatternsCmpFunc_api_Sample_o0_f3_series_byDevice_x1_k (slices_breakPatternsCmpFunc_api_Sample_o0_f3_series_byDevice_x1_S qx1 qx2 vr) (by intro x; exact fun h => nomatch h) h10 (slices_breakPatternsCmpFunc_api_Sample_o0_f3_series_byDevice_x1_ok qx1 qx2 vr)) ?_
    exact oF hF [] []
  · refine awp_false (by kernel_rfl) h1 ?_
    refine awp_skip ?_
    exact oF hF [] []

/-! ### slices.pdqsortCmpFunc[beaconfleet/api.Sample] -/
def slices_pdqsortCmpFunc_api_Sample_o0_f4_series_byDevice_R (qx : List api_Sample) (qx1 : Int) (qx2 : Int) (qx3 : Int) (r : (List api_Sample)) : TV × Mem := (.tup [], ⟨[(0, ⟨32, 4, List.map api_Sample.enc r⟩)], []⟩)

def slices_pdqsortCmpFunc_api_Sample_o0_f4_series_byDevice_x2_k : ((List api_Sample) × Int) → AEx
  | _ => .normal

def slices_pdqsortCmpFunc_api_Sample_o0_f4_series_byDevice_x2_S (vl : List api_Sample) (vx : Int) (vx1 : Int) (vx2 : Int) (vx3 : Bool) (vx4 : Bool) : ((List api_Sample) × Int) → St
  | (vl7, vx10) => Mem.st ⟨[(0, ⟨32, 4, List.map api_Sample.enc vl7⟩)], []⟩ (tl [(0, .v (.one (.own 0 none))), (1, .v (.one (.d (.int .i64 vx)))), (2, .v (.one (.d (.int .i64 vx1)))), (3, .v (.one (.d (.int .i64 vx10)))), (4, .v (.one (.fn 37 []))), (10, .v (.one (.d (.bool vx3)))), (11, .v (.one (.d (.bool vx4)))), (12, .v (.one (.d (.int .i64 (IntKind.wrap .i64 (vx1 - vx))))))]) 1

def slices_pdqsortCmpFunc_api_Sample_o0_f4_series_byDevice_x2_I (vl : List api_Sample) (vx : Int) (vx1 : Int) (vx2 : Int) (vx3 : Bool) (vx4 : Bool) : St := Mem.st ⟨[(0, ⟨32, 4, List.map api_Sample.enc vl⟩)], []⟩ (tl [(0, .v (.one (.own 0 none))), (1, .v (.one (.d (.int .i64 vx)))), (2, .v (.one (.d (.int .i64 vx1)))), (3, .v (.one (.d (.int .i64 vx2)))), (4, .v (.one (.fn 37 []))), (10, .v (.one (.d (.bool vx3)))), (11, .v (.one (.d (.bool vx4)))), (12, .v (.one (.d (.int .i64 (IntKind.wrap .i64 (vx1 - vx))))))]) 1

theorem slices_pdqsortCmpFunc_api_Sample_o0_f4_series_byDevice_x2_ok {recF : (List api_Sample) → Int → Int → Int → Option ((List api_Sample))} (ih : ∀ {qx : List api_Sample} {qx1 : Int} {qx2 : Int} {qx3 : Int} {r}, recF qx qx1 qx2 qx3 = some r → Holds prog 59 [.v (.one (.own 0 none)), .v (.one (.d (.int .i64 qx1))), .v (.one (.d (.int .i64 qx2))), .v (.one (.d (.int .i64 qx3))), .v (.one (.fn 37 []))] ⟨[(0, ⟨32, 4, List.map api_Sample.enc qx⟩)], []⟩ (Is (slices_pdqsortCmpFunc_api_Sample_o0_f4_series_byDevice_R qx qx1 qx2 qx3 r))) (vl : List api_Sample) (vx : Int) (vx1 : Int) (vx2 : Int) (vx3 : Bool) (vx4 : Bool) {r} (hF : slices_pdqsortCmpFunc_api_Sample_o0_f4_series_byDevice_x2 recF vl vx vx1 vx2 vx3 = some r) : Awp prog 1 148 (cL (cR (cR (cR (cL (cL (cL (cR (cR (cB f59)))))))))) (Out 1 slices_pdqsortCmpFunc_api_Sample_o0_f4_series_byDevice_x2_k (slices_pdqsortCmpFunc_api_Sample_o0_f4_series_byDevice_x2_S vl vx vx1 vx2 vx3 vx4) r) (slices_pdqsortCmpFunc_api_Sample_o0_f4_series_byDevice_x2_I vl vx vx1 vx2 vx3 vx4) := by
  unfold slices_pdqsortCmpFunc_api_Sample_o0_f4_series_byDevice_x2 at hF
  refine awp_seq ?_
  refine awp_region ?_
  refine aR 2 ?_
  refine aE ?_
  refine cE hF (fun h6 hF => ?_) fun h6 hF => ?_
  · refine awp_true (by kernel_rfl) h6 ?_
    refine awp_seq ?_
    refine bE hF fun vl2_4 h7 hF => ?_
    refine gE hF fun h8 hF => ?_
    refine awp_region ?_
    refine aR 4 ?_
    refine aCp (slices_breakPatternsCmpFunc_api_Sample_o0_f3_series_byDevice_ok h7) ⟨⟨rfl, rfl, pin1 h8⟩, trivial⟩ [] [] [] ?_
    refine aE ?_
    refine awp_region ?_
    refine aR 3 ?_
    refine aE ?_
    exact oO hF [] [] rfl
  · refine awp_false (by kernel_rfl) h6 ?_
    refine awp_skip ?_
    exact oO hF [] [] rfl

def slices_pdqsortCmpFunc_api_Sample_o0_f4_series_byDevice_x3_k : ((List api_Sample) × Int × Int) → AEx
  | _ => .normal

def slices_pdqsortCmpFunc_api_Sample_o0_f4_series_byDevice_x3_S (vx : Int) (vx1 : Int) (vx3 : Bool) (vx4 : Bool) (vl7_1 : List api_Sample) (vx10_1 : Int) (vr3_1 : Int) (vr5_1 : Int) : ((List api_Sample) × Int × Int) → St
  | (vl8, vx11, vx12) => Mem.st ⟨[(0, ⟨32, 4, List.map api_Sample.enc vl8⟩)], []⟩ (tl [(0, .v (.one (.own 0 none))), (1, .v (.one (.d (.int .i64 vx)))), (2, .v (.one (.d (.int .i64 vx1)))), (3, .v (.one (.d (.int .i64 vx10_1)))), (4, .v (.one (.fn 37 []))), (10, .v (.one (.d (.bool vx3)))), (11, .v (.one (.d (.bool vx4)))), (12, .v (.one (.d (.int .i64 (IntKind.wrap .i64 (vx1 - vx)))))), (13, .v (.one (.d (.int .i64 vx11)))), (14, .v (.one (.d (.int .i64 vx12))))]) 1

def slices_pdqsortCmpFunc_api_Sample_o0_f4_series_byDevice_x3_I (vx : Int) (vx1 : Int) (vx3 : Bool) (vx4 : Bool) (vl7_1 : List api_Sample) (vx10_1 : Int) (vr3_1 : Int) (vr5_1 : Int) : St := Mem.st ⟨[(0, ⟨32, 4, List.map api_Sample.enc vl7_1⟩)], []⟩ (tl [(0, .v (.one (.own 0 none))), (1, .v (.one (.d (.int .i64 vx)))), (2, .v (.one (.d (.int .i64 vx1)))), (3, .v (.one (.d (.int .i64 vx10_1)))), (4, .v (.one (.fn 37 []))), (10, .v (.one (.d (.bool vx3)))), (11, .v (.one (.d (.bool vx4)))), (12, .v (.one (.d (.int .i64 (IntKind.wrap .i64 (vx1 - vx)))))), (13, .v (.one (.d (.int .i64 vr3_1)))), (14, .v (.one (.d (.int .i64 vr5_1))))]) 1

theorem slices_pdqsortCmpFunc_api_Sample_o0_f4_series_byDevice_x3_ok {recF : (List api_Sample) → Int → Int → Int → Option ((List api_Sample))} (ih : ∀ {qx : List api_Sample} {qx1 : Int} {qx2 : Int} {qx3 : Int} {r}, recF qx qx1 qx2 qx3 = some r → Holds prog 59 [.v (.one (.own 0 none)), .v (.one (.d (.int .i64 qx1))), .v (.one (.d (.int .i64 qx2))), .v (.one (.d (.int .i64 qx3))), .v (.one (.fn 37 []))] ⟨[(0, ⟨32, 4, List.map api_Sample.enc qx⟩)], []⟩ (Is (slices_pdqsortCmpFunc_api_Sample_o0_f4_series_byDevice_R qx qx1 qx2 qx3 r))) (vx : Int) (vx1 : Int) (vx3 : Bool) (vx4 : Bool) (vl7_1 : List api_Sample) (vx10_1 : Int) (vr3_1 : Int) (vr5_1 : Int) {r} (hF : slices_pdqsortCmpFunc_api_Sample_o0_f4_series_byDevice_x3 recF vx vx1 vl7_1 vr3_1 vr5_1 = some r) : Awp prog 1 148 (cL (cR (cR (cR (cR (cR (cL (cL (cL (cR (cR (cB f59)))))))))))) (Out 1 slices_pdqsortCmpFunc_api_Sample_o0_f4_series_byDevice_x3_k (slices_pdqsortCmpFunc_api_Sample_o0_f4_series_byDevice_x3_S vx vx1 vx3 vx4 vl7_1 vx10_1 vr3_1 vr5_1) r) (slices_pdqsortCmpFunc_api_Sample_o0_f4_series_byDevice_x3_I vx vx1 vx3 vx4 vl7_1 vx10_1 vr3_1 vr5_1) := by
  unfold slices_pdqsortCmpFunc_api_Sample_o0_f4_series_byDevice_x3 at hF
  refine awp_seq ?_
  refine awp_region ?_
  refine aR 2 ?_
  refine aE ?_
  refine cE hF (fun h11 hF => ?_) fun h11 hF => ?_
  · refine awp_true (by kernel_rfl) h11 ?_
    refine awp_seq ?_
    refine bE hF fun vl2_5 h12 hF => ?_
    refine gE hF fun h13 hF => ?_
    refine awp_region ?_
    refine aR 4 ?_
    refine aCp (slices_reverseRangeCmpFunc_api_Sample_o0_f3_series_byDevice_ok h12) ⟨⟨rfl, rfl, pin1 h13⟩, trivial⟩ [] [] [] ?_
    refine aE ?_
    refine awp_seq ?_
    refine awp_region ?_
    refine aR 7 ?_
    refine aE ?_
    refine awp_region ?_
    refine aR 1 ?_
    refine aE ?_
    exact oO hF [] [] rfl
  · refine awp_false (by kernel_rfl) h11 ?_
    refine awp_skip ?_
    exact oO hF [] [] rfl

def slices_pdqsortCmpFunc_api_Sample_o0_f4_series_byDevice_x5_k : Bool → AEx
  | _ => .normal

def slices_pdqsortCmpFunc_api_Sample_o0_f4_series_byDevice_x5_S (vx : Int) (vx1 : Int) (vx3 : Bool) (vx4 : Bool) (vx10_1 : Int) (vl8_1 : List api_Sample) (vx11_1 : Int) (vx12_1 : Int) : Bool → St
  | vx13 => Mem.st ⟨[(0, ⟨32, 4, List.map api_Sample.enc vl8_1⟩)], []⟩ (tl [(0, .v (.one (.own 0 none))), (1, .v (.one (.d (.int .i64 vx)))), (2, .v (.one (.d (.int .i64 vx1)))), (3, .v (.one (.d (.int .i64 vx10_1)))), (4, .v (.one (.fn 37 []))), (10, .v (.one (.d (.bool vx3)))), (11, .v (.one (.d (.bool vx4)))), (12, .v (.one (.d (.int .i64 (IntKind.wrap .i64 (vx1 - vx)))))), (13, .v (.one (.d (.int .i64 vx11_1)))), (75, .v (.one (.d (.bool vx13))))]) 1

def slices_pdqsortCmpFunc_api_Sample_o0_f4_series_byDevice_x5_I (vx : Int) (vx1 : Int) (vx3 : Bool) (vx4 : Bool) (vx10_1 : Int) (vl8_1 : List api_Sample) (vx11_1 : Int) (vx12_1 : Int) : St := Mem.st ⟨[(0, ⟨32, 4, List.map api_Sample.enc vl8_1⟩)], []⟩ (tl [(0, .v (.one (.own 0 none))), (1, .v (.one (.d (.int .i64 vx)))), (2, .v (.one (.d (.int .i64 vx1)))), (3, .v (.one (.d (.int .i64 vx10_1)))), (4, .v (.one (.fn 37 []))), (10, .v (.one (.d (.bool vx3)))), (11, .v (.one (.d (.bool vx4)))), (12, .v (.one (.d (.int .i64 (IntKind.wrap .i64 (vx1 - vx)))))), (13, .v (.one (.d (.int .i64 vx11_1)))), (14, .v (.one (.d (.int .i64 vx12_1))))]) 1

theorem slices_pdqsortCmpFunc_api_Sample_o0_f4_series_byDevice_x5_ok {recF : (List api_Sample) → Int → Int → Int → Option ((List api_Sample))} (ih : ∀ {qx : List api_Sample} {qx1 : Int} {qx2 : Int} {qx3 : Int} {r}, recF qx qx1 qx2 qx3 = some r → Holds prog 59 [.v (.one (.own 0 none)), .v (.one (.d (.int .i64 qx1))), .v (.one (.d (.int .i64 qx2))), .v (.one (.d (.int .i64 qx3))), .v (.one (.fn 37 []))] ⟨[(0, ⟨32, 4, List.map api_Sample.enc qx⟩)], []⟩ (Is (slices_pdqsortCmpFunc_api_Sample_o0_f4_series_byDevice_R qx qx1 qx2 qx3 r))) (vx : Int) (vx1 : Int) (vx3 : Bool) (vx4 : Bool) (vx10_1 : Int) (vl8_1 : List api_Sample) (vx11_1 : Int) (vx12_1 : Int) {r} (hF : slices_pdqsortCmpFunc_api_Sample_o0_f4_series_byDevice_x5 recF vx3 vx4 vx12_1 = some r) : Awp prog 1 148 (cL (cL (cR (cR (cR (cR (cR (cR (cL (cL (cL (cR (cR (cB f59)))))))))))))) (Out 1 slices_pdqsortCmpFunc_api_Sample_o0_f4_series_byDevice_x5_k (slices_pdqsortCmpFunc_api_Sample_o0_f4_series_byDevice_x5_S vx vx1 vx3 vx4 vx10_1 vl8_1 vx11_1 vx12_1) r) (slices_pdqsortCmpFunc_api_Sample_o0_f4_series_byDevice_x5_I vx vx1 vx3 vx4 vx10_1 vl8_1 vx11_1 vx12_1) := by
  unfold slices_pdqsortCmpFunc_api_Sample_o0_f4_series_byDevice_x5 at hF
  refine cE hF (fun h15 hF => ?_) fun h15 hF => ?_
  · refine cE hF (fun h16 hF => ?_) fun h16 hF => ?_
    · refine awp_region ?_
      refine aB h15 ?_
      refine aR 1 ?_
      refine aB h16 ?_
      refine aR 5 ?_
      refine aE ?_
      exact oO hF [] [] rfl
    · refine awp_region ?_
      refine aB h15 ?_
      refine aR 1 ?_
      refine aB h16 ?_
      refine aR 5 ?_
      refine aE ?_
      exact oO hF [] [] rfl
  · refine awp_region ?_
    refine aB h15 ?_
    refine aR 7 ?_
    refine aE ?_
    exact oO hF [] [] rfl

def slices_pdqsortCmpFunc_api_Sample_o0_f4_series_byDevice_x4_k : (List api_Sample) ⊕ (List api_Sample) → AEx
  | .inl _ => .normal
  | .inr _ => .ret

def slices_pdqsortCmpFunc_api_Sample_o0_f4_series_byDevice_x4_S (vx : Int) (vx1 : Int) (vx3 : Bool) (vx4 : Bool) (vx10_1 : Int) (vl8_1 : List api_Sample) (vx11_1 : Int) (vx12_1 : Int) : (List api_Sample) ⊕ (List api_Sample) → St
  | .inl vl9 => Mem.st ⟨[(0, ⟨32, 4, List.map api_Sample.enc vl9⟩)], []⟩ (tl [(0, .v (.one (.own 0 none))), (1, .v (.one (.d (.int .i64 vx)))), (2, .v (.one (.d (.int .i64 vx1)))), (3, .v (.one (.d (.int .i64 vx10_1)))), (4, .v (.one (.fn 37 []))), (10, .v (.one (.d (.bool vx3)))), (11, .v (.one (.d (.bool vx4)))), (12, .v (.one (.d (.int .i64 (IntKind.wrap .i64 (vx1 - vx)))))), (13, .v (.one (.d (.int .i64 vx11_1))))]) 1
  | .inr vl11 => Mem.st ⟨[(0, ⟨32, 4, List.map api_Sample.enc vl11⟩)], []⟩ (tl []) 1

def slices_pdqsortCmpFunc_api_Sample_o0_f4_series_byDevice_x4_I (vx : Int) (vx1 : Int) (vx3 : Bool) (vx4 : Bool) (vx10_1 : Int) (vl8_1 : List api_Sample) (vx11_1 : Int) (vx12_1 : Int) : St := Mem.st ⟨[(0, ⟨32, 4, List.map api_Sample.enc vl8_1⟩)], []⟩ (tl [(0, .v (.one (.own 0 none))), (1, .v (.one (.d (.int .i64 vx)))), (2, .v (.one (.d (.int .i64 vx1)))), (3, .v (.one (.d (.int .i64 vx10_1)))), (4, .v (.one (.fn 37 []))), (10, .v (.one (.d (.bool vx3)))), (11, .v (.one (.d (.bool vx4)))), (12, .v (.one (.d (.int .i64 (IntKind.wrap .i64 (vx1 - vx)))))), (13, .v (.one (.d (.int .i64 vx11_1)))), (14, .v (.one (.d (.int .i64 vx12_1))))]) 1

theorem slices_pdqsortCmpFunc_api_Sample_o0_f4_series_byDevice_x4_ok {recF : (List api_Sample) → Int → Int → Int → Option ((List api_Sample))} (ih : ∀ {qx : List api_Sample} {qx1 : Int} {qx2 : Int} {qx3 : Int} {r}, recF qx qx1 qx2 qx3 = some r → Holds prog 59 [.v (.one (.own 0 none)), .v (.one (.d (.int .i64 qx1))), .v (.one (.d (.int .i64 qx2))), .v (.one (.d (.int .i64 qx3))), .v (.one (.fn 37 []))] ⟨[(0, ⟨32, 4, List.map api_Sample.enc qx⟩)], []⟩ (Is (slices_pdqsortCmpFunc_api_Sample_o0_f4_series_byDevice_R qx qx1 qx2 qx3 r))) (vx : Int) (vx1 : Int) (vx3 : Bool) (vx4 : Bool) (vx10_1 : Int) (vl8_1 : List api_Sample) (vx11_1 : Int) (vx12_1 : Int) {r} (hF : slices_pdqsortCmpFunc_api_Sample_o0_f4_series_byDevice_x4 recF vx vx1 vx3 vx4 vl8_1 vx12_1 = some r) : Awp prog 1 148 (cL (cR (cR (cR (cR (cR (cR (cL (cL (cL (cR (cR (cB f59))))))))))))) (Out 1 slices_pdqsortCmpFunc_api_Sample_o0_f4_series_byDevice_x4_k (slices_pdqsortCmpFunc_api_Sample_o0_f4_series_byDevice_x4_S vx vx1 vx3 vx4 vx10_1 vl8_1 vx11_1 vx12_1) r) (slices_pdqsortCmpFunc_api_Sample_o0_f4_series_byDevice_x4_I vx vx1 vx3 vx4 vx10_1 vl8_1 vx11_1 vx12_1) := by
  unfold slices_pdqsortCmpFunc_api_Sample_o0_f4_series_byDevice_x4 at hF
  refine awp_seq ?_
  refine awp_to (st' := slices_pdqsortCmpFunc_api_Sample_o0_f4_series_byDevice_x5_I vx vx1 vx3 vx4 vx10_1 vl8_1 vx11_1 vx12_1) (oT [] []) ?_
  refine bE hF fun vx13_1 h17 hF => ?_
  refine awp_sub (slices_pdqsortCmpFunc_api_Sample_o0_f4_series_byDevice_x5_ok @ih vx vx1 vx3 vx4 vx10_1 vl8_1 vx11_1 vx12_1 h17) ?_
  refine cE hF (fun h18 hF => ?_) fun h18 hF => ?_
  · refine awp_true (by kernel_rfl) h18 ?_
    refine awp_seq ?_
    refine bE hF fun x h19 hF => ?_
    obtain ⟨vl15_1, vr6⟩ := x
    refine gE hF fun h20 hF => ?_
    refine awp_region ?_
    refine aR 4 ?_
    refine aCp (slices_partialInsertionSortCmpFunc_api_Sample_o0_f3_series_byDevice_ok h19) ⟨⟨rfl, rfl, pin1 h20⟩, trivial⟩ [] [] [] ?_
    refine aE ?_
    refine cE hF (fun h21 hF => ?_) fun h21 hF => ?_
    · refine awp_true (by kernel_rfl) h21 ?_
      refine awp_ret ?_
      exact oO hF [] [] rfl
    · refine awp_false (by kernel_rfl) h21 ?_
      refine awp_skip ?_
      exact oO hF [] [] rfl
  · refine awp_false (by kernel_rfl) h18 ?_
    refine awp_skip ?_
    exact oO hF [] [] rfl

def slices_pdqsortCmpFunc_api_Sample_o0_f4_series_byDevice_x6_k : Bool → AEx
  | _ => .normal

def slices_pdqsortCmpFunc_api_Sample_o0_f4_series_byDevice_x6_S (vx : Int) (vx1 : Int) (vx3 : Bool) (vx4 : Bool) (vx10_1 : Int) (vx11_1 : Int) (vl9_1 : List api_Sample) : Bool → St
  | vx14 => Mem.st ⟨[(0, ⟨32, 4, List.map api_Sample.enc vl9_1⟩)], []⟩ (tl [(0, .v (.one (.own 0 none))), (1, .v (.one (.d (.int .i64 vx)))), (2, .v (.one (.d (.int .i64 vx1)))), (3, .v (.one (.d (.int .i64 vx10_1)))), (4, .v (.one (.fn 37 []))), (10, .v (.one (.d (.bool vx3)))), (11, .v (.one (.d (.bool vx4)))), (12, .v (.one (.d (.int .i64 (IntKind.wrap .i64 (vx1 - vx)))))), (13, .v (.one (.d (.int .i64 vx11_1)))), (97, .v (.one (.d (.bool vx14))))]) 1

def slices_pdqsortCmpFunc_api_Sample_o0_f4_series_byDevice_x6_I (vx : Int) (vx1 : Int) (vx3 : Bool) (vx4 : Bool) (vx10_1 : Int) (vx11_1 : Int) (vl9_1 : List api_Sample) : St := Mem.st ⟨[(0, ⟨32, 4, List.map api_Sample.enc vl9_1⟩)], []⟩ (tl [(0, .v (.one (.own 0 none))), (1, .v (.one (.d (.int .i64 vx)))), (2, .v (.one (.d (.int .i64 vx1)))), (3, .v (.one (.d (.int .i64 vx10_1)))), (4, .v (.one (.fn 37 []))), (10, .v (.one (.d (.bool vx3)))), (11, .v (.one (.d (.bool vx4)))), (12, .v (.one (.d (.int .i64 (IntKind.wrap .i64 (vx1 - vx)))))), (13, .v (.one (.d (.int .i64 vx11_1))))]) 1

theorem slices_pdqsortCmpFunc_api_Sample_o0_f4_series_byDevice_x6_ok {recF : (List api_Sample) → Int → Int → Int → Option ((List api_Sample))} (ih : ∀ {qx : List api_Sample} {qx1 : Int} {qx2 : Int} {qx3 : Int} {r}, recF qx qx1 qx2 qx3 = some r → Holds prog 59 [.v (.one (.own 0 none)), .v (.one (.d (.int .i64 qx1))), .v (.one (.d (.int .i64 qx2))), .v (.one (.d (.int .i64 qx3))), .v (.one (.fn 37 []))] ⟨[(0, ⟨32, 4, List.map api_Sample.enc qx⟩)], []⟩ (Is (slices_pdqsortCmpFunc_api_Sample_o0_f4_series_byDevice_R qx qx1 qx2 qx3 r))) (vx : Int) (vx1 : Int) (vx3 : Bool) (vx4 : Bool) (vx10_1 : Int) (vx11_1 : Int) (vl9_1 : List api_Sample) {r} (hF : slices_pdqsortCmpFunc_api_Sample_o0_f4_series_byDevice_x6 recF vx vx11_1 vl9_1 = some r) : Awp prog 1 148 (cL (cL (cR (cR (cR (cR (cR (cR (cR (cL (cL (cL (cR (cR (cB f59))))))))))))))) (Out 1 slices_pdqsortCmpFunc_api_Sample_o0_f4_series_byDevice_x6_k (slices_pdqsortCmpFunc_api_Sample_o0_f4_series_byDevice_x6_S vx vx1 vx3 vx4 vx10_1 vx11_1 vl9_1) r) (slices_pdqsortCmpFunc_api_Sample_o0_f4_series_byDevice_x6_I vx vx1 vx3 vx4 vx10_1 vx11_1 vl9_1) := by
  unfold slices_pdqsortCmpFunc_api_Sample_o0_f4_series_byDevice_x6 at hF
  refine cE hF (fun h23 hF => ?_) fun h23 hF => ?_
  · refine bE hF fun vy2 h24 hF => ?_
    refine bE hF fun vy3 h25 hF => ?_
    refine bE hF fun vr2_1 h26 hF => ?_
    refine aD ?_
    refine dR 1 ?_
    refine dB h23 ?_
    refine dR 5 ?_
    refine dX (x_idxO api_Sample.enc 0 h24) ?_
    refine dX (x_ldE api_Sample.enc h24) ?_
    refine dR 2 ?_
    refine dX (x_idxO api_Sample.enc 0 h25) ?_
    refine dX (x_ldE api_Sample.enc h25) ?_
    refine dC (series_byDevice_ok h26) [] [] [] ?_
    refine dR 3 ?_
    refine dE ?_
    exact oO hF [] [] rfl
  · refine aD ?_
    refine dR 1 ?_
    refine dB h23 ?_
    refine dR 15 ?_
    refine dE ?_
    exact oO hF [] [] rfl

def slices_pdqsortCmpFunc_api_Sample_o0_f4_series_byDevice_x1_k : (List api_Sample) → AEx
  | _ => .ret

def slices_pdqsortCmpFunc_api_Sample_o0_f4_series_byDevice_x1_S : (List api_Sample) → St
  | vl12 => Mem.st ⟨[(0, ⟨32, 4, List.map api_Sample.enc vl12⟩)], []⟩ (tl []) 1

def slices_pdqsortCmpFunc_api_Sample_o0_f4_series_byDevice_x1_H : (List api_Sample) × Int × Int × Int × Bool × Bool → St
  | (vl, vx, vx1, vx2, vx3, vx4) => Mem.st ⟨[(0, ⟨32, 4, List.map api_Sample.enc vl⟩)], []⟩ (tl [(0, .v (.one (.own 0 none))), (1, .v (.one (.d (.int .i64 vx)))), (2, .v (.one (.d (.int .i64 vx1)))), (3, .v (.one (.d (.int .i64 vx2)))), (4, .v (.one (.fn 37 []))), (10, .v (.one (.d (.bool vx3)))), (11, .v (.one (.d (.bool vx4))))]) 1

theorem slices_pdqsortCmpFunc_api_Sample_o0_f4_series_byDevice_x1_ok {recF : (List api_Sample) → Int → Int → Int → Option ((List api_Sample))} (ih : ∀ {qx : List api_Sample} {qx1 : Int} {qx2 : Int} {qx3 : Int} {r}, recF qx qx1 qx2 qx3 = some r → Holds prog 59 [.v (.one (.own 0 none)), .v (.one (.d (.int .i64 qx1))), .v (.one (.d (.int .i64 qx2))), .v (.one (.d (.int .i64 qx3))), .v (.one (.fn 37 []))] ⟨[(0, ⟨32, 4, List.map api_Sample.enc qx⟩)], []⟩ (Is (slices_pdqsortCmpFunc_api_Sample_o0_f4_series_byDevice_R qx qx1 qx2 qx3 r))) (s : (List api_Sample) × Int × Int × Int × Bool × Bool) (r : ((List api_Sample) × Int × Int × Int × Bool × Bool) ⊕ ((List api_Sample))) (hF : slices_pdqsortCmpFunc_api_Sample_o0_f4_series_byDevice_x1 recF  s = some r) : Awp prog 1 148 (cL (cL (cR (cR (cB f59))))) (Out 1 (kk slices_pdqsortCmpFunc_api_Sample_o0_f4_series_byDevice_x1_k) (SS (slices_pdqsortCmpFunc_api_Sample_o0_f4_series_byDevice_x1_H ) (slices_pdqsortCmpFunc_api_Sample_o0_f4_series_byDevice_x1_S )) r) (slices_pdqsortCmpFunc_api_Sample_o0_f4_series_byDevice_x1_H  s) := by
  obtain ⟨vl, vx, vx1, vx2, vx3, vx4⟩ := s
  unfold slices_pdqsortCmpFunc_api_Sample_o0_f4_series_byDevice_x1 at hF
  refine awp_block ?_
  refine awp_seq ?_
  refine awp_region ?_
  refine aR 4 ?_
  refine aE ?_
  refine awp_seq ?_
  refine awp_seq ?_
  refine awp_region ?_
  refine aR 2 ?_
  refine aE ?_
  refine cE hF (fun h1 hF => ?_) fun h1 hF => ?_
  · refine awp_true (by kernel_rfl) h1 ?_
    refine awp_seq ?_
    refine bE hF fun vl6_1 h2 hF => ?_
    refine gE hF fun h3 hF => ?_
    refine awp_region ?_
    refine aR 4 ?_
    refine aCp (slices_insertionSortCmpFunc_api_Sample_o0_f3_series_byDevice_ok h2) ⟨⟨rfl, rfl, pin1 h3⟩, trivial⟩ [] [] [] ?_
    refine aE ?_
    refine awp_ret ?_
    exact oO hF [] [] rfl
  · refine awp_false (by kernel_rfl) h1 ?_
    refine awp_skip ?_
    refine awp_seq ?_
    refine awp_seq ?_
    refine awp_region ?_
    refine aR 2 ?_
    refine aE ?_
    refine cE hF (fun h4 hF => ?_) fun h4 hF => ?_
    · refine awp_true (by kernel_rfl) h4 ?_
      refine awp_seq ?_
      exact nE hF
    · refine awp_false (by kernel_rfl) h4 ?_
      refine awp_skip ?_
      refine awp_seq ?_
      refine awp_to (st' := slices_pdqsortCmpFunc_api_Sample_o0_f4_series_byDevice_x2_I vl vx vx1 vx2 vx3 vx4) (oT [] []) ?_
      refine bE hF fun x h9 hF => ?_
      obtain ⟨vl7_1, vx10_1⟩ := x
      refine awp_sub (slices_pdqsortCmpFunc_api_Sample_o0_f4_series_byDevice_x2_ok @ih vl vx vx1 vx2 vx3 vx4 h9) ?_
      refine awp_seq ?_
      refine bE hF fun x h10 hF => ?_
      obtain ⟨vr3_1, vr5_1⟩ := x
      refine awp_region ?_
      refine aR 4 ?_
      refine aC (slices_choosePivotCmpFunc_api_Sample_f3_series_byDevice_ok h10) [] [] [0] ?_
      refine aR 5 ?_
      refine aE ?_
      refine awp_seq ?_
      refine awp_to (st' := slices_pdqsortCmpFunc_api_Sample_o0_f4_series_byDevice_x3_I vx vx1 vx3 vx4 vl7_1 vx10_1 vr3_1 vr5_1) (oT [] []) ?_
      refine bE hF fun x h14 hF => ?_
      obtain ⟨vl8_1, vx11_1, vx12_1⟩ := x
      refine awp_sub (slices_pdqsortCmpFunc_api_Sample_o0_f4_series_byDevice_x3_ok @ih vx vx1 vx3 vx4 vl7_1 vx10_1 vr3_1 vr5_1 h14) ?_
      refine awp_seq ?_
      refine awp_to (st' := slices_pdqsortCmpFunc_api_Sample_o0_f4_series_byDevice_x4_I vx vx1 vx3 vx4 vx10_1 vl8_1 vx11_1 vx12_1) (oT [] []) ?_
      refine bE hF fun x h22 hF => ?_
      rcases x with vl9_1 | vl11_1
      · refine awp_sub (slices_pdqsortCmpFunc_api_Sample_o0_f4_series_byDevice_x4_ok @ih vx vx1 vx3 vx4 vx10_1 vl8_1 vx11_1 vx12_1 h22) ?_
        refine awp_seq ?_
        refine awp_seq ?_
        refine awp_to (st' := slices_pdqsortCmpFunc_api_Sample_o0_f4_series_byDevice_x6_I vx vx1 vx3 vx4 vx10_1 vx11_1 vl9_1) (oT [] []) ?_
        refine bE hF fun vx14_1 h27 hF => ?_
        refine awp_sub (slices_pdqsortCmpFunc_api_Sample_o0_f4_series_byDevice_x6_ok @ih vx vx1 vx3 vx4 vx10_1 vx11_1 vl9_1 h27) ?_
        refine cE hF (fun h28 hF => ?_) fun h28 hF => ?_
        · refine awp_true (by kernel_rfl) h28 ?_
          refine awp_seq ?_
          refine bE hF fun x h29 hF => ?_
          obtain ⟨vl2_6, vr7⟩ := x
          refine gE hF fun h30 hF => ?_
          refine awp_region ?_
          refine aR 5 ?_
          refine aCp (slices_partitionEqualCmpFunc_api_Sample_o0_f4_series_byDevice_ok h29) ⟨⟨rfl, rfl, pin1 h30⟩, trivial⟩ [] [] [] ?_
          refine aR 1 ?_
          refine aE ?_
          refine awp_seq ?_
          refine awp_region ?_
          refine aR 2 ?_
          refine aE ?_
          refine awp_exit ?_
          exact oO hF [] [] rfl
        · refine awp_false (by kernel_rfl) h28 ?_
          refine awp_skip ?_
          refine awp_seq ?_
          refine bE hF fun x h31 hF => ?_
          obtain ⟨vl2_7, vr8, vr1_2⟩ := x
          refine gE hF fun h32 hF => ?_
          refine awp_region ?_
          refine aR 5 ?_
          refine aCp (slices_partitionCmpFunc_api_Sample_o0_f4_series_byDevice_ok h31) ⟨⟨rfl, rfl, pin1 h32⟩, trivial⟩ [] [] [] ?_
          refine aR 5 ?_
          refine aE ?_
          refine awp_seq ?_
          refine awp_region ?_
          refine aR 2 ?_
          refine aE ?_
          refine awp_seq ?_
          refine awp_region ?_
          refine aR 8 ?_
          refine aE ?_
          refine awp_seq ?_
          refine awp_region ?_
          refine aR 3 ?_
          refine aE ?_
          refine awp_seq ?_
          refine awp_region ?_
          refine aR 3 ?_
          refine aE ?_
          refine cE hF (fun h33 hF => ?_) fun h33 hF => ?_
          · refine awp_true (by kernel_rfl) h33 ?_
            refine awp_seq ?_
            refine awp_region ?_
            refine aR 4 ?_
            refine aE ?_
            refine awp_seq ?_
            refine bE hF fun vl10_2 h34 hF => ?_
            refine gE hF fun h35 hF => ?_
            refine awp_region ?_
            refine aR 5 ?_
            refine aCp (ih h34) ⟨⟨rfl, rfl, pin1 h35⟩, trivial⟩ [] [] [] ?_
            refine aE ?_
            refine awp_region ?_
            refine aR 3 ?_
            refine aE ?_
            exact oO hF [] [] rfl
          · refine awp_false (by kernel_rfl) h33 ?_
            refine awp_seq ?_
            refine awp_region ?_
            refine aR 4 ?_
            refine aE ?_
            refine awp_seq ?_
            refine bE hF fun vl10_3 h36 hF => ?_
            refine gE hF fun h37 hF => ?_
            refine awp_region ?_
            refine aR 6 ?_
            refine aCp (ih h36) ⟨⟨rfl, rfl, pin1 h37⟩, trivial⟩ [] [] [] ?_
            refine aE ?_
            refine awp_region ?_
            refine aR 2 ?_
            refine aE ?_
            exact oO hF [] [] rfl
      · refine awp_sub (slices_pdqsortCmpFunc_api_Sample_o0_f4_series_byDevice_x4_ok @ih vx vx1 vx3 vx4 vx10_1 vl8_1 vx11_1 vx12_1 h22) ?_
        exact oO hF [] [] rfl

theorem slices_pdqsortCmpFunc_api_Sample_o0_f4_series_byDevice_n_ok (n : Nat) : ∀ {qx : List api_Sample} {qx1 : Int} {qx2 : Int} {qx3 : Int} {r}, slices_pdqsortCmpFunc_api_Sample_o0_f4_series_byDevice_n n qx qx1 qx2 qx3 = some r → Holds prog 59 [.v (.one (.own 0 none)), .v (.one (.d (.int .i64 qx1))), .v (.one (.d (.int .i64 qx2))), .v (.one (.d (.int .i64 qx3))), .v (.one (.fn 37 []))] ⟨[(0, ⟨32, 4, List.map api_Sample.enc qx⟩)], []⟩ (Is (slices_pdqsortCmpFunc_api_Sample_o0_f4_series_byDevice_R qx qx1 qx2 qx3 r)) := by
  induction n with
  | zero => intro qx qx1 qx2 qx3 r hF; exact nE hF
  | succ n ih =>
    intro qx qx1 qx2 qx3 r hF
    unfold slices_pdqsortCmpFunc_api_Sample_o0_f4_series_byDevice_n at hF
    refine holds_of_awp hΓ (fn := f59) (c := cB f59) (A := 1) (nx := 1) (by kernel_rfl) (by kernel_rfl) (by kernel_rfl) (by kernel_rfl) (by kernel_rfl) (by kernel_rfl) (lowc_of (by kernel_rfl)) ?_
    show Awp prog 1 148 (cB f59) _ _
    refine awp_seq ?_
    refine awp_region ?_
    refine aR 1 ?_
    refine aE ?_
    refine awp_seq ?_
    refine awp_region ?_
    refine aR 1 ?_
    refine aE ?_
    refine awp_block ?_
    refine awp_to (st' := slices_pdqsortCmpFunc_api_Sample_o0_f4_series_byDevice_x1_H  (qx, qx1, qx2, qx3, true, true)) (oT [] []) ?_
    refine bE hF fun vl12_1 h38 hF => ?_
    refine awp_sub (awp_loop' (slices_pdqsortCmpFunc_api_Sample_o0_f4_series_byDevice_x1_H ) slices_pdqsortCmpFunc_api_Sample_o0_f4_series_byDevice_x1_k (slices_pdqsortCmpFunc_api_Sample_o0_f4_series_byDevice_x1_S ) (by intro x; exact fun h => nomatch h) h38 (slices_pdqsortCmpFunc_api_Sample_o0_f4_series_byDevice_x1_ok @ih )) ?_
    exact oF hF [] []

theorem slices_pdqsortCmpFunc_api_Sample_o0_f4_series_byDevice_ok {qx : List api_Sample} {qx1 : Int} {qx2 : Int} {qx3 : Int} {r} (hF : slices_pdqsortCmpFunc_api_Sample_o0_f4_series_byDevice qx qx1 qx2 qx3 = some r) : Holds prog 59 [.v (.one (.own 0 none)), .v (.one (.d (.int .i64 qx1))), .v (.one (.d (.int .i64 qx2))), .v (.one (.d (.int .i64 qx3))), .v (.one (.fn 37 []))] ⟨[(0, ⟨32, 4, List.map api_Sample.enc qx⟩)], []⟩ (Is (slices_pdqsortCmpFunc_api_Sample_o0_f4_series_byDevice_R qx qx1 qx2 qx3 r)) :=
  let ⟨n, h⟩ := fixO_some hF
  slices_pdqsortCmpFunc_api_Sample_o0_f4_series_byDevice_n_ok n h

/-! ### slices.SortFunc[[]beaconfleet/api.Sample,beaconfleet/api.Sample] -/
def slices_SortFunc_api_Sample_api_Sample_o0_f1_series_byDevice_R (qx : List api_Sample) (r : (List api_Sample)) : TV × Mem := (.tup [], ⟨[(0, ⟨32, 4, List.map api_Sample.enc r⟩)], []⟩)

theorem slices_SortFunc_api_Sample_api_Sample_o0_f1_series_byDevice_ok {qx : List api_Sample} {r} (hF : slices_SortFunc_api_Sample_api_Sample_o0_f1_series_byDevice qx = some r) : Holds prog 36 [.v (.one (.own 0 none)), .v (.one (.fn 37 []))] ⟨[(0, ⟨32, 4, List.map api_Sample.enc qx⟩)], []⟩ (Is (slices_SortFunc_api_Sample_api_Sample_o0_f1_series_byDevice_R qx r)) := by
  unfold slices_SortFunc_api_Sample_api_Sample_o0_f1_series_byDevice at hF
  refine holds_of_awp hΓ (fn := f36) (c := cB f36) (A := 1) (nx := 1) (by kernel_rfl) (by kernel_rfl) (by kernel_rfl) (by kernel_rfl) (by kernel_rfl) (by kernel_rfl) (lowc_of (by kernel_rfl)) ?_
  show Awp prog 1 14 (cB f36) _ _
  refine awp_seq ?_
  refine awp_region ?_
  refine aR 1 ?_
  refine aL api_Sample.enc qx ?_
  refine aR 1 ?_
  refine aE ?_
  refine bE hF fun vr1 h1 hF => ?_
  refine bE hF fun vl13 h2 hF => ?_
  refine gE hF fun h3 hF => ?_
  refine awp_region ?_
  refine aR 4 ?_
  refine aC (bits_Len_ok h1) [] [] [] ?_
  refine aR 1 ?_
  refine aCp (slices_pdqsortCmpFunc_api_Sample_o0_f4_series_byDevice_ok h2) ⟨⟨rfl, rfl, pin1 h3⟩, trivial⟩ [] [] [] ?_
  refine aE ?_
  exact oF hF [] []

/-! ### slices.Compact[[]beaconfleet/api.Sample,beaconfleet/api.Sample] -/
def slices_Compact_api_Sample_api_Sample_o0_x3_k : ((List api_Sample) × Int) → AEx
  | _ => .normal

def slices_Compact_api_Sample_api_Sample_o0_x3_S (qs : List api_Sample) (vk : Int) (vl4 : List api_Sample) (vk6 : Int) (vk2_1 : Int) : ((List api_Sample) × Int) → St
  | (vl6, vk8) => Mem.st ⟨[(0, ⟨32, 4, List.map api_Sample.enc vl6⟩)], []⟩ (tl [(0, .v (.one (.own 0 none))), (3, .v (.one (.d (.int .i64 vk8)))), (4, .v (.one (.view 0 vk.toNat ((qs.length : Int).toNat - vk.toNat)))), (5, .v (.one (.d (.int .i64 vk2_1))))]) 1

def slices_Compact_api_Sample_api_Sample_o0_x3_I (qs : List api_Sample) (vk : Int) (vl4 : List api_Sample) (vk6 : Int) (vk2_1 : Int) : St := Mem.st ⟨[(0, ⟨32, 4, List.map api_Sample.enc vl4⟩)], []⟩ (tl [(0, .v (.one (.own 0 none))), (3, .v (.one (.d (.int .i64 vk6)))), (4, .v (.one (.view 0 vk.toNat ((qs.length : Int).toNat - vk.toNat)))), (5, .v (.one (.d (.int .i64 vk2_1))))]) 1

theorem slices_Compact_api_Sample_api_Sample_o0_x3_ok (qs : List api_Sample) (vk : Int) (vl4 : List api_Sample) (vk6 : Int) (vk2_1 : Int) {r} (hF : slices_Compact_api_Sample_api_Sample_o0_x3 qs vk vl4 vk6 vk2_1 = some r) : Awp prog 1 61 (cL (cR (cL (cL (cR (cL (cR (cL (cR (cL (cL (cR (cL (cL (cR (cL (cR (cR (cB f38))))))))))))))))))) (Out 1 slices_Compact_api_Sample_api_Sample_o0_x3_k (slices_Compact_api_Sample_api_Sample_o0_x3_S qs vk vl4 vk6 vk2_1) r) (slices_Compact_api_Sample_api_Sample_o0_x3_I qs vk vl4 vk6 vk2_1) := by
  unfold slices_Compact_api_Sample_api_Sample_o0_x3 at hF
  refine awp_block ?_
  refine awp_seq ?_
  refine gE hF fun h8 hF => ?_
  refine bE hF fun vy13 h9 hF => ?_
  refine gE hF fun h10 hF => ?_
  refine bE hF fun vy14 h11 hF => ?_
  refine aD ?_
  refine dR 2 ?_
  refine dX (x_idxV api_Sample.enc 0 h8 h9) ?_
  refine dX (x_ldE api_Sample.enc h9) ?_
  refine dR 3 ?_
  refine dX (x_idxV api_Sample.enc 0 h10 h11) ?_
  refine dX (x_ldE api_Sample.enc h11) ?_
  refine dS (U := []) (stable_eqS (op := .neq) (xs := [.str vy13.Device, .str vy13.Metric, .int .i64 vy13.At, .int .i64 vy13.Value]) (ys := [.str vy14.Device, .str vy14.Metric, .int .i64 vy14.At, .int .i64 vy14.Value]) (b := (decide (vy13.Device = vy14.Device) && (decide (vy13.Metric = vy14.Metric) && (decide (vy13.At = vy14.At) && (decide (vy13.Value = vy14.Value) && true))))) (c := (!(decide (vy13.Device = vy14.Device) && (decide (vy13.Metric = vy14.Metric) && (decide (vy13.At = vy14.At) && (decide (vy13.Value = vy14.Value) && true)))))) rfl (.inr ⟨rfl, rfl⟩) (by kernel_rfl) (by kernel_rfl) (by kernel_rfl) (by kernel_rfl) (by kernel_rfl) (by kernel_rfl)) ?_
  refine dE ?_
  refine cE hF (fun h12 hF => ?_) fun h12 hF => ?_
  · refine awp_true (by kernel_rfl) h12 ?_
    refine awp_seq ?_
    refine bE hF fun vy15 h13 hF => ?_
    refine awp_region ?_
    refine aR 4 ?_
    refine aX (x_idxV api_Sample.enc 0 h8 h9) ?_
    refine aX (x_ldE api_Sample.enc h9) ?_
    refine aX (x_idxO api_Sample.enc 0 h13) ?_
    refine aX (x_stE api_Sample.enc vy13 h13) ?_
    refine aE ?_
    refine awp_region ?_
    refine aR 3 ?_
    refine aE ?_
    exact oO hF [] [] rfl
  · refine awp_false (by kernel_rfl) h12 ?_
    refine awp_skip ?_
    exact oO hF [] [] rfl

def slices_Compact_api_Sample_api_Sample_o0_x2_k : ((List api_Sample) × Int) → AEx
  | _ => .exit 2

def slices_Compact_api_Sample_api_Sample_o0_x2_S (qs : List api_Sample) (vk : Int) : ((List api_Sample) × Int) → St
  | (vl7, vk9) => Mem.st ⟨[(0, ⟨32, 4, List.map api_Sample.enc vl7⟩)], []⟩ (tl [(0, .v (.one (.own 0 none))), (3, .v (.one (.d (.int .i64 vk9))))]) 1

def slices_Compact_api_Sample_api_Sample_o0_x2_H (qs : List api_Sample) (vk : Int) : (List api_Sample) × Int × Int → St
  | (vl4, vk6, vk2_1) => Mem.st ⟨[(0, ⟨32, 4, List.map api_Sample.enc vl4⟩)], []⟩ (tl [(0, .v (.one (.own 0 none))), (3, .v (.one (.d (.int .i64 vk6)))), (4, .v (.one (.view 0 vk.toNat ((qs.length : Int).toNat - vk.toNat)))), (5, .v (.one (.d (.int .i64 vk2_1))))]) 1

theorem slices_Compact_api_Sample_api_Sample_o0_x2_ok (qs : List api_Sample) (vk : Int) (s : (List api_Sample) × Int × Int) (r : ((List api_Sample) × Int × Int) ⊕ (((List api_Sample) × Int))) (hF : slices_Compact_api_Sample_api_Sample_o0_x2 qs vk s = some r) : Awp prog 1 61 (cL (cL (cR (cL (cR (cL (cR (cL (cL (cR (cL (cL (cR (cL (cR (cR (cB f38))))))))))))))))) (Out 1 (kk slices_Compact_api_Sample_api_Sample_o0_x2_k) (SS (slices_Compact_api_Sample_api_Sample_o0_x2_H qs vk) (slices_Compact_api_Sample_api_Sample_o0_x2_S qs vk)) r) (slices_Compact_api_Sample_api_Sample_o0_x2_H qs vk s) := by
  obtain ⟨vl4, vk6, vk2_1⟩ := s
  unfold slices_Compact_api_Sample_api_Sample_o0_x2 at hF
  refine awp_seq ?_
  refine awp_seq ?_
  refine awp_region ?_
  refine aR 4 ?_
  refine aE ?_
  refine cE hF (fun h7 hF => ?_) fun h7 hF => ?_
  · refine awp_true (by kernel_rfl) h7 ?_
    refine awp_skip ?_
    refine awp_seq ?_
    refine awp_to (st' := slices_Compact_api_Sample_api_Sample_o0_x3_I qs vk vl4 vk6 vk2_1) (oT [] []) ?_
    refine bE hF fun x h14 hF => ?_
    obtain ⟨vl6_1, vk8_1⟩ := x
    refine awp_sub (slices_Compact_api_Sample_api_Sample_o0_x3_ok qs vk vl4 vk6 vk2_1 h14) ?_
    refine awp_region ?_
    refine aR 3 ?_
    refine aE ?_
    exact oO hF [] [] rfl
  · refine awp_false (by kernel_rfl) h7 ?_
    refine awp_exit ?_
    exact oO hF [] [] rfl

def slices_Compact_api_Sample_api_Sample_o0_x1_k : Unit ⊕ (List api_Sample) → AEx
  | .inl _ => .exit 0
  | .inr _ => .ret

def slices_Compact_api_Sample_api_Sample_o0_x1_S (qs : List api_Sample) : Unit ⊕ (List api_Sample) → St
  | .inl _ => Mem.st ⟨[(0, ⟨32, 4, List.map api_Sample.enc qs⟩)], []⟩ (tl [(0, .v (.one (.own 0 none)))]) 1
  | .inr vx => Mem.st ⟨[(1, ⟨32, 4, List.map api_Sample.enc vx⟩)], []⟩ (tl [(2, .v (.one (.own 1 none)))]) 2

def slices_Compact_api_Sample_api_Sample_o0_x1_H (qs : List api_Sample) : Int → St
  | vk => Mem.st ⟨[(0, ⟨32, 4, List.map api_Sample.enc qs⟩)], []⟩ (tl [(0, .v (.one (.own 0 none))), (3, .v (.one (.d (.int .i64 vk))))]) 1

theorem slices_Compact_api_Sample_api_Sample_o0_x1_ok (qs : List api_Sample) (vk : Int) (r : (Int) ⊕ (Unit ⊕ (List api_Sample))) (hF : slices_Compact_api_Sample_api_Sample_o0_x1 qs vk = some r) : Awp prog 1 61 (cL (cL (cR (cL (cR (cR (cB f38))))))) (Out 1 (kk slices_Compact_api_Sample_api_Sample_o0_x1_k) (SS (slices_Compact_api_Sample_api_Sample_o0_x1_H qs) (slices_Compact_api_Sample_api_Sample_o0_x1_S qs)) r) (slices_Compact_api_Sample_api_Sample_o0_x1_H qs vk) := by
  unfold slices_Compact_api_Sample_api_Sample_o0_x1 at hF
  refine awp_seq ?_
  refine awp_seq ?_
  refine awp_region ?_
  refine aR 2 ?_
  refine aL api_Sample.enc qs ?_
  refine aR 1 ?_
  refine aE ?_
  refine cE hF (fun h2 hF => ?_) fun h2 hF => ?_
  · refine awp_true (by kernel_rfl) h2 ?_
    refine awp_skip ?_
    refine awp_seq ?_
    refine awp_block ?_
    refine awp_seq ?_
    refine bE hF fun vy8 h3 hF => ?_
    refine bE hF fun vy9 h4 hF => ?_
    refine aD ?_
    refine dR 2 ?_
    refine dX (x_idxO api_Sample.enc 0 h3) ?_
    refine dX (x_ldE api_Sample.enc h3) ?_
    refine dR 3 ?_
    refine dX (x_idxO api_Sample.enc 0 h4) ?_
    refine dX (x_ldE api_Sample.enc h4) ?_
    refine dS (U := []) (stable_eqS (op := .eql) (xs := [.str vy8.Device, .str vy8.Metric, .int .i64 vy8.At, .int .i64 vy8.Value]) (ys := [.str vy9.Device, .str vy9.Metric, .int .i64 vy9.At, .int .i64 vy9.Value]) (b := (decide (vy8.Device = vy9.Device) && (decide (vy8.Metric = vy9.Metric) && (decide (vy8.At = vy9.At) && (decide (vy8.Value = vy9.Value) && true))))) (c := (decide (vy8.Device = vy9.Device) && (decide (vy8.Metric = vy9.Metric) && (decide (vy8.At = vy9.At) && (decide (vy8.Value = vy9.Value) && true))))) rfl (.inl ⟨rfl, rfl⟩) (by kernel_rfl) (by kernel_rfl) (by kernel_rfl) (by kernel_rfl) (by kernel_rfl) (by kernel_rfl)) ?_
    refine dE ?_
    refine cE hF (fun h5 hF => ?_) fun h5 hF => ?_
    · refine awp_true (by kernel_rfl) h5 ?_
      refine awp_seq ?_
      refine gE hF fun h6 hF => ?_
      refine awp_region ?_
      refine aR 2 ?_
      refine aX (x_viewN api_Sample.enc 0 h6) ?_
      refine aR 1 ?_
      refine aE ?_
      refine awp_seq ?_
      refine awp_seq ?_
      refine awp_region ?_
      refine aR 1 ?_
      refine aE ?_
      refine awp_block ?_
      refine awp_to (st' := slices_Compact_api_Sample_api_Sample_o0_x2_H qs vk (qs, vk, 1)) (oT [] []) ?_
      refine bE hF fun x h15 hF => ?_
      obtain ⟨vl7_1, vk9_1⟩ := x
      refine awp_sub (awp_loop' (slices_Compact_api_Sample_api_Sample_o0_x2_H qs vk) slices_Compact_api_Sample_api_Sample_o0_x2_k (slices_Compact_api_Sample_api_Sample_o0_x2_S qs vk) (by intro x; exact fun h => nomatch h) h15 (slices_Compact_api_Sample_api_Sample_o0_x2_ok qs vk)) ?_
      refine awp_seq ?_
      refine gE hF fun h16 hF => ?_
      refine awp_region ?_
      refine aR 2 ?_
      refine aX (x_viewN api_Sample.enc 0 h16) ?_
      refine aCl api_Sample.enc 0 (xs := vl7_1) (y := api_Sample.mk ([] : List UInt8) ([] : List UInt8) 0 0) (lo := vk9_1) (hi := (vl7_1.length : Int)) rfl ?_
      refine aE ?_
      refine awp_seq ?_
      refine gE hF fun h17 hF => ?_
      refine awp_region ?_
      refine aR 2 ?_
      refine aT api_Sample.enc 0 h17 rfl ?_
      refine aR 1 ?_
      refine aE ?_
      refine awp_ret ?_
      exact oO hF [(1, 6001)] [] rfl
    · refine awp_false (by kernel_rfl) h5 ?_
      refine awp_skip ?_
      refine awp_region ?_
      refine aR 3 ?_
      refine aE ?_
      exact oO hF [] [] rfl
  · refine awp_false (by kernel_rfl) h2 ?_
    refine awp_exit ?_
    exact oO hF [] [] rfl

def slices_Compact_api_Sample_api_Sample_o0_R (qs : List api_Sample) (r : (List api_Sample)) : TV × Mem := (.v (.one (.own 1 none)), ⟨[(1, ⟨32, 4, List.map api_Sample.enc r⟩)], []⟩)

theorem slices_Compact_api_Sample_api_Sample_o0_ok {qs : List api_Sample} {r} (hF : slices_Compact_api_Sample_api_Sample_o0 qs = some r) : Holds prog 38 [.v (.one (.own 0 none))] ⟨[(0, ⟨32, 4, List.map api_Sample.enc qs⟩)], []⟩ (Is (slices_Compact_api_Sample_api_Sample_o0_R qs r)) := by
  unfold slices_Compact_api_Sample_api_Sample_o0 at hF
  refine holds_of_awp hΓ (fn := f38) (c := cB f38) (A := 1) (nx := 1) (by kernel_rfl) (by kernel_rfl) (by kernel_rfl) (by kernel_rfl) (by kernel_rfl) (by kernel_rfl) (lowc_of (by kernel_rfl)) ?_
  show Awp prog 1 61 (cB f38) _ _
  refine awp_seq ?_
  refine awp_region ?_
  refine aR 1 ?_
  refine aE ?_
  refine awp_seq ?_
  refine awp_seq ?_
  refine awp_region ?_
  refine aR 1 ?_
  refine aL api_Sample.enc qs ?_
  refine aR 1 ?_
  refine aE ?_
  refine cE hF (fun h1 hF => ?_) fun h1 hF => ?_
  · refine awp_true (by kernel_rfl) h1 ?_
    refine awp_seq ?_
    refine awp_region ?_
    refine aR 2 ?_
    refine aE ?_
    refine awp_ret ?_
    exact oF hF [(1, 0)] []
  · refine awp_false (by kernel_rfl) h1 ?_
    refine awp_skip ?_
    refine awp_seq ?_
    refine awp_seq ?_
    refine awp_region ?_
    refine aR 1 ?_
    refine aE ?_
    refine awp_block ?_
    refine awp_to (st' := slices_Compact_api_Sample_api_Sample_o0_x1_H qs 1) (oT [] []) ?_
    refine bE hF fun x h18 hF => ?_
    rcases x with _ | vx1
    · refine awp_sub (awp_loop' (slices_Compact_api_Sample_api_Sample_o0_x1_H qs) slices_Compact_api_Sample_api_Sample_o0_x1_k (slices_Compact_api_Sample_api_Sample_o0_x1_S qs) (by intro x; rcases x with x | x <;> exact fun h => nomatch h) h18 (slices_Compact_api_Sample_api_Sample_o0_x1_ok qs)) ?_
      refine awp_seq ?_
      refine awp_region ?_
      refine aR 2 ?_
      refine aE ?_
      refine awp_ret ?_
      exact oF hF [(1, 0)] []
    · refine awp_sub (awp_loop' (slices_Compact_api_Sample_api_Sample_o0_x1_H qs) slices_Compact_api_Sample_api_Sample_o0_x1_k (slices_Compact_api_Sample_api_Sample_o0_x1_S qs) (by intro x; rcases x with x | x <;> exact fun h => nomatch h) h18 (slices_Compact_api_Sample_api_Sample_o0_x1_ok qs)) ?_
      exact oF hF [] []

/-! ### beaconfleet/series.Merge -/
def series_Merge_x1_k : Unit ⊕ Unit → AEx
  | .inl _ => .exit 0
  | .inr _ => .ret

def series_Merge_x1_S (vr2 : List api_Sample) : Unit ⊕ Unit → St
  | .inl _ => Mem.st ⟨[(0, ⟨32, 4, List.map api_Sample.enc vr2⟩)], []⟩ (tl [(7, .v (.one (.own 0 none)))]) 1
  | .inr _ => Mem.st ⟨[], []⟩ (tl [(4, .v (.one (.nil))), (5, .v (.one (.d (.int .i64 13))))]) 0

def series_Merge_x1_H (vr2 : List api_Sample) : Int → St
  | vi => Mem.st ⟨[(0, ⟨32, 4, List.map api_Sample.enc vr2⟩)], []⟩ (tl [(7, .v (.one (.own 0 none))), (8, .v (.one (.d (.int .i64 vi))))]) 1

theorem series_Merge_x1_ok (vr2 : List api_Sample) (vi : Int) (r : (Int) ⊕ (Unit ⊕ Unit)) (hF : series_Merge_x1 vr2 vi = some r) : Awp prog 0 47 (cL (cL (cR (cL (cR (cR (cR (cR (cR (cB f12)))))))))) (Out 0 (kk series_Merge_x1_k) (SS (series_Merge_x1_H vr2) (series_Merge_x1_S vr2)) r) (series_Merge_x1_H vr2 vi) := by
  unfold series_Merge_x1 at hF
  refine awp_seq ?_
  refine awp_seq ?_
  refine awp_region ?_
  refine aR 2 ?_
  refine aL api_Sample.enc vr2 ?_
  refine aR 1 ?_
  refine aE ?_
  refine cE hF (fun h9 hF => ?_) fun h9 hF => ?_
  · refine awp_true (by kernel_rfl) h9 ?_
    refine awp_skip ?_
    refine awp_seq ?_
    refine awp_block ?_
    refine awp_seq ?_
    refine bE hF fun vy2 h10 hF => ?_
    refine bE hF fun vy3 h11 hF => ?_
    refine bE hF fun vr2_2 h12 hF => ?_
    refine aD ?_
    refine dR 3 ?_
    refine dX (x_idxO api_Sample.enc 0 h10) ?_
    refine dX (x_ldE api_Sample.enc h10) ?_
    refine dR 2 ?_
    refine dX (x_idxO api_Sample.enc 0 h11) ?_
    refine dX (x_ldE api_Sample.enc h11) ?_
    refine dC (series_byDevice_ok h12) [] [] [] ?_
    refine dR 1 ?_
    refine dE ?_
    refine cE hF (fun h13 hF => ?_) fun h13 hF => ?_
    · refine awp_true (by kernel_rfl) h13 ?_
      refine awp_seq ?_
      refine awp_region ?_
      refine aR 2 ?_
      refine aE ?_
      refine awp_ret ?_
      exact oO hF [] [] rfl
    · refine awp_false (by kernel_rfl) h13 ?_
      refine awp_skip ?_
      refine awp_region ?_
      refine aR 3 ?_
      refine aE ?_
      exact oO hF [] [] rfl
  · refine awp_false (by kernel_rfl) h9 ?_
    refine awp_exit ?_
    exact oO hF [] [] rfl

def series_Merge_R (qa : List api_Sample) (qb : List api_Sample) (r : (List api_Sample) × Int) : TV × Mem := (.tup [.one (.own 0 none), .one (.d (.int .i64 r.2))], ⟨[(0, ⟨32, 4, List.map api_Sample.enc r.1⟩)], []⟩)

theorem series_Merge_ok {qa : List api_Sample} {qb : List api_Sample} {r} (hF : series_Merge qa qb = some r) : Holds prog 12 [.v (.one (.d (.lst (List.map api_Sample.enc qa)))), .v (.one (.d (.lst (List.map api_Sample.enc qb))))] ⟨[], []⟩ (Is (series_Merge_R qa qb r)) := by
  unfold series_Merge at hF
  refine holds_of_awp hΓ (fn := f12) (c := cB f12) (A := 0) (nx := 0) (by kernel_rfl) (by kernel_rfl) (by kernel_rfl) (by kernel_rfl) (by kernel_rfl) (by kernel_rfl) (lowc_of (by kernel_rfl)) ?_
  show Awp prog 0 47 (cB f12) _ _
  refine awp_seq ?_
  refine awp_region ?_
  refine aR 2 ?_
  refine aE ?_
  refine awp_seq ?_
  refine awp_seq ?_
  refine bE hF fun vr6 h1 hF => ?_
  refine bE hF fun vr6_1 h2 hF => ?_
  refine bE hF fun vr h3 hF => ?_
  refine awp_region ?_
  refine aR 1 ?_
  refine aC (series_Check_ok h1) [] [] [] ?_
  refine aR 1 ?_
  refine aC (series_Check_ok h2) [] [] [] ?_
  refine aR 1 ?_
  refine aC (base_First_ok h3) [] [] [6000] ?_
  refine aR 1 ?_
  refine aE ?_
  refine awp_seq ?_
  refine awp_region ?_
  refine aR 2 ?_
  refine aE ?_
  refine cE hF (fun h4 hF => ?_) fun h4 hF => ?_
  · refine awp_true (by kernel_rfl) h4 ?_
    refine awp_seq ?_
    refine awp_region ?_
    refine aR 3 ?_
    refine aE ?_
    refine awp_ret ?_
    exact oF hF [] [0]
  · refine awp_false (by kernel_rfl) h4 ?_
    refine awp_skip ?_
    refine awp_seq ?_
    refine bE hF fun vr1 h5 hF => ?_
    refine awp_region ?_
    refine aR 3 ?_
    refine aC (slices_Concat_api_Sample_api_Sample_o0_ok h5) [(0, 13000)] [] [] ?_
    refine aR 1 ?_
    refine aE ?_
    refine awp_seq ?_
    refine bE hF fun vl h6 hF => ?_
    refine gE hF fun h7 hF => ?_
    refine awp_region ?_
    refine aR 1 ?_
    refine aCp (slices_SortFunc_api_Sample_api_Sample_o0_f1_series_byDevice_ok h6) ⟨⟨rfl, rfl, pin1 h7⟩, trivial⟩ [(0, 14001)] [] [] ?_
    refine aE ?_
    refine awp_seq ?_
    refine bE hF fun vr2 h8 hF => ?_
    refine awp_region ?_
    refine aR 1 ?_
    refine aC (slices_Compact_api_Sample_api_Sample_o0_ok h8) [(0, 14001)] [] [] ?_
    refine aR 1 ?_
    refine aE ?_
    refine awp_seq ?_
    refine awp_seq ?_
    refine awp_region ?_
    refine aR 1 ?_
    refine aE ?_
    refine awp_block ?_
    refine awp_to (st' := series_Merge_x1_H vr2 1) (oT [(0, 19001)] []) ?_
    refine bE hF fun x h14 hF => ?_
    rcases x with _ | _
    · refine awp_sub (awp_loop' (series_Merge_x1_H vr2) series_Merge_x1_k (series_Merge_x1_S vr2) (by intro x; rcases x with x | x <;> exact fun h => nomatch h) h14 (series_Merge_x1_ok vr2)) ?_
      refine awp_seq ?_
      refine awp_seq ?_
      refine awp_region ?_
      refine aR 1 ?_
      refine aL api_Sample.enc vr2 ?_
      refine aR 1 ?_
      refine aE ?_
      refine cE hF (fun h15 hF => ?_) fun h15 hF => ?_
      · refine awp_true (by kernel_rfl) h15 ?_
        refine awp_seq ?_
        refine awp_region ?_
        refine aR 2 ?_
        refine aE ?_
        refine awp_ret ?_
        exact oF hF [] [0]
      · refine awp_false (by kernel_rfl) h15 ?_
        refine awp_skip ?_
        refine awp_seq ?_
        refine awp_region ?_
        refine aR 3 ?_
        refine aE ?_
        refine awp_ret ?_
        exact oF hF [] []
    · refine awp_sub (awp_loop' (series_Merge_x1_H vr2) series_Merge_x1_k (series_Merge_x1_S vr2) (by intro x; rcases x with x | x <;> exact fun h => nomatch h) h14 (series_Merge_x1_ok vr2)) ?_
      exact oF hF [] [0]

/-! ### beaconfleet/base.Window -/
def base_Window_x1_k : Bool → AEx
  | _ => .normal

def base_Window_x1_S (qw : api_Window) : Bool → St
  | vx => Mem.st ⟨[], []⟩ (tl [(2, .v (.one (.d (.bool vx))))]) 0

def base_Window_x1_I (qw : api_Window) : St := Mem.st ⟨[], [(0, [.d (.int .i64 qw.From), .d (.int .i64 qw.To)])]⟩ (tl [(1, .v (.one (.box 0 0)))]) 1

theorem base_Window_x1_ok (qw : api_Window) {r} (hF : base_Window_x1 qw = some r) : Awp prog 0 14 (cL (cR (cB f40))) (Out 0 base_Window_x1_k (base_Window_x1_S qw) r) (base_Window_x1_I qw) := by
  unfold base_Window_x1 at hF
  refine bE hF fun vr h1 hF => ?_
  refine cE hF (fun h2 hF => ?_) fun h2 hF => ?_
  · refine awp_region ?_
    refine aR 4 ?_
    refine aC (base_Out_ok h1) [] [] [] ?_
    refine aB h2 ?_
    refine aR 6 ?_
    refine aE ?_
    exact oO hF [] [] rfl
  · refine awp_region ?_
    refine aR 4 ?_
    refine aC (base_Out_ok h1) [] [] [] ?_
    refine aB h2 ?_
    refine aR 6 ?_
    refine aE ?_
    exact oO hF [] [] rfl

def base_Window_R (qw : api_Window) (r : Bool) : TV × Mem := (.v (.one (.d (.bool r))), ⟨[], []⟩)

theorem base_Window_ok {qw : api_Window} {r} (hF : base_Window qw = some r) : Holds prog 40 [.v (.agg [.d (.int .i64 qw.From), .d (.int .i64 qw.To)])] ⟨[], []⟩ (Is (base_Window_R qw r)) := by
  unfold base_Window at hF
  refine holds_of_awp hΓ (fn := f40) (c := cB f40) (A := 0) (nx := 0) (by kernel_rfl) (by kernel_rfl) (by kernel_rfl) (by kernel_rfl) (by kernel_rfl) (by kernel_rfl) (lowc_of (by kernel_rfl)) ?_
  show Awp prog 0 14 (cB f40) _ _
  refine awp_seq ?_
  refine awp_region ?_
  refine aR 2 ?_
  refine aE ?_
  refine awp_seq ?_
  refine awp_to (st' := base_Window_x1_I qw) (oT [] []) ?_
  refine bE hF fun vx1 h3 hF => ?_
  refine awp_sub (base_Window_x1_ok qw h3) ?_
  refine awp_ret ?_
  exact oF hF [] []

/-! ### beaconfleet/series.in -/
def series_in_x1_k : Bool → AEx
  | _ => .normal

def series_in_x1_S (qw : api_Window) (qat : Int) : Bool → St
  | vx => Mem.st ⟨[], []⟩ (tl [(4, .v (.one (.d (.bool vx))))]) 0

def series_in_x1_I (qw : api_Window) (qat : Int) : St := Mem.st ⟨[], [(0, [.d (.int .i64 qw.From), .d (.int .i64 qw.To)])]⟩ (tl [(1, .v (.one (.d (.int .i64 qat)))), (2, .v (.one (.box 0 0)))]) 1

theorem series_in_x1_ok (qw : api_Window) (qat : Int) {r} (hF : series_in_x1 qw qat = some r) : Awp prog 0 15 (cL (cR (cB f41))) (Out 0 series_in_x1_k (series_in_x1_S qw qat) r) (series_in_x1_I qw qat) := by
  unfold series_in_x1 at hF
  refine cE hF (fun h1 hF => ?_) fun h1 hF => ?_
  · refine awp_region ?_
    refine aR 3 ?_
    refine aB h1 ?_
    refine aR 7 ?_
    refine aE ?_
    exact oO hF [] [] rfl
  · refine awp_region ?_
    refine aR 3 ?_
    refine aB h1 ?_
    refine aR 7 ?_
    refine aE ?_
    exact oO hF [] [] rfl

def series_in_R (qw : api_Window) (qat : Int) (r : Bool) : TV × Mem := (.v (.one (.d (.bool r))), ⟨[], []⟩)

theorem series_in_ok {qw : api_Window} {qat : Int} {r} (hF : series_in qw qat = some r) : Holds prog 41 [.v (.agg [.d (.int .i64 qw.From), .d (.int .i64 qw.To)]), .v (.one (.d (.int .i64 qat)))] ⟨[], []⟩ (Is (series_in_R qw qat r)) := by
  unfold series_in at hF
  refine holds_of_awp hΓ (fn := f41) (c := cB f41) (A := 0) (nx := 0) (by kernel_rfl) (by kernel_rfl) (by kernel_rfl) (by kernel_rfl) (by kernel_rfl) (by kernel_rfl) (lowc_of (by kernel_rfl)) ?_
  show Awp prog 0 15 (cB f41) _ _
  refine awp_seq ?_
  refine awp_region ?_
  refine aR 2 ?_
  refine aE ?_
  refine awp_seq ?_
  refine awp_to (st' := series_in_x1_I qw qat) (oT [] []) ?_
  refine bE hF fun vx1 h2 hF => ?_
  refine awp_sub (series_in_x1_ok qw qat h2) ?_
  refine awp_ret ?_
  exact oF hF [] []

/-! ### beaconfleet/series.Of -/
def series_Of_x1_k : Bool → AEx
  | _ => .normal

def series_Of_x1_S (ql : List api_Sample) (qdevice : List UInt8) (qmetric : List UInt8) (qw : api_Window) : Bool → St
  | vx => Mem.st ⟨[], [(0, [.d (.int .i64 qw.From), .d (.int .i64 qw.To)])]⟩ (tl [(0, .v (.one (.d (.lst (List.map api_Sample.enc ql))))), (1, .v (.one (.d (.str qdevice)))), (2, .v (.one (.d (.str qmetric)))), (7, .v (.one (.box 0 0))), (19, .v (.one (.d (.bool vx))))]) 1

def series_Of_x1_I (ql : List api_Sample) (qdevice : List UInt8) (qmetric : List UInt8) (qw : api_Window) : St := Mem.st ⟨[], [(0, [.d (.int .i64 qw.From), .d (.int .i64 qw.To)])]⟩ (tl [(0, .v (.one (.d (.lst (List.map api_Sample.enc ql))))), (1, .v (.one (.d (.str qdevice)))), (2, .v (.one (.d (.str qmetric)))), (7, .v (.one (.box 0 0)))]) 1

theorem series_Of_x1_ok (ql : List api_Sample) (qdevice : List UInt8) (qmetric : List UInt8) (qw : api_Window) {r} (hF : series_Of_x1 qdevice qmetric = some r) : Awp prog 0 60 (cL (cL (cL (cR (cR (cB f13)))))) (Out 0 series_Of_x1_k (series_Of_x1_S ql qdevice qmetric qw) r) (series_Of_x1_I ql qdevice qmetric qw) := by
  unfold series_Of_x1 at hF
  refine bE hF fun vr h3 hF => ?_
  refine cE hF (fun h4 hF => ?_) fun h4 hF => ?_
  · refine awp_region ?_
    refine aR 1 ?_
    refine aC (base_Key_ok h3) [] [] [] ?_
    refine aB h4 ?_
    refine aR 6 ?_
    refine aE ?_
    exact oO hF [] [] rfl
  · refine bE hF fun vr1 h5 hF => ?_
    refine awp_region ?_
    refine aR 1 ?_
    refine aC (base_Key_ok h3) [] [] [] ?_
    refine aB h4 ?_
    refine aR 2 ?_
    refine aC (base_Key_ok h5) [] [] [] ?_
    refine aR 3 ?_
    refine aE ?_
    exact oO hF [] [] rfl

def series_Of_x4_k : Bool → AEx
  | _ => .normal

def series_Of_x4_S (ql : List api_Sample) (qdevice : List UInt8) (qmetric : List UInt8) (qw : api_Window) (vout : List api_Sample) (vx2 : Int) (vy1 : api_Sample) : Bool → St
  | vx4 => Mem.st ⟨[(2, ⟨32, 4, List.map api_Sample.enc vout⟩)], [(0, [.d (.int .i64 qw.From), .d (.int .i64 qw.To)]), (1, [.d (.str vy1.Device), .d (.str vy1.Metric), .d (.int .i64 vy1.At), .d (.int .i64 vy1.Value)])]⟩ (tl [(1, .v (.one (.d (.str qdevice)))), (2, .v (.one (.d (.str qmetric)))), (7, .v (.one (.box 0 0))), (11, .v (.one (.own 2 none))), (13, .v (.one (.box 1 0))), (32, .v (.one (.d (.lst (List.map api_Sample.enc ql))))), (33, .v (.one (.d (.int .i64 (ql.length : Int))))), (34, .v (.one (.d (.int .i64 vx2)))), (53, .v (.one (.d (.bool vx4))))]) 3

def series_Of_x4_I (ql : List api_Sample) (qdevice : List UInt8) (qmetric : List UInt8) (qw : api_Window) (vout : List api_Sample) (vx2 : Int) (vy1 : api_Sample) : St := Mem.st ⟨[(2, ⟨32, 4, List.map api_Sample.enc vout⟩)], [(0, [.d (.int .i64 qw.From), .d (.int .i64 qw.To)]), (1, [.d (.str vy1.Device), .d (.str vy1.Metric), .d (.int .i64 vy1.At), .d (.int .i64 vy1.Value)])]⟩ (tl [(1, .v (.one (.d (.str qdevice)))), (2, .v (.one (.d (.str qmetric)))), (7, .v (.one (.box 0 0))), (11, .v (.one (.own 2 none))), (13, .v (.one (.box 1 0))), (32, .v (.one (.d (.lst (List.map api_Sample.enc ql))))), (33, .v (.one (.d (.int .i64 (ql.length : Int))))), (34, .v (.one (.d (.int .i64 vx2))))]) 3

theorem series_Of_x4_ok (ql : List api_Sample) (qdevice : List UInt8) (qmetric : List UInt8) (qw : api_Window) (vout : List api_Sample) (vx2 : Int) (vy1 : api_Sample) {r} (hF : series_Of_x4 qdevice qmetric qw vy1 = some r) : Awp prog 0 60 (cL (cR (cL (cL (cR (cR (cL (cL (cR (cL (cR (cR (cR (cR (cB f13))))))))))))))) (Out 0 series_Of_x4_k (series_Of_x4_S ql qdevice qmetric qw vout vx2 vy1) r) (series_Of_x4_I ql qdevice qmetric qw vout vx2 vy1) := by
  unfold series_Of_x4 at hF
  refine cE hF (fun h12 hF => ?_) fun h12 hF => ?_
  · refine cE hF (fun h13 hF => ?_) fun h13 hF => ?_
    · refine bE hF fun vr3 h14 hF => ?_
      refine awp_region ?_
      refine aR 3 ?_
      refine aB h12 ?_
      refine aR 4 ?_
      refine aB h13 ?_
      refine aR 5 ?_
      refine aC (series_in_ok h14) [] [] [] ?_
      refine aR 1 ?_
      refine aE ?_
      exact oO hF [] [] rfl
    · refine awp_region ?_
      refine aR 3 ?_
      refine aB h12 ?_
      refine aR 4 ?_
      refine aB h13 ?_
      refine aR 7 ?_
      refine aE ?_
      exact oO hF [] [] rfl
  · refine awp_region ?_
    refine aR 3 ?_
    refine aB h12 ?_
    refine aR 12 ?_
    refine aE ?_
    exact oO hF [] [] rfl

def series_Of_x3_k : (List api_Sample) → AEx
  | _ => .normal

def series_Of_x3_S (ql : List api_Sample) (qdevice : List UInt8) (qmetric : List UInt8) (qw : api_Window) (vout : List api_Sample) (vx2 : Int) : (List api_Sample) → St
  | vout2 => Mem.st ⟨[(1, ⟨32, 4, List.map api_Sample.enc vout2⟩)], [(0, [.d (.int .i64 qw.From), .d (.int .i64 qw.To)])]⟩ (tl [(1, .v (.one (.d (.str qdevice)))), (2, .v (.one (.d (.str qmetric)))), (7, .v (.one (.box 0 0))), (11, .v (.one (.own 1 none))), (32, .v (.one (.d (.lst (List.map api_Sample.enc ql))))), (33, .v (.one (.d (.int .i64 (ql.length : Int))))), (34, .v (.one (.d (.int .i64 vx2))))]) 2

def series_Of_x3_I (ql : List api_Sample) (qdevice : List UInt8) (qmetric : List UInt8) (qw : api_Window) (vout : List api_Sample) (vx2 : Int) : St := Mem.st ⟨[(1, ⟨32, 4, List.map api_Sample.enc vout⟩)], [(0, [.d (.int .i64 qw.From), .d (.int .i64 qw.To)])]⟩ (tl [(1, .v (.one (.d (.str qdevice)))), (2, .v (.one (.d (.str qmetric)))), (7, .v (.one (.box 0 0))), (11, .v (.one (.own 1 none))), (32, .v (.one (.d (.lst (List.map api_Sample.enc ql))))), (33, .v (.one (.d (.int .i64 (ql.length : Int))))), (34, .v (.one (.d (.int .i64 vx2))))]) 2

theorem series_Of_x3_ok (ql : List api_Sample) (qdevice : List UInt8) (qmetric : List UInt8) (qw : api_Window) (vout : List api_Sample) (vx2 : Int) {r} (hF : series_Of_x3 ql qdevice qmetric qw vout vx2 = some r) : Awp prog 0 60 (cL (cR (cR (cL (cL (cR (cL (cR (cR (cR (cR (cB f13)))))))))))) (Out 0 series_Of_x3_k (series_Of_x3_S ql qdevice qmetric qw vout vx2) r) (series_Of_x3_I ql qdevice qmetric qw vout vx2) := by
  unfold series_Of_x3 at hF
  refine awp_block ?_
  refine awp_seq ?_
  refine bE hF fun vy1 h11 hF => ?_
  refine awp_region ?_
  refine aX (x_idx api_Sample.enc h11) ?_
  refine aR 3 ?_
  refine aE ?_
  refine awp_seq ?_
  refine awp_to (st' := series_Of_x4_I ql qdevice qmetric qw vout vx2 vy1) (oT [(1, 2002), (2, 1)] []) ?_
  refine bE hF fun vx4_1 h15 hF => ?_
  refine awp_sub (series_Of_x4_ok ql qdevice qmetric qw vout vx2 vy1 h15) ?_
  refine cE hF (fun h16 hF => ?_) fun h16 hF => ?_
  · refine awp_true (by kernel_rfl) h16 ?_
    refine gE hF fun h17 hF => ?_
    refine awp_region ?_
    refine aR 3 ?_
    refine aX (x_app api_Sample.enc 2 h17) ?_
    refine aR 1 ?_
    refine aE ?_
    exact oO hF [(1, 3003)] [] rfl
  · refine awp_false (by kernel_rfl) h16 ?_
    refine awp_skip ?_
    exact oO hF [(1, 2)] [] rfl

def series_Of_x2_k : (List api_Sample) → AEx
  | _ => .exit 1

def series_Of_x2_S (ql : List api_Sample) (qdevice : List UInt8) (qmetric : List UInt8) (qw : api_Window) : (List api_Sample) → St
  | vout3 => Mem.st ⟨[(0, ⟨32, 4, List.map api_Sample.enc vout3⟩)], []⟩ (tl [(11, .v (.one (.own 0 none)))]) 1

def series_Of_x2_H (ql : List api_Sample) (qdevice : List UInt8) (qmetric : List UInt8) (qw : api_Window) : (List api_Sample) × Int → St
  | (vout, vx2) => Mem.st ⟨[(1, ⟨32, 4, List.map api_Sample.enc vout⟩)], [(0, [.d (.int .i64 qw.From), .d (.int .i64 qw.To)])]⟩ (tl [(1, .v (.one (.d (.str qdevice)))), (2, .v (.one (.d (.str qmetric)))), (7, .v (.one (.box 0 0))), (11, .v (.one (.own 1 none))), (32, .v (.one (.d (.lst (List.map api_Sample.enc ql))))), (33, .v (.one (.d (.int .i64 (ql.length : Int))))), (34, .v (.one (.d (.int .i64 vx2))))]) 2

theorem series_Of_x2_ok (ql : List api_Sample) (qdevice : List UInt8) (qmetric : List UInt8) (qw : api_Window) (s : (List api_Sample) × Int) (r : ((List api_Sample) × Int) ⊕ ((List api_Sample))) (hF : series_Of_x2 ql qdevice qmetric qw s = some r) : Awp prog 0 60 (cL (cL (cR (cL (cR (cR (cR (cR (cB f13))))))))) (Out 0 (kk series_Of_x2_k) (SS (series_Of_x2_H ql qdevice qmetric qw) (series_Of_x2_S ql qdevice qmetric qw)) r) (series_Of_x2_H ql qdevice qmetric qw s) := by
  obtain ⟨vout, vx2⟩ := s
  unfold series_Of_x2 at hF
  refine awp_seq ?_
  refine awp_region ?_
  refine aR 1 ?_
  refine aE ?_
  refine awp_seq ?_
  refine cE hF (fun h10 hF => ?_) fun h10 hF => ?_
  · refine awp_true (by kernel_rfl) h10 ?_
    refine awp_skip ?_
    refine awp_seq ?_
    refine awp_to (st' := series_Of_x3_I ql qdevice qmetric qw vout vx2) (oT [] []) ?_
    refine bE hF fun vout2_1 h18 hF => ?_
    refine awp_sub (series_Of_x3_ok ql qdevice qmetric qw vout vx2 h18) ?_
    refine awp_region ?_
    refine aR 2 ?_
    refine aE ?_
    exact oO hF [] [] rfl
  · refine awp_false (by kernel_rfl) h10 ?_
    refine awp_exit ?_
    exact oO hF [(0, 1)] [] rfl

def series_Of_R (ql : List api_Sample) (qdevice : List UInt8) (qmetric : List UInt8) (qw : api_Window) (r : (List api_Sample) × Int) : TV × Mem := (.tup [.one (.own 0 none), .one (.d (.int .i64 r.2))], ⟨[(0, ⟨32, 4, List.map api_Sample.enc r.1⟩)], []⟩)

theorem series_Of_ok {ql : List api_Sample} {qdevice : List UInt8} {qmetric : List UInt8} {qw : api_Window} {r} (hF : series_Of ql qdevice qmetric qw = some r) : Holds prog 13 [.v (.one (.d (.lst (List.map api_Sample.enc ql)))), .v (.one (.d (.str qdevice))), .v (.one (.d (.str qmetric))), .v (.agg [.d (.int .i64 qw.From), .d (.int .i64 qw.To)])] ⟨[], []⟩ (Is (series_Of_R ql qdevice qmetric qw r)) := by
  unfold series_Of at hF
  refine holds_of_awp hΓ (fn := f13) (c := cB f13) (A := 0) (nx := 0) (by kernel_rfl) (by kernel_rfl) (by kernel_rfl) (by kernel_rfl) (by kernel_rfl) (by kernel_rfl) (lowc_of (by kernel_rfl)) ?_
  show Awp prog 0 60 (cB f13) _ _
  refine awp_seq ?_
  refine awp_region ?_
  refine aR 3 ?_
  refine aE ?_
  refine awp_seq ?_
  refine awp_seq ?_
  refine bE hF fun vr6 h1 hF => ?_
  refine awp_region ?_
  refine aR 1 ?_
  refine aC (series_Check_ok h1) [] [] [] ?_
  refine aR 1 ?_
  refine aE ?_
  refine awp_seq ?_
  refine awp_region ?_
  refine aR 2 ?_
  refine aE ?_
  refine cE hF (fun h2 hF => ?_) fun h2 hF => ?_
  · refine awp_true (by kernel_rfl) h2 ?_
    refine awp_seq ?_
    refine awp_region ?_
    refine aR 3 ?_
    refine aE ?_
    refine awp_ret ?_
    exact oF hF [] [0]
  · refine awp_false (by kernel_rfl) h2 ?_
    refine awp_skip ?_
    refine awp_seq ?_
    refine awp_block ?_
    refine awp_seq ?_
    refine awp_to (st' := series_Of_x1_I ql qdevice qmetric qw) (oT [] []) ?_
    refine bE hF fun vx1 h6 hF => ?_
    refine awp_sub (series_Of_x1_ok ql qdevice qmetric qw h6) ?_
    refine cE hF (fun h7 hF => ?_) fun h7 hF => ?_
    · refine awp_true (by kernel_rfl) h7 ?_
      refine awp_seq ?_
      refine awp_region ?_
      refine aR 2 ?_
      refine aE ?_
      refine awp_ret ?_
      exact oF hF [] [0]
    · refine awp_false (by kernel_rfl) h7 ?_
      refine awp_seq ?_
      refine bE hF fun vr1_1 h8 hF => ?_
      refine awp_region ?_
      refine aR 1 ?_
      refine aC (base_Window_ok h8) [] [] [] ?_
      refine aR 2 ?_
      refine aE ?_
      refine cE hF (fun h9 hF => ?_) fun h9 hF => ?_
      · refine awp_true (by kernel_rfl) h9 ?_
        refine awp_seq ?_
        refine awp_region ?_
        refine aR 2 ?_
        refine aE ?_
        refine awp_ret ?_
        exact oF hF [] [0]
      · refine awp_false (by kernel_rfl) h9 ?_
        refine awp_skip ?_
        refine awp_seq ?_
        refine awp_region ?_
        refine aR 1 ?_
        refine aE ?_
        refine awp_seq ?_
        refine awp_seq ?_
        refine awp_region ?_
        refine aR 1 ?_
        refine aL api_Sample.enc ql ?_
        refine aR 1 ?_
        refine aE ?_
        refine awp_block ?_
        refine awp_to (st' := series_Of_x2_H ql qdevice qmetric qw ([], 0)) (oT [] [1]) ?_
        refine bE hF fun vout3_1 h19 hF => ?_
        refine awp_sub (awp_loop' (series_Of_x2_H ql qdevice qmetric qw) series_Of_x2_k (series_Of_x2_S ql qdevice qmetric qw) (by intro x; exact fun h => nomatch h) h19 (series_Of_x2_ok ql qdevice qmetric qw)) ?_
        refine awp_seq ?_
        refine awp_region ?_
        refine aR 3 ?_
        refine aE ?_
        refine awp_ret ?_
        exact oF hF [] []

/-! ### beaconfleet/fleetref2.in -/
def fleetref2_in_x1_k : Bool → AEx
  | _ => .normal

def fleetref2_in_x1_S (qn : Int) (qlow : Int) (qhigh : Int) : Bool → St
  | vx => Mem.st ⟨[], []⟩ (tl [(6, .v (.one (.d (.bool vx))))]) 0

def fleetref2_in_x1_I (qn : Int) (qlow : Int) (qhigh : Int) : St := Mem.st ⟨[], []⟩ (tl [(0, .v (.one (.d (.int .i64 qn)))), (1, .v (.one (.d (.int .i64 qlow)))), (2, .v (.one (.d (.int .i64 qhigh))))]) 0

theorem fleetref2_in_x1_ok (qn : Int) (qlow : Int) (qhigh : Int) {r} (hF : fleetref2_in_x1 qn qlow qhigh = some r) : Awp prog 0 15 (cL (cR (cB f43))) (Out 0 fleetref2_in_x1_k (fleetref2_in_x1_S qn qlow qhigh) r) (fleetref2_in_x1_I qn qlow qhigh) := by
  unfold fleetref2_in_x1 at hF
  refine cE hF (fun h1 hF => ?_) fun h1 hF => ?_
  · refine awp_region ?_
    refine aR 2 ?_
    refine aB h1 ?_
    refine aR 6 ?_
    refine aE ?_
    exact oO hF [] [] rfl
  · refine awp_region ?_
    refine aR 2 ?_
    refine aB h1 ?_
    refine aR 6 ?_
    refine aE ?_
    exact oO hF [] [] rfl

def fleetref2_in_R (qn : Int) (qlow : Int) (qhigh : Int) (r : Bool) : TV × Mem := (.v (.one (.d (.bool r))), ⟨[], []⟩)

theorem fleetref2_in_ok {qn : Int} {qlow : Int} {qhigh : Int} {r} (hF : fleetref2_in qn qlow qhigh = some r) : Holds prog 43 [.v (.one (.d (.int .i64 qn))), .v (.one (.d (.int .i64 qlow))), .v (.one (.d (.int .i64 qhigh)))] ⟨[], []⟩ (Is (fleetref2_in_R qn qlow qhigh r)) := by
  unfold fleetref2_in at hF
  refine holds_of_awp hΓ (fn := f43) (c := cB f43) (A := 0) (nx := 0) (by kernel_rfl) (by kernel_rfl) (by kernel_rfl) (by kernel_rfl) (by kernel_rfl) (by kernel_rfl) (lowc_of (by kernel_rfl)) ?_
  show Awp prog 0 15 (cB f43) _ _
  refine awp_seq ?_
  refine awp_region ?_
  refine aR 1 ?_
  refine aE ?_
  refine awp_seq ?_
  refine awp_to (st' := fleetref2_in_x1_I qn qlow qhigh) (oT [] []) ?_
  refine bE hF fun vx1 h2 hF => ?_
  refine awp_sub (fleetref2_in_x1_ok qn qlow qhigh h2) ?_
  refine awp_ret ?_
  exact oF hF [] []

/-! ### internal/stringslite.IndexByte -/
def stringslite_IndexByte_R (qs : List UInt8) (qc : Int) (r : Unit) : TV × Mem := (.v (.one (.d (.int .i64 (Lib.indexByte qs qc.toNat.toUInt8)))), ⟨[], []⟩)

theorem stringslite_IndexByte_ok {qs : List UInt8} {qc : Int} {r} (hF : stringslite_IndexByte qs qc = some r) : Holds prog 81 [.v (.one (.d (.str qs))), .v (.one (.d (.int .u8 qc)))] ⟨[], []⟩ (Is (stringslite_IndexByte_R qs qc r)) := by
  unfold stringslite_IndexByte at hF
  refine holds_of_awp hΓ (fn := f81) (c := cB f81) (A := 0) (nx := 0) (by kernel_rfl) (by kernel_rfl) (by kernel_rfl) (by kernel_rfl) (by kernel_rfl) (by kernel_rfl) (lowc_of (by kernel_rfl)) ?_
  show Awp prog 0 8 (cB f81) _ _
  refine awp_seq ?_
  refine awp_region ?_
  refine aR 1 ?_
  refine aE ?_
  refine awp_seq ?_
  refine awp_region ?_
  refine aR 2 ?_
  refine aS (does_indexByte (g := 92) (fn := f92) (a := qs) (c := qc) rfl (by kernel_rfl) (by kernel_rfl) (by kernel_rfl) (by kernel_rfl) (by kernel_rfl) (by kernel_rfl)) ?_
  refine aR 1 ?_
  refine aE ?_
  refine awp_ret ?_
  exact oF hF [] []

/-! ### strings.IndexByte -/
def strings_IndexByte_R (qs : List UInt8) (qc : Int) (r : Unit) : TV × Mem := (.v (.one (.d (.int .i64 (Lib.indexByte qs qc.toNat.toUInt8)))), ⟨[], []⟩)

theorem strings_IndexByte_ok {qs : List UInt8} {qc : Int} {r} (hF : strings_IndexByte qs qc = some r) : Holds prog 65 [.v (.one (.d (.str qs))), .v (.one (.d (.int .u8 qc)))] ⟨[], []⟩ (Is (strings_IndexByte_R qs qc r)) := by
  unfold strings_IndexByte at hF
  refine holds_of_awp hΓ (fn := f65) (c := cB f65) (A := 0) (nx := 0) (by kernel_rfl) (by kernel_rfl) (by kernel_rfl) (by kernel_rfl) (by kernel_rfl) (by kernel_rfl) (lowc_of (by kernel_rfl)) ?_
  show Awp prog 0 8 (cB f65) _ _
  refine awp_seq ?_
  refine awp_region ?_
  refine aR 1 ?_
  refine aE ?_
  refine awp_seq ?_
  refine bE hF fun _ h1 hF => ?_
  refine awp_region ?_
  refine aR 2 ?_
  refine aC (stringslite_IndexByte_ok h1) [] [] [] ?_
  refine aR 1 ?_
  refine aE ?_
  refine awp_ret ?_
  exact oF hF [] []

/-! ### beaconfleet/fleetref2.only -/
def fleetref2_only_x1_k : Unit ⊕ Unit → AEx
  | .inl _ => .exit 0
  | .inr _ => .ret

def fleetref2_only_x1_S (qs : List UInt8) (qsome : List UInt8) : Unit ⊕ Unit → St
  | .inl _ => Mem.st ⟨[], []⟩ (tl []) 0
  | .inr _ => Mem.st ⟨[], []⟩ (tl [(4, .v (.one (.d (.bool false))))]) 0

def fleetref2_only_x1_H (qs : List UInt8) (qsome : List UInt8) : Int → St
  | vx => Mem.st ⟨[], []⟩ (tl [(0, .v (.one (.d (.str qs)))), (1, .v (.one (.d (.str qsome)))), (7, .v (.one (.d (.int .i64 (qs.length : Int))))), (8, .v (.one (.d (.int .i64 vx))))]) 0

theorem fleetref2_only_x1_ok (qs : List UInt8) (qsome : List UInt8) (vx : Int) (r : (Int) ⊕ (Unit ⊕ Unit)) (hF : fleetref2_only_x1 qs qsome vx = some r) : Awp prog 0 18 (cL (cL (cR (cL (cR (cB f49)))))) (Out 0 (kk fleetref2_only_x1_k) (SS (fleetref2_only_x1_H qs qsome) (fleetref2_only_x1_S qs qsome)) r) (fleetref2_only_x1_H qs qsome vx) := by
  unfold fleetref2_only_x1 at hF
  refine awp_seq ?_
  refine awp_region ?_
  refine aR 1 ?_
  refine aE ?_
  refine awp_seq ?_
  refine cE hF (fun h1 hF => ?_) fun h1 hF => ?_
  · refine awp_true (by kernel_rfl) h1 ?_
    refine awp_skip ?_
    refine awp_seq ?_
    refine awp_block ?_
    refine awp_seq ?_
    refine awp_region ?_
    refine aR 2 ?_
    refine aE ?_
    refine awp_seq ?_
    refine bE hF fun vc1 h2 hF => ?_
    refine bE hF fun _ h3 hF => ?_
    refine awp_region ?_
    refine aR 3 ?_
    refine aX (x_idxS h2) ?_
    refine aC (strings_IndexByte_ok h3) [] [] [] ?_
    refine aR 1 ?_
    refine aE ?_
    refine cE hF (fun h4 hF => ?_) fun h4 hF => ?_
    · refine awp_true (by kernel_rfl) h4 ?_
      refine awp_seq ?_
      refine awp_region ?_
      refine aR 1 ?_
      refine aE ?_
      refine awp_ret ?_
      exact oO hF [] [] rfl
    · refine awp_false (by kernel_rfl) h4 ?_
      refine awp_skip ?_
      refine awp_region ?_
      refine aR 2 ?_
      refine aE ?_
      exact oO hF [] [] rfl
  · refine awp_false (by kernel_rfl) h1 ?_
    refine awp_exit ?_
    exact oO hF [] [] rfl

def fleetref2_only_R (qs : List UInt8) (qsome : List UInt8) (r : Bool) : TV × Mem := (.v (.one (.d (.bool r))), ⟨[], []⟩)

theorem fleetref2_only_ok {qs : List UInt8} {qsome : List UInt8} {r} (hF : fleetref2_only qs qsome = some r) : Holds prog 49 [.v (.one (.d (.str qs))), .v (.one (.d (.str qsome)))] ⟨[], []⟩ (Is (fleetref2_only_R qs qsome r)) := by
  unfold fleetref2_only at hF
  refine holds_of_awp hΓ (fn := f49) (c := cB f49) (A := 0) (nx := 0) (by kernel_rfl) (by kernel_rfl) (by kernel_rfl) (by kernel_rfl) (by kernel_rfl) (by kernel_rfl) (lowc_of (by kernel_rfl)) ?_
  show Awp prog 0 18 (cB f49) _ _
  refine awp_seq ?_
  refine awp_region ?_
  refine aR 1 ?_
  refine aE ?_
  refine awp_seq ?_
  refine awp_seq ?_
  refine awp_region ?_
  refine aR 3 ?_
  refine aE ?_
  refine awp_block ?_
  refine awp_to (st' := fleetref2_only_x1_H qs qsome 0) (oT [] []) ?_
  refine bE hF fun x h5 hF => ?_
  rcases x with _ | _
  · refine awp_sub (awp_loop' (fleetref2_only_x1_H qs qsome) fleetref2_only_x1_k (fleetref2_only_x1_S qs qsome) (by intro x; rcases x with x | x <;> exact fun h => nomatch h) h5 (fleetref2_only_x1_ok qs qsome)) ?_
    refine awp_seq ?_
    refine awp_region ?_
    refine aR 1 ?_
    refine aE ?_
    refine awp_ret ?_
    exact oF hF [] []
  · refine awp_sub (awp_loop' (fleetref2_only_x1_H qs qsome) fleetref2_only_x1_k (fleetref2_only_x1_S qs qsome) (by intro x; rcases x with x | x <;> exact fun h => nomatch h) h5 (fleetref2_only_x1_ok qs qsome)) ?_
    exact oF hF [] []

/-! ### beaconfleet/fleetref2.Key -/
def fleetref2_Key_x1_k : Bool → AEx
  | _ => .normal

def fleetref2_Key_x1_S (qs : List UInt8) : Bool → St
  | vx => Mem.st ⟨[], []⟩ (tl [(2, .v (.one (.d (.bool vx))))]) 0

def fleetref2_Key_x1_I (qs : List UInt8) : St := Mem.st ⟨[], []⟩ (tl [(0, .v (.one (.d (.str qs))))]) 0

theorem fleetref2_Key_x1_ok (qs : List UInt8) {r} (hF : fleetref2_Key_x1 qs = some r) : Awp prog 0 15 (cL (cR (cB f20))) (Out 0 fleetref2_Key_x1_k (fleetref2_Key_x1_S qs) r) (fleetref2_Key_x1_I qs) := by
  unfold fleetref2_Key_x1 at hF
  refine bE hF fun vr h1 hF => ?_
  refine cE hF (fun h2 hF => ?_) fun h2 hF => ?_
  · refine bE hF fun vs h3 hF => ?_
    refine bE hF fun vr1 h4 hF => ?_
    refine cE hF (fun h5 hF => ?_) fun h5 hF => ?_
    · refine bE hF fun vr2 h6 hF => ?_
      refine awp_region ?_
      refine aR 2 ?_
      refine aCb (fleetref2_in_ok h1) [] [] [] h2 ?_
      refine aR 2 ?_
      refine aX (x_sliceS h3) ?_
      refine aCb (fleetref2_only_ok h4) [] [] [] h5 ?_
      refine aR 3 ?_
      refine aC (fleetref2_only_ok h6) [] [] [] ?_
      refine aR 2 ?_
      refine aE ?_
      exact oO hF [] [] rfl
    · refine awp_region ?_
      refine aR 2 ?_
      refine aCb (fleetref2_in_ok h1) [] [] [] h2 ?_
      refine aR 2 ?_
      refine aX (x_sliceS h3) ?_
      refine aCb (fleetref2_only_ok h4) [] [] [] h5 ?_
      refine aR 6 ?_
      refine aE ?_
      exact oO hF [] [] rfl
  · refine awp_region ?_
    refine aR 2 ?_
    refine aCb (fleetref2_in_ok h1) [] [] [] h2 ?_
    refine aR 10 ?_
    refine aE ?_
    exact oO hF [] [] rfl

def fleetref2_Key_R (qs : List UInt8) (r : Bool) : TV × Mem := (.v (.one (.d (.bool r))), ⟨[], []⟩)

theorem fleetref2_Key_ok {qs : List UInt8} {r} (hF : fleetref2_Key qs = some r) : Holds prog 20 [.v (.one (.d (.str qs)))] ⟨[], []⟩ (Is (fleetref2_Key_R qs r)) := by
  unfold fleetref2_Key at hF
  refine holds_of_awp hΓ (fn := f20) (c := cB f20) (A := 0) (nx := 0) (by kernel_rfl) (by kernel_rfl) (by kernel_rfl) (by kernel_rfl) (by kernel_rfl) (by kernel_rfl) (lowc_of (by kernel_rfl)) ?_
  show Awp prog 0 15 (cB f20) _ _
  refine awp_seq ?_
  refine awp_region ?_
  refine aR 1 ?_
  refine aE ?_
  refine awp_seq ?_
  refine awp_to (st' := fleetref2_Key_x1_I qs) (oT [] []) ?_
  refine bE hF fun vx1 h7 hF => ?_
  refine awp_sub (fleetref2_Key_x1_ok qs h7) ?_
  refine awp_ret ?_
  exact oF hF [] []

/-! ### beaconfleet/fleetref2.Moment -/
def fleetref2_Moment_R (qat : Int) (r : Bool) : TV × Mem := (.v (.one (.d (.bool r))), ⟨[], []⟩)

theorem fleetref2_Moment_ok {qat : Int} {r} (hF : fleetref2_Moment qat = some r) : Holds prog 42 [.v (.one (.d (.int .i64 qat)))] ⟨[], []⟩ (Is (fleetref2_Moment_R qat r)) := by
  unfold fleetref2_Moment at hF
  refine holds_of_awp hΓ (fn := f42) (c := cB f42) (A := 0) (nx := 0) (by kernel_rfl) (by kernel_rfl) (by kernel_rfl) (by kernel_rfl) (by kernel_rfl) (by kernel_rfl) (lowc_of (by kernel_rfl)) ?_
  show Awp prog 0 5 (cB f42) _ _
  refine awp_seq ?_
  refine awp_region ?_
  refine aR 1 ?_
  refine aE ?_
  refine awp_seq ?_
  refine bE hF fun vr h1 hF => ?_
  refine awp_region ?_
  refine aR 1 ?_
  refine aC (fleetref2_in_ok h1) [] [] [] ?_
  refine aR 1 ?_
  refine aE ?_
  refine awp_ret ?_
  exact oF hF [] []

/-! ### beaconfleet/fleetref2.SamplesFault -/
def fleetref2_SamplesFault_x2_k : Bool → AEx
  | _ => .normal

def fleetref2_SamplesFault_x2_S (ql : List api_Sample) (vx : Int) (vy2 : api_Sample) : Bool → St
  | vx4 => Mem.st ⟨[], [(0, [.d (.str vy2.Device), .d (.str vy2.Metric), .d (.int .i64 vy2.At), .d (.int .i64 vy2.Value)])]⟩ (tl [(0, .v (.one (.d (.lst (List.map api_Sample.enc ql))))), (3, .v (.one (.d (.int .i64 vx)))), (4, .v (.one (.box 0 0))), (8, .v (.one (.d (.lst (List.map api_Sample.enc ql))))), (9, .v (.one (.d (.int .i64 (ql.length : Int))))), (10, .v (.one (.d (.int .i64 vx)))), (15, .v (.one (.d (.bool vx4))))]) 1

def fleetref2_SamplesFault_x2_I (ql : List api_Sample) (vx : Int) (vy2 : api_Sample) : St := Mem.st ⟨[], [(0, [.d (.str vy2.Device), .d (.str vy2.Metric), .d (.int .i64 vy2.At), .d (.int .i64 vy2.Value)])]⟩ (tl [(0, .v (.one (.d (.lst (List.map api_Sample.enc ql))))), (3, .v (.one (.d (.int .i64 vx)))), (4, .v (.one (.box 0 0))), (8, .v (.one (.d (.lst (List.map api_Sample.enc ql))))), (9, .v (.one (.d (.int .i64 (ql.length : Int))))), (10, .v (.one (.d (.int .i64 vx))))]) 1

theorem fleetref2_SamplesFault_x2_ok (ql : List api_Sample) (vx : Int) (vy2 : api_Sample) {r} (hF : fleetref2_SamplesFault_x2 vy2 = some r) : Awp prog 0 51 (cL (cL (cR (cL (cL (cR (cR (cL (cL (cR (cL (cR (cR (cB f14)))))))))))))) (Out 0 fleetref2_SamplesFault_x2_k (fleetref2_SamplesFault_x2_S ql vx vy2) r) (fleetref2_SamplesFault_x2_I ql vx vy2) := by
  unfold fleetref2_SamplesFault_x2 at hF
  refine bE hF fun vr3_2 h4 hF => ?_
  refine cE hF (fun h5 hF => ?_) fun h5 hF => ?_
  · refine awp_region ?_
    refine aR 2 ?_
    refine aC (fleetref2_Key_ok h4) [] [] [] ?_
    refine aB h5 ?_
    refine aR 7 ?_
    refine aE ?_
    exact oO hF [] [] rfl
  · refine bE hF fun vr3_3 h6 hF => ?_
    refine awp_region ?_
    refine aR 2 ?_
    refine aC (fleetref2_Key_ok h4) [] [] [] ?_
    refine aB h5 ?_
    refine aR 3 ?_
    refine aC (fleetref2_Key_ok h6) [] [] [] ?_
    refine aR 3 ?_
    refine aE ?_
    exact oO hF [] [] rfl

def fleetref2_SamplesFault_x3_k : Bool → AEx
  | _ => .normal

def fleetref2_SamplesFault_x3_S (ql : List api_Sample) (vx : Int) (vy2 : api_Sample) : Bool → St
  | vx5 => Mem.st ⟨[], [(0, [.d (.str vy2.Device), .d (.str vy2.Metric), .d (.int .i64 vy2.At), .d (.int .i64 vy2.Value)])]⟩ (tl [(0, .v (.one (.d (.lst (List.map api_Sample.enc ql))))), (3, .v (.one (.d (.int .i64 vx)))), (4, .v (.one (.box 0 0))), (8, .v (.one (.d (.lst (List.map api_Sample.enc ql))))), (9, .v (.one (.d (.int .i64 (ql.length : Int))))), (10, .v (.one (.d (.int .i64 vx)))), (26, .v (.one (.d (.bool vx5))))]) 1

def fleetref2_SamplesFault_x3_I (ql : List api_Sample) (vx : Int) (vy2 : api_Sample) : St := Mem.st ⟨[], [(0, [.d (.str vy2.Device), .d (.str vy2.Metric), .d (.int .i64 vy2.At), .d (.int .i64 vy2.Value)])]⟩ (tl [(0, .v (.one (.d (.lst (List.map api_Sample.enc ql))))), (3, .v (.one (.d (.int .i64 vx)))), (4, .v (.one (.box 0 0))), (8, .v (.one (.d (.lst (List.map api_Sample.enc ql))))), (9, .v (.one (.d (.int .i64 (ql.length : Int))))), (10, .v (.one (.d (.int .i64 vx))))]) 1

theorem fleetref2_SamplesFault_x3_ok (ql : List api_Sample) (vx : Int) (vy2 : api_Sample) {r} (hF : fleetref2_SamplesFault_x3 vy2 = some r) : Awp prog 0 51 (cL (cR (cR (cL (cR (cL (cL (cR (cR (cL (cL (cR (cL (cR (cR (cB f14)))))))))))))))) (Out 0 fleetref2_SamplesFault_x3_k (fleetref2_SamplesFault_x3_S ql vx vy2) r) (fleetref2_SamplesFault_x3_I ql vx vy2) := by
  unfold fleetref2_SamplesFault_x3 at hF
  refine bE hF fun vr1_2 h9 hF => ?_
  refine cE hF (fun h10 hF => ?_) fun h10 hF => ?_
  · refine awp_region ?_
    refine aR 2 ?_
    refine aC (fleetref2_Moment_ok h9) [] [] [] ?_
    refine aB h10 ?_
    refine aR 7 ?_
    refine aE ?_
    exact oO hF [] [] rfl
  · refine bE hF fun vr2 h11 hF => ?_
    refine awp_region ?_
    refine aR 2 ?_
    refine aC (fleetref2_Moment_ok h9) [] [] [] ?_
    refine aB h10 ?_
    refine aR 3 ?_
    refine aC (fleetref2_in_ok h11) [] [] [] ?_
    refine aR 3 ?_
    refine aE ?_
    exact oO hF [] [] rfl

def fleetref2_SamplesFault_x4_k : Bool → AEx
  | _ => .normal

def fleetref2_SamplesFault_x4_S (ql : List api_Sample) (vx : Int) (vy2 : api_Sample) : Bool → St
  | vx6 => Mem.st ⟨[], []⟩ (tl [(0, .v (.one (.d (.lst (List.map api_Sample.enc ql))))), (8, .v (.one (.d (.lst (List.map api_Sample.enc ql))))), (9, .v (.one (.d (.int .i64 (ql.length : Int))))), (10, .v (.one (.d (.int .i64 vx)))), (37, .v (.one (.d (.bool vx6))))]) 0

def fleetref2_SamplesFault_x4_I (ql : List api_Sample) (vx : Int) (vy2 : api_Sample) : St := Mem.st ⟨[], [(0, [.d (.str vy2.Device), .d (.str vy2.Metric), .d (.int .i64 vy2.At), .d (.int .i64 vy2.Value)])]⟩ (tl [(0, .v (.one (.d (.lst (List.map api_Sample.enc ql))))), (3, .v (.one (.d (.int .i64 vx)))), (4, .v (.one (.box 0 0))), (8, .v (.one (.d (.lst (List.map api_Sample.enc ql))))), (9, .v (.one (.d (.int .i64 (ql.length : Int))))), (10, .v (.one (.d (.int .i64 vx))))]) 1

theorem fleetref2_SamplesFault_x4_ok (ql : List api_Sample) (vx : Int) (vy2 : api_Sample) {r} (hF : fleetref2_SamplesFault_x4 ql vx vy2 = some r) : Awp prog 0 51 (cL (cR (cR (cR (cR (cL (cR (cL (cL (cR (cR (cL (cL (cR (cL (cR (cR (cB f14)))))))))))))))))) (Out 0 fleetref2_SamplesFault_x4_k (fleetref2_SamplesFault_x4_S ql vx vy2) r) (fleetref2_SamplesFault_x4_I ql vx vy2) := by
  unfold fleetref2_SamplesFault_x4 at hF
  refine cE hF (fun h14 hF => ?_) fun h14 hF => ?_
  · refine bE hF fun vy3 h15 hF => ?_
    refine bE hF fun vr1_3 h16 hF => ?_
    refine aD ?_
    refine dR 1 ?_
    refine dB h14 ?_
    refine dR 4 ?_
    refine dX (x_idx api_Sample.enc h15) ?_
    refine dR 2 ?_
    refine dC (fleetref2_SampleOrder_ok h16) [] [] [] ?_
    refine dR 3 ?_
    refine dE ?_
    exact oO hF [] [] rfl
  · refine aD ?_
    refine dR 1 ?_
    refine dB h14 ?_
    refine dR 11 ?_
    refine dE ?_
    exact oO hF [] [] rfl

def fleetref2_SamplesFault_x1_k : Unit ⊕ Int → AEx
  | .inl _ => .exit 0
  | .inr _ => .ret

def fleetref2_SamplesFault_x1_S (ql : List api_Sample) : Unit ⊕ Int → St
  | .inl _ => Mem.st ⟨[], []⟩ (tl []) 0
  | .inr vx7 => Mem.st ⟨[], []⟩ (tl [(2, .v (.one (.d (.int .i64 vx7))))]) 0

def fleetref2_SamplesFault_x1_H (ql : List api_Sample) : Int → St
  | vx => Mem.st ⟨[], []⟩ (tl [(0, .v (.one (.d (.lst (List.map api_Sample.enc ql))))), (8, .v (.one (.d (.lst (List.map api_Sample.enc ql))))), (9, .v (.one (.d (.int .i64 (ql.length : Int))))), (10, .v (.one (.d (.int .i64 vx))))]) 0

theorem fleetref2_SamplesFault_x1_ok (ql : List api_Sample) (vx : Int) (r : (Int) ⊕ (Unit ⊕ Int)) (hF : fleetref2_SamplesFault_x1 ql vx = some r) : Awp prog 0 51 (cL (cL (cR (cL (cR (cR (cB f14))))))) (Out 0 (kk fleetref2_SamplesFault_x1_k) (SS (fleetref2_SamplesFault_x1_H ql) (fleetref2_SamplesFault_x1_S ql)) r) (fleetref2_SamplesFault_x1_H ql vx) := by
  unfold fleetref2_SamplesFault_x1 at hF
  refine awp_seq ?_
  refine awp_region ?_
  refine aR 1 ?_
  refine aE ?_
  refine awp_seq ?_
  refine cE hF (fun h2 hF => ?_) fun h2 hF => ?_
  · refine awp_true (by kernel_rfl) h2 ?_
    refine awp_skip ?_
    refine awp_seq ?_
    refine awp_block ?_
    refine awp_seq ?_
    refine bE hF fun vy2 h3 hF => ?_
    refine awp_region ?_
    refine aR 1 ?_
    refine aX (x_idx api_Sample.enc h3) ?_
    refine aR 4 ?_
    refine aE ?_
    refine awp_block ?_
    refine awp_seq ?_
    refine awp_to (st' := fleetref2_SamplesFault_x2_I ql vx vy2) (oT [(0, 4000)] []) ?_
    refine bE hF fun vx4_1 h7 hF => ?_
    refine awp_sub (fleetref2_SamplesFault_x2_ok ql vx vy2 h7) ?_
    refine cE hF (fun h8 hF => ?_) fun h8 hF => ?_
    · refine awp_true (by kernel_rfl) h8 ?_
      refine awp_seq ?_
      refine awp_region ?_
      refine aR 1 ?_
      refine aE ?_
      refine awp_ret ?_
      exact oO hF [] [] rfl
    · refine awp_false (by kernel_rfl) h8 ?_
      refine awp_seq ?_
      refine awp_to (st' := fleetref2_SamplesFault_x3_I ql vx vy2) (oT [] []) ?_
      refine bE hF fun vx5_1 h12 hF => ?_
      refine awp_sub (fleetref2_SamplesFault_x3_ok ql vx vy2 h12) ?_
      refine cE hF (fun h13 hF => ?_) fun h13 hF => ?_
      · refine awp_true (by kernel_rfl) h13 ?_
        refine awp_seq ?_
        refine awp_region ?_
        refine aR 1 ?_
        refine aE ?_
        refine awp_ret ?_
        exact oO hF [] [] rfl
      · refine awp_false (by kernel_rfl) h13 ?_
        refine awp_seq ?_
        refine awp_to (st' := fleetref2_SamplesFault_x4_I ql vx vy2) (oT [] []) ?_
        refine bE hF fun vx6_1 h17 hF => ?_
        refine awp_sub (fleetref2_SamplesFault_x4_ok ql vx vy2 h17) ?_
        refine cE hF (fun h18 hF => ?_) fun h18 hF => ?_
        · refine awp_true (by kernel_rfl) h18 ?_
          refine awp_seq ?_
          refine awp_region ?_
          refine aR 1 ?_
          refine aE ?_
          refine awp_ret ?_
          exact oO hF [] [] rfl
        · refine awp_false (by kernel_rfl) h18 ?_
          refine awp_skip ?_
          refine awp_region ?_
          refine aR 2 ?_
          refine aE ?_
          exact oO hF [] [] rfl
  · refine awp_false (by kernel_rfl) h2 ?_
    refine awp_exit ?_
    exact oO hF [] [] rfl

def fleetref2_SamplesFault_R (ql : List api_Sample) (r : Int) : TV × Mem := (.v (.one (.d (.int .i64 r))), ⟨[], []⟩)

theorem fleetref2_SamplesFault_ok {ql : List api_Sample} {r} (hF : fleetref2_SamplesFault ql = some r) : Holds prog 14 [.v (.one (.d (.lst (List.map api_Sample.enc ql))))] ⟨[], []⟩ (Is (fleetref2_SamplesFault_R ql r)) := by
  unfold fleetref2_SamplesFault at hF
  refine holds_of_awp hΓ (fn := f14) (c := cB f14) (A := 0) (nx := 0) (by kernel_rfl) (by kernel_rfl) (by kernel_rfl) (by kernel_rfl) (by kernel_rfl) (by kernel_rfl) (lowc_of (by kernel_rfl)) ?_
  show Awp prog 0 51 (cB f14) _ _
  refine awp_seq ?_
  refine awp_region ?_
  refine aR 1 ?_
  refine aE ?_
  refine awp_seq ?_
  refine awp_seq ?_
  refine awp_region ?_
  refine aR 1 ?_
  refine aL api_Sample.enc ql ?_
  refine aR 1 ?_
  refine aE ?_
  refine cE hF (fun h1 hF => ?_) fun h1 hF => ?_
  · refine awp_true (by kernel_rfl) h1 ?_
    refine awp_seq ?_
    refine awp_region ?_
    refine aR 1 ?_
    refine aE ?_
    refine awp_ret ?_
    exact oF hF [] []
  · refine awp_false (by kernel_rfl) h1 ?_
    refine awp_skip ?_
    refine awp_seq ?_
    refine awp_seq ?_
    refine awp_region ?_
    refine aR 1 ?_
    refine aL api_Sample.enc ql ?_
    refine aR 1 ?_
    refine aE ?_
    refine awp_block ?_
    refine awp_to (st' := fleetref2_SamplesFault_x1_H ql 0) (oT [] []) ?_
    refine bE hF fun x h19 hF => ?_
    rcases x with _ | vx7_1
    · refine awp_sub (awp_loop' (fleetref2_SamplesFault_x1_H ql) fleetref2_SamplesFault_x1_k (fleetref2_SamplesFault_x1_S ql) (by intro x; rcases x with x | x <;> exact fun h => nomatch h) h19 (fleetref2_SamplesFault_x1_ok ql)) ?_
      refine awp_seq ?_
      refine awp_region ?_
      refine aR 1 ?_
      refine aE ?_
      refine awp_ret ?_
      exact oF hF [] []
    · refine awp_sub (awp_loop' (fleetref2_SamplesFault_x1_H ql) fleetref2_SamplesFault_x1_k (fleetref2_SamplesFault_x1_S ql) (by intro x; rcases x with x | x <;> exact fun h => nomatch h) h19 (fleetref2_SamplesFault_x1_ok ql)) ?_
      exact oF hF [] []

/-! ### beaconfleet/series.CheckSeries$1 -/
def series_CheckSeries_1_x1_k : Bool → AEx
  | _ => .normal

def series_CheckSeries_1_x1_S (qs : api_Sample) (qx : List api_Sample) : Bool → St
  | vx => Mem.st ⟨[], [(0, [.d (.lst (List.map api_Sample.enc qx))])]⟩ (tl [(3, .v (.one (.d (.bool vx))))]) 1

def series_CheckSeries_1_x1_I (qs : api_Sample) (qx : List api_Sample) : St := Mem.st ⟨[], [(0, [.d (.lst (List.map api_Sample.enc qx))]), (1, [.d (.str qs.Device), .d (.str qs.Metric), .d (.int .i64 qs.At), .d (.int .i64 qs.Value)])]⟩ (tl [(1, .v (.one (.box 0 0))), (2, .v (.one (.box 1 0)))]) 2

theorem series_CheckSeries_1_x1_ok (qs : api_Sample) (qx : List api_Sample) {r} (hF : series_CheckSeries_1_x1 qs qx = some r) : Awp prog 1 20 (cL (cR (cB f47))) (Out 1 series_CheckSeries_1_x1_k (series_CheckSeries_1_x1_S qs qx) r) (series_CheckSeries_1_x1_I qs qx) := by
  unfold series_CheckSeries_1_x1 at hF
  refine bE hF fun vy h1 hF => ?_
  refine cE hF (fun h2 hF => ?_) fun h2 hF => ?_
  · refine aD ?_
    refine dR 3 ?_
    refine dX (x_idx api_Sample.enc h1) ?_
    refine dR 2 ?_
    refine dB h2 ?_
    refine dR 10 ?_
    refine dE ?_
    exact oO hF [] [] rfl
  · refine aD ?_
    refine dR 3 ?_
    refine dX (x_idx api_Sample.enc h1) ?_
    refine dR 2 ?_
    refine dB h2 ?_
    refine dR 4 ?_
    refine dX (x_idx api_Sample.enc h1) ?_
    refine dR 5 ?_
    refine dE ?_
    exact oO hF [] [] rfl

def series_CheckSeries_1_R (qs : api_Sample) (qx : List api_Sample) (r : Bool) : TV × Mem := (.v (.one (.d (.bool r))), ⟨[], [(0, [.d (.lst (List.map api_Sample.enc qx))])]⟩)

theorem series_CheckSeries_1_ok {qs : api_Sample} {qx : List api_Sample} {r} (hF : series_CheckSeries_1 qs qx = some r) : Holds prog 47 [.v (.agg [.d (.str qs.Device), .d (.str qs.Metric), .d (.int .i64 qs.At), .d (.int .i64 qs.Value)]), .v (.one (.box 0 0))] ⟨[], [(0, [.d (.lst (List.map api_Sample.enc qx))])]⟩ (Is (series_CheckSeries_1_R qs qx r)) := by
  unfold series_CheckSeries_1 at hF
  refine holds_of_awp hΓ (fn := f47) (c := cB f47) (A := 1) (nx := 1) (by kernel_rfl) (by kernel_rfl) (by kernel_rfl) (by kernel_rfl) (by kernel_rfl) (by kernel_rfl) (lowc_of (by kernel_rfl)) ?_
  show Awp prog 1 20 (cB f47) _ _
  refine awp_seq ?_
  refine awp_region ?_
  refine aR 2 ?_
  refine aE ?_
  refine awp_seq ?_
  refine awp_to (st' := series_CheckSeries_1_x1_I qs qx) (oT [] []) ?_
  refine bE hF fun vx1 h3 hF => ?_
  refine awp_sub (series_CheckSeries_1_x1_ok qs qx h3) ?_
  refine awp_ret ?_
  exact oF hF [] []

/-! ### slices.IndexFunc[[]beaconfleet/api.Sample,beaconfleet/api.Sample] -/
def slices_IndexFunc_api_Sample_api_Sample_f1_series_CheckSeries_1_x1_k : Unit ⊕ Int → AEx
  | .inl _ => .exit 0
  | .inr _ => .ret

def slices_IndexFunc_api_Sample_api_Sample_f1_series_CheckSeries_1_x1_S (qs : List api_Sample) : Unit ⊕ Int → St
  | .inl _ => Mem.st ⟨[], [(0, [.d (.lst (List.map api_Sample.enc qs))])]⟩ (tl []) 1
  | .inr vx1 => Mem.st ⟨[], [(0, [.d (.lst (List.map api_Sample.enc qs))])]⟩ (tl [(4, .v (.one (.d (.int .i64 vx1))))]) 1

def slices_IndexFunc_api_Sample_api_Sample_f1_series_CheckSeries_1_x1_H (qs : List api_Sample) : Int → St
  | vx => Mem.st ⟨[], [(0, [.d (.lst (List.map api_Sample.enc qs))])]⟩ (tl [(0, .v (.one (.d (.lst (List.map api_Sample.enc qs))))), (1, .v (.one (.fn 47 [0]))), (7, .v (.one (.d (.int .i64 (qs.length : Int))))), (8, .v (.one (.d (.int .i64 vx))))]) 1

theorem slices_IndexFunc_api_Sample_api_Sample_f1_series_CheckSeries_1_x1_ok (qs : List api_Sample) (vx : Int) (r : (Int) ⊕ (Unit ⊕ Int)) (hF : slices_IndexFunc_api_Sample_api_Sample_f1_series_CheckSeries_1_x1 qs vx = some r) : Awp prog 1 19 (cL (cL (cR (cL (cR (cB f64)))))) (Out 1 (kk slices_IndexFunc_api_Sample_api_Sample_f1_series_CheckSeries_1_x1_k) (SS (slices_IndexFunc_api_Sample_api_Sample_f1_series_CheckSeries_1_x1_H qs) (slices_IndexFunc_api_Sample_api_Sample_f1_series_CheckSeries_1_x1_S qs)) r) (slices_IndexFunc_api_Sample_api_Sample_f1_series_CheckSeries_1_x1_H qs vx) := by
  unfold slices_IndexFunc_api_Sample_api_Sample_f1_series_CheckSeries_1_x1 at hF
  refine awp_seq ?_
  refine awp_region ?_
  refine aR 1 ?_
  refine aE ?_
  refine awp_seq ?_
  refine cE hF (fun h1 hF => ?_) fun h1 hF => ?_
  · refine awp_true (by kernel_rfl) h1 ?_
    refine awp_skip ?_
    refine awp_seq ?_
    refine awp_block ?_
    refine awp_seq ?_
    refine awp_region ?_
    refine aR 2 ?_
    refine aE ?_
    refine awp_seq ?_
    refine bE hF fun vy1 h2 hF => ?_
    refine bE hF fun vr1 h3 hF => ?_
    refine awp_region ?_
    refine aR 3 ?_
    refine aX (x_idx api_Sample.enc h2) ?_
    refine aR 1 ?_
    refine aC (series_CheckSeries_1_ok h3) [] [] [] ?_
    refine aE ?_
    refine cE hF (fun h4 hF => ?_) fun h4 hF => ?_
    · refine awp_true (by kernel_rfl) h4 ?_
      refine awp_seq ?_
      refine awp_region ?_
      refine aR 2 ?_
      refine aE ?_
      refine awp_ret ?_
      exact oO hF [] [] rfl
    · refine awp_false (by kernel_rfl) h4 ?_
      refine awp_skip ?_
      refine awp_region ?_
      refine aR 2 ?_
      refine aE ?_
      exact oO hF [] [] rfl
  · refine awp_false (by kernel_rfl) h1 ?_
    refine awp_exit ?_
    exact oO hF [] [] rfl

def slices_IndexFunc_api_Sample_api_Sample_f1_series_CheckSeries_1_R (qs : List api_Sample) (r : Int) : TV × Mem := (.v (.one (.d (.int .i64 r))), ⟨[], [(0, [.d (.lst (List.map api_Sample.enc qs))])]⟩)

theorem slices_IndexFunc_api_Sample_api_Sample_f1_series_CheckSeries_1_ok {qs : List api_Sample} {r} (hF : slices_IndexFunc_api_Sample_api_Sample_f1_series_CheckSeries_1 qs = some r) : Holds prog 64 [.v (.one (.d (.lst (List.map api_Sample.enc qs)))), .v (.one (.fn 47 [0]))] ⟨[], [(0, [.d (.lst (List.map api_Sample.enc qs))])]⟩ (Is (slices_IndexFunc_api_Sample_api_Sample_f1_series_CheckSeries_1_R qs r)) := by
  unfold slices_IndexFunc_api_Sample_api_Sample_f1_series_CheckSeries_1 at hF
  refine holds_of_awp hΓ (fn := f64) (c := cB f64) (A := 1) (nx := 1) (by kernel_rfl) (by kernel_rfl) (by kernel_rfl) (by kernel_rfl) (by kernel_rfl) (by kernel_rfl) (lowc_of (by kernel_rfl)) ?_
  show Awp prog 1 19 (cB f64) _ _
  refine awp_seq ?_
  refine awp_region ?_
  refine aR 1 ?_
  refine aE ?_
  refine awp_seq ?_
  refine awp_seq ?_
  refine awp_region ?_
  refine aR 1 ?_
  refine aL api_Sample.enc qs ?_
  refine aR 1 ?_
  refine aE ?_
  refine awp_block ?_
  refine awp_to (st' := slices_IndexFunc_api_Sample_api_Sample_f1_series_CheckSeries_1_x1_H qs 0) (oT [] []) ?_
  refine bE hF fun x h5 hF => ?_
  rcases x with _ | vx1_1
  · refine awp_sub (awp_loop' (slices_IndexFunc_api_Sample_api_Sample_f1_series_CheckSeries_1_x1_H qs) slices_IndexFunc_api_Sample_api_Sample_f1_series_CheckSeries_1_x1_k (slices_IndexFunc_api_Sample_api_Sample_f1_series_CheckSeries_1_x1_S qs) (by intro x; rcases x with x | x <;> exact fun h => nomatch h) h5 (slices_IndexFunc_api_Sample_api_Sample_f1_series_CheckSeries_1_x1_ok qs)) ?_
    refine awp_seq ?_
    refine awp_region ?_
    refine aR 1 ?_
    refine aE ?_
    refine awp_ret ?_
    exact oF hF [] []
  · refine awp_sub (awp_loop' (slices_IndexFunc_api_Sample_api_Sample_f1_series_CheckSeries_1_x1_H qs) slices_IndexFunc_api_Sample_api_Sample_f1_series_CheckSeries_1_x1_k (slices_IndexFunc_api_Sample_api_Sample_f1_series_CheckSeries_1_x1_S qs) (by intro x; rcases x with x | x <;> exact fun h => nomatch h) h5 (slices_IndexFunc_api_Sample_api_Sample_f1_series_CheckSeries_1_x1_ok qs)) ?_
    exact oF hF [] []

/-! ### slices.ContainsFunc[[]beaconfleet/api.Sample,beaconfleet/api.Sample] -/
def slices_ContainsFunc_api_Sample_api_Sample_f1_series_CheckSeries_1_R (qs : List api_Sample) (r : Bool) : TV × Mem := (.v (.one (.d (.bool r))), ⟨[], [(0, [.d (.lst (List.map api_Sample.enc qs))])]⟩)

theorem slices_ContainsFunc_api_Sample_api_Sample_f1_series_CheckSeries_1_ok {qs : List api_Sample} {r} (hF : slices_ContainsFunc_api_Sample_api_Sample_f1_series_CheckSeries_1 qs = some r) : Holds prog 46 [.v (.one (.d (.lst (List.map api_Sample.enc qs)))), .v (.one (.fn 47 [0]))] ⟨[], [(0, [.d (.lst (List.map api_Sample.enc qs))])]⟩ (Is (slices_ContainsFunc_api_Sample_api_Sample_f1_series_CheckSeries_1_R qs r)) := by
  unfold slices_ContainsFunc_api_Sample_api_Sample_f1_series_CheckSeries_1 at hF
  refine holds_of_awp hΓ (fn := f46) (c := cB f46) (A := 1) (nx := 1) (by kernel_rfl) (by kernel_rfl) (by kernel_rfl) (by kernel_rfl) (by kernel_rfl) (by kernel_rfl) (lowc_of (by kernel_rfl)) ?_
  show Awp prog 1 9 (cB f46) _ _
  refine awp_seq ?_
  refine awp_region ?_
  refine aR 1 ?_
  refine aE ?_
  refine awp_seq ?_
  refine bE hF fun vr2 h1 hF => ?_
  refine awp_region ?_
  refine aR 2 ?_
  refine aC (slices_IndexFunc_api_Sample_api_Sample_f1_series_CheckSeries_1_ok h1) [] [] [] ?_
  refine aR 2 ?_
  refine aE ?_
  refine awp_ret ?_
  exact oF hF [] []

/-! ### beaconfleet/series.CheckSeries -/
def series_CheckSeries_R (ql : List api_Sample) (r : Int) : TV × Mem := (.v (.one (.d (.int .i64 r))), ⟨[], []⟩)

theorem series_CheckSeries_ok {ql : List api_Sample} {r} (hF : series_CheckSeries ql = some r) : Holds prog 16 [.v (.one (.d (.lst (List.map api_Sample.enc ql))))] ⟨[], []⟩ (Is (series_CheckSeries_R ql r)) := by
  unfold series_CheckSeries at hF
  refine holds_of_awp hΓ (fn := f16) (c := cB f16) (A := 0) (nx := 0) (by kernel_rfl) (by kernel_rfl) (by kernel_rfl) (by kernel_rfl) (by kernel_rfl) (by kernel_rfl) (lowc_of (by kernel_rfl)) ?_
  show Awp prog 0 12 (cB f16) _ _
  refine awp_seq ?_
  refine awp_region ?_
  refine aR 2 ?_
  refine aE ?_
  refine awp_seq ?_
  refine awp_seq ?_
  refine bE hF fun vr6 h1 hF => ?_
  refine awp_region ?_
  refine aR 1 ?_
  refine aC (series_Check_ok h1) [] [] [] ?_
  refine aR 1 ?_
  refine aE ?_
  refine awp_seq ?_
  refine awp_region ?_
  refine aR 2 ?_
  refine aE ?_
  refine cE hF (fun h2 hF => ?_) fun h2 hF => ?_
  · refine awp_true (by kernel_rfl) h2 ?_
    refine awp_seq ?_
    refine awp_region ?_
    refine aR 2 ?_
    refine aE ?_
    refine awp_ret ?_
    exact oF hF [] []
  · refine awp_false (by kernel_rfl) h2 ?_
    refine awp_skip ?_
    refine awp_seq ?_
    refine awp_seq ?_
    refine bE hF fun vr h3 hF => ?_
    refine awp_region ?_
    refine aR 2 ?_
    refine aC (slices_ContainsFunc_api_Sample_api_Sample_f1_series_CheckSeries_1_ok h3) [] [] [] ?_
    refine aE ?_
    refine cE hF (fun h4 hF => ?_) fun h4 hF => ?_
    · refine awp_true (by kernel_rfl) h4 ?_
      refine awp_seq ?_
      refine awp_region ?_
      refine aR 1 ?_
      refine aE ?_
      refine awp_ret ?_
      exact oF hF [] []
    · refine awp_false (by kernel_rfl) h4 ?_
      refine awp_skip ?_
      refine awp_seq ?_
      refine awp_region ?_
      refine aR 1 ?_
      refine aE ?_
      refine awp_ret ?_
      exact oF hF [] []

/-! ### beaconfleet/fleetref2.SeriesFault$1 -/
def fleetref2_SeriesFault_1_x1_k : Bool → AEx
  | _ => .normal

def fleetref2_SeriesFault_1_x1_S (qs : api_Sample) (qx : List api_Sample) : Bool → St
  | vx => Mem.st ⟨[], [(0, [.d (.lst (List.map api_Sample.enc qx))])]⟩ (tl [(3, .v (.one (.d (.bool vx))))]) 1

def fleetref2_SeriesFault_1_x1_I (qs : api_Sample) (qx : List api_Sample) : St := Mem.st ⟨[], [(0, [.d (.lst (List.map api_Sample.enc qx))]), (1, [.d (.str qs.Device), .d (.str qs.Metric), .d (.int .i64 qs.At), .d (.int .i64 qs.Value)])]⟩ (tl [(1, .v (.one (.box 0 0))), (2, .v (.one (.box 1 0)))]) 2

theorem fleetref2_SeriesFault_1_x1_ok (qs : api_Sample) (qx : List api_Sample) {r} (hF : fleetref2_SeriesFault_1_x1 qs qx = some r) : Awp prog 1 20 (cL (cR (cB f48))) (Out 1 fleetref2_SeriesFault_1_x1_k (fleetref2_SeriesFault_1_x1_S qs qx) r) (fleetref2_SeriesFault_1_x1_I qs qx) := by
  unfold fleetref2_SeriesFault_1_x1 at hF
  refine bE hF fun vy h1 hF => ?_
  refine cE hF (fun h2 hF => ?_) fun h2 hF => ?_
  · refine aD ?_
    refine dR 3 ?_
    refine dX (x_idx api_Sample.enc h1) ?_
    refine dR 2 ?_
    refine dB h2 ?_
    refine dR 10 ?_
    refine dE ?_
    exact oO hF [] [] rfl
  · refine aD ?_
    refine dR 3 ?_
    refine dX (x_idx api_Sample.enc h1) ?_
    refine dR 2 ?_
    refine dB h2 ?_
    refine dR 4 ?_
    refine dX (x_idx api_Sample.enc h1) ?_
    refine dR 5 ?_
    refine dE ?_
    exact oO hF [] [] rfl

def fleetref2_SeriesFault_1_R (qs : api_Sample) (qx : List api_Sample) (r : Bool) : TV × Mem := (.v (.one (.d (.bool r))), ⟨[], [(0, [.d (.lst (List.map api_Sample.enc qx))])]⟩)

theorem fleetref2_SeriesFault_1_ok {qs : api_Sample} {qx : List api_Sample} {r} (hF : fleetref2_SeriesFault_1 qs qx = some r) : Holds prog 48 [.v (.agg [.d (.str qs.Device), .d (.str qs.Metric), .d (.int .i64 qs.At), .d (.int .i64 qs.Value)]), .v (.one (.box 0 0))] ⟨[], [(0, [.d (.lst (List.map api_Sample.enc qx))])]⟩ (Is (fleetref2_SeriesFault_1_R qs qx r)) := by
  unfold fleetref2_SeriesFault_1 at hF
  refine holds_of_awp hΓ (fn := f48) (c := cB f48) (A := 1) (nx := 1) (by kernel_rfl) (by kernel_rfl) (by kernel_rfl) (by kernel_rfl) (by kernel_rfl) (by kernel_rfl) (lowc_of (by kernel_rfl)) ?_
  show Awp prog 1 20 (cB f48) _ _
  refine awp_seq ?_
  refine awp_region ?_
  refine aR 2 ?_
  refine aE ?_
  refine awp_seq ?_
  refine awp_to (st' := fleetref2_SeriesFault_1_x1_I qs qx) (oT [] []) ?_
  refine bE hF fun vx1 h3 hF => ?_
  refine awp_sub (fleetref2_SeriesFault_1_x1_ok qs qx h3) ?_
  refine awp_ret ?_
  exact oF hF [] []

/-! ### slices.IndexFunc[[]beaconfleet/api.Sample,beaconfleet/api.Sample] -/
def slices_IndexFunc_api_Sample_api_Sample_f1_fleetref2_SeriesFault_1_x1_k : Unit ⊕ Int → AEx
  | .inl _ => .exit 0
  | .inr _ => .ret

def slices_IndexFunc_api_Sample_api_Sample_f1_fleetref2_SeriesFault_1_x1_S (qs : List api_Sample) : Unit ⊕ Int → St
  | .inl _ => Mem.st ⟨[], [(0, [.d (.lst (List.map api_Sample.enc qs))])]⟩ (tl []) 1
  | .inr vx1 => Mem.st ⟨[], [(0, [.d (.lst (List.map api_Sample.enc qs))])]⟩ (tl [(4, .v (.one (.d (.int .i64 vx1))))]) 1

def slices_IndexFunc_api_Sample_api_Sample_f1_fleetref2_SeriesFault_1_x1_H (qs : List api_Sample) : Int → St
  | vx => Mem.st ⟨[], [(0, [.d (.lst (List.map api_Sample.enc qs))])]⟩ (tl [(0, .v (.one (.d (.lst (List.map api_Sample.enc qs))))), (1, .v (.one (.fn 48 [0]))), (7, .v (.one (.d (.int .i64 (qs.length : Int))))), (8, .v (.one (.d (.int .i64 vx))))]) 1

theorem slices_IndexFunc_api_Sample_api_Sample_f1_fleetref2_SeriesFault_1_x1_ok (qs : List api_Sample) (vx : Int) (r : (Int) ⊕ (Unit ⊕ Int)) (hF : slices_IndexFunc_api_Sample_api_Sample_f1_fleetref2_SeriesFault_1_x1 qs vx = some r) : Awp prog 1 19 (cL (cL (cR (cL (cR (cB f64)))))) (Out 1 (kk slices_IndexFunc_api_Sample_api_Sample_f1_fleetref2_SeriesFault_1_x1_k) (SS (slices_IndexFunc_api_Sample_api_Sample_f1_fleetref2_SeriesFault_1_x1_H qs) (slices_IndexFunc_api_Sample_api_Sample_f1_fleetref2_SeriesFault_1_x1_S qs)) r) (slices_IndexFunc_api_Sample_api_Sample_f1_fleetref2_SeriesFault_1_x1_H qs vx) := by
  unfold slices_IndexFunc_api_Sample_api_Sample_f1_fleetref2_SeriesFault_1_x1 at hF
  refine awp_seq ?_
  refine awp_region ?_
  refine aR 1 ?_
  refine aE ?_
  refine awp_seq ?_
  refine cE hF (fun h1 hF => ?_) fun h1 hF => ?_
  · refine awp_true (by kernel_rfl) h1 ?_
    refine awp_skip ?_
    refine awp_seq ?_
    refine awp_block ?_
    refine awp_seq ?_
    refine awp_region ?_
    refine aR 2 ?_
    refine aE ?_
    refine awp_seq ?_
    refine bE hF fun vy1 h2 hF => ?_
    refine bE hF fun vr1 h3 hF => ?_
    refine awp_region ?_
    refine aR 3 ?_
    refine aX (x_idx api_Sample.enc h2) ?_
    refine aR 1 ?_
    refine aC (fleetref2_SeriesFault_1_ok h3) [] [] [] ?_
    refine aE ?_
    refine cE hF (fun h4 hF => ?_) fun h4 hF => ?_
    · refine awp_true (by kernel_rfl) h4 ?_
      refine awp_seq ?_
      refine awp_region ?_
      refine aR 2 ?_
      refine aE ?_
      refine awp_ret ?_
      exact oO hF [] [] rfl
    · refine awp_false (by kernel_rfl) h4 ?_
      refine awp_skip ?_
      refine awp_region ?_
      refine aR 2 ?_
      refine aE ?_
      exact oO hF [] [] rfl
  · refine awp_false (by kernel_rfl) h1 ?_
    refine awp_exit ?_
    exact oO hF [] [] rfl

def slices_IndexFunc_api_Sample_api_Sample_f1_fleetref2_SeriesFault_1_R (qs : List api_Sample) (r : Int) : TV × Mem := (.v (.one (.d (.int .i64 r))), ⟨[], [(0, [.d (.lst (List.map api_Sample.enc qs))])]⟩)

theorem slices_IndexFunc_api_Sample_api_Sample_f1_fleetref2_SeriesFault_1_ok {qs : List api_Sample} {r} (hF : slices_IndexFunc_api_Sample_api_Sample_f1_fleetref2_SeriesFault_1 qs = some r) : Holds prog 64 [.v (.one (.d (.lst (List.map api_Sample.enc qs)))), .v (.one (.fn 48 [0]))] ⟨[], [(0, [.d (.lst (List.map api_Sample.enc qs))])]⟩ (Is (slices_IndexFunc_api_Sample_api_Sample_f1_fleetref2_SeriesFault_1_R qs r)) := by
  unfold slices_IndexFunc_api_Sample_api_Sample_f1_fleetref2_SeriesFault_1 at hF
  refine holds_of_awp hΓ (fn := f64) (c := cB f64) (A := 1) (nx := 1) (by kernel_rfl) (by kernel_rfl) (by kernel_rfl) (by kernel_rfl) (by kernel_rfl) (by kernel_rfl) (lowc_of (by kernel_rfl)) ?_
  show Awp prog 1 19 (cB f64) _ _
  refine awp_seq ?_
  refine awp_region ?_
  refine aR 1 ?_
  refine aE ?_
  refine awp_seq ?_
  refine awp_seq ?_
  refine awp_region ?_
  refine aR 1 ?_
  refine aL api_Sample.enc qs ?_
  refine aR 1 ?_
  refine aE ?_
  refine awp_block ?_
  refine awp_to (st' := slices_IndexFunc_api_Sample_api_Sample_f1_fleetref2_SeriesFault_1_x1_H qs 0) (oT [] []) ?_
  refine bE hF fun x h5 hF => ?_
  rcases x with _ | vx1_1
  · refine awp_sub (awp_loop' (slices_IndexFunc_api_Sample_api_Sample_f1_fleetref2_SeriesFault_1_x1_H qs) slices_IndexFunc_api_Sample_api_Sample_f1_fleetref2_SeriesFault_1_x1_k (slices_IndexFunc_api_Sample_api_Sample_f1_fleetref2_SeriesFault_1_x1_S qs) (by intro x; rcases x with x | x <;> exact fun h => nomatch h) h5 (slices_IndexFunc_api_Sample_api_Sample_f1_fleetref2_SeriesFault_1_x1_ok qs)) ?_
    refine awp_seq ?_
    refine awp_region ?_
    refine aR 1 ?_
    refine aE ?_
    refine awp_ret ?_
    exact oF hF [] []
  · refine awp_sub (awp_loop' (slices_IndexFunc_api_Sample_api_Sample_f1_fleetref2_SeriesFault_1_x1_H qs) slices_IndexFunc_api_Sample_api_Sample_f1_fleetref2_SeriesFault_1_x1_k (slices_IndexFunc_api_Sample_api_Sample_f1_fleetref2_SeriesFault_1_x1_S qs) (by intro x; rcases x with x | x <;> exact fun h => nomatch h) h5 (slices_IndexFunc_api_Sample_api_Sample_f1_fleetref2_SeriesFault_1_x1_ok qs)) ?_
    exact oF hF [] []

/-! ### slices.ContainsFunc[[]beaconfleet/api.Sample,beaconfleet/api.Sample] -/
def slices_ContainsFunc_api_Sample_api_Sample_f1_fleetref2_SeriesFault_1_R (qs : List api_Sample) (r : Bool) : TV × Mem := (.v (.one (.d (.bool r))), ⟨[], [(0, [.d (.lst (List.map api_Sample.enc qs))])]⟩)

theorem slices_ContainsFunc_api_Sample_api_Sample_f1_fleetref2_SeriesFault_1_ok {qs : List api_Sample} {r} (hF : slices_ContainsFunc_api_Sample_api_Sample_f1_fleetref2_SeriesFault_1 qs = some r) : Holds prog 46 [.v (.one (.d (.lst (List.map api_Sample.enc qs)))), .v (.one (.fn 48 [0]))] ⟨[], [(0, [.d (.lst (List.map api_Sample.enc qs))])]⟩ (Is (slices_ContainsFunc_api_Sample_api_Sample_f1_fleetref2_SeriesFault_1_R qs r)) := by
  unfold slices_ContainsFunc_api_Sample_api_Sample_f1_fleetref2_SeriesFault_1 at hF
  refine holds_of_awp hΓ (fn := f46) (c := cB f46) (A := 1) (nx := 1) (by kernel_rfl) (by kernel_rfl) (by kernel_rfl) (by kernel_rfl) (by kernel_rfl) (by kernel_rfl) (lowc_of (by kernel_rfl)) ?_
  show Awp prog 1 9 (cB f46) _ _
  refine awp_seq ?_
  refine awp_region ?_
  refine aR 1 ?_
  refine aE ?_
  refine awp_seq ?_
  refine bE hF fun vr2 h1 hF => ?_
  refine awp_region ?_
  refine aR 2 ?_
  refine aC (slices_IndexFunc_api_Sample_api_Sample_f1_fleetref2_SeriesFault_1_ok h1) [] [] [] ?_
  refine aR 2 ?_
  refine aE ?_
  refine awp_ret ?_
  exact oF hF [] []

/-! ### beaconfleet/fleetref2.SeriesFault -/
def fleetref2_SeriesFault_R (ql : List api_Sample) (r : Int) : TV × Mem := (.v (.one (.d (.int .i64 r))), ⟨[], []⟩)

theorem fleetref2_SeriesFault_ok {ql : List api_Sample} {r} (hF : fleetref2_SeriesFault ql = some r) : Holds prog 17 [.v (.one (.d (.lst (List.map api_Sample.enc ql))))] ⟨[], []⟩ (Is (fleetref2_SeriesFault_R ql r)) := by
  unfold fleetref2_SeriesFault at hF
  refine holds_of_awp hΓ (fn := f17) (c := cB f17) (A := 0) (nx := 0) (by kernel_rfl) (by kernel_rfl) (by kernel_rfl) (by kernel_rfl) (by kernel_rfl) (by kernel_rfl) (lowc_of (by kernel_rfl)) ?_
  show Awp prog 0 12 (cB f17) _ _
  refine awp_seq ?_
  refine awp_region ?_
  refine aR 2 ?_
  refine aE ?_
  refine awp_seq ?_
  refine awp_seq ?_
  refine bE hF fun vr4 h1 hF => ?_
  refine awp_region ?_
  refine aR 1 ?_
  refine aC (fleetref2_SamplesFault_ok h1) [] [] [] ?_
  refine aR 1 ?_
  refine aE ?_
  refine awp_seq ?_
  refine awp_region ?_
  refine aR 2 ?_
  refine aE ?_
  refine cE hF (fun h2 hF => ?_) fun h2 hF => ?_
  · refine awp_true (by kernel_rfl) h2 ?_
    refine awp_seq ?_
    refine awp_region ?_
    refine aR 2 ?_
    refine aE ?_
    refine awp_ret ?_
    exact oF hF [] []
  · refine awp_false (by kernel_rfl) h2 ?_
    refine awp_skip ?_
    refine awp_seq ?_
    refine awp_seq ?_
    refine bE hF fun vr h3 hF => ?_
    refine awp_region ?_
    refine aR 2 ?_
    refine aC (slices_ContainsFunc_api_Sample_api_Sample_f1_fleetref2_SeriesFault_1_ok h3) [] [] [] ?_
    refine aE ?_
    refine cE hF (fun h4 hF => ?_) fun h4 hF => ?_
    · refine awp_true (by kernel_rfl) h4 ?_
      refine awp_seq ?_
      refine awp_region ?_
      refine aR 1 ?_
      refine aE ?_
      refine awp_ret ?_
      exact oF hF [] []
    · refine awp_false (by kernel_rfl) h4 ?_
      refine awp_skip ?_
      refine awp_seq ?_
      refine awp_region ?_
      refine aR 1 ?_
      refine aE ?_
      refine awp_ret ?_
      exact oF hF [] []

/-! ### beaconfleet/fleetlaw2.when -/
def fleetlaw2_when_R (qis : Bool) (qe : Int) (r : Int) : TV × Mem := (.v (.one (.d (.int .i64 r))), ⟨[], []⟩)

theorem fleetlaw2_when_ok {qis : Bool} {qe : Int} {r} (hF : fleetlaw2_when qis qe = some r) : Holds prog 19 [.v (.one (.d (.bool qis))), .v (.one (.d (.int .i64 qe)))] ⟨[], []⟩ (Is (fleetlaw2_when_R qis qe r)) := by
  unfold fleetlaw2_when at hF
  refine holds_of_awp hΓ (fn := f19) (c := cB f19) (A := 0) (nx := 0) (by kernel_rfl) (by kernel_rfl) (by kernel_rfl) (by kernel_rfl) (by kernel_rfl) (by kernel_rfl) (lowc_of (by kernel_rfl)) ?_
  show Awp prog 0 7 (cB f19) _ _
  refine awp_seq ?_
  refine awp_region ?_
  refine aR 1 ?_
  refine aE ?_
  refine awp_seq ?_
  refine awp_seq ?_
  refine awp_region ?_
  refine aR 1 ?_
  refine aE ?_
  refine cE hF (fun h1 hF => ?_) fun h1 hF => ?_
  · refine awp_true (by kernel_rfl) h1 ?_
    refine awp_seq ?_
    refine awp_region ?_
    refine aR 2 ?_
    refine aE ?_
    refine awp_ret ?_
    exact oF hF [] []
  · refine awp_false (by kernel_rfl) h1 ?_
    refine awp_skip ?_
    refine awp_seq ?_
    refine awp_region ?_
    refine aR 1 ?_
    refine aE ?_
    refine awp_ret ?_
    exact oF hF [] []

/-! ### beaconfleet/fleetref2.WindowFault -/
def fleetref2_WindowFault_x1_k : Bool → AEx
  | _ => .normal

def fleetref2_WindowFault_x1_S (qw : api_Window) : Bool → St
  | vx => Mem.st ⟨[], []⟩ (tl [(13, .v (.one (.d (.bool vx))))]) 0

def fleetref2_WindowFault_x1_I (qw : api_Window) : St := Mem.st ⟨[], [(0, [.d (.int .i64 qw.From), .d (.int .i64 qw.To)])]⟩ (tl [(1, .v (.one (.box 0 0)))]) 1

theorem fleetref2_WindowFault_x1_ok (qw : api_Window) {r} (hF : fleetref2_WindowFault_x1 qw = some r) : Awp prog 0 14 (cL (cL (cR (cB f21)))) (Out 0 fleetref2_WindowFault_x1_k (fleetref2_WindowFault_x1_S qw) r) (fleetref2_WindowFault_x1_I qw) := by
  unfold fleetref2_WindowFault_x1 at hF
  refine bE hF fun vr h1 hF => ?_
  refine cE hF (fun h2 hF => ?_) fun h2 hF => ?_
  · refine awp_region ?_
    refine aR 4 ?_
    refine aC (fleetref2_in_ok h1) [] [] [] ?_
    refine aB h2 ?_
    refine aR 5 ?_
    refine aE ?_
    exact oO hF [] [] rfl
  · refine awp_region ?_
    refine aR 4 ?_
    refine aC (fleetref2_in_ok h1) [] [] [] ?_
    refine aB h2 ?_
    refine aR 5 ?_
    refine aE ?_
    exact oO hF [] [] rfl

def fleetref2_WindowFault_R (qw : api_Window) (r : Int) : TV × Mem := (.v (.one (.d (.int .i64 r))), ⟨[], []⟩)

theorem fleetref2_WindowFault_ok {qw : api_Window} {r} (hF : fleetref2_WindowFault qw = some r) : Holds prog 21 [.v (.agg [.d (.int .i64 qw.From), .d (.int .i64 qw.To)])] ⟨[], []⟩ (Is (fleetref2_WindowFault_R qw r)) := by
  unfold fleetref2_WindowFault at hF
  refine holds_of_awp hΓ (fn := f21) (c := cB f21) (A := 0) (nx := 0) (by kernel_rfl) (by kernel_rfl) (by kernel_rfl) (by kernel_rfl) (by kernel_rfl) (by kernel_rfl) (lowc_of (by kernel_rfl)) ?_
  show Awp prog 0 14 (cB f21) _ _
  refine awp_seq ?_
  refine awp_region ?_
  refine aR 2 ?_
  refine aE ?_
  refine awp_seq ?_
  refine awp_seq ?_
  refine awp_to (st' := fleetref2_WindowFault_x1_I qw) (oT [] []) ?_
  refine bE hF fun vx1 h3 hF => ?_
  refine awp_sub (fleetref2_WindowFault_x1_ok qw h3) ?_
  refine cE hF (fun h4 hF => ?_) fun h4 hF => ?_
  · refine awp_true (by kernel_rfl) h4 ?_
    refine awp_seq ?_
    refine awp_region ?_
    refine aR 1 ?_
    refine aE ?_
    refine awp_ret ?_
    exact oF hF [] []
  · refine awp_false (by kernel_rfl) h4 ?_
    refine awp_skip ?_
    refine awp_seq ?_
    refine awp_region ?_
    refine aR 1 ?_
    refine aE ?_
    refine awp_ret ?_
    exact oF hF [] []

/-! ### beaconfleet/fleetlaw2.errs -/
def fleetlaw2_errs_x1_k : Unit ⊕ Int → AEx
  | .inl _ => .exit 0
  | .inr _ => .ret

def fleetlaw2_errs_x1_S (ql : List Int) : Unit ⊕ Int → St
  | .inl _ => Mem.st ⟨[], []⟩ (tl []) 0
  | .inr vx1 => Mem.st ⟨[], []⟩ (tl [(2, .v (.one (.d (.int .i64 vx1))))]) 0

def fleetlaw2_errs_x1_H (ql : List Int) : Int → St
  | vx => Mem.st ⟨[], []⟩ (tl [(5, .v (.one (.d (.lst (List.map (encI .i64) ql))))), (6, .v (.one (.d (.int .i64 (ql.length : Int))))), (7, .v (.one (.d (.int .i64 vx))))]) 0

theorem fleetlaw2_errs_x1_ok (ql : List Int) (vx : Int) (r : (Int) ⊕ (Unit ⊕ Int)) (hF : fleetlaw2_errs_x1 ql vx = some r) : Awp prog 0 15 (cL (cL (cR (cL (cR (cB f18)))))) (Out 0 (kk fleetlaw2_errs_x1_k) (SS (fleetlaw2_errs_x1_H ql) (fleetlaw2_errs_x1_S ql)) r) (fleetlaw2_errs_x1_H ql vx) := by
  unfold fleetlaw2_errs_x1 at hF
  refine awp_seq ?_
  refine awp_region ?_
  refine aR 1 ?_
  refine aE ?_
  refine awp_seq ?_
  refine cE hF (fun h1 hF => ?_) fun h1 hF => ?_
  · refine awp_true (by kernel_rfl) h1 ?_
    refine awp_skip ?_
    refine awp_seq ?_
    refine awp_block ?_
    refine awp_seq ?_
    refine bE hF fun vy1 h2 hF => ?_
    refine awp_region ?_
    refine aX (x_idx (encI .i64) h2) ?_
    refine aR 2 ?_
    refine aE ?_
    refine awp_seq ?_
    refine awp_region ?_
    refine aR 2 ?_
    refine aE ?_
    refine cE hF (fun h3 hF => ?_) fun h3 hF => ?_
    · refine awp_true (by kernel_rfl) h3 ?_
      refine awp_seq ?_
      refine awp_region ?_
      refine aR 2 ?_
      refine aE ?_
      refine awp_ret ?_
      exact oO hF [] [] rfl
    · refine awp_false (by kernel_rfl) h3 ?_
      refine awp_skip ?_
      refine awp_region ?_
      refine aR 2 ?_
      refine aE ?_
      exact oO hF [] [] rfl
  · refine awp_false (by kernel_rfl) h1 ?_
    refine awp_exit ?_
    exact oO hF [] [] rfl

def fleetlaw2_errs_R (ql : List Int) (r : Int) : TV × Mem := (.v (.one (.d (.int .i64 r))), ⟨[], []⟩)

theorem fleetlaw2_errs_ok {ql : List Int} {r} (hF : fleetlaw2_errs ql = some r) : Holds prog 18 [.v (.one (.d (.lst (List.map (encI .i64) ql))))] ⟨[], []⟩ (Is (fleetlaw2_errs_R ql r)) := by
  unfold fleetlaw2_errs at hF
  refine holds_of_awp hΓ (fn := f18) (c := cB f18) (A := 0) (nx := 0) (by kernel_rfl) (by kernel_rfl) (by kernel_rfl) (by kernel_rfl) (by kernel_rfl) (by kernel_rfl) (lowc_of (by kernel_rfl)) ?_
  show Awp prog 0 15 (cB f18) _ _
  refine awp_seq ?_
  refine awp_region ?_
  refine aR 1 ?_
  refine aE ?_
  refine awp_seq ?_
  refine awp_seq ?_
  refine awp_region ?_
  refine aR 1 ?_
  refine aL (encI .i64) ql ?_
  refine aR 1 ?_
  refine aE ?_
  refine awp_block ?_
  refine awp_to (st' := fleetlaw2_errs_x1_H ql 0) (oT [] []) ?_
  refine bE hF fun x h4 hF => ?_
  rcases x with _ | vx1_1
  · refine awp_sub (awp_loop' (fleetlaw2_errs_x1_H ql) fleetlaw2_errs_x1_k (fleetlaw2_errs_x1_S ql) (by intro x; rcases x with x | x <;> exact fun h => nomatch h) h4 (fleetlaw2_errs_x1_ok ql)) ?_
    refine awp_seq ?_
    refine awp_region ?_
    refine aR 1 ?_
    refine aE ?_
    refine awp_ret ?_
    exact oF hF [] []
  · refine awp_sub (awp_loop' (fleetlaw2_errs_x1_H ql) fleetlaw2_errs_x1_k (fleetlaw2_errs_x1_S ql) (by intro x; rcases x with x | x <;> exact fun h => nomatch h) h4 (fleetlaw2_errs_x1_ok ql)) ?_
    exact oF hF [] []

/-! ### beaconfleet/fleetref2.SamplesOf -/
def fleetref2_SamplesOf_x2_k : Bool → AEx
  | _ => .normal

def fleetref2_SamplesOf_x2_S (vr : List api_Sample) (vx : Int) : Bool → St
  | vx2 => Mem.st ⟨[(0, ⟨32, 4, List.map api_Sample.enc vr⟩)], []⟩ (tl [(6, .v (.one (.own 0 none))), (17, .v (.one (.d (.int .i64 (vr.length : Int))))), (18, .v (.one (.d (.int .i64 vx)))), (35, .v (.one (.d (.bool vx2))))]) 1

def fleetref2_SamplesOf_x2_I (vr : List api_Sample) (vx : Int) : St := Mem.st ⟨[(0, ⟨32, 4, List.map api_Sample.enc vr⟩)], []⟩ (tl [(6, .v (.one (.own 0 none))), (7, .v (.one (.d (.int .i64 vx)))), (17, .v (.one (.d (.int .i64 (vr.length : Int))))), (18, .v (.one (.d (.int .i64 vx))))]) 1

theorem fleetref2_SamplesOf_x2_ok (vr : List api_Sample) (vx : Int) {r} (hF : fleetref2_SamplesOf_x2 vr vx = some r) : Awp prog 0 41 (cL (cR (cL (cL (cR (cR (cL (cL (cR (cL (cR (cR (cR (cR (cB f22))))))))))))))) (Out 0 fleetref2_SamplesOf_x2_k (fleetref2_SamplesOf_x2_S vr vx) r) (fleetref2_SamplesOf_x2_I vr vx) := by
  unfold fleetref2_SamplesOf_x2 at hF
  refine cE hF (fun h6 hF => ?_) fun h6 hF => ?_
  · refine bE hF fun vy2 h7 hF => ?_
    refine bE hF fun vy3 h8 hF => ?_
    refine bE hF fun vr1_2 h9 hF => ?_
    refine aD ?_
    refine dR 1 ?_
    refine dB h6 ?_
    refine dR 4 ?_
    refine dX (x_idxO api_Sample.enc 0 h7) ?_
    refine dX (x_ldE api_Sample.enc h7) ?_
    refine dR 2 ?_
    refine dX (x_idxO api_Sample.enc 0 h8) ?_
    refine dX (x_ldE api_Sample.enc h8) ?_
    refine dC (fleetref2_SampleOrder_ok h9) [] [] [] ?_
    refine dR 2 ?_
    refine dE ?_
    exact oO hF [] [] rfl
  · refine aD ?_
    refine dR 1 ?_
    refine dB h6 ?_
    refine dR 13 ?_
    refine dE ?_
    exact oO hF [] [] rfl

def fleetref2_SamplesOf_x1_k : Unit ⊕ Unit → AEx
  | .inl _ => .exit 0
  | .inr _ => .ret

def fleetref2_SamplesOf_x1_S (vr : List api_Sample) : Unit ⊕ Unit → St
  | .inl _ => Mem.st ⟨[(0, ⟨32, 4, List.map api_Sample.enc vr⟩)], []⟩ (tl [(6, .v (.one (.own 0 none)))]) 1
  | .inr _ => Mem.st ⟨[], []⟩ (tl [(4, .v (.one (.nil))), (5, .v (.one (.d (.int .i64 13))))]) 0

def fleetref2_SamplesOf_x1_H (vr : List api_Sample) : Int → St
  | vx => Mem.st ⟨[(0, ⟨32, 4, List.map api_Sample.enc vr⟩)], []⟩ (tl [(6, .v (.one (.own 0 none))), (17, .v (.one (.d (.int .i64 (vr.length : Int))))), (18, .v (.one (.d (.int .i64 vx))))]) 1

theorem fleetref2_SamplesOf_x1_ok (vr : List api_Sample) (vx : Int) (r : (Int) ⊕ (Unit ⊕ Unit)) (hF : fleetref2_SamplesOf_x1 vr vx = some r) : Awp prog 0 41 (cL (cL (cR (cL (cR (cR (cR (cR (cB f22))))))))) (Out 0 (kk fleetref2_SamplesOf_x1_k) (SS (fleetref2_SamplesOf_x1_H vr) (fleetref2_SamplesOf_x1_S vr)) r) (fleetref2_SamplesOf_x1_H vr vx) := by
  unfold fleetref2_SamplesOf_x1 at hF
  refine awp_seq ?_
  refine awp_region ?_
  refine aR 1 ?_
  refine aE ?_
  refine awp_seq ?_
  refine cE hF (fun h5 hF => ?_) fun h5 hF => ?_
  · refine awp_true (by kernel_rfl) h5 ?_
    refine awp_skip ?_
    refine awp_seq ?_
    refine awp_block ?_
    refine awp_seq ?_
    refine awp_region ?_
    refine aR 2 ?_
    refine aE ?_
    refine awp_seq ?_
    refine awp_to (st' := fleetref2_SamplesOf_x2_I vr vx) (oT [] []) ?_
    refine bE hF fun vx2_1 h10 hF => ?_
    refine awp_sub (fleetref2_SamplesOf_x2_ok vr vx h10) ?_
    refine cE hF (fun h11 hF => ?_) fun h11 hF => ?_
    · refine awp_true (by kernel_rfl) h11 ?_
      refine awp_seq ?_
      refine awp_region ?_
      refine aR 2 ?_
      refine aE ?_
      refine awp_ret ?_
      exact oO hF [] [] rfl
    · refine awp_false (by kernel_rfl) h11 ?_
      refine awp_skip ?_
      refine awp_region ?_
      refine aR 2 ?_
      refine aE ?_
      exact oO hF [] [] rfl
  · refine awp_false (by kernel_rfl) h5 ?_
    refine awp_exit ?_
    exact oO hF [] [] rfl

def fleetref2_SamplesOf_R (qa : List api_Sample) (qb : List api_Sample) (r : (List api_Sample) × Int) : TV × Mem := (.tup [.one (.own 0 none), .one (.d (.int .i64 r.2))], ⟨[(0, ⟨32, 4, List.map api_Sample.enc r.1⟩)], []⟩)

theorem fleetref2_SamplesOf_ok {qa : List api_Sample} {qb : List api_Sample} {r} (hF : fleetref2_SamplesOf qa qb = some r) : Holds prog 22 [.v (.one (.d (.lst (List.map api_Sample.enc qa)))), .v (.one (.d (.lst (List.map api_Sample.enc qb))))] ⟨[], []⟩ (Is (fleetref2_SamplesOf_R qa qb r)) := by
  unfold fleetref2_SamplesOf at hF
  refine holds_of_awp hΓ (fn := f22) (c := cB f22) (A := 0) (nx := 0) (by kernel_rfl) (by kernel_rfl) (by kernel_rfl) (by kernel_rfl) (by kernel_rfl) (by kernel_rfl) (lowc_of (by kernel_rfl)) ?_
  show Awp prog 0 41 (cB f22) _ _
  refine awp_seq ?_
  refine awp_region ?_
  refine aR 2 ?_
  refine aE ?_
  refine awp_seq ?_
  refine bE hF fun vr1 h1 hF => ?_
  refine awp_region ?_
  refine aR 3 ?_
  refine aC (slices_Concat_api_Sample_api_Sample_o0_ok h1) [(0, 4000)] [] [] ?_
  refine aR 1 ?_
  refine aE ?_
  refine awp_seq ?_
  refine bE hF fun vl h2 hF => ?_
  refine gE hF fun h3 hF => ?_
  refine awp_region ?_
  refine aR 1 ?_
  refine aCp (slices_SortStableFunc_api_Sample_api_Sample_o0_f1_fleetref2_SampleOrder_ok h2) ⟨⟨rfl, rfl, pin1 h3⟩, trivial⟩ [(0, 5001)] [] [] ?_
  refine aE ?_
  refine awp_seq ?_
  refine bE hF fun vr h4 hF => ?_
  refine awp_region ?_
  refine aR 1 ?_
  refine aC (slices_Compact_api_Sample_api_Sample_o0_ok h4) [(0, 5001)] [] [] ?_
  refine aR 1 ?_
  refine aE ?_
  refine awp_seq ?_
  refine awp_seq ?_
  refine awp_region ?_
  refine aR 1 ?_
  refine aL api_Sample.enc vr ?_
  refine aR 1 ?_
  refine aE ?_
  refine awp_block ?_
  refine awp_to (st' := fleetref2_SamplesOf_x1_H vr 0) (oT [(0, 10001)] []) ?_
  refine bE hF fun x h12 hF => ?_
  rcases x with _ | _
  · refine awp_sub (awp_loop' (fleetref2_SamplesOf_x1_H vr) fleetref2_SamplesOf_x1_k (fleetref2_SamplesOf_x1_S vr) (by intro x; rcases x with x | x <;> exact fun h => nomatch h) h12 (fleetref2_SamplesOf_x1_ok vr)) ?_
    refine awp_seq ?_
    refine awp_seq ?_
    refine awp_region ?_
    refine aR 1 ?_
    refine aL api_Sample.enc vr ?_
    refine aR 1 ?_
    refine aE ?_
    refine cE hF (fun h13 hF => ?_) fun h13 hF => ?_
    · refine awp_true (by kernel_rfl) h13 ?_
      refine awp_seq ?_
      refine awp_region ?_
      refine aR 2 ?_
      refine aE ?_
      refine awp_ret ?_
      exact oF hF [] [0]
    · refine awp_false (by kernel_rfl) h13 ?_
      refine awp_skip ?_
      refine awp_seq ?_
      refine awp_region ?_
      refine aR 3 ?_
      refine aE ?_
      refine awp_ret ?_
      exact oF hF [] []
  · refine awp_sub (awp_loop' (fleetref2_SamplesOf_x1_H vr) fleetref2_SamplesOf_x1_k (fleetref2_SamplesOf_x1_S vr) (by intro x; rcases x with x | x <;> exact fun h => nomatch h) h12 (fleetref2_SamplesOf_x1_ok vr)) ?_
    exact oF hF [] [0]

/-! ### beaconfleet/fleetref2.within -/
def fleetref2_within_x1_k : Bool → AEx
  | _ => .normal

def fleetref2_within_x1_S (qat : Int) (qw : api_Window) : Bool → St
  | vx => Mem.st ⟨[], []⟩ (tl [(4, .v (.one (.d (.bool vx))))]) 0

def fleetref2_within_x1_I (qat : Int) (qw : api_Window) : St := Mem.st ⟨[], [(0, [.d (.int .i64 qw.From), .d (.int .i64 qw.To)])]⟩ (tl [(0, .v (.one (.d (.int .i64 qat)))), (3, .v (.one (.box 0 0)))]) 1

theorem fleetref2_within_x1_ok (qat : Int) (qw : api_Window) {r} (hF : fleetref2_within_x1 qat qw = some r) : Awp prog 0 15 (cL (cR (cB f52))) (Out 0 fleetref2_within_x1_k (fleetref2_within_x1_S qat qw) r) (fleetref2_within_x1_I qat qw) := by
  unfold fleetref2_within_x1 at hF
  refine cE hF (fun h1 hF => ?_) fun h1 hF => ?_
  · refine awp_region ?_
    refine aR 3 ?_
    refine aB h1 ?_
    refine aR 7 ?_
    refine aE ?_
    exact oO hF [] [] rfl
  · refine awp_region ?_
    refine aR 3 ?_
    refine aB h1 ?_
    refine aR 7 ?_
    refine aE ?_
    exact oO hF [] [] rfl

def fleetref2_within_R (qat : Int) (qw : api_Window) (r : Bool) : TV × Mem := (.v (.one (.d (.bool r))), ⟨[], []⟩)

theorem fleetref2_within_ok {qat : Int} {qw : api_Window} {r} (hF : fleetref2_within qat qw = some r) : Holds prog 52 [.v (.one (.d (.int .i64 qat))), .v (.agg [.d (.int .i64 qw.From), .d (.int .i64 qw.To)])] ⟨[], []⟩ (Is (fleetref2_within_R qat qw r)) := by
  unfold fleetref2_within at hF
  refine holds_of_awp hΓ (fn := f52) (c := cB f52) (A := 0) (nx := 0) (by kernel_rfl) (by kernel_rfl) (by kernel_rfl) (by kernel_rfl) (by kernel_rfl) (by kernel_rfl) (lowc_of (by kernel_rfl)) ?_
  show Awp prog 0 15 (cB f52) _ _
  refine awp_seq ?_
  refine awp_region ?_
  refine aR 2 ?_
  refine aE ?_
  refine awp_seq ?_
  refine awp_to (st' := fleetref2_within_x1_I qat qw) (oT [] []) ?_
  refine bE hF fun vx1 h2 hF => ?_
  refine awp_sub (fleetref2_within_x1_ok qat qw h2) ?_
  refine awp_ret ?_
  exact oF hF [] []

/-! ### beaconfleet/fleetref2.PickedOf$1 -/
def fleetref2_PickedOf_1_x1_k : Bool → AEx
  | _ => .normal

def fleetref2_PickedOf_1_x1_S (qs : api_Sample) (qx : List UInt8) (qx1 : List UInt8) (qx2 : api_Window) : Bool → St
  | vx => Mem.st ⟨[], [(0, [.d (.str qx)]), (1, [.d (.str qx1)]), (2, [.d (.int .i64 qx2.From), .d (.int .i64 qx2.To)])]⟩ (tl [(5, .v (.one (.d (.bool vx))))]) 3

def fleetref2_PickedOf_1_x1_I (qs : api_Sample) (qx : List UInt8) (qx1 : List UInt8) (qx2 : api_Window) : St := Mem.st ⟨[], [(0, [.d (.str qx)]), (1, [.d (.str qx1)]), (2, [.d (.int .i64 qx2.From), .d (.int .i64 qx2.To)]), (3, [.d (.str qs.Device), .d (.str qs.Metric), .d (.int .i64 qs.At), .d (.int .i64 qs.Value)])]⟩ (tl [(1, .v (.one (.box 0 0))), (2, .v (.one (.box 1 0))), (3, .v (.one (.box 2 0))), (4, .v (.one (.box 3 0)))]) 4

theorem fleetref2_PickedOf_1_x1_ok (qs : api_Sample) (qx : List UInt8) (qx1 : List UInt8) (qx2 : api_Window) {r} (hF : fleetref2_PickedOf_1_x1 qs qx qx1 qx2 = some r) : Awp prog 3 23 (cL (cR (cB f51))) (Out 3 fleetref2_PickedOf_1_x1_k (fleetref2_PickedOf_1_x1_S qs qx qx1 qx2) r) (fleetref2_PickedOf_1_x1_I qs qx qx1 qx2) := by
  unfold fleetref2_PickedOf_1_x1 at hF
  refine cE hF (fun h1 hF => ?_) fun h1 hF => ?_
  · refine awp_region ?_
    refine aR 3 ?_
    refine aB h1 ?_
    refine aR 14 ?_
    refine aE ?_
    exact oO hF [] [] rfl
  · refine cE hF (fun h2 hF => ?_) fun h2 hF => ?_
    · refine awp_region ?_
      refine aR 3 ?_
      refine aB h1 ?_
      refine aR 4 ?_
      refine aB h2 ?_
      refine aR 9 ?_
      refine aE ?_
      exact oO hF [] [] rfl
    · refine bE hF fun vr h3 hF => ?_
      refine awp_region ?_
      refine aR 3 ?_
      refine aB h1 ?_
      refine aR 4 ?_
      refine aB h2 ?_
      refine aR 5 ?_
      refine aC (fleetref2_within_ok h3) [] [] [] ?_
      refine aR 3 ?_
      refine aE ?_
      exact oO hF [] [] rfl

def fleetref2_PickedOf_1_R (qs : api_Sample) (qx : List UInt8) (qx1 : List UInt8) (qx2 : api_Window) (r : Bool) : TV × Mem := (.v (.one (.d (.bool r))), ⟨[], [(0, [.d (.str qx)]), (1, [.d (.str qx1)]), (2, [.d (.int .i64 qx2.From), .d (.int .i64 qx2.To)])]⟩)

theorem fleetref2_PickedOf_1_ok {qs : api_Sample} {qx : List UInt8} {qx1 : List UInt8} {qx2 : api_Window} {r} (hF : fleetref2_PickedOf_1 qs qx qx1 qx2 = some r) : Holds prog 51 [.v (.agg [.d (.str qs.Device), .d (.str qs.Metric), .d (.int .i64 qs.At), .d (.int .i64 qs.Value)]), .v (.one (.box 0 0)), .v (.one (.box 1 0)), .v (.one (.box 2 0))] ⟨[], [(0, [.d (.str qx)]), (1, [.d (.str qx1)]), (2, [.d (.int .i64 qx2.From), .d (.int .i64 qx2.To)])]⟩ (Is (fleetref2_PickedOf_1_R qs qx qx1 qx2 r)) := by
  unfold fleetref2_PickedOf_1 at hF
  refine holds_of_awp hΓ (fn := f51) (c := cB f51) (A := 3) (nx := 3) (by kernel_rfl) (by kernel_rfl) (by kernel_rfl) (by kernel_rfl) (by kernel_rfl) (by kernel_rfl) (lowc_of (by kernel_rfl)) ?_
  show Awp prog 3 23 (cB f51) _ _
  refine awp_seq ?_
  refine awp_region ?_
  refine aR 2 ?_
  refine aE ?_
  refine awp_seq ?_
  refine awp_to (st' := fleetref2_PickedOf_1_x1_I qs qx qx1 qx2) (oT [] []) ?_
  refine bE hF fun vx1 h4 hF => ?_
  refine awp_sub (fleetref2_PickedOf_1_x1_ok qs qx qx1 qx2 h4) ?_
  refine awp_ret ?_
  exact oF hF [] []

/-! ### slices.IndexFunc[[]beaconfleet/api.Sample,beaconfleet/api.Sample] -/
def slices_IndexFunc_api_Sample_api_Sample_f1_fleetref2_PickedOf_1_x1_k : Unit ⊕ Int → AEx
  | .inl _ => .exit 0
  | .inr _ => .ret

def slices_IndexFunc_api_Sample_api_Sample_f1_fleetref2_PickedOf_1_x1_S (qs : List api_Sample) (qf : List UInt8) (qf1 : List UInt8) (qf2 : api_Window) : Unit ⊕ Int → St
  | .inl _ => Mem.st ⟨[], [(0, [.d (.str qf)]), (1, [.d (.str qf1)]), (2, [.d (.int .i64 qf2.From), .d (.int .i64 qf2.To)])]⟩ (tl []) 3
  | .inr vx1 => Mem.st ⟨[], [(0, [.d (.str qf)]), (1, [.d (.str qf1)]), (2, [.d (.int .i64 qf2.From), .d (.int .i64 qf2.To)])]⟩ (tl [(4, .v (.one (.d (.int .i64 vx1))))]) 3

def slices_IndexFunc_api_Sample_api_Sample_f1_fleetref2_PickedOf_1_x1_H (qs : List api_Sample) (qf : List UInt8) (qf1 : List UInt8) (qf2 : api_Window) : Int → St
  | vx => Mem.st ⟨[], [(0, [.d (.str qf)]), (1, [.d (.str qf1)]), (2, [.d (.int .i64 qf2.From), .d (.int .i64 qf2.To)])]⟩ (tl [(0, .v (.one (.d (.lst (List.map api_Sample.enc qs))))), (1, .v (.one (.fn 51 [0, 1, 2]))), (7, .v (.one (.d (.int .i64 (qs.length : Int))))), (8, .v (.one (.d (.int .i64 vx))))]) 3

theorem slices_IndexFunc_api_Sample_api_Sample_f1_fleetref2_PickedOf_1_x1_ok (qs : List api_Sample) (qf : List UInt8) (qf1 : List UInt8) (qf2 : api_Window) (vx : Int) (r : (Int) ⊕ (Unit ⊕ Int)) (hF : slices_IndexFunc_api_Sample_api_Sample_f1_fleetref2_PickedOf_1_x1 qs qf qf1 qf2 vx = some r) : Awp prog 3 19 (cL (cL (cR (cL (cR (cB f64)))))) (Out 3 (kk slices_IndexFunc_api_Sample_api_Sample_f1_fleetref2_PickedOf_1_x1_k) (SS (slices_IndexFunc_api_Sample_api_Sample_f1_fleetref2_PickedOf_1_x1_H qs qf qf1 qf2) (slices_IndexFunc_api_Sample_api_Sample_f1_fleetref2_PickedOf_1_x1_S qs qf qf1 qf2)) r) (slices_IndexFunc_api_Sample_api_Sample_f1_fleetref2_PickedOf_1_x1_H qs qf qf1 qf2 vx) := by
  unfold slices_IndexFunc_api_Sample_api_Sample_f1_fleetref2_PickedOf_1_x1 at hF
  refine awp_seq ?_
  refine awp_region ?_
  refine aR 1 ?_
  refine aE ?_
  refine awp_seq ?_
  refine cE hF (fun h1 hF => ?_) fun h1 hF => ?_
  · refine awp_true (by kernel_rfl) h1 ?_
    refine awp_skip ?_
    refine awp_seq ?_
    refine awp_block ?_
    refine awp_seq ?_
    refine awp_region ?_
    refine aR 2 ?_
    refine aE ?_
    refine awp_seq ?_
    refine bE hF fun vy1 h2 hF => ?_
    refine bE hF fun vr1_1 h3 hF => ?_
    refine awp_region ?_
    refine aR 3 ?_
    refine aX (x_idx api_Sample.enc h2) ?_
    refine aR 1 ?_
    refine aC (fleetref2_PickedOf_1_ok h3) [] [] [] ?_
    refine aE ?_
    refine cE hF (fun h4 hF => ?_) fun h4 hF => ?_
    · refine awp_true (by kernel_rfl) h4 ?_
      refine awp_seq ?_
      refine awp_region ?_
      refine aR 2 ?_
      refine aE ?_
      refine awp_ret ?_
      exact oO hF [] [] rfl
    · refine awp_false (by kernel_rfl) h4 ?_
      refine awp_skip ?_
      refine awp_region ?_
      refine aR 2 ?_
      refine aE ?_
      exact oO hF [] [] rfl
  · refine awp_false (by kernel_rfl) h1 ?_
    refine awp_exit ?_
    exact oO hF [] [] rfl

def slices_IndexFunc_api_Sample_api_Sample_f1_fleetref2_PickedOf_1_R (qs : List api_Sample) (qf : List UInt8) (qf1 : List UInt8) (qf2 : api_Window) (r : Int) : TV × Mem := (.v (.one (.d (.int .i64 r))), ⟨[], [(0, [.d (.str qf)]), (1, [.d (.str qf1)]), (2, [.d (.int .i64 qf2.From), .d (.int .i64 qf2.To)])]⟩)

theorem slices_IndexFunc_api_Sample_api_Sample_f1_fleetref2_PickedOf_1_ok {qs : List api_Sample} {qf : List UInt8} {qf1 : List UInt8} {qf2 : api_Window} {r} (hF : slices_IndexFunc_api_Sample_api_Sample_f1_fleetref2_PickedOf_1 qs qf qf1 qf2 = some r) : Holds prog 64 [.v (.one (.d (.lst (List.map api_Sample.enc qs)))), .v (.one (.fn 51 [0, 1, 2]))] ⟨[], [(0, [.d (.str qf)]), (1, [.d (.str qf1)]), (2, [.d (.int .i64 qf2.From), .d (.int .i64 qf2.To)])]⟩ (Is (slices_IndexFunc_api_Sample_api_Sample_f1_fleetref2_PickedOf_1_R qs qf qf1 qf2 r)) := by
  unfold slices_IndexFunc_api_Sample_api_Sample_f1_fleetref2_PickedOf_1 at hF
  refine holds_of_awp hΓ (fn := f64) (c := cB f64) (A := 3) (nx := 3) (by kernel_rfl) (by kernel_rfl) (by kernel_rfl) (by kernel_rfl) (by kernel_rfl) (by kernel_rfl) (lowc_of (by kernel_rfl)) ?_
  show Awp prog 3 19 (cB f64) _ _
  refine awp_seq ?_
  refine awp_region ?_
  refine aR 1 ?_
  refine aE ?_
  refine awp_seq ?_
  refine awp_seq ?_
  refine awp_region ?_
  refine aR 1 ?_
  refine aL api_Sample.enc qs ?_
  refine aR 1 ?_
  refine aE ?_
  refine awp_block ?_
  refine awp_to (st' := slices_IndexFunc_api_Sample_api_Sample_f1_fleetref2_PickedOf_1_x1_H qs qf qf1 qf2 0) (oT [] []) ?_
  refine bE hF fun x h5 hF => ?_
  rcases x with _ | vx1_1
  · refine awp_sub (awp_loop' (slices_IndexFunc_api_Sample_api_Sample_f1_fleetref2_PickedOf_1_x1_H qs qf qf1 qf2) slices_IndexFunc_api_Sample_api_Sample_f1_fleetref2_PickedOf_1_x1_k (slices_IndexFunc_api_Sample_api_Sample_f1_fleetref2_PickedOf_1_x1_S qs qf qf1 qf2) (by intro x; rcases x with x | x <;> exact fun h => nomatch h) h5 (slices_IndexFunc_api_Sample_api_Sample_f1_fleetref2_PickedOf_1_x1_ok qs qf qf1 qf2)) ?_
    refine awp_seq ?_
    refine awp_region ?_
    refine aR 1 ?_
    refine aE ?_
    refine awp_ret ?_
    exact oF hF [] []
  · refine awp_sub (awp_loop' (slices_IndexFunc_api_Sample_api_Sample_f1_fleetref2_PickedOf_1_x1_H qs qf qf1 qf2) slices_IndexFunc_api_Sample_api_Sample_f1_fleetref2_PickedOf_1_x1_k (slices_IndexFunc_api_Sample_api_Sample_f1_fleetref2_PickedOf_1_x1_S qs qf qf1 qf2) (by intro x; rcases x with x | x <;> exact fun h => nomatch h) h5 (slices_IndexFunc_api_Sample_api_Sample_f1_fleetref2_PickedOf_1_x1_ok qs qf qf1 qf2)) ?_
    exact oF hF [] []

/-! ### slices.DeleteFunc[[]beaconfleet/api.Sample,beaconfleet/api.Sample] -/
def slices_DeleteFunc_api_Sample_api_Sample_o0_f1_fleetref2_PickedOf_1_x2_k : ((List api_Sample) × Int) → AEx
  | _ => .normal

def slices_DeleteFunc_api_Sample_api_Sample_o0_f1_fleetref2_PickedOf_1_x2_S (qdel : List UInt8) (qdel1 : List UInt8) (qdel2 : api_Window) (vl : List api_Sample) (vi : Int) (vj : Int) : ((List api_Sample) × Int) → St
  | (vl2, vi2) => Mem.st ⟨[(3, ⟨32, 4, List.map api_Sample.enc vl2⟩)], [(0, [.d (.str qdel)]), (1, [.d (.str qdel1)]), (2, [.d (.int .i64 qdel2.From), .d (.int .i64 qdel2.To)])]⟩ (tl [(0, .v (.one (.own 3 none))), (1, .v (.one (.fn 51 [0, 1, 2]))), (5, .v (.one (.d (.int .i64 vi2)))), (6, .v (.one (.d (.int .i64 vj))))]) 4

def slices_DeleteFunc_api_Sample_api_Sample_o0_f1_fleetref2_PickedOf_1_x2_I (qdel : List UInt8) (qdel1 : List UInt8) (qdel2 : api_Window) (vl : List api_Sample) (vi : Int) (vj : Int) : St := Mem.st ⟨[(3, ⟨32, 4, List.map api_Sample.enc vl⟩)], [(0, [.d (.str qdel)]), (1, [.d (.str qdel1)]), (2, [.d (.int .i64 qdel2.From), .d (.int .i64 qdel2.To)])]⟩ (tl [(0, .v (.one (.own 3 none))), (1, .v (.one (.fn 51 [0, 1, 2]))), (5, .v (.one (.d (.int .i64 vi)))), (6, .v (.one (.d (.int .i64 vj))))]) 4

theorem slices_DeleteFunc_api_Sample_api_Sample_o0_f1_fleetref2_PickedOf_1_x2_ok (qdel : List UInt8) (qdel1 : List UInt8) (qdel2 : api_Window) (vl : List api_Sample) (vi : Int) (vj : Int) {r} (hF : slices_DeleteFunc_api_Sample_api_Sample_o0_f1_fleetref2_PickedOf_1_x2 qdel qdel1 qdel2 vl vi vj = some r) : Awp prog 4 42 (cL (cR (cL (cL (cR (cL (cR (cR (cR (cB f50)))))))))) (Out 4 slices_DeleteFunc_api_Sample_api_Sample_o0_f1_fleetref2_PickedOf_1_x2_k (slices_DeleteFunc_api_Sample_api_Sample_o0_f1_fleetref2_PickedOf_1_x2_S qdel qdel1 qdel2 vl vi vj) r) (slices_DeleteFunc_api_Sample_api_Sample_o0_f1_fleetref2_PickedOf_1_x2_I qdel qdel1 qdel2 vl vi vj) := by
  unfold slices_DeleteFunc_api_Sample_api_Sample_o0_f1_fleetref2_PickedOf_1_x2 at hF
  refine awp_block ?_
  refine awp_seq ?_
  refine bE hF fun vy2 h4 hF => ?_
  refine awp_region ?_
  refine aR 2 ?_
  refine aX (x_idxO api_Sample.enc 3 h4) ?_
  refine aX (x_ldE api_Sample.enc h4) ?_
  refine aR 2 ?_
  refine aE ?_
  refine awp_seq ?_
  refine bE hF fun vr1_1 h5 hF => ?_
  refine awp_region ?_
  refine aR 2 ?_
  refine aC (fleetref2_PickedOf_1_ok h5) [] [] [] ?_
  refine aR 1 ?_
  refine aE ?_
  refine cE hF (fun h6 hF => ?_) fun h6 hF => ?_
  · refine awp_true (by kernel_rfl) h6 ?_
    refine awp_seq ?_
    refine bE hF fun vy3 h7 hF => ?_
    refine awp_region ?_
    refine aR 3 ?_
    refine aX (x_idxO api_Sample.enc 3 h7) ?_
    refine aX (x_stE api_Sample.enc vy2 h7) ?_
    refine aE ?_
    refine awp_region ?_
    refine aR 3 ?_
    refine aE ?_
    exact oO hF [] [] rfl
  · refine awp_false (by kernel_rfl) h6 ?_
    refine awp_skip ?_
    exact oO hF [] [] rfl

def slices_DeleteFunc_api_Sample_api_Sample_o0_f1_fleetref2_PickedOf_1_x1_k : ((List api_Sample) × Int) → AEx
  | _ => .exit 0

def slices_DeleteFunc_api_Sample_api_Sample_o0_f1_fleetref2_PickedOf_1_x1_S (qdel : List UInt8) (qdel1 : List UInt8) (qdel2 : api_Window) : ((List api_Sample) × Int) → St
  | (vl3, vi3) => Mem.st ⟨[(3, ⟨32, 4, List.map api_Sample.enc vl3⟩)], [(0, [.d (.str qdel)]), (1, [.d (.str qdel1)]), (2, [.d (.int .i64 qdel2.From), .d (.int .i64 qdel2.To)])]⟩ (tl [(0, .v (.one (.own 3 none))), (5, .v (.one (.d (.int .i64 vi3))))]) 4

def slices_DeleteFunc_api_Sample_api_Sample_o0_f1_fleetref2_PickedOf_1_x1_H (qdel : List UInt8) (qdel1 : List UInt8) (qdel2 : api_Window) : (List api_Sample) × Int × Int → St
  | (vl, vi, vj) => Mem.st ⟨[(3, ⟨32, 4, List.map api_Sample.enc vl⟩)], [(0, [.d (.str qdel)]), (1, [.d (.str qdel1)]), (2, [.d (.int .i64 qdel2.From), .d (.int .i64 qdel2.To)])]⟩ (tl [(0, .v (.one (.own 3 none))), (1, .v (.one (.fn 51 [0, 1, 2]))), (5, .v (.one (.d (.int .i64 vi)))), (6, .v (.one (.d (.int .i64 vj))))]) 4

theorem slices_DeleteFunc_api_Sample_api_Sample_o0_f1_fleetref2_PickedOf_1_x1_ok (qdel : List UInt8) (qdel1 : List UInt8) (qdel2 : api_Window) (s : (List api_Sample) × Int × Int) (r : ((List api_Sample) × Int × Int) ⊕ (((List api_Sample) × Int))) (hF : slices_DeleteFunc_api_Sample_api_Sample_o0_f1_fleetref2_PickedOf_1_x1 qdel qdel1 qdel2 s = some r) : Awp prog 4 42 (cL (cL (cR (cL (cR (cR (cR (cB f50)))))))) (Out 4 (kk slices_DeleteFunc_api_Sample_api_Sample_o0_f1_fleetref2_PickedOf_1_x1_k) (SS (slices_DeleteFunc_api_Sample_api_Sample_o0_f1_fleetref2_PickedOf_1_x1_H qdel qdel1 qdel2) (slices_DeleteFunc_api_Sample_api_Sample_o0_f1_fleetref2_PickedOf_1_x1_S qdel qdel1 qdel2)) r) (slices_DeleteFunc_api_Sample_api_Sample_o0_f1_fleetref2_PickedOf_1_x1_H qdel qdel1 qdel2 s) := by
  obtain ⟨vl, vi, vj⟩ := s
  unfold slices_DeleteFunc_api_Sample_api_Sample_o0_f1_fleetref2_PickedOf_1_x1 at hF
  refine awp_seq ?_
  refine awp_seq ?_
  refine awp_region ?_
  refine aR 2 ?_
  refine aL api_Sample.enc vl ?_
  refine aR 1 ?_
  refine aE ?_
  refine cE hF (fun h3 hF => ?_) fun h3 hF => ?_
  · refine awp_true (by kernel_rfl) h3 ?_
    refine awp_skip ?_
    refine awp_seq ?_
    refine awp_to (st' := slices_DeleteFunc_api_Sample_api_Sample_o0_f1_fleetref2_PickedOf_1_x2_I qdel qdel1 qdel2 vl vi vj) (oT [] []) ?_
    refine bE hF fun x h8 hF => ?_
    obtain ⟨vl2_1, vi2_1⟩ := x
    refine awp_sub (slices_DeleteFunc_api_Sample_api_Sample_o0_f1_fleetref2_PickedOf_1_x2_ok qdel qdel1 qdel2 vl vi vj h8) ?_
    refine awp_region ?_
    refine aR 3 ?_
    refine aE ?_
    exact oO hF [] [] rfl
  · refine awp_false (by kernel_rfl) h3 ?_
    refine awp_exit ?_
    exact oO hF [] [] rfl

def slices_DeleteFunc_api_Sample_api_Sample_o0_f1_fleetref2_PickedOf_1_R (qs : List api_Sample) (qdel : List UInt8) (qdel1 : List UInt8) (qdel2 : api_Window) (r : (List api_Sample)) : TV × Mem := (.v (.one (.own 4 none)), ⟨[(4, ⟨32, 4, List.map api_Sample.enc r⟩)], [(0, [.d (.str qdel)]), (1, [.d (.str qdel1)]), (2, [.d (.int .i64 qdel2.From), .d (.int .i64 qdel2.To)])]⟩)

theorem slices_DeleteFunc_api_Sample_api_Sample_o0_f1_fleetref2_PickedOf_1_ok {qs : List api_Sample} {qdel : List UInt8} {qdel1 : List UInt8} {qdel2 : api_Window} {r} (hF : slices_DeleteFunc_api_Sample_api_Sample_o0_f1_fleetref2_PickedOf_1 qs qdel qdel1 qdel2 = some r) : Holds prog 50 [.v (.one (.own 3 none)), .v (.one (.fn 51 [0, 1, 2]))] ⟨[(3, ⟨32, 4, List.map api_Sample.enc qs⟩)], [(0, [.d (.str qdel)]), (1, [.d (.str qdel1)]), (2, [.d (.int .i64 qdel2.From), .d (.int .i64 qdel2.To)])]⟩ (Is (slices_DeleteFunc_api_Sample_api_Sample_o0_f1_fleetref2_PickedOf_1_R qs qdel qdel1 qdel2 r)) := by
  unfold slices_DeleteFunc_api_Sample_api_Sample_o0_f1_fleetref2_PickedOf_1 at hF
  refine holds_of_awp hΓ (fn := f50) (c := cB f50) (A := 4) (nx := 4) (by kernel_rfl) (by kernel_rfl) (by kernel_rfl) (by kernel_rfl) (by kernel_rfl) (by kernel_rfl) (lowc_of (by kernel_rfl)) ?_
  show Awp prog 4 42 (cB f50) _ _
  refine awp_seq ?_
  refine awp_region ?_
  refine aR 1 ?_
  refine aE ?_
  refine awp_seq ?_
  refine bE hF fun vr h1 hF => ?_
  refine awp_region ?_
  refine aR 2 ?_
  refine aC (slices_IndexFunc_api_Sample_api_Sample_f1_fleetref2_PickedOf_1_ok h1) [] [] [3] ?_
  refine aR 1 ?_
  refine aE ?_
  refine awp_seq ?_
  refine awp_seq ?_
  refine awp_region ?_
  refine aR 2 ?_
  refine aE ?_
  refine cE hF (fun h2 hF => ?_) fun h2 hF => ?_
  · refine awp_true (by kernel_rfl) h2 ?_
    refine awp_seq ?_
    refine awp_region ?_
    refine aR 2 ?_
    refine aE ?_
    refine awp_ret ?_
    exact oF hF [(4, 3)] []
  · refine awp_false (by kernel_rfl) h2 ?_
    refine awp_skip ?_
    refine awp_seq ?_
    refine awp_seq ?_
    refine awp_region ?_
    refine aR 3 ?_
    refine aE ?_
    refine awp_block ?_
    refine awp_to (st' := slices_DeleteFunc_api_Sample_api_Sample_o0_f1_fleetref2_PickedOf_1_x1_H qdel qdel1 qdel2 (qs, vr, IntKind.wrap .i64 (vr + 1))) (oT [] []) ?_
    refine bE hF fun x h9 hF => ?_
    obtain ⟨vl3_1, vi3_1⟩ := x
    refine awp_sub (awp_loop' (slices_DeleteFunc_api_Sample_api_Sample_o0_f1_fleetref2_PickedOf_1_x1_H qdel qdel1 qdel2) slices_DeleteFunc_api_Sample_api_Sample_o0_f1_fleetref2_PickedOf_1_x1_k (slices_DeleteFunc_api_Sample_api_Sample_o0_f1_fleetref2_PickedOf_1_x1_S qdel qdel1 qdel2) (by intro x; exact fun h => nomatch h) h9 (slices_DeleteFunc_api_Sample_api_Sample_o0_f1_fleetref2_PickedOf_1_x1_ok qdel qdel1 qdel2)) ?_
    refine awp_seq ?_
    refine gE hF fun h10 hF => ?_
    refine awp_region ?_
    refine aR 2 ?_
    refine aX (x_viewN api_Sample.enc 3 h10) ?_
    refine aCl api_Sample.enc 3 (xs := vl3_1) (y := api_Sample.mk ([] : List UInt8) ([] : List UInt8) 0 0) (lo := vi3_1) (hi := (vl3_1.length : Int)) rfl ?_
    refine aE ?_
    refine awp_seq ?_
    refine gE hF fun h11 hF => ?_
    refine awp_region ?_
    refine aR 2 ?_
    refine aT api_Sample.enc 3 h11 rfl ?_
    refine aR 1 ?_
    refine aE ?_
    refine awp_ret ?_
    exact oF hF [(4, 6004)] []

/-! ### beaconfleet/fleetref2.PickedOf -/
def fleetref2_PickedOf_R (ql : List api_Sample) (qdevice : List UInt8) (qmetric : List UInt8) (qw : api_Window) (r : (List api_Sample)) : TV × Mem := (.v (.one (.own 0 none)), ⟨[(0, ⟨32, 4, List.map api_Sample.enc r⟩)], []⟩)

theorem fleetref2_PickedOf_ok {ql : List api_Sample} {qdevice : List UInt8} {qmetric : List UInt8} {qw : api_Window} {r} (hF : fleetref2_PickedOf ql qdevice qmetric qw = some r) : Holds prog 23 [.v (.one (.d (.lst (List.map api_Sample.enc ql)))), .v (.one (.d (.str qdevice))), .v (.one (.d (.str qmetric))), .v (.agg [.d (.int .i64 qw.From), .d (.int .i64 qw.To)])] ⟨[], []⟩ (Is (fleetref2_PickedOf_R ql qdevice qmetric qw r)) := by
  unfold fleetref2_PickedOf at hF
  refine holds_of_awp hΓ (fn := f23) (c := cB f23) (A := 0) (nx := 0) (by kernel_rfl) (by kernel_rfl) (by kernel_rfl) (by kernel_rfl) (by kernel_rfl) (by kernel_rfl) (lowc_of (by kernel_rfl)) ?_
  show Awp prog 0 13 (cB f23) _ _
  refine awp_seq ?_
  refine awp_region ?_
  refine aR 4 ?_
  refine aE ?_
  refine awp_seq ?_
  refine bE hF fun vr h1 hF => ?_
  refine bE hF fun vr2 h2 hF => ?_
  refine awp_region ?_
  refine aR 1 ?_
  refine aC (slices_Clone_api_Sample_api_Sample_ok h1) [] [] [] ?_
  refine aR 1 ?_
  refine aC (slices_DeleteFunc_api_Sample_api_Sample_o0_f1_fleetref2_PickedOf_1_ok h2) [(1, 1000), (2, 2000), (3, 5000)] [] [] ?_
  refine aR 1 ?_
  refine aE ?_
  refine awp_ret ?_
  exact oF hF [(0, 7004)] []

/-! ### slices.Equal[[]beaconfleet/api.Sample,beaconfleet/api.Sample] -/
def slices_Equal_api_Sample_api_Sample_x1_k : Unit ⊕ Unit → AEx
  | .inl _ => .exit 0
  | .inr _ => .ret

def slices_Equal_api_Sample_api_Sample_x1_S (qs1 : List api_Sample) (qs2 : List api_Sample) : Unit ⊕ Unit → St
  | .inl _ => Mem.st ⟨[], []⟩ (tl []) 0
  | .inr _ => Mem.st ⟨[], []⟩ (tl [(4, .v (.one (.d (.bool false))))]) 0

def slices_Equal_api_Sample_api_Sample_x1_H (qs1 : List api_Sample) (qs2 : List api_Sample) : Int → St
  | vx => Mem.st ⟨[], []⟩ (tl [(0, .v (.one (.d (.lst (List.map api_Sample.enc qs1))))), (1, .v (.one (.d (.lst (List.map api_Sample.enc qs2))))), (12, .v (.one (.d (.int .i64 (qs1.length : Int))))), (13, .v (.one (.d (.int .i64 vx))))]) 0

theorem slices_Equal_api_Sample_api_Sample_x1_ok (qs1 : List api_Sample) (qs2 : List api_Sample) (vx : Int) (r : (Int) ⊕ (Unit ⊕ Unit)) (hF : slices_Equal_api_Sample_api_Sample_x1 qs1 qs2 vx = some r) : Awp prog 0 26 (cL (cL (cR (cL (cR (cR (cB f24))))))) (Out 0 (kk slices_Equal_api_Sample_api_Sample_x1_k) (SS (slices_Equal_api_Sample_api_Sample_x1_H qs1 qs2) (slices_Equal_api_Sample_api_Sample_x1_S qs1 qs2)) r) (slices_Equal_api_Sample_api_Sample_x1_H qs1 qs2 vx) := by
  unfold slices_Equal_api_Sample_api_Sample_x1 at hF
  refine awp_seq ?_
  refine awp_region ?_
  refine aR 1 ?_
  refine aE ?_
  refine awp_seq ?_
  refine cE hF (fun h2 hF => ?_) fun h2 hF => ?_
  · refine awp_true (by kernel_rfl) h2 ?_
    refine awp_skip ?_
    refine awp_seq ?_
    refine awp_block ?_
    refine awp_seq ?_
    refine awp_region ?_
    refine aR 2 ?_
    refine aE ?_
    refine awp_seq ?_
    refine bE hF fun vy2 h3 hF => ?_
    refine bE hF fun vy3 h4 hF => ?_
    refine aD ?_
    refine dR 2 ?_
    refine dX (x_idx api_Sample.enc h3) ?_
    refine dR 3 ?_
    refine dX (x_idx api_Sample.enc h4) ?_
    refine dR 1 ?_
    refine dS (U := []) (stable_eqS (op := .neq) (xs := [.str vy2.Device, .str vy2.Metric, .int .i64 vy2.At, .int .i64 vy2.Value]) (ys := [.str vy3.Device, .str vy3.Metric, .int .i64 vy3.At, .int .i64 vy3.Value]) (b := (decide (vy2.Device = vy3.Device) && (decide (vy2.Metric = vy3.Metric) && (decide (vy2.At = vy3.At) && (decide (vy2.Value = vy3.Value) && true))))) (c := (!(decide (vy2.Device = vy3.Device) && (decide (vy2.Metric = vy3.Metric) && (decide (vy2.At = vy3.At) && (decide (vy2.Value = vy3.Value) && true)))))) rfl (.inr ⟨rfl, rfl⟩) (by kernel_rfl) (by kernel_rfl) (by kernel_rfl) (by kernel_rfl) (by kernel_rfl) (by kernel_rfl)) ?_
    refine dE ?_
    refine cE hF (fun h5 hF => ?_) fun h5 hF => ?_
    · refine awp_true (by kernel_rfl) h5 ?_
      refine awp_seq ?_
      refine awp_region ?_
      refine aR 1 ?_
      refine aE ?_
      refine awp_ret ?_
      exact oO hF [] [] rfl
    · refine awp_false (by kernel_rfl) h5 ?_
      refine awp_skip ?_
      refine awp_region ?_
      refine aR 2 ?_
      refine aE ?_
      exact oO hF [] [] rfl
  · refine awp_false (by kernel_rfl) h2 ?_
    refine awp_exit ?_
    exact oO hF [] [] rfl

def slices_Equal_api_Sample_api_Sample_R (qs1 : List api_Sample) (qs2 : List api_Sample) (r : Bool) : TV × Mem := (.v (.one (.d (.bool r))), ⟨[], []⟩)

theorem slices_Equal_api_Sample_api_Sample_ok {qs1 : List api_Sample} {qs2 : List api_Sample} {r} (hF : slices_Equal_api_Sample_api_Sample qs1 qs2 = some r) : Holds prog 24 [.v (.one (.d (.lst (List.map api_Sample.enc qs1)))), .v (.one (.d (.lst (List.map api_Sample.enc qs2))))] ⟨[], []⟩ (Is (slices_Equal_api_Sample_api_Sample_R qs1 qs2 r)) := by
  unfold slices_Equal_api_Sample_api_Sample at hF
  refine holds_of_awp hΓ (fn := f24) (c := cB f24) (A := 0) (nx := 0) (by kernel_rfl) (by kernel_rfl) (by kernel_rfl) (by kernel_rfl) (by kernel_rfl) (by kernel_rfl) (lowc_of (by kernel_rfl)) ?_
  show Awp prog 0 26 (cB f24) _ _
  refine awp_seq ?_
  refine awp_region ?_
  refine aR 1 ?_
  refine aE ?_
  refine awp_seq ?_
  refine awp_seq ?_
  refine awp_region ?_
  refine aR 1 ?_
  refine aL api_Sample.enc qs1 ?_
  refine aR 1 ?_
  refine aL api_Sample.enc qs2 ?_
  refine aR 1 ?_
  refine aE ?_
  refine cE hF (fun h1 hF => ?_) fun h1 hF => ?_
  · refine awp_true (by kernel_rfl) h1 ?_
    refine awp_seq ?_
    refine awp_region ?_
    refine aR 1 ?_
    refine aE ?_
    refine awp_ret ?_
    exact oF hF [] []
  · refine awp_false (by kernel_rfl) h1 ?_
    refine awp_skip ?_
    refine awp_seq ?_
    refine awp_seq ?_
    refine awp_region ?_
    refine aR 1 ?_
    refine aL api_Sample.enc qs1 ?_
    refine aR 1 ?_
    refine aE ?_
    refine awp_block ?_
    refine awp_to (st' := slices_Equal_api_Sample_api_Sample_x1_H qs1 qs2 0) (oT [] []) ?_
    refine bE hF fun x h6 hF => ?_
    rcases x with _ | _
    · refine awp_sub (awp_loop' (slices_Equal_api_Sample_api_Sample_x1_H qs1 qs2) slices_Equal_api_Sample_api_Sample_x1_k (slices_Equal_api_Sample_api_Sample_x1_S qs1 qs2) (by intro x; rcases x with x | x <;> exact fun h => nomatch h) h6 (slices_Equal_api_Sample_api_Sample_x1_ok qs1 qs2)) ?_
      refine awp_seq ?_
      refine awp_region ?_
      refine aR 1 ?_
      refine aE ?_
      refine awp_ret ?_
      exact oF hF [] []
    · refine awp_sub (awp_loop' (slices_Equal_api_Sample_api_Sample_x1_H qs1 qs2) slices_Equal_api_Sample_api_Sample_x1_k (slices_Equal_api_Sample_api_Sample_x1_S qs1 qs2) (by intro x; rcases x with x | x <;> exact fun h => nomatch h) h6 (slices_Equal_api_Sample_api_Sample_x1_ok qs1 qs2)) ?_
      exact oF hF [] []

/-! ### beaconfleet/series.seven -/
def series_seven_n0_x1_k : ((List Int) × Int) → AEx
  | _ => .exit 0

def series_seven_n0_x1_S : ((List Int) × Int) → St
  | (vb1, vn1) => Mem.st ⟨[(0, ⟨5, 1, List.map (encI .u8) vb1⟩)], []⟩ (tl [(0, .v (.one (.own 0 none))), (1, .v (.one (.d (.int .u64 vn1))))]) 1

def series_seven_n0_x1_H : (List Int) × Int → St
  | (vb, vn) => Mem.st ⟨[(0, ⟨5, 1, List.map (encI .u8) vb⟩)], []⟩ (tl [(0, .v (.one (.own 0 none))), (1, .v (.one (.d (.int .u64 vn))))]) 1

theorem series_seven_n0_x1_ok (s : (List Int) × Int) (r : ((List Int) × Int) ⊕ (((List Int) × Int))) (hF : series_seven_n0_x1  s = some r) : Awp prog 0 21 (cL (cL (cL (cR (cB f82))))) (Out 0 (kk series_seven_n0_x1_k) (SS (series_seven_n0_x1_H ) (series_seven_n0_x1_S )) r) (series_seven_n0_x1_H  s) := by
  obtain ⟨vb, vn⟩ := s
  unfold series_seven_n0_x1 at hF
  refine awp_seq ?_
  refine awp_seq ?_
  refine awp_region ?_
  refine aR 2 ?_
  refine aE ?_
  refine cE hF (fun h1 hF => ?_) fun h1 hF => ?_
  · refine awp_true (by kernel_rfl) h1 ?_
    refine awp_skip ?_
    refine awp_block ?_
    refine gE hF fun h2 hF => ?_
    refine awp_region ?_
    refine aR 6 ?_
    refine aX (x_app (encI .u8) 0 h2) ?_
    refine aR 4 ?_
    refine aE ?_
    exact oO hF [(0, 8001)] [] rfl
  · refine awp_false (by kernel_rfl) h1 ?_
    refine awp_exit ?_
    exact oO hF [] [] rfl

def series_seven_n0_R (qn : Int) (r : (List Int)) : TV × Mem := (.v (.one (.own 0 none)), ⟨[(0, ⟨5, 1, List.map (encI .u8) r⟩)], []⟩)

theorem series_seven_n0_ok {qn : Int} {r} (hF : series_seven_n0 qn = some r) : Holds prog 82 [.v (.one (.nil)), .v (.one (.d (.int .u64 qn)))] ⟨[], []⟩ (Is (series_seven_n0_R qn r)) := by
  unfold series_seven_n0 at hF
  refine holds_of_awp hΓ (fn := f82) (c := cB f82) (A := 0) (nx := 0) (by kernel_rfl) (by kernel_rfl) (by kernel_rfl) (by kernel_rfl) (by kernel_rfl) (by kernel_rfl) (lowc_of (by kernel_rfl)) ?_
  show Awp prog 0 21 (cB f82) _ _
  refine awp_seq ?_
  refine awp_region ?_
  refine aR 1 ?_
  refine aE ?_
  refine awp_seq ?_
  refine awp_block ?_
  refine awp_to (st' := series_seven_n0_x1_H  ([], qn)) (oT [] [0]) ?_
  refine bE hF fun x h3 hF => ?_
  obtain ⟨vb1_1, vn1_1⟩ := x
  refine awp_sub (awp_loop' (series_seven_n0_x1_H ) series_seven_n0_x1_k (series_seven_n0_x1_S ) (by intro x; exact fun h => nomatch h) h3 (series_seven_n0_x1_ok )) ?_
  refine awp_seq ?_
  refine gE hF fun h4 hF => ?_
  refine awp_region ?_
  refine aR 4 ?_
  refine aX (x_app (encI .u8) 0 h4) ?_
  refine aR 1 ?_
  refine aE ?_
  refine awp_ret ?_
  exact oF hF [(0, 4001)] []

/-! ### beaconfleet/series.doubled -/
def series_doubled_R (qn : Int) (r : Int) : TV × Mem := (.v (.one (.d (.int .u64 r))), ⟨[], []⟩)

theorem series_doubled_ok {qn : Int} {r} (hF : series_doubled qn = some r) : Holds prog 83 [.v (.one (.d (.int .i64 qn)))] ⟨[], []⟩ (Is (series_doubled_R qn r)) := by
  unfold series_doubled at hF
  refine holds_of_awp hΓ (fn := f83) (c := cB f83) (A := 0) (nx := 0) (by kernel_rfl) (by kernel_rfl) (by kernel_rfl) (by kernel_rfl) (by kernel_rfl) (by kernel_rfl) (lowc_of (by kernel_rfl)) ?_
  show Awp prog 0 12 (cB f83) _ _
  refine awp_seq ?_
  refine awp_region ?_
  refine aR 1 ?_
  refine aE ?_
  refine awp_seq ?_
  refine awp_seq ?_
  refine awp_region ?_
  refine aR 2 ?_
  refine aE ?_
  refine cE hF (fun h1 hF => ?_) fun h1 hF => ?_
  · refine awp_true (by kernel_rfl) h1 ?_
    refine awp_seq ?_
    refine awp_region ?_
    refine aR 5 ?_
    refine aE ?_
    refine awp_ret ?_
    exact oF hF [] []
  · refine awp_false (by kernel_rfl) h1 ?_
    refine awp_skip ?_
    refine awp_seq ?_
    refine awp_region ?_
    refine aR 4 ?_
    refine aE ?_
    refine awp_ret ?_
    exact oF hF [] []

/-! ### beaconfleet/series.seven -/
def series_seven_o0_x1_k : ((List Int) × Int) → AEx
  | _ => .exit 0

def series_seven_o0_x1_S : ((List Int) × Int) → St
  | (vb1, vn1) => Mem.st ⟨[(1, ⟨5, 1, List.map (encI .u8) vb1⟩)], []⟩ (tl [(0, .v (.one (.own 1 none))), (1, .v (.one (.d (.int .u64 vn1))))]) 2

def series_seven_o0_x1_H : (List Int) × Int → St
  | (vb, vn) => Mem.st ⟨[(1, ⟨5, 1, List.map (encI .u8) vb⟩)], []⟩ (tl [(0, .v (.one (.own 1 none))), (1, .v (.one (.d (.int .u64 vn))))]) 2

theorem series_seven_o0_x1_ok (s : (List Int) × Int) (r : ((List Int) × Int) ⊕ (((List Int) × Int))) (hF : series_seven_o0_x1  s = some r) : Awp prog 1 21 (cL (cL (cL (cR (cB f82))))) (Out 1 (kk series_seven_o0_x1_k) (SS (series_seven_o0_x1_H ) (series_seven_o0_x1_S )) r) (series_seven_o0_x1_H  s) := by
  obtain ⟨vb, vn⟩ := s
  unfold series_seven_o0_x1 at hF
  refine awp_seq ?_
  refine awp_seq ?_
  refine awp_region ?_
  refine aR 2 ?_
  refine aE ?_
  refine cE hF (fun h1 hF => ?_) fun h1 hF => ?_
  · refine awp_true (by kernel_rfl) h1 ?_
    refine awp_skip ?_
    refine awp_block ?_
    refine gE hF fun h2 hF => ?_
    refine awp_region ?_
    refine aR 6 ?_
    refine aX (x_app (encI .u8) 1 h2) ?_
    refine aR 4 ?_
    refine aE ?_
    exact oO hF [(1, 8002)] [] rfl
  · refine awp_false (by kernel_rfl) h1 ?_
    refine awp_exit ?_
    exact oO hF [] [] rfl

def series_seven_o0_R (qb : List Int) (qn : Int) (r : (List Int)) : TV × Mem := (.v (.one (.own 1 none)), ⟨[(1, ⟨5, 1, List.map (encI .u8) r⟩)], []⟩)

theorem series_seven_o0_ok {qb : List Int} {qn : Int} {r} (hF : series_seven_o0 qb qn = some r) : Holds prog 82 [.v (.one (.own 0 none)), .v (.one (.d (.int .u64 qn)))] ⟨[(0, ⟨5, 1, List.map (encI .u8) qb⟩)], []⟩ (Is (series_seven_o0_R qb qn r)) := by
  unfold series_seven_o0 at hF
  refine holds_of_awp hΓ (fn := f82) (c := cB f82) (A := 1) (nx := 1) (by kernel_rfl) (by kernel_rfl) (by kernel_rfl) (by kernel_rfl) (by kernel_rfl) (by kernel_rfl) (lowc_of (by kernel_rfl)) ?_
  show Awp prog 1 21 (cB f82) _ _
  refine awp_seq ?_
  refine awp_region ?_
  refine aR 1 ?_
  refine aE ?_
  refine awp_seq ?_
  refine awp_block ?_
  refine awp_to (st' := series_seven_o0_x1_H  (qb, qn)) (oT [(1, 0)] []) ?_
  refine bE hF fun x h3 hF => ?_
  obtain ⟨vb1_1, vn1_1⟩ := x
  refine awp_sub (awp_loop' (series_seven_o0_x1_H ) series_seven_o0_x1_k (series_seven_o0_x1_S ) (by intro x; exact fun h => nomatch h) h3 (series_seven_o0_x1_ok )) ?_
  refine awp_seq ?_
  refine gE hF fun h4 hF => ?_
  refine awp_region ?_
  refine aR 4 ?_
  refine aX (x_app (encI .u8) 1 h4) ?_
  refine aR 1 ?_
  refine aE ?_
  refine awp_ret ?_
  exact oF hF [(1, 4002)] []

/-! ### beaconfleet/series.pack -/
def series_pack_x2_k : Int → AEx
  | _ => .normal

def series_pack_x2_S (ql : List api_Sample) (vat : Int) (vby : Int) (vx : Int) (vy1 : api_Sample) (vr8 : List Int) : Int → St
  | vby2 => Mem.st ⟨[(1, ⟨5, 1, List.map (encI .u8) vr8⟩)], [(0, [.d (.str vy1.Device), .d (.str vy1.Metric), .d (.int .i64 vy1.At), .d (.int .i64 vy1.Value)])]⟩ (tl [(3, .v (.one (.own 1 none))), (5, .v (.one (.d (.int .i64 vby2)))), (8, .v (.one (.box 0 0))), (14, .v (.one (.d (.lst (List.map api_Sample.enc ql))))), (15, .v (.one (.d (.int .i64 (ql.length : Int))))), (16, .v (.one (.d (.int .i64 vx))))]) 2

def series_pack_x2_I (ql : List api_Sample) (vat : Int) (vby : Int) (vx : Int) (vy1 : api_Sample) (vr8 : List Int) : St := Mem.st ⟨[(1, ⟨5, 1, List.map (encI .u8) vr8⟩)], [(0, [.d (.str vy1.Device), .d (.str vy1.Metric), .d (.int .i64 vy1.At), .d (.int .i64 vy1.Value)])]⟩ (tl [(3, .v (.one (.own 1 none))), (5, .v (.one (.d (.int .i64 vby)))), (7, .v (.one (.d (.int .i64 vx)))), (8, .v (.one (.box 0 0))), (9, .v (.one (.d (.int .i64 (IntKind.wrap .i64 (vy1.At - vat)))))), (14, .v (.one (.d (.lst (List.map api_Sample.enc ql))))), (15, .v (.one (.d (.int .i64 (ql.length : Int))))), (16, .v (.one (.d (.int .i64 vx))))]) 2

theorem series_pack_x2_ok (ql : List api_Sample) (vat : Int) (vby : Int) (vx : Int) (vy1 : api_Sample) (vr8 : List Int) {r} (hF : series_pack_x2 vat vby vx vy1 = some r) : Awp prog 0 47 (cL (cR (cR (cR (cR (cL (cL (cR (cR (cL (cL (cR (cL (cR (cR (cR (cB f66))))))))))))))))) (Out 0 series_pack_x2_k (series_pack_x2_S ql vat vby vx vy1 vr8) r) (series_pack_x2_I ql vat vby vx vy1 vr8) := by
  unfold series_pack_x2 at hF
  refine awp_seq ?_
  refine awp_region ?_
  refine aR 2 ?_
  refine aE ?_
  refine cE hF (fun h8 hF => ?_) fun h8 hF => ?_
  · refine awp_true (by kernel_rfl) h8 ?_
    refine awp_region ?_
    refine aR 2 ?_
    refine aE ?_
    exact oO hF [] [] rfl
  · refine awp_false (by kernel_rfl) h8 ?_
    refine awp_skip ?_
    exact oO hF [] [] rfl

def series_pack_x1_k : (List Int) → AEx
  | _ => .exit 0

def series_pack_x1_S (ql : List api_Sample) : (List Int) → St
  | vout1 => Mem.st ⟨[(0, ⟨5, 1, List.map (encI .u8) vout1⟩)], []⟩ (tl [(3, .v (.one (.own 0 none)))]) 1

def series_pack_x1_H (ql : List api_Sample) : (List Int) × Int × Int × Int × Int → St
  | (vout, vat, vby, vvalue, vx) => Mem.st ⟨[(0, ⟨5, 1, List.map (encI .u8) vout⟩)], []⟩ (tl [(3, .v (.one (.own 0 none))), (4, .v (.one (.d (.int .i64 vat)))), (5, .v (.one (.d (.int .i64 vby)))), (6, .v (.one (.d (.int .i64 vvalue)))), (14, .v (.one (.d (.lst (List.map api_Sample.enc ql))))), (15, .v (.one (.d (.int .i64 (ql.length : Int))))), (16, .v (.one (.d (.int .i64 vx))))]) 1

theorem series_pack_x1_ok (ql : List api_Sample) (s : (List Int) × Int × Int × Int × Int) (r : ((List Int) × Int × Int × Int × Int) ⊕ ((List Int))) (hF : series_pack_x1 ql s = some r) : Awp prog 0 47 (cL (cL (cR (cL (cR (cR (cR (cB f66)))))))) (Out 0 (kk series_pack_x1_k) (SS (series_pack_x1_H ql) (series_pack_x1_S ql)) r) (series_pack_x1_H ql s) := by
  obtain ⟨vout, vat, vby, vvalue, vx⟩ := s
  unfold series_pack_x1 at hF
  refine awp_seq ?_
  refine awp_region ?_
  refine aR 1 ?_
  refine aE ?_
  refine awp_seq ?_
  refine cE hF (fun h2 hF => ?_) fun h2 hF => ?_
  · refine awp_true (by kernel_rfl) h2 ?_
    refine awp_skip ?_
    refine awp_seq ?_
    refine awp_block ?_
    refine awp_seq ?_
    refine bE hF fun vy1 h3 hF => ?_
    refine awp_region ?_
    refine aR 1 ?_
    refine aX (x_idx api_Sample.enc h3) ?_
    refine aR 4 ?_
    refine aE ?_
    refine awp_seq ?_
    refine awp_region ?_
    refine aR 5 ?_
    refine aE ?_
    refine awp_seq ?_
    refine bE hF fun vr5 h4 hF => ?_
    refine bE hF fun vr6 h5 hF => ?_
    refine awp_region ?_
    refine aR 4 ?_
    refine aC (series_doubled_ok h4) [] [] [] ?_
    refine aC (series_seven_o0_ok h5) [] [] [] ?_
    refine aR 1 ?_
    refine aE ?_
    refine awp_seq ?_
    refine bE hF fun vr7 h6 hF => ?_
    refine bE hF fun vr8 h7 hF => ?_
    refine awp_region ?_
    refine aR 5 ?_
    refine aC (series_doubled_ok h6) [] [] [] ?_
    refine aC (series_seven_o0_ok h7) [(0, 17002)] [] [] ?_
    refine aR 1 ?_
    refine aE ?_
    refine awp_seq ?_
    refine awp_to (st' := series_pack_x2_I ql vat vby vx vy1 vr8) (oT [(0, 4001), (1, 25002)] []) ?_
    refine bE hF fun vby2_1 h9 hF => ?_
    refine awp_sub (series_pack_x2_ok ql vat vby vx vy1 vr8 h9) ?_
    refine aD ?_
    refine dR 6 ?_
    refine dE ?_
    refine awp_region ?_
    refine aR 2 ?_
    refine aE ?_
    exact oO hF [(0, 1)] [] rfl
  · refine awp_false (by kernel_rfl) h2 ?_
    refine awp_exit ?_
    exact oO hF [] [] rfl

def series_pack_R (ql : List api_Sample) (r : (List Int)) : TV × Mem := (.v (.one (.own 0 none)), ⟨[(0, ⟨5, 1, List.map (encI .u8) r⟩)], []⟩)

theorem series_pack_ok {ql : List api_Sample} {r} (hF : series_pack ql = some r) : Holds prog 66 [.v (.one (.d (.lst (List.map api_Sample.enc ql))))] ⟨[], []⟩ (Is (series_pack_R ql r)) := by
  unfold series_pack at hF
  refine holds_of_awp hΓ (fn := f66) (c := cB f66) (A := 0) (nx := 0) (by kernel_rfl) (by kernel_rfl) (by kernel_rfl) (by kernel_rfl) (by kernel_rfl) (by kernel_rfl) (lowc_of (by kernel_rfl)) ?_
  show Awp prog 0 47 (cB f66) _ _
  refine awp_seq ?_
  refine awp_region ?_
  refine aR 1 ?_
  refine aE ?_
  refine awp_seq ?_
  refine bE hF fun vr h1 hF => ?_
  refine awp_region ?_
  refine aR 1 ?_
  refine aL api_Sample.enc ql ?_
  refine aR 1 ?_
  refine aC (series_seven_n0_ok h1) [] [] [] ?_
  refine aR 1 ?_
  refine aE ?_
  refine awp_seq ?_
  refine awp_region ?_
  refine aR 3 ?_
  refine aE ?_
  refine awp_seq ?_
  refine awp_seq ?_
  refine awp_region ?_
  refine aR 1 ?_
  refine aL api_Sample.enc ql ?_
  refine aR 1 ?_
  refine aE ?_
  refine awp_block ?_
  refine awp_to (st' := series_pack_x1_H ql (vr, 0, 0, 0, 0)) (oT [(0, 4000)] []) ?_
  refine bE hF fun vout1_1 h10 hF => ?_
  refine awp_sub (awp_loop' (series_pack_x1_H ql) series_pack_x1_k (series_pack_x1_S ql) (by intro x; exact fun h => nomatch h) h10 (series_pack_x1_ok ql)) ?_
  refine awp_seq ?_
  refine awp_region ?_
  refine aR 2 ?_
  refine aE ?_
  refine awp_ret ?_
  exact oF hF [] []

/-! ### beaconfleet/series.Pack -/
def series_Pack_o0_R (ql : List api_Sample) (r : (List Int) × Int) : TV × Mem := (.tup [.one (.own 1 none), .one (.d (.int .i64 r.2))], ⟨[(1, ⟨5, 1, List.map (encI .u8) r.1⟩)], []⟩)

theorem series_Pack_o0_ok {ql : List api_Sample} {r} (hF : series_Pack_o0 ql = some r) : Holds prog 53 [.v (.one (.own 0 none))] ⟨[(0, ⟨32, 4, List.map api_Sample.enc ql⟩)], []⟩ (Is (series_Pack_o0_R ql r)) := by
  unfold series_Pack_o0 at hF
  refine holds_of_awp hΓ (fn := f53) (c := cB f53) (A := 1) (nx := 1) (by kernel_rfl) (by kernel_rfl) (by kernel_rfl) (by kernel_rfl) (by kernel_rfl) (by kernel_rfl) (lowc_of (by kernel_rfl)) ?_
  show Awp prog 1 12 (cB f53) _ _
  refine awp_seq ?_
  refine awp_region ?_
  refine aR 2 ?_
  refine aE ?_
  refine awp_to (oT (m := ⟨[], []⟩) (ts := [(0, .v (.one (.d (.lst (List.map api_Sample.enc ql)))))]) (nx := 1) [] []) ?_
  refine awp_seq ?_
  refine awp_seq ?_
  refine bE hF fun vr1 h1 hF => ?_
  refine awp_region ?_
  refine aR 1 ?_
  refine aC (series_CheckSeries_ok h1) [] [] [] ?_
  refine aR 1 ?_
  refine aE ?_
  refine awp_seq ?_
  refine awp_region ?_
  refine aR 2 ?_
  refine aE ?_
  refine cE hF (fun h2 hF => ?_) fun h2 hF => ?_
  · refine awp_true (by kernel_rfl) h2 ?_
    refine awp_seq ?_
    refine awp_region ?_
    refine aR 3 ?_
    refine aE ?_
    refine awp_ret ?_
    exact oF hF [] [1]
  · refine awp_false (by kernel_rfl) h2 ?_
    refine awp_skip ?_
    refine awp_seq ?_
    refine bE hF fun vr9 h3 hF => ?_
    refine awp_region ?_
    refine aR 1 ?_
    refine aC (series_pack_ok h3) [] [] [] ?_
    refine aR 2 ?_
    refine aE ?_
    refine awp_ret ?_
    exact oF hF [(1, 6001)] []

/-! ### slices.Equal[[]byte,byte] -/
def slices_Equal_byte_byte_x1_k : Unit ⊕ Unit → AEx
  | .inl _ => .exit 0
  | .inr _ => .ret

def slices_Equal_byte_byte_x1_S (qs1 : List Int) (qs2 : List Int) : Unit ⊕ Unit → St
  | .inl _ => Mem.st ⟨[], []⟩ (tl []) 0
  | .inr _ => Mem.st ⟨[], []⟩ (tl [(4, .v (.one (.d (.bool false))))]) 0

def slices_Equal_byte_byte_x1_H (qs1 : List Int) (qs2 : List Int) : Int → St
  | vx => Mem.st ⟨[], []⟩ (tl [(0, .v (.one (.d (.lst (List.map (encI .u8) qs1))))), (1, .v (.one (.d (.lst (List.map (encI .u8) qs2))))), (12, .v (.one (.d (.int .i64 (qs1.length : Int))))), (13, .v (.one (.d (.int .i64 vx))))]) 0

theorem slices_Equal_byte_byte_x1_ok (qs1 : List Int) (qs2 : List Int) (vx : Int) (r : (Int) ⊕ (Unit ⊕ Unit)) (hF : slices_Equal_byte_byte_x1 qs1 qs2 vx = some r) : Awp prog 0 26 (cL (cL (cR (cL (cR (cR (cB f54))))))) (Out 0 (kk slices_Equal_byte_byte_x1_k) (SS (slices_Equal_byte_byte_x1_H qs1 qs2) (slices_Equal_byte_byte_x1_S qs1 qs2)) r) (slices_Equal_byte_byte_x1_H qs1 qs2 vx) := by
  unfold slices_Equal_byte_byte_x1 at hF
  refine awp_seq ?_
  refine awp_region ?_
  refine aR 1 ?_
  refine aE ?_
  refine awp_seq ?_
  refine cE hF (fun h2 hF => ?_) fun h2 hF => ?_
  · refine awp_true (by kernel_rfl) h2 ?_
    refine awp_skip ?_
    refine awp_seq ?_
    refine awp_block ?_
    refine awp_seq ?_
    refine awp_region ?_
    refine aR 2 ?_
    refine aE ?_
    refine awp_seq ?_
    refine bE hF fun vy2 h3 hF => ?_
    refine bE hF fun vy3 h4 hF => ?_
    refine aD ?_
    refine dR 2 ?_
    refine dX (x_idx (encI .u8) h3) ?_
    refine dR 3 ?_
    refine dX (x_idx (encI .u8) h4) ?_
    refine dR 2 ?_
    refine dE ?_
    refine cE hF (fun h5 hF => ?_) fun h5 hF => ?_
    · refine awp_true (by kernel_rfl) h5 ?_
      refine awp_seq ?_
      refine awp_region ?_
      refine aR 1 ?_
      refine aE ?_
      refine awp_ret ?_
      exact oO hF [] [] rfl
    · refine awp_false (by kernel_rfl) h5 ?_
      refine awp_skip ?_
      refine awp_region ?_
      refine aR 2 ?_
      refine aE ?_
      exact oO hF [] [] rfl
  · refine awp_false (by kernel_rfl) h2 ?_
    refine awp_exit ?_
    exact oO hF [] [] rfl

def slices_Equal_byte_byte_R (qs1 : List Int) (qs2 : List Int) (r : Bool) : TV × Mem := (.v (.one (.d (.bool r))), ⟨[], []⟩)

theorem slices_Equal_byte_byte_ok {qs1 : List Int} {qs2 : List Int} {r} (hF : slices_Equal_byte_byte qs1 qs2 = some r) : Holds prog 54 [.v (.one (.d (.lst (List.map (encI .u8) qs1)))), .v (.one (.d (.lst (List.map (encI .u8) qs2))))] ⟨[], []⟩ (Is (slices_Equal_byte_byte_R qs1 qs2 r)) := by
  unfold slices_Equal_byte_byte at hF
  refine holds_of_awp hΓ (fn := f54) (c := cB f54) (A := 0) (nx := 0) (by kernel_rfl) (by kernel_rfl) (by kernel_rfl) (by kernel_rfl) (by kernel_rfl) (by kernel_rfl) (lowc_of (by kernel_rfl)) ?_
  show Awp prog 0 26 (cB f54) _ _
  refine awp_seq ?_
  refine awp_region ?_
  refine aR 1 ?_
  refine aE ?_
  refine awp_seq ?_
  refine awp_seq ?_
  refine awp_region ?_
  refine aR 1 ?_
  refine aL (encI .u8) qs1 ?_
  refine aR 1 ?_
  refine aL (encI .u8) qs2 ?_
  refine aR 1 ?_
  refine aE ?_
  refine cE hF (fun h1 hF => ?_) fun h1 hF => ?_
  · refine awp_true (by kernel_rfl) h1 ?_
    refine awp_seq ?_
    refine awp_region ?_
    refine aR 1 ?_
    refine aE ?_
    refine awp_ret ?_
    exact oF hF [] []
  · refine awp_false (by kernel_rfl) h1 ?_
    refine awp_skip ?_
    refine awp_seq ?_
    refine awp_seq ?_
    refine awp_region ?_
    refine aR 1 ?_
    refine aL (encI .u8) qs1 ?_
    refine aR 1 ?_
    refine aE ?_
    refine awp_block ?_
    refine awp_to (st' := slices_Equal_byte_byte_x1_H qs1 qs2 0) (oT [] []) ?_
    refine bE hF fun x h6 hF => ?_
    rcases x with _ | _
    · refine awp_sub (awp_loop' (slices_Equal_byte_byte_x1_H qs1 qs2) slices_Equal_byte_byte_x1_k (slices_Equal_byte_byte_x1_S qs1 qs2) (by intro x; rcases x with x | x <;> exact fun h => nomatch h) h6 (slices_Equal_byte_byte_x1_ok qs1 qs2)) ?_
      refine awp_seq ?_
      refine awp_region ?_
      refine aR 1 ?_
      refine aE ?_
      refine awp_ret ?_
      exact oF hF [] []
    · refine awp_sub (awp_loop' (slices_Equal_byte_byte_x1_H qs1 qs2) slices_Equal_byte_byte_x1_k (slices_Equal_byte_byte_x1_S qs1 qs2) (by intro x; rcases x with x | x <;> exact fun h => nomatch h) h6 (slices_Equal_byte_byte_x1_ok qs1 qs2)) ?_
      exact oF hF [] []

/-! ### beaconfleet/fleetlaw2.measured -/
def fleetlaw2_measured_x1_k : Bool → AEx
  | _ => .normal

def fleetlaw2_measured_x1_S (vr : List Int) (vr2 : Int) : Bool → St
  | vx => Mem.st ⟨[], []⟩ (tl [(0, .v (.one (.d (.bool vx))))]) 0

def fleetlaw2_measured_x1_I (vr : List Int) (vr2 : Int) : St := Mem.st ⟨[], []⟩ (tl [(1, .v (.one (.d (.lst (List.map (encI .u8) vr))))), (2, .v (.one (.d (.int .i64 vr2))))]) 0

theorem fleetlaw2_measured_x1_ok (vr : List Int) (vr2 : Int) {r} (hF : fleetlaw2_measured_x1 vr vr2 = some r) : Awp prog 0 16 (cL (cR (cR (cB f25)))) (Out 0 fleetlaw2_measured_x1_k (fleetlaw2_measured_x1_S vr vr2) r) (fleetlaw2_measured_x1_I vr vr2) := by
  unfold fleetlaw2_measured_x1 at hF
  refine cE hF (fun h2 hF => ?_) fun h2 hF => ?_
  · refine bE hF fun vr1 h3 hF => ?_
    refine awp_region ?_
    refine aR 1 ?_
    refine aB h2 ?_
    refine aR 3 ?_
    refine aC (slices_Equal_byte_byte_ok h3) [] [] [4000] ?_
    refine aR 2 ?_
    refine aE ?_
    exact oO hF [] [] rfl
  · refine awp_region ?_
    refine aR 1 ?_
    refine aB h2 ?_
    refine aR 6 ?_
    refine aE ?_
    exact oO hF [] [] rfl

def fleetlaw2_measured_R (r : Bool) : TV × Mem := (.v (.one (.d (.bool r))), ⟨[], []⟩)

theorem fleetlaw2_measured_ok {r} (hF : fleetlaw2_measured = some r) : Holds prog 25 [] ⟨[], []⟩ (Is (fleetlaw2_measured_R  r)) := by
  unfold fleetlaw2_measured at hF
  refine holds_of_awp hΓ (fn := f25) (c := cB f25) (A := 0) (nx := 0) (by kernel_rfl) (by kernel_rfl) (by kernel_rfl) (by kernel_rfl) (by kernel_rfl) (by kernel_rfl) (lowc_of (by kernel_rfl)) ?_
  show Awp prog 0 16 (cB f25) _ _
  refine awp_seq ?_
  refine awp_region ?_
  refine aR 1 ?_
  refine aE ?_
  refine awp_seq ?_
  refine bE hF fun x h1 hF => ?_
  obtain ⟨vr, vr2⟩ := x
  refine awp_region ?_
  refine aR 2 ?_
  refine aC (series_Pack_o0_ok h1) [(0, 2000)] [] [] ?_
  refine aR 5 ?_
  refine aE ?_
  refine awp_to (oT (m := ⟨[], []⟩) (ts := [(1, .v (.one (.d (.lst (List.map (encI .u8) vr))))), (2, .v (.one (.d (.int .i64 vr2))))]) (nx := 0) [] []) ?_
  refine awp_seq ?_
  refine awp_to (st' := fleetlaw2_measured_x1_I vr vr2) (oT [] []) ?_
  refine bE hF fun vx1 h4 hF => ?_
  refine awp_sub (fleetlaw2_measured_x1_ok vr vr2 h4) ?_
  refine awp_ret ?_
  exact oF hF [] []

/-! ### beaconfleet/fleetlaw2.SamplesMerge -/
def fleetlaw2_SamplesMerge_x2_k : (fleetmake_Stream × Bool) → AEx
  | _ => .normal

def fleetlaw2_SamplesMerge_x2_S (vr11 : List api_Sample) (vs4_1 : fleetmake_Stream) (vr11_1 : List api_Sample) : (fleetmake_Stream × Bool) → St
  | (vx, vx1) => Mem.st ⟨[], [(0, [.d (.lst (List.map (encI .i64) vx.L)), .d (.int .i64 vx.at_)])]⟩ (tl [(3, .v (.one (.box 0 0))), (4, .v (.one (.d (.lst (List.map api_Sample.enc vr11))))), (5, .v (.one (.d (.lst (List.map api_Sample.enc vr11_1))))), (35, .v (.one (.d (.bool vx1))))]) 1

def fleetlaw2_SamplesMerge_x2_I (vr11 : List api_Sample) (vs4_1 : fleetmake_Stream) (vr11_1 : List api_Sample) : St := Mem.st ⟨[], [(0, [.d (.lst (List.map (encI .i64) vs4_1.L)), .d (.int .i64 vs4_1.at_)])]⟩ (tl [(3, .v (.one (.box 0 0))), (4, .v (.one (.d (.lst (List.map api_Sample.enc vr11))))), (5, .v (.one (.d (.lst (List.map api_Sample.enc vr11_1)))))]) 1

theorem fleetlaw2_SamplesMerge_x2_ok (vr11 : List api_Sample) (vs4_1 : fleetmake_Stream) (vr11_1 : List api_Sample) {r} (hF : fleetlaw2_SamplesMerge_x2 vr11 vs4_1 = some r) : Awp prog 0 142 (cL (cL (cR (cR (cR (cB f3)))))) (Out 0 fleetlaw2_SamplesMerge_x2_k (fleetlaw2_SamplesMerge_x2_S vr11 vs4_1 vr11_1) r) (fleetlaw2_SamplesMerge_x2_I vr11 vs4_1 vr11_1) := by
  unfold fleetlaw2_SamplesMerge_x2 at hF
  refine cE hF (fun h5 hF => ?_) fun h5 hF => ?_
  · refine bE hF fun vr2 h6 hF => ?_
    refine awp_region ?_
    refine aR 1 ?_
    refine aL api_Sample.enc vr11 ?_
    refine aB h5 ?_
    refine aR 2 ?_
    refine aC (fleetmake_Stream_Flip_ok h6) [] [] [] ?_
    refine aR 1 ?_
    refine aE ?_
    exact oO hF [] [] rfl
  · refine awp_region ?_
    refine aR 1 ?_
    refine aL api_Sample.enc vr11 ?_
    refine aB h5 ?_
    refine aR 4 ?_
    refine aE ?_
    exact oO hF [] [] rfl

def fleetlaw2_SamplesMerge_x1_k : (fleetmake_Stream × (List api_Sample)) → AEx
  | _ => .normal

def fleetlaw2_SamplesMerge_x1_S (vr11 : List api_Sample) (vs4_1 : fleetmake_Stream) (vr11_1 : List api_Sample) : (fleetmake_Stream × (List api_Sample)) → St
  | (vx3, vx4) => Mem.st ⟨[], [(0, [.d (.lst (List.map (encI .i64) vx3.L)), .d (.int .i64 vx3.at_)])]⟩ (tl [(3, .v (.one (.box 0 0))), (4, .v (.one (.d (.lst (List.map api_Sample.enc vr11))))), (5, .v (.one (.d (.lst (List.map api_Sample.enc vx4)))))]) 1

def fleetlaw2_SamplesMerge_x1_I (vr11 : List api_Sample) (vs4_1 : fleetmake_Stream) (vr11_1 : List api_Sample) : St := Mem.st ⟨[], [(0, [.d (.lst (List.map (encI .i64) vs4_1.L)), .d (.int .i64 vs4_1.at_)])]⟩ (tl [(3, .v (.one (.box 0 0))), (4, .v (.one (.d (.lst (List.map api_Sample.enc vr11))))), (5, .v (.one (.d (.lst (List.map api_Sample.enc vr11_1)))))]) 1

theorem fleetlaw2_SamplesMerge_x1_ok (vr11 : List api_Sample) (vs4_1 : fleetmake_Stream) (vr11_1 : List api_Sample) {r} (hF : fleetlaw2_SamplesMerge_x1 vr11 vs4_1 vr11_1 = some r) : Awp prog 0 142 (cL (cR (cR (cR (cB f3))))) (Out 0 fleetlaw2_SamplesMerge_x1_k (fleetlaw2_SamplesMerge_x1_S vr11 vs4_1 vr11_1) r) (fleetlaw2_SamplesMerge_x1_I vr11 vs4_1 vr11_1) := by
  unfold fleetlaw2_SamplesMerge_x1 at hF
  refine awp_seq ?_
  refine awp_to (st' := fleetlaw2_SamplesMerge_x2_I vr11 vs4_1 vr11_1) (oT [] []) ?_
  refine bE hF fun x h7 hF => ?_
  obtain ⟨vx2, vx1_1⟩ := x
  refine awp_sub (fleetlaw2_SamplesMerge_x2_ok vr11 vs4_1 vr11_1 h7) ?_
  refine cE hF (fun h8 hF => ?_) fun h8 hF => ?_
  · refine awp_true (by kernel_rfl) h8 ?_
    refine bE hF fun vr3 h9 hF => ?_
    refine bE hF fun vl h10 hF => ?_
    refine bE hF fun vr4 h11 hF => ?_
    refine awp_region ?_
    refine aR 3 ?_
    refine aL api_Sample.enc vr11 ?_
    refine aC (fleetmake_Stream_Next_ok h9) [] [] [] ?_
    refine aX (x_sliceN api_Sample.enc h10) ?_
    refine aC (slices_Clone_api_Sample_api_Sample_ok h11) [] [] [] ?_
    refine aR 1 ?_
    refine aE ?_
    exact oO hF [] [] rfl
  · refine awp_false (by kernel_rfl) h8 ?_
    refine awp_skip ?_
    exact oO hF [] [] rfl

def fleetlaw2_SamplesMerge_x3_k : Bool → AEx
  | _ => .normal

def fleetlaw2_SamplesMerge_x3_S (vr11 : List api_Sample) (vx4_1 : List api_Sample) (vr5 : List UInt8) (vr6 : List UInt8) (vr7 : api_Window) (vr9 : List api_Sample) (vr3_1 : List api_Sample) (vr4_1 : Int) (vr4_2 : List api_Sample) (vr5_1 : Int) (vr4_3 : Int) : Bool → St
  | vx5 => Mem.st ⟨[], [(0, [.d (.int .i64 vr7.From), .d (.int .i64 vr7.To)])]⟩ (tl [(4, .v (.one (.d (.lst (List.map api_Sample.enc vr11))))), (5, .v (.one (.d (.lst (List.map api_Sample.enc vx4_1))))), (6, .v (.one (.d (.str vr5)))), (7, .v (.one (.d (.str vr6)))), (8, .v (.one (.box 0 0))), (10, .v (.one (.d (.lst (List.map api_Sample.enc vr3_1))))), (11, .v (.one (.d (.int .i64 vr4_1)))), (12, .v (.one (.d (.lst (List.map api_Sample.enc vr4_2))))), (13, .v (.one (.d (.int .i64 vr5_1)))), (14, .v (.one (.d (.int .i64 vr4_3)))), (86, .v (.one (.d (.bool vx5))))]) 1

def fleetlaw2_SamplesMerge_x3_I (vr11 : List api_Sample) (vx4_1 : List api_Sample) (vr5 : List UInt8) (vr6 : List UInt8) (vr7 : api_Window) (vr9 : List api_Sample) (vr3_1 : List api_Sample) (vr4_1 : Int) (vr4_2 : List api_Sample) (vr5_1 : Int) (vr4_3 : Int) : St := Mem.st ⟨[], [(0, [.d (.int .i64 vr7.From), .d (.int .i64 vr7.To)])]⟩ (tl [(4, .v (.one (.d (.lst (List.map api_Sample.enc vr11))))), (5, .v (.one (.d (.lst (List.map api_Sample.enc vx4_1))))), (6, .v (.one (.d (.str vr5)))), (7, .v (.one (.d (.str vr6)))), (8, .v (.one (.box 0 0))), (9, .v (.one (.d (.lst (List.map api_Sample.enc vr9))))), (10, .v (.one (.d (.lst (List.map api_Sample.enc vr3_1))))), (11, .v (.one (.d (.int .i64 vr4_1)))), (12, .v (.one (.d (.lst (List.map api_Sample.enc vr4_2))))), (13, .v (.one (.d (.int .i64 vr5_1)))), (14, .v (.one (.d (.int .i64 vr4_3))))]) 1

theorem fleetlaw2_SamplesMerge_x3_ok (vr11 : List api_Sample) (vx4_1 : List api_Sample) (vr5 : List UInt8) (vr6 : List UInt8) (vr7 : api_Window) (vr9 : List api_Sample) (vr3_1 : List api_Sample) (vr4_1 : Int) (vr4_2 : List api_Sample) (vr5_1 : Int) (vr4_3 : Int) {r} (hF : fleetlaw2_SamplesMerge_x3 vr11 vr9 vr4_3 = some r) : Awp prog 0 142 (cL (cL (cR (cR (cR (cR (cR (cR (cR (cR (cB f3))))))))))) (Out 0 fleetlaw2_SamplesMerge_x3_k (fleetlaw2_SamplesMerge_x3_S vr11 vx4_1 vr5 vr6 vr7 vr9 vr3_1 vr4_1 vr4_2 vr5_1 vr4_3) r) (fleetlaw2_SamplesMerge_x3_I vr11 vx4_1 vr5 vr6 vr7 vr9 vr3_1 vr4_1 vr4_2 vr5_1 vr4_3) := by
  unfold fleetlaw2_SamplesMerge_x3 at hF
  refine bE hF fun vr6_1 h20 hF => ?_
  refine cE hF (fun h21 hF => ?_) fun h21 hF => ?_
  · refine awp_region ?_
    refine aR 1 ?_
    refine aC (series_Check_ok h20) [] [] [] ?_
    refine aR 1 ?_
    refine aB h21 ?_
    refine aR 14 ?_
    refine aE ?_
    exact oO hF [] [] rfl
  · refine bE hF fun vr1_1 h22 hF => ?_
    refine bE hF fun vr1_2 h23 hF => ?_
    refine cE hF (fun h24 hF => ?_) fun h24 hF => ?_
    · refine awp_region ?_
      refine aR 1 ?_
      refine aC (series_Check_ok h20) [] [] [] ?_
      refine aR 1 ?_
      refine aB h21 ?_
      refine aR 2 ?_
      refine aC (series_CheckSeries_ok h22) [] [] [] ?_
      refine aR 1 ?_
      refine aC (fleetref2_SeriesFault_ok h23) [] [] [] ?_
      refine aB h24 ?_
      refine aR 8 ?_
      refine aE ?_
      exact oO hF [] [] rfl
    · refine bE hF fun vr1_3 h25 hF => ?_
      refine bE hF fun vr1_4 h26 hF => ?_
      refine awp_region ?_
      refine aR 1 ?_
      refine aC (series_Check_ok h20) [] [] [] ?_
      refine aR 1 ?_
      refine aB h21 ?_
      refine aR 2 ?_
      refine aC (series_CheckSeries_ok h22) [] [] [] ?_
      refine aR 1 ?_
      refine aC (fleetref2_SeriesFault_ok h23) [] [] [] ?_
      refine aB h24 ?_
      refine aR 3 ?_
      refine aC (series_CheckSeries_ok h25) [] [] [] ?_
      refine aR 1 ?_
      refine aC (fleetref2_SeriesFault_ok h26) [] [] [] ?_
      refine aR 2 ?_
      refine aE ?_
      exact oO hF [] [] rfl

def fleetlaw2_SamplesMerge_x4_k : Int → AEx
  | _ => .normal

def fleetlaw2_SamplesMerge_x4_S (vr11 : List api_Sample) (vx4_1 : List api_Sample) (vr5 : List UInt8) (vr6 : List UInt8) (vr7 : api_Window) (vr3_1 : List api_Sample) (vr4_1 : Int) (vr4_2 : List api_Sample) (vr5_1 : Int) (vr4_3 : Int) : Int → St
  | vx6 => Mem.st ⟨[], [(0, [.d (.int .i64 vr7.From), .d (.int .i64 vr7.To)])]⟩ (tl [(4, .v (.one (.d (.lst (List.map api_Sample.enc vr11))))), (5, .v (.one (.d (.lst (List.map api_Sample.enc vx4_1))))), (6, .v (.one (.d (.str vr5)))), (7, .v (.one (.d (.str vr6)))), (8, .v (.one (.box 0 0))), (10, .v (.one (.d (.lst (List.map api_Sample.enc vr3_1))))), (11, .v (.one (.d (.int .i64 vr4_1)))), (12, .v (.one (.d (.lst (List.map api_Sample.enc vr4_2))))), (13, .v (.one (.d (.int .i64 vr5_1)))), (14, .v (.one (.d (.int .i64 vr4_3)))), (15, .v (.one (.d (.int .i64 vx6))))]) 1

def fleetlaw2_SamplesMerge_x4_I (vr11 : List api_Sample) (vx4_1 : List api_Sample) (vr5 : List UInt8) (vr6 : List UInt8) (vr7 : api_Window) (vr3_1 : List api_Sample) (vr4_1 : Int) (vr4_2 : List api_Sample) (vr5_1 : Int) (vr4_3 : Int) : St := Mem.st ⟨[], [(0, [.d (.int .i64 vr7.From), .d (.int .i64 vr7.To)])]⟩ (tl [(4, .v (.one (.d (.lst (List.map api_Sample.enc vr11))))), (5, .v (.one (.d (.lst (List.map api_Sample.enc vx4_1))))), (6, .v (.one (.d (.str vr5)))), (7, .v (.one (.d (.str vr6)))), (8, .v (.one (.box 0 0))), (10, .v (.one (.d (.lst (List.map api_Sample.enc vr3_1))))), (11, .v (.one (.d (.int .i64 vr4_1)))), (12, .v (.one (.d (.lst (List.map api_Sample.enc vr4_2))))), (13, .v (.one (.d (.int .i64 vr5_1)))), (14, .v (.one (.d (.int .i64 vr4_3))))]) 1

theorem fleetlaw2_SamplesMerge_x4_ok (vr11 : List api_Sample) (vx4_1 : List api_Sample) (vr5 : List UInt8) (vr6 : List UInt8) (vr7 : api_Window) (vr3_1 : List api_Sample) (vr4_1 : Int) (vr4_2 : List api_Sample) (vr5_1 : Int) (vr4_3 : Int) {r} (hF : fleetlaw2_SamplesMerge_x4 vr5 vr6 vr7 vr4_3 = some r) : Awp prog 0 142 (cL (cR (cR (cR (cR (cR (cR (cR (cR (cR (cB f3))))))))))) (Out 0 fleetlaw2_SamplesMerge_x4_k (fleetlaw2_SamplesMerge_x4_S vr11 vx4_1 vr5 vr6 vr7 vr3_1 vr4_1 vr4_2 vr5_1 vr4_3) r) (fleetlaw2_SamplesMerge_x4_I vr11 vx4_1 vr5 vr6 vr7 vr3_1 vr4_1 vr4_2 vr5_1 vr4_3) := by
  unfold fleetlaw2_SamplesMerge_x4 at hF
  refine bE hF fun vr3_2 h29 hF => ?_
  refine cE hF (fun h30 hF => ?_) fun h30 hF => ?_
  · refine bE hF fun vr8 h31 hF => ?_
    refine bE hF fun vr1_5 h32 hF => ?_
    refine bE hF fun vr10 h33 hF => ?_
    refine aD ?_
    refine dR 2 ?_
    refine dC (fleetref2_Key_ok h29) [] [] [] ?_
    refine dB h30 ?_
    refine dR 5 ?_
    refine dC (fleetlaw2_when_ok h31) [] [] [] ?_
    refine dR 1 ?_
    refine dC (fleetref2_WindowFault_ok h32) [] [] [] ?_
    refine dR 1 ?_
    refine dC (fleetlaw2_errs_ok h33) [] [] [12001] ?_
    refine dR 1 ?_
    refine dE ?_
    exact oO hF [] [] rfl
  · refine bE hF fun vr3_3 h34 hF => ?_
    refine bE hF fun vr12 h35 hF => ?_
    refine bE hF fun vr1_6 h36 hF => ?_
    refine bE hF fun vr13 h37 hF => ?_
    refine aD ?_
    refine dR 2 ?_
    refine dC (fleetref2_Key_ok h29) [] [] [] ?_
    refine dB h30 ?_
    refine dR 2 ?_
    refine dC (fleetref2_Key_ok h34) [] [] [] ?_
    refine dR 2 ?_
    refine dC (fleetlaw2_when_ok h35) [] [] [] ?_
    refine dR 1 ?_
    refine dC (fleetref2_WindowFault_ok h36) [] [] [] ?_
    refine dR 1 ?_
    refine dC (fleetlaw2_errs_ok h37) [] [] [12001] ?_
    refine dR 1 ?_
    refine dE ?_
    exact oO hF [] [] rfl

def fleetlaw2_SamplesMerge_x5_k : (Int × (List api_Sample)) → AEx
  | _ => .normal

def fleetlaw2_SamplesMerge_x5_S (vr11 : List api_Sample) (vx4_1 : List api_Sample) (vr5 : List UInt8) (vr6 : List UInt8) (vr7 : api_Window) (vr3_1 : List api_Sample) (vr4_1 : Int) (vr4_2 : List api_Sample) (vr5_1 : Int) (vr4_3 : Int) (vx6_1 : Int) : (Int × (List api_Sample)) → St
  | (vx7, vx8) => Mem.st ⟨[], [(0, [.d (.int .i64 vr7.From), .d (.int .i64 vr7.To)])]⟩ (tl [(4, .v (.one (.d (.lst (List.map api_Sample.enc vr11))))), (6, .v (.one (.d (.str vr5)))), (7, .v (.one (.d (.str vr6)))), (8, .v (.one (.box 0 0))), (10, .v (.one (.d (.lst (List.map api_Sample.enc vr3_1))))), (11, .v (.one (.d (.int .i64 vr4_1)))), (12, .v (.one (.d (.lst (List.map api_Sample.enc vr4_2))))), (13, .v (.one (.d (.int .i64 vr5_1)))), (14, .v (.one (.d (.int .i64 vx7)))), (15, .v (.one (.d (.int .i64 vx6_1)))), (16, .v (.one (.d (.lst (List.map api_Sample.enc vx8))))), (17, .v (.one (.nil)))]) 1

def fleetlaw2_SamplesMerge_x5_I (vr11 : List api_Sample) (vx4_1 : List api_Sample) (vr5 : List UInt8) (vr6 : List UInt8) (vr7 : api_Window) (vr3_1 : List api_Sample) (vr4_1 : Int) (vr4_2 : List api_Sample) (vr5_1 : Int) (vr4_3 : Int) (vx6_1 : Int) : St := Mem.st ⟨[], [(0, [.d (.int .i64 vr7.From), .d (.int .i64 vr7.To)])]⟩ (tl [(4, .v (.one (.d (.lst (List.map api_Sample.enc vr11))))), (5, .v (.one (.d (.lst (List.map api_Sample.enc vx4_1))))), (6, .v (.one (.d (.str vr5)))), (7, .v (.one (.d (.str vr6)))), (8, .v (.one (.box 0 0))), (10, .v (.one (.d (.lst (List.map api_Sample.enc vr3_1))))), (11, .v (.one (.d (.int .i64 vr4_1)))), (12, .v (.one (.d (.lst (List.map api_Sample.enc vr4_2))))), (13, .v (.one (.d (.int .i64 vr5_1)))), (14, .v (.one (.d (.int .i64 vr4_3)))), (15, .v (.one (.d (.int .i64 vx6_1)))), (16, .v (.one (.nil))), (17, .v (.one (.nil)))]) 1

theorem fleetlaw2_SamplesMerge_x5_ok (vr11 : List api_Sample) (vx4_1 : List api_Sample) (vr5 : List UInt8) (vr6 : List UInt8) (vr7 : api_Window) (vr3_1 : List api_Sample) (vr4_1 : Int) (vr4_2 : List api_Sample) (vr5_1 : Int) (vr4_3 : Int) (vx6_1 : Int) {r} (hF : fleetlaw2_SamplesMerge_x5 vr11 vx4_1 vr4_3 = some r) : Awp prog 0 142 (cL (cR (cR (cR (cR (cR (cR (cR (cR (cR (cR (cR (cB f3))))))))))))) (Out 0 fleetlaw2_SamplesMerge_x5_k (fleetlaw2_SamplesMerge_x5_S vr11 vx4_1 vr5 vr6 vr7 vr3_1 vr4_1 vr4_2 vr5_1 vr4_3 vx6_1) r) (fleetlaw2_SamplesMerge_x5_I vr11 vx4_1 vr5 vr6 vr7 vr3_1 vr4_1 vr4_2 vr5_1 vr4_3 vx6_1) := by
  unfold fleetlaw2_SamplesMerge_x5 at hF
  refine awp_seq ?_
  refine bE hF fun vr4_4 h39 hF => ?_
  refine bE hF fun vr14 h40 hF => ?_
  refine awp_region ?_
  refine aR 2 ?_
  refine aC (fleetref2_SamplesFault_ok h39) [] [] [] ?_
  refine aR 1 ?_
  refine aC (fleetlaw2_errs_ok h40) [] [] [3001] ?_
  refine aR 1 ?_
  refine aE ?_
  refine awp_seq ?_
  refine awp_region ?_
  refine aR 2 ?_
  refine aE ?_
  refine cE hF (fun h41 hF => ?_) fun h41 hF => ?_
  · refine awp_true (by kernel_rfl) h41 ?_
    refine bE hF fun x h42 hF => ?_
    obtain ⟨vr2_1, vr3_4⟩ := x
    refine awp_region ?_
    refine aR 2 ?_
    refine aC (fleetref2_SamplesOf_ok h42) [] [] [] ?_
    refine aR 5 ?_
    refine aE ?_
    exact oO hF [] [] rfl
  · refine awp_false (by kernel_rfl) h41 ?_
    refine awp_skip ?_
    exact oO hF [] [] rfl

def fleetlaw2_SamplesMerge_x6_k : (List api_Sample) → AEx
  | _ => .normal

def fleetlaw2_SamplesMerge_x6_S (vr11 : List api_Sample) (vr5 : List UInt8) (vr6 : List UInt8) (vr7 : api_Window) (vr3_1 : List api_Sample) (vr4_1 : Int) (vr4_2 : List api_Sample) (vr5_1 : Int) (vx6_1 : Int) (vx7_1 : Int) (vx8_1 : List api_Sample) : (List api_Sample) → St
  | vx9 => Mem.st ⟨[], []⟩ (tl [(10, .v (.one (.d (.lst (List.map api_Sample.enc vr3_1))))), (11, .v (.one (.d (.int .i64 vr4_1)))), (12, .v (.one (.d (.lst (List.map api_Sample.enc vr4_2))))), (13, .v (.one (.d (.int .i64 vr5_1)))), (14, .v (.one (.d (.int .i64 vx7_1)))), (15, .v (.one (.d (.int .i64 vx6_1)))), (16, .v (.one (.d (.lst (List.map api_Sample.enc vx8_1))))), (17, .v (.one (.d (.lst (List.map api_Sample.enc vx9)))))]) 0

def fleetlaw2_SamplesMerge_x6_I (vr11 : List api_Sample) (vr5 : List UInt8) (vr6 : List UInt8) (vr7 : api_Window) (vr3_1 : List api_Sample) (vr4_1 : Int) (vr4_2 : List api_Sample) (vr5_1 : Int) (vx6_1 : Int) (vx7_1 : Int) (vx8_1 : List api_Sample) : St := Mem.st ⟨[], [(0, [.d (.int .i64 vr7.From), .d (.int .i64 vr7.To)])]⟩ (tl [(4, .v (.one (.d (.lst (List.map api_Sample.enc vr11))))), (6, .v (.one (.d (.str vr5)))), (7, .v (.one (.d (.str vr6)))), (8, .v (.one (.box 0 0))), (10, .v (.one (.d (.lst (List.map api_Sample.enc vr3_1))))), (11, .v (.one (.d (.int .i64 vr4_1)))), (12, .v (.one (.d (.lst (List.map api_Sample.enc vr4_2))))), (13, .v (.one (.d (.int .i64 vr5_1)))), (14, .v (.one (.d (.int .i64 vx7_1)))), (15, .v (.one (.d (.int .i64 vx6_1)))), (16, .v (.one (.d (.lst (List.map api_Sample.enc vx8_1))))), (17, .v (.one (.nil)))]) 1

theorem fleetlaw2_SamplesMerge_x6_ok (vr11 : List api_Sample) (vr5 : List UInt8) (vr6 : List UInt8) (vr7 : api_Window) (vr3_1 : List api_Sample) (vr4_1 : Int) (vr4_2 : List api_Sample) (vr5_1 : Int) (vx6_1 : Int) (vx7_1 : Int) (vx8_1 : List api_Sample) {r} (hF : fleetlaw2_SamplesMerge_x6 vr11 vr5 vr6 vr7 vx6_1 = some r) : Awp prog 0 142 (cL (cR (cR (cR (cR (cR (cR (cR (cR (cR (cR (cR (cR (cB f3)))))))))))))) (Out 0 fleetlaw2_SamplesMerge_x6_k (fleetlaw2_SamplesMerge_x6_S vr11 vr5 vr6 vr7 vr3_1 vr4_1 vr4_2 vr5_1 vx6_1 vx7_1 vx8_1) r) (fleetlaw2_SamplesMerge_x6_I vr11 vr5 vr6 vr7 vr3_1 vr4_1 vr4_2 vr5_1 vx6_1 vx7_1 vx8_1) := by
  unfold fleetlaw2_SamplesMerge_x6 at hF
  refine awp_seq ?_
  refine awp_region ?_
  refine aR 2 ?_
  refine aE ?_
  refine cE hF (fun h44 hF => ?_) fun h44 hF => ?_
  · refine awp_true (by kernel_rfl) h44 ?_
    refine bE hF fun vr1_7 h45 hF => ?_
    refine awp_region ?_
    refine aR 4 ?_
    refine aC (fleetref2_PickedOf_ok h45) [] [] [] ?_
    refine aR 1 ?_
    refine aE ?_
    exact oO hF [] [] rfl
  · refine awp_false (by kernel_rfl) h44 ?_
    refine awp_skip ?_
    exact oO hF [] [] rfl

def fleetlaw2_SamplesMerge_x7_k : Bool → AEx
  | _ => .normal

def fleetlaw2_SamplesMerge_x7_S (vr3_1 : List api_Sample) (vr4_1 : Int) (vr4_2 : List api_Sample) (vr5_1 : Int) (vx6_1 : Int) (vx7_1 : Int) (vx8_1 : List api_Sample) (vx9_1 : List api_Sample) : Bool → St
  | vx10 => Mem.st ⟨[], []⟩ (tl [(2, .v (.one (.d (.bool vx10))))]) 0

def fleetlaw2_SamplesMerge_x7_I (vr3_1 : List api_Sample) (vr4_1 : Int) (vr4_2 : List api_Sample) (vr5_1 : Int) (vx6_1 : Int) (vx7_1 : Int) (vx8_1 : List api_Sample) (vx9_1 : List api_Sample) : St := Mem.st ⟨[], []⟩ (tl [(10, .v (.one (.d (.lst (List.map api_Sample.enc vr3_1))))), (11, .v (.one (.d (.int .i64 vr4_1)))), (12, .v (.one (.d (.lst (List.map api_Sample.enc vr4_2))))), (13, .v (.one (.d (.int .i64 vr5_1)))), (14, .v (.one (.d (.int .i64 vx7_1)))), (15, .v (.one (.d (.int .i64 vx6_1)))), (16, .v (.one (.d (.lst (List.map api_Sample.enc vx8_1))))), (17, .v (.one (.d (.lst (List.map api_Sample.enc vx9_1)))))]) 0

theorem fleetlaw2_SamplesMerge_x7_ok (vr3_1 : List api_Sample) (vr4_1 : Int) (vr4_2 : List api_Sample) (vr5_1 : Int) (vx6_1 : Int) (vx7_1 : Int) (vx8_1 : List api_Sample) (vx9_1 : List api_Sample) {r} (hF : fleetlaw2_SamplesMerge_x7 vr3_1 vr4_1 vr4_2 vr5_1 vx6_1 vx7_1 vx8_1 vx9_1 = some r) : Awp prog 0 142 (cL (cR (cR (cR (cR (cR (cR (cR (cR (cR (cR (cR (cR (cR (cB f3))))))))))))))) (Out 0 fleetlaw2_SamplesMerge_x7_k (fleetlaw2_SamplesMerge_x7_S vr3_1 vr4_1 vr4_2 vr5_1 vx6_1 vx7_1 vx8_1 vx9_1) r) (fleetlaw2_SamplesMerge_x7_I vr3_1 vr4_1 vr4_2 vr5_1 vx6_1 vx7_1 vx8_1 vx9_1) := by
  unfold fleetlaw2_SamplesMerge_x7 at hF
  refine cE hF (fun h47 hF => ?_) fun h47 hF => ?_
  · refine bE hF fun vr15 h48 hF => ?_
    refine cE hF (fun h49 hF => ?_) fun h49 hF => ?_
    · refine cE hF (fun h50 hF => ?_) fun h50 hF => ?_
      · refine bE hF fun vr16 h51 hF => ?_
        refine cE hF (fun h52 hF => ?_) fun h52 hF => ?_
        · refine bE hF fun vr3_5 h53 hF => ?_
          refine awp_region ?_
          refine aR 2 ?_
          refine aB h47 ?_
          refine aR 3 ?_
          refine aCb (slices_Equal_api_Sample_api_Sample_ok h48) [] [] [] h49 ?_
          refine aR 4 ?_
          refine aB h50 ?_
          refine aR 4 ?_
          refine aCb (slices_Equal_api_Sample_api_Sample_ok h51) [] [] [] h52 ?_
          refine aR 2 ?_
          refine aC (fleetlaw2_measured_ok h53) [] [] [] ?_
          refine aR 2 ?_
          refine aE ?_
          exact oO hF [] [] rfl
        · refine awp_region ?_
          refine aR 2 ?_
          refine aB h47 ?_
          refine aR 3 ?_
          refine aCb (slices_Equal_api_Sample_api_Sample_ok h48) [] [] [] h49 ?_
          refine aR 4 ?_
          refine aB h50 ?_
          refine aR 4 ?_
          refine aCb (slices_Equal_api_Sample_api_Sample_ok h51) [] [] [] h52 ?_
          refine aR 5 ?_
          refine aE ?_
          exact oO hF [] [] rfl
      · refine awp_region ?_
        refine aR 2 ?_
        refine aB h47 ?_
        refine aR 3 ?_
        refine aCb (slices_Equal_api_Sample_api_Sample_ok h48) [] [] [] h49 ?_
        refine aR 4 ?_
        refine aB h50 ?_
        refine aR 10 ?_
        refine aE ?_
        exact oO hF [] [] rfl
    · refine awp_region ?_
      refine aR 2 ?_
      refine aB h47 ?_
      refine aR 3 ?_
      refine aCb (slices_Equal_api_Sample_api_Sample_ok h48) [] [] [] h49 ?_
      refine aR 15 ?_
      refine aE ?_
      exact oO hF [] [] rfl
  · refine awp_region ?_
    refine aR 2 ?_
    refine aB h47 ?_
    refine aR 19 ?_
    refine aE ?_
    exact oO hF [] [] rfl

def fleetlaw2_SamplesMerge_R (qx : List Int) (r : Bool) : TV × Mem := (.v (.one (.d (.bool r))), ⟨[], []⟩)

theorem fleetlaw2_SamplesMerge_ok {qx : List Int} {r} (hF : fleetlaw2_SamplesMerge qx = some r) : Holds prog 3 [.v (.one (.d (.lst (List.map (encI .i64) qx))))] ⟨[], []⟩ (Is (fleetlaw2_SamplesMerge_R qx r)) := by
  unfold fleetlaw2_SamplesMerge at hF
  refine holds_of_awp hΓ (fn := f3) (c := cB f3) (A := 0) (nx := 0) (by kernel_rfl) (by kernel_rfl) (by kernel_rfl) (by kernel_rfl) (by kernel_rfl) (by kernel_rfl) (lowc_of (by kernel_rfl)) ?_
  show Awp prog 0 142 (cB f3) _ _
  refine awp_seq ?_
  refine awp_region ?_
  refine aR 1 ?_
  refine aE ?_
  refine awp_seq ?_
  refine awp_region ?_
  refine aR 4 ?_
  refine aE ?_
  refine awp_seq ?_
  refine bE hF fun x h1 hF => ?_
  obtain ⟨vs, vr⟩ := x
  refine bE hF fun x h2 hF => ?_
  obtain ⟨vs4, vr11⟩ := x
  refine bE hF fun x h3 hF => ?_
  obtain ⟨vs1, vr1⟩ := x
  refine bE hF fun x h4 hF => ?_
  obtain ⟨vs4_1, vr11_1⟩ := x
  refine awp_region ?_
  refine aR 2 ?_
  refine aC (fleetmake_Stream_Range_ok h1) [(0, 3000)] [] [] ?_
  refine aC (fleetmake_Stream_Samples_ok h2) [(0, 3000)] [] [] ?_
  refine aR 2 ?_
  refine aC (fleetmake_Stream_Range_ok h3) [(0, 3000)] [] [] ?_
  refine aC (fleetmake_Stream_Samples_ok h4) [(0, 3000)] [] [] ?_
  refine aR 2 ?_
  refine aE ?_
  refine awp_to (oT (m := ⟨[], [(0, [.d (.lst (List.map (encI .i64) vs4_1.L)), .d (.int .i64 vs4_1.at_)])]⟩) (ts := [(3, .v (.one (.box 0 0))), (4, .v (.one (.d (.lst (List.map api_Sample.enc vr11))))), (5, .v (.one (.d (.lst (List.map api_Sample.enc vr11_1)))))]) (nx := 1) [(0, 3000)] []) ?_
  refine awp_seq ?_
  refine awp_to (st' := fleetlaw2_SamplesMerge_x1_I vr11 vs4_1 vr11_1) (oT [] []) ?_
  refine bE hF fun x h12 hF => ?_
  obtain ⟨vx3_1, vx4_1⟩ := x
  refine awp_sub (fleetlaw2_SamplesMerge_x1_ok vr11 vs4_1 vr11_1 h12) ?_
  refine awp_seq ?_
  refine bE hF fun vr5 h13 hF => ?_
  refine bE hF fun vr6 h14 hF => ?_
  refine bE hF fun x h15 hF => ?_
  obtain ⟨vs5, vr7⟩ := x
  refine bE hF fun x h16 hF => ?_
  obtain ⟨vs6, vr9⟩ := x
  refine awp_region ?_
  refine aR 2 ?_
  refine aC (fleetmake_Stream_Some_o1_ok h13) [(1, 1001)] [] [] ?_
  refine aR 2 ?_
  refine aC (fleetmake_Stream_Some_o1_ok h14) [(1, 4001)] [] [] ?_
  refine aR 1 ?_
  refine aC (fleetmake_Stream_Frame_ok h15) [] [] [] ?_
  refine aR 1 ?_
  refine aC (fleetmake_Stream_Series_ok h16) [] [] [] ?_
  refine aR 5 ?_
  refine aE ?_
  refine awp_to (oT (m := ⟨[], [(0, [.d (.int .i64 vr7.From), .d (.int .i64 vr7.To)])]⟩) (ts := [(4, .v (.one (.d (.lst (List.map api_Sample.enc vr11))))), (5, .v (.one (.d (.lst (List.map api_Sample.enc vx4_1))))), (6, .v (.one (.d (.str vr5)))), (7, .v (.one (.d (.str vr6)))), (8, .v (.one (.box 0 0))), (9, .v (.one (.d (.lst (List.map api_Sample.enc vr9)))))]) (nx := 1) [(0, 10001)] []) ?_
  refine awp_seq ?_
  refine bE hF fun x h17 hF => ?_
  obtain ⟨vr3_1, vr4_1⟩ := x
  refine awp_region ?_
  refine aR 2 ?_
  refine aC (series_Merge_ok h17) [] [] [] ?_
  refine aR 5 ?_
  refine aE ?_
  refine awp_to (oT (m := ⟨[], [(0, [.d (.int .i64 vr7.From), .d (.int .i64 vr7.To)])]⟩) (ts := [(4, .v (.one (.d (.lst (List.map api_Sample.enc vr11))))), (5, .v (.one (.d (.lst (List.map api_Sample.enc vx4_1))))), (6, .v (.one (.d (.str vr5)))), (7, .v (.one (.d (.str vr6)))), (8, .v (.one (.box 0 0))), (9, .v (.one (.d (.lst (List.map api_Sample.enc vr9))))), (10, .v (.one (.d (.lst (List.map api_Sample.enc vr3_1))))), (11, .v (.one (.d (.int .i64 vr4_1))))]) (nx := 1) [] []) ?_
  refine awp_seq ?_
  refine bE hF fun x h18 hF => ?_
  obtain ⟨vr4_2, vr5_1⟩ := x
  refine awp_region ?_
  refine aR 4 ?_
  refine aC (series_Of_ok h18) [] [] [] ?_
  refine aR 5 ?_
  refine aE ?_
  refine awp_to (oT (m := ⟨[], [(0, [.d (.int .i64 vr7.From), .d (.int .i64 vr7.To)])]⟩) (ts := [(4, .v (.one (.d (.lst (List.map api_Sample.enc vr11))))), (5, .v (.one (.d (.lst (List.map api_Sample.enc vx4_1))))), (6, .v (.one (.d (.str vr5)))), (7, .v (.one (.d (.str vr6)))), (8, .v (.one (.box 0 0))), (9, .v (.one (.d (.lst (List.map api_Sample.enc vr9))))), (10, .v (.one (.d (.lst (List.map api_Sample.enc vr3_1))))), (11, .v (.one (.d (.int .i64 vr4_1)))), (12, .v (.one (.d (.lst (List.map api_Sample.enc vr4_2))))), (13, .v (.one (.d (.int .i64 vr5_1))))]) (nx := 1) [] []) ?_
  refine awp_seq ?_
  refine bE hF fun vr4_3 h19 hF => ?_
  refine awp_region ?_
  refine aR 1 ?_
  refine aC (fleetref2_SamplesFault_ok h19) [] [] [] ?_
  refine aR 1 ?_
  refine aE ?_
  refine awp_seq ?_
  refine awp_seq ?_
  refine awp_to (st' := fleetlaw2_SamplesMerge_x3_I vr11 vx4_1 vr5 vr6 vr7 vr9 vr3_1 vr4_1 vr4_2 vr5_1 vr4_3) (oT [] []) ?_
  refine bE hF fun vx5_1 h27 hF => ?_
  refine awp_sub (fleetlaw2_SamplesMerge_x3_ok vr11 vx4_1 vr5 vr6 vr7 vr9 vr3_1 vr4_1 vr4_2 vr5_1 vr4_3 h27) ?_
  refine cE hF (fun h28 hF => ?_) fun h28 hF => ?_
  · refine awp_true (by kernel_rfl) h28 ?_
    refine awp_seq ?_
    refine awp_region ?_
    refine aR 1 ?_
    refine aE ?_
    refine awp_ret ?_
    exact oF hF [] []
  · refine awp_false (by kernel_rfl) h28 ?_
    refine awp_skip ?_
    refine awp_seq ?_
    refine awp_to (st' := fleetlaw2_SamplesMerge_x4_I vr11 vx4_1 vr5 vr6 vr7 vr3_1 vr4_1 vr4_2 vr5_1 vr4_3) (oT [] []) ?_
    refine bE hF fun vx6_1 h38 hF => ?_
    refine awp_sub (fleetlaw2_SamplesMerge_x4_ok vr11 vx4_1 vr5 vr6 vr7 vr3_1 vr4_1 vr4_2 vr5_1 vr4_3 h38) ?_
    refine awp_seq ?_
    refine awp_region ?_
    refine aR 2 ?_
    refine aE ?_
    refine awp_seq ?_
    refine awp_to (st' := fleetlaw2_SamplesMerge_x5_I vr11 vx4_1 vr5 vr6 vr7 vr3_1 vr4_1 vr4_2 vr5_1 vr4_3 vx6_1) (oT [] []) ?_
    refine bE hF fun x h43 hF => ?_
    obtain ⟨vx7_1, vx8_1⟩ := x
    refine awp_sub (fleetlaw2_SamplesMerge_x5_ok vr11 vx4_1 vr5 vr6 vr7 vr3_1 vr4_1 vr4_2 vr5_1 vr4_3 vx6_1 h43) ?_
    refine awp_seq ?_
    refine awp_to (st' := fleetlaw2_SamplesMerge_x6_I vr11 vr5 vr6 vr7 vr3_1 vr4_1 vr4_2 vr5_1 vx6_1 vx7_1 vx8_1) (oT [] []) ?_
    refine bE hF fun vx9_1 h46 hF => ?_
    refine awp_sub (fleetlaw2_SamplesMerge_x6_ok vr11 vr5 vr6 vr7 vr3_1 vr4_1 vr4_2 vr5_1 vx6_1 vx7_1 vx8_1 h46) ?_
    refine awp_seq ?_
    refine awp_to (st' := fleetlaw2_SamplesMerge_x7_I vr3_1 vr4_1 vr4_2 vr5_1 vx6_1 vx7_1 vx8_1 vx9_1) (oT [] []) ?_
    refine bE hF fun vx10_1 h54 hF => ?_
    refine awp_sub (fleetlaw2_SamplesMerge_x7_ok vr3_1 vr4_1 vr4_2 vr5_1 vx6_1 vx7_1 vx8_1 vx9_1 h54) ?_
    refine awp_ret ?_
    exact oF hF [] []

end Go.Eng
