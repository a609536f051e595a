/-
The code of the Go functions that the law TopPackedRollsUp reaches does what the plain functions say, part 2.
-/
import Derived.Test.YteniijgeaofngaaDoorGenP1

namespace Go.Eng

open Go Go.Proofs.Tryd

set_option linter.unusedVariables false

set_option maxRecDepth 20000

set_option maxHeartbeats 0

/-! ### internal/strconv.ParseInt -/
def strconv_ParseInt_x1_k : ((List UInt8) × Bool) → AEx
  | _ => .normal

def strconv_ParseInt_x1_S (qx : List UInt8) (qx1 : Int) (qx2 : Int) : ((List UInt8) × Bool) → St
  | (vx, vx1) => Mem.st ⟨[], []⟩ (tl [(0, .v (.one (.d (.str vx)))), (1, .v (.one (.d (.int .i64 qx1)))), (2, .v (.one (.d (.int .i64 qx2)))), (8, .v (.one (.d (.bool vx1))))]) 0

def strconv_ParseInt_x1_I (qx : List UInt8) (qx1 : Int) (qx2 : Int) : St := Mem.st ⟨[], []⟩ (tl [(0, .v (.one (.d (.str qx)))), (1, .v (.one (.d (.int .i64 qx1)))), (2, .v (.one (.d (.int .i64 qx2)))), (8, .v (.one (.d (.bool false))))]) 0

theorem strconv_ParseInt_x1_ok (qx : List UInt8) (qx1 : Int) (qx2 : Int) {r} (hF : strconv_ParseInt_x1 qx = some r) : Awp prog 0 73 (cL (cR (cR (cR (cB f64))))) (Out 0 strconv_ParseInt_x1_k (strconv_ParseInt_x1_S qx qx1 qx2) r) (strconv_ParseInt_x1_I qx qx1 qx2) := by
  unfold strconv_ParseInt_x1 at hF
  refine awp_seq ?_
  refine bE hF fun vc h3 hF => ?_
  refine awp_region ?_
  refine aR 1 ?_
  refine aX (x_idxS h3) ?_
  refine aE ?_
  refine awp_block ?_
  refine awp_seq ?_
  refine awp_region ?_
  refine aR 2 ?_
  refine aE ?_
  refine cE hF (fun h4 hF => ?_) fun h4 hF => ?_
  · refine awp_true (by kernel_rfl) h4 ?_
    refine bE hF fun vs h5 hF => ?_
    refine awp_region ?_
    refine aR 1 ?_
    refine aX (x_sliceS h5) ?_
    refine aR 1 ?_
    refine aE ?_
    exact oO hF [] [] rfl
  · refine awp_false (by kernel_rfl) h4 ?_
    refine awp_seq ?_
    refine awp_region ?_
    refine aR 2 ?_
    refine aE ?_
    refine cE hF (fun h6 hF => ?_) fun h6 hF => ?_
    · refine awp_true (by kernel_rfl) h6 ?_
      refine awp_seq ?_
      refine bE hF fun vs1 h7 hF => ?_
      refine awp_region ?_
      refine aR 1 ?_
      refine aX (x_sliceS h7) ?_
      refine aR 1 ?_
      refine aE ?_
      refine awp_region ?_
      refine aR 1 ?_
      refine aE ?_
      exact oO hF [] [] rfl
    · refine awp_false (by kernel_rfl) h6 ?_
      refine awp_skip ?_
      exact oO hF [] [] rfl

def strconv_ParseInt_x2_k : Int → AEx
  | _ => .normal

def strconv_ParseInt_x2_S (qx2 : Int) (vx1_1 : Bool) (vr1 : Int) : Int → St
  | vx3 => Mem.st ⟨[], []⟩ (tl [(2, .v (.one (.d (.int .i64 vx3)))), (8, .v (.one (.d (.bool vx1_1)))), (9, .v (.one (.d (.int .u64 vr1))))]) 0

def strconv_ParseInt_x2_I (qx2 : Int) (vx1_1 : Bool) (vr1 : Int) : St := Mem.st ⟨[], []⟩ (tl [(2, .v (.one (.d (.int .i64 qx2)))), (8, .v (.one (.d (.bool vx1_1)))), (9, .v (.one (.d (.int .u64 vr1))))]) 0

theorem strconv_ParseInt_x2_ok (qx2 : Int) (vx1_1 : Bool) (vr1 : Int) {r} (hF : strconv_ParseInt_x2 qx2 = some r) : Awp prog 0 73 (cL (cR (cR (cR (cR (cR (cR (cR (cB f64))))))))) (Out 0 strconv_ParseInt_x2_k (strconv_ParseInt_x2_S qx2 vx1_1 vr1) r) (strconv_ParseInt_x2_I qx2 vx1_1 vr1) := by
  unfold strconv_ParseInt_x2 at hF
  refine awp_seq ?_
  refine awp_region ?_
  refine aR 2 ?_
  refine aE ?_
  refine cE hF (fun h10 hF => ?_) fun h10 hF => ?_
  · refine awp_true (by kernel_rfl) h10 ?_
    refine awp_region ?_
    refine aR 1 ?_
    refine aE ?_
    exact oO hF [] [] rfl
  · refine awp_false (by kernel_rfl) h10 ?_
    refine awp_skip ?_
    exact oO hF [] [] rfl

def strconv_ParseInt_x3_k : Bool → AEx
  | _ => .normal

def strconv_ParseInt_x3_S (vx1_1 : Bool) (vr1 : Int) (vx3_1 : Int) : Bool → St
  | vx4 => Mem.st ⟨[], []⟩ (tl [(8, .v (.one (.d (.bool vx1_1)))), (9, .v (.one (.d (.int .u64 vr1)))), (10, .v (.one (.d (.int .u64 (ishl .u64 1 (IntKind.wrap .u64 (IntKind.wrap .i64 (vx3_1 - 1)))))))), (52, .v (.one (.d (.bool vx4))))]) 0

def strconv_ParseInt_x3_I (vx1_1 : Bool) (vr1 : Int) (vx3_1 : Int) : St := Mem.st ⟨[], []⟩ (tl [(8, .v (.one (.d (.bool vx1_1)))), (9, .v (.one (.d (.int .u64 vr1)))), (10, .v (.one (.d (.int .u64 (ishl .u64 1 (IntKind.wrap .u64 (IntKind.wrap .i64 (vx3_1 - 1))))))))]) 0

theorem strconv_ParseInt_x3_ok (vx1_1 : Bool) (vr1 : Int) (vx3_1 : Int) {r} (hF : strconv_ParseInt_x3 vx1_1 vr1 vx3_1 = some r) : Awp prog 0 73 (cL (cL (cR (cR (cR (cR (cR (cR (cR (cR (cR (cB f64)))))))))))) (Out 0 strconv_ParseInt_x3_k (strconv_ParseInt_x3_S vx1_1 vr1 vx3_1) r) (strconv_ParseInt_x3_I vx1_1 vr1 vx3_1) := by
  unfold strconv_ParseInt_x3 at hF
  refine cE hF (fun h13 hF => ?_) fun h13 hF => ?_
  · refine awp_region ?_
    refine aR 1 ?_
    refine aB h13 ?_
    refine aR 5 ?_
    refine aE ?_
    exact oO hF [] [] rfl
  · refine awp_region ?_
    refine aR 1 ?_
    refine aB h13 ?_
    refine aR 5 ?_
    refine aE ?_
    exact oO hF [] [] rfl

def strconv_ParseInt_x4_k : Bool → AEx
  | _ => .normal

def strconv_ParseInt_x4_S (vx1_1 : Bool) (vr1 : Int) (vx3_1 : Int) : Bool → St
  | vx5 => Mem.st ⟨[], []⟩ (tl [(8, .v (.one (.d (.bool vx1_1)))), (9, .v (.one (.d (.int .u64 vr1)))), (10, .v (.one (.d (.int .u64 (ishl .u64 1 (IntKind.wrap .u64 (IntKind.wrap .i64 (vx3_1 - 1)))))))), (62, .v (.one (.d (.bool vx5))))]) 0

def strconv_ParseInt_x4_I (vx1_1 : Bool) (vr1 : Int) (vx3_1 : Int) : St := Mem.st ⟨[], []⟩ (tl [(8, .v (.one (.d (.bool vx1_1)))), (9, .v (.one (.d (.int .u64 vr1)))), (10, .v (.one (.d (.int .u64 (ishl .u64 1 (IntKind.wrap .u64 (IntKind.wrap .i64 (vx3_1 - 1))))))))]) 0

theorem strconv_ParseInt_x4_ok (vx1_1 : Bool) (vr1 : Int) (vx3_1 : Int) {r} (hF : strconv_ParseInt_x4 vx1_1 vr1 vx3_1 = some r) : Awp prog 0 73 (cL (cL (cR (cR (cR (cR (cR (cR (cR (cR (cR (cR (cB f64))))))))))))) (Out 0 strconv_ParseInt_x4_k (strconv_ParseInt_x4_S vx1_1 vr1 vx3_1) r) (strconv_ParseInt_x4_I vx1_1 vr1 vx3_1) := by
  unfold strconv_ParseInt_x4 at hF
  refine cE hF (fun h17 hF => ?_) fun h17 hF => ?_
  · refine awp_region ?_
    refine aB h17 ?_
    refine aR 5 ?_
    refine aE ?_
    exact oO hF [] [] rfl
  · refine awp_region ?_
    refine aB h17 ?_
    refine aR 5 ?_
    refine aE ?_
    exact oO hF [] [] rfl

def strconv_ParseInt_x5_k : Int → AEx
  | _ => .normal

def strconv_ParseInt_x5_S (vx1_1 : Bool) (vr1 : Int) : Int → St
  | vx6 => Mem.st ⟨[], []⟩ (tl [(11, .v (.one (.d (.int .i64 vx6))))]) 0

def strconv_ParseInt_x5_I (vx1_1 : Bool) (vr1 : Int) : St := Mem.st ⟨[], []⟩ (tl [(8, .v (.one (.d (.bool vx1_1)))), (11, .v (.one (.d (.int .i64 (IntKind.wrap .i64 (vr1))))))]) 0

theorem strconv_ParseInt_x5_ok (vx1_1 : Bool) (vr1 : Int) {r} (hF : strconv_ParseInt_x5 vx1_1 vr1 = some r) : Awp prog 0 73 (cL (cR (cR (cR (cR (cR (cR (cR (cR (cR (cR (cR (cR (cB f64)))))))))))))) (Out 0 strconv_ParseInt_x5_k (strconv_ParseInt_x5_S vx1_1 vr1) r) (strconv_ParseInt_x5_I vx1_1 vr1) := by
  unfold strconv_ParseInt_x5 at hF
  refine awp_seq ?_
  refine awp_region ?_
  refine aR 1 ?_
  refine aE ?_
  refine cE hF (fun h21 hF => ?_) fun h21 hF => ?_
  · refine awp_true (by kernel_rfl) h21 ?_
    refine awp_region ?_
    refine aR 3 ?_
    refine aE ?_
    exact oO hF [] [] rfl
  · refine awp_false (by kernel_rfl) h21 ?_
    refine awp_skip ?_
    exact oO hF [] [] rfl

def strconv_ParseInt_R (qx : List UInt8) (qx1 : Int) (qx2 : Int) (r : Int) : TV × Mem := (.tup [.one (.d (.int .i64 r)), .one (.nili)], ⟨[], []⟩)

theorem strconv_ParseInt_ok {qx : List UInt8} {qx1 : Int} {qx2 : Int} {r} (hF : strconv_ParseInt qx qx1 qx2 = some r) : Holds prog 64 [.v (.one (.d (.str qx))), .v (.one (.d (.int .i64 qx1))), .v (.one (.d (.int .i64 qx2)))] ⟨[], []⟩ (Is (strconv_ParseInt_R qx qx1 qx2 r)) := by
  unfold strconv_ParseInt at hF
  refine holds_of_awp hΓ (fn := f64) (c := cB f64) (A := 0) (nx := 0) (by kernel_rfl) (by kernel_rfl) (by kernel_rfl) (by kernel_rfl) (by kernel_rfl) (by kernel_rfl) (lowc_of (by kernel_rfl)) ?_
  show Awp prog 0 73 (cB f64) _ _
  refine awp_seq ?_
  refine awp_region ?_
  refine aR 2 ?_
  refine aE ?_
  refine awp_seq ?_
  refine awp_seq ?_
  refine awp_region ?_
  refine aR 2 ?_
  refine aE ?_
  refine cE hF (fun h1 hF => ?_) fun h1 hF => ?_
  · refine awp_true (by kernel_rfl) h1 ?_
    refine awp_seq ?_
    exact nE hF
  · refine awp_false (by kernel_rfl) h1 ?_
    refine awp_skip ?_
    refine awp_seq ?_
    refine awp_region ?_
    refine aR 1 ?_
    refine aE ?_
    refine awp_seq ?_
    refine awp_to (st' := strconv_ParseInt_x1_I qx qx1 qx2) (oT [] []) ?_
    refine bE hF fun x h8 hF => ?_
    obtain ⟨vx2, vx1_1⟩ := x
    refine awp_sub (strconv_ParseInt_x1_ok qx qx1 qx2 h8) ?_
    refine awp_seq ?_
    refine awp_region ?_
    refine aR 1 ?_
    refine aE ?_
    refine awp_seq ?_
    refine bE hF fun vr1 h9 hF => ?_
    refine awp_region ?_
    refine aR 3 ?_
    refine aC (strconv_ParseUint_ok h9) [] [] [] ?_
    refine aR 5 ?_
    refine aE ?_
    refine awp_seq ?_
    refine awp_seq ?_
    refine awp_region ?_
    refine aR 1 ?_
    refine aS (does_nilI (op := .neq) (c := false) rfl (.inr ⟨rfl, rfl⟩) (by kernel_rfl) (by kernel_rfl)) ?_
    refine aR 5 ?_
    refine aE ?_
    refine awp_false (by kernel_rfl) rfl ?_
    refine awp_skip ?_
    refine awp_seq ?_
    refine awp_to (st' := strconv_ParseInt_x2_I qx2 vx1_1 vr1) (oT [] []) ?_
    refine bE hF fun vx3_1 h11 hF => ?_
    refine awp_sub (strconv_ParseInt_x2_ok qx2 vx1_1 vr1 h11) ?_
    refine awp_seq ?_
    refine gE hF fun h12 hF => ?_
    refine awp_region ?_
    refine aR 3 ?_
    refine aX (x_shl h12) ?_
    refine aR 1 ?_
    refine aE ?_
    refine awp_seq ?_
    refine awp_seq ?_
    refine awp_to (st' := strconv_ParseInt_x3_I vx1_1 vr1 vx3_1) (oT [] []) ?_
    refine bE hF fun vx4_1 h14 hF => ?_
    refine awp_sub (strconv_ParseInt_x3_ok vx1_1 vr1 vx3_1 h14) ?_
    refine cE hF (fun h15 hF => ?_) fun h15 hF => ?_
    · refine awp_true (by kernel_rfl) h15 ?_
      refine awp_seq ?_
      exact nE hF
    · refine awp_false (by kernel_rfl) h15 ?_
      refine awp_skip ?_
      refine awp_seq ?_
      refine awp_seq ?_
      refine awp_to (st' := strconv_ParseInt_x4_I vx1_1 vr1 vx3_1) (oT [] []) ?_
      refine bE hF fun vx5_1 h18 hF => ?_
      refine awp_sub (strconv_ParseInt_x4_ok vx1_1 vr1 vx3_1 h18) ?_
      refine cE hF (fun h19 hF => ?_) fun h19 hF => ?_
      · refine awp_true (by kernel_rfl) h19 ?_
        refine awp_seq ?_
        exact nE hF
      · refine awp_false (by kernel_rfl) h19 ?_
        refine awp_skip ?_
        refine awp_seq ?_
        refine awp_region ?_
        refine aR 3 ?_
        refine aE ?_
        refine awp_seq ?_
        refine awp_to (st' := strconv_ParseInt_x5_I vx1_1 vr1) (oT [] []) ?_
        refine bE hF fun vx6_1 h22 hF => ?_
        refine awp_sub (strconv_ParseInt_x5_ok vx1_1 vr1 h22) ?_
        refine awp_seq ?_
        refine awp_region ?_
        refine aR 3 ?_
        refine aE ?_
        refine awp_ret ?_
        exact oF hF [] []

/-! ### internal/strconv.Atoi -/
def strconv_Atoi_2_x1_k : Bool → AEx
  | _ => .normal

def strconv_Atoi_2_x1_S (qx : List UInt8) : Bool → St
  | vx => Mem.st ⟨[], []⟩ (tl [(0, .v (.one (.d (.str qx)))), (30, .v (.one (.d (.bool vx))))]) 0

def strconv_Atoi_2_x1_I (qx : List UInt8) : St := Mem.st ⟨[], []⟩ (tl [(0, .v (.one (.d (.str qx)))), (4, .v (.one (.d (.int .i64 (qx.length : Int)))))]) 0

theorem strconv_Atoi_2_x1_ok (qx : List UInt8) {r} (hF : strconv_Atoi_2_x1 qx = some r) : Awp prog 0 77 (cL (cL (cR (cR (cB f56))))) (Out 0 strconv_Atoi_2_x1_k (strconv_Atoi_2_x1_S qx) r) (strconv_Atoi_2_x1_I qx) := by
  unfold strconv_Atoi_2_x1 at hF
  refine cE hF (fun h1 hF => ?_) fun h1 hF => ?_
  · refine awp_region ?_
    refine aR 11 ?_
    refine aB h1 ?_
    refine aR 6 ?_
    refine aE ?_
    exact oO hF [] [] rfl
  · refine awp_region ?_
    refine aR 11 ?_
    refine aB h1 ?_
    refine aR 6 ?_
    refine aE ?_
    exact oO hF [] [] rfl

def strconv_Atoi_2_x3_k : Bool → AEx
  | _ => .normal

def strconv_Atoi_2_x3_S (qx : List UInt8) : Bool → St
  | vx2 => Mem.st ⟨[], []⟩ (tl [(0, .v (.one (.d (.str qx)))), (5, .v (.one (.d (.str qx)))), (39, .v (.one (.d (.bool vx2))))]) 0

def strconv_Atoi_2_x3_I (qx : List UInt8) : St := Mem.st ⟨[], []⟩ (tl [(0, .v (.one (.d (.str qx)))), (5, .v (.one (.d (.str qx))))]) 0

theorem strconv_Atoi_2_x3_ok (qx : List UInt8) {r} (hF : strconv_Atoi_2_x3 qx = some r) : Awp prog 0 77 (cL (cL (cR (cL (cR (cL (cR (cR (cB f56))))))))) (Out 0 strconv_Atoi_2_x3_k (strconv_Atoi_2_x3_S qx) r) (strconv_Atoi_2_x3_I qx) := by
  unfold strconv_Atoi_2_x3 at hF
  refine bE hF fun vc h4 hF => ?_
  refine cE hF (fun h5 hF => ?_) fun h5 hF => ?_
  · refine awp_region ?_
    refine aR 1 ?_
    refine aX (x_idxS h4) ?_
    refine aB h5 ?_
    refine aR 5 ?_
    refine aE ?_
    exact oO hF [] [] rfl
  · refine awp_region ?_
    refine aR 1 ?_
    refine aX (x_idxS h4) ?_
    refine aB h5 ?_
    refine aR 2 ?_
    refine aX (x_idxS h4) ?_
    refine aR 2 ?_
    refine aE ?_
    exact oO hF [] [] rfl

def strconv_Atoi_2_x2_k : (List UInt8) → AEx
  | _ => .normal

def strconv_Atoi_2_x2_S (qx : List UInt8) : (List UInt8) → St
  | vx3 => Mem.st ⟨[], []⟩ (tl [(0, .v (.one (.d (.str vx3)))), (5, .v (.one (.d (.str qx))))]) 0

def strconv_Atoi_2_x2_I (qx : List UInt8) : St := Mem.st ⟨[], []⟩ (tl [(0, .v (.one (.d (.str qx)))), (5, .v (.one (.d (.str qx))))]) 0

theorem strconv_Atoi_2_x2_ok (qx : List UInt8) {r} (hF : strconv_Atoi_2_x2 qx = some r) : Awp prog 0 77 (cL (cR (cL (cR (cL (cR (cR (cB f56)))))))) (Out 0 strconv_Atoi_2_x2_k (strconv_Atoi_2_x2_S qx) r) (strconv_Atoi_2_x2_I qx) := by
  unfold strconv_Atoi_2_x2 at hF
  refine awp_seq ?_
  refine awp_to (st' := strconv_Atoi_2_x3_I qx) (oT [] []) ?_
  refine bE hF fun vx2_1 h6 hF => ?_
  refine awp_sub (strconv_Atoi_2_x3_ok qx h6) ?_
  refine cE hF (fun h7 hF => ?_) fun h7 hF => ?_
  · refine awp_true (by kernel_rfl) h7 ?_
    refine awp_seq ?_
    refine bE hF fun vs h8 hF => ?_
    refine awp_region ?_
    refine aR 1 ?_
    refine aX (x_sliceS h8) ?_
    refine aR 1 ?_
    refine aE ?_
    refine awp_seq ?_
    refine awp_region ?_
    refine aR 3 ?_
    refine aE ?_
    refine cE hF (fun h9 hF => ?_) fun h9 hF => ?_
    · refine awp_true (by kernel_rfl) h9 ?_
      refine awp_seq ?_
      exact nE hF
    · refine awp_false (by kernel_rfl) h9 ?_
      refine awp_skip ?_
      exact oO hF [] [] rfl
  · refine awp_false (by kernel_rfl) h7 ?_
    refine awp_skip ?_
    exact oO hF [] [] rfl

def strconv_Atoi_2_x4_k : Int → AEx
  | _ => .exit 0

def strconv_Atoi_2_x4_S (qx : List UInt8) (vx3_1 : List UInt8) : Int → St
  | vx6 => Mem.st ⟨[], []⟩ (tl [(5, .v (.one (.d (.str qx)))), (6, .v (.one (.d (.int .i64 vx6))))]) 0

def strconv_Atoi_2_x4_H (qx : List UInt8) (vx3_1 : List UInt8) : Int × Int → St
  | (vx4, vx5) => Mem.st ⟨[], []⟩ (tl [(5, .v (.one (.d (.str qx)))), (6, .v (.one (.d (.int .i64 vx4)))), (47, .v (.one (.d (.lst (List.map (encI .u8) (bytesD vx3_1)))))), (48, .v (.one (.d (.int .i64 ((bytesD vx3_1).length : Int))))), (49, .v (.one (.d (.int .i64 vx5))))]) 0

theorem strconv_Atoi_2_x4_ok (qx : List UInt8) (vx3_1 : List UInt8) (s : Int × Int) (r : (Int × Int) ⊕ (Int)) (hF : strconv_Atoi_2_x4 vx3_1 s = some r) : Awp prog 0 77 (cL (cL (cR (cL (cR (cR (cR (cL (cR (cL (cR (cR (cB f56))))))))))))) (Out 0 (kk strconv_Atoi_2_x4_k) (SS (strconv_Atoi_2_x4_H qx vx3_1) (strconv_Atoi_2_x4_S qx vx3_1)) r) (strconv_Atoi_2_x4_H qx vx3_1 s) := by
  obtain ⟨vx4, vx5⟩ := s
  unfold strconv_Atoi_2_x4 at hF
  refine awp_seq ?_
  refine awp_region ?_
  refine aR 1 ?_
  refine aE ?_
  refine awp_seq ?_
  refine cE hF (fun h12 hF => ?_) fun h12 hF => ?_
  · refine awp_true (by kernel_rfl) h12 ?_
    refine awp_skip ?_
    refine awp_seq ?_
    refine awp_block ?_
    refine awp_seq ?_
    refine bE hF fun vy1 h13 hF => ?_
    refine awp_region ?_
    refine aX (x_idx (encI .u8) h13) ?_
    refine aR 2 ?_
    refine aE ?_
    refine awp_seq ?_
    refine awp_region ?_
    refine aR 3 ?_
    refine aE ?_
    refine awp_seq ?_
    refine awp_seq ?_
    refine awp_region ?_
    refine aR 2 ?_
    refine aE ?_
    refine cE hF (fun h14 hF => ?_) fun h14 hF => ?_
    · refine awp_true (by kernel_rfl) h14 ?_
      refine awp_seq ?_
      exact nE hF
    · refine awp_false (by kernel_rfl) h14 ?_
      refine awp_skip ?_
      refine awp_region ?_
      refine aR 6 ?_
      refine aE ?_
      refine awp_region ?_
      refine aR 2 ?_
      refine aE ?_
      exact oO hF [] [] rfl
  · refine awp_false (by kernel_rfl) h12 ?_
    refine awp_exit ?_
    exact oO hF [] [] rfl

def strconv_Atoi_2_x5_k : Int → AEx
  | _ => .normal

def strconv_Atoi_2_x5_S (qx : List UInt8) (vx6_1 : Int) : Int → St
  | vx7 => Mem.st ⟨[], []⟩ (tl [(6, .v (.one (.d (.int .i64 vx7))))]) 0

def strconv_Atoi_2_x5_I (qx : List UInt8) (vx6_1 : Int) : St := Mem.st ⟨[], []⟩ (tl [(5, .v (.one (.d (.str qx)))), (6, .v (.one (.d (.int .i64 vx6_1))))]) 0

theorem strconv_Atoi_2_x5_ok (qx : List UInt8) (vx6_1 : Int) {r} (hF : strconv_Atoi_2_x5 qx vx6_1 = some r) : Awp prog 0 77 (cL (cR (cR (cR (cR (cL (cR (cL (cR (cR (cB f56))))))))))) (Out 0 strconv_Atoi_2_x5_k (strconv_Atoi_2_x5_S qx vx6_1) r) (strconv_Atoi_2_x5_I qx vx6_1) := by
  unfold strconv_Atoi_2_x5 at hF
  refine awp_seq ?_
  refine bE hF fun vc1 h17 hF => ?_
  refine awp_region ?_
  refine aR 1 ?_
  refine aX (x_idxS h17) ?_
  refine aR 1 ?_
  refine aE ?_
  refine cE hF (fun h18 hF => ?_) fun h18 hF => ?_
  · refine awp_true (by kernel_rfl) h18 ?_
    refine awp_region ?_
    refine aR 3 ?_
    refine aE ?_
    exact oO hF [] [] rfl
  · refine awp_false (by kernel_rfl) h18 ?_
    refine awp_skip ?_
    exact oO hF [] [] rfl

def strconv_Atoi_2_R (qx : List UInt8) (r : Int) : TV × Mem := (.tup [.one (.d (.int .i64 r)), .one (.nili)], ⟨[], []⟩)

theorem strconv_Atoi_2_ok {qx : List UInt8} {r} (hF : strconv_Atoi_2 qx = some r) : Holds prog 56 [.v (.one (.d (.str qx)))] ⟨[], []⟩ (Is (strconv_Atoi_2_R qx r)) := by
  unfold strconv_Atoi_2 at hF
  refine holds_of_awp hΓ (fn := f56) (c := cB f56) (A := 0) (nx := 0) (by kernel_rfl) (by kernel_rfl) (by kernel_rfl) (by kernel_rfl) (by kernel_rfl) (by kernel_rfl) (lowc_of (by kernel_rfl)) ?_
  show Awp prog 0 77 (cB f56) _ _
  refine awp_seq ?_
  refine awp_region ?_
  refine aR 2 ?_
  refine aE ?_
  refine awp_seq ?_
  refine awp_region ?_
  refine aR 3 ?_
  refine aE ?_
  refine awp_seq ?_
  refine awp_seq ?_
  refine awp_to (st' := strconv_Atoi_2_x1_I qx) (oT [] []) ?_
  refine bE hF fun vx1 h2 hF => ?_
  refine awp_sub (strconv_Atoi_2_x1_ok qx h2) ?_
  refine cE hF (fun h3 hF => ?_) fun h3 hF => ?_
  · refine awp_true (by kernel_rfl) h3 ?_
    refine awp_seq ?_
    refine awp_region ?_
    refine aR 2 ?_
    refine aE ?_
    refine awp_seq ?_
    refine awp_to (st' := strconv_Atoi_2_x2_I qx) (oT [] []) ?_
    refine bE hF fun vx3_1 h11 hF => ?_
    refine awp_sub (strconv_Atoi_2_x2_ok qx h11) ?_
    refine awp_seq ?_
    refine awp_region ?_
    refine aR 1 ?_
    refine aE ?_
    refine awp_seq ?_
    refine awp_seq ?_
    refine awp_region ?_
    refine aR 1 ?_
    refine aBs (s := vx3_1) rfl ?_
    refine aL (encI .u8) (bytesD vx3_1) ?_
    refine aR 1 ?_
    refine aE ?_
    refine awp_block ?_
    refine awp_to (st' := strconv_Atoi_2_x4_H qx vx3_1 (0, 0)) (oT [] []) ?_
    refine bE hF fun vx6_1 h16 hF => ?_
    refine awp_sub (awp_loop' (strconv_Atoi_2_x4_H qx vx3_1) strconv_Atoi_2_x4_k (strconv_Atoi_2_x4_S qx vx3_1) (by intro x; exact fun h => nomatch h) h16 (strconv_Atoi_2_x4_ok qx vx3_1)) ?_
    refine awp_seq ?_
    refine awp_to (st' := strconv_Atoi_2_x5_I qx vx6_1) (oT [] []) ?_
    refine bE hF fun vx7_1 h19 hF => ?_
    refine awp_sub (strconv_Atoi_2_x5_ok qx vx6_1 h19) ?_
    refine awp_seq ?_
    refine awp_region ?_
    refine aR 3 ?_
    refine aE ?_
    refine awp_ret ?_
    exact oF hF [] []
  · refine awp_false (by kernel_rfl) h3 ?_
    refine awp_skip ?_
    refine awp_seq ?_
    refine bE hF fun vr h20 hF => ?_
    refine awp_region ?_
    refine aR 1 ?_
    refine aC (strconv_ParseInt_ok h20) [] [] [] ?_
    refine aR 5 ?_
    refine aE ?_
    refine awp_seq ?_
    refine awp_region ?_
    refine aR 4 ?_
    refine aE ?_
    refine awp_ret ?_
    exact oF hF [] []

/-! ### strconv.Atoi -/
def strconv_Atoi_R (qs : List UInt8) (r : Int) : TV × Mem := (.tup [.one (.d (.int .i64 r)), .one (.nili)], ⟨[], []⟩)

theorem strconv_Atoi_ok {qs : List UInt8} {r} (hF : strconv_Atoi qs = some r) : Holds prog 49 [.v (.one (.d (.str qs)))] ⟨[], []⟩ (Is (strconv_Atoi_R qs r)) := by
  unfold strconv_Atoi at hF
  refine holds_of_awp hΓ (fn := f49) (c := cB f49) (A := 0) (nx := 0) (by kernel_rfl) (by kernel_rfl) (by kernel_rfl) (by kernel_rfl) (by kernel_rfl) (by kernel_rfl) (lowc_of (by kernel_rfl)) ?_
  show Awp prog 0 18 (cB f49) _ _
  refine awp_seq ?_
  refine awp_region ?_
  refine aR 2 ?_
  refine aE ?_
  refine awp_seq ?_
  refine bE hF fun vr1 h1 hF => ?_
  refine awp_region ?_
  refine aR 1 ?_
  refine aC (strconv_Atoi_2_ok h1) [] [] [] ?_
  refine aR 5 ?_
  refine aE ?_
  refine awp_seq ?_
  refine awp_seq ?_
  refine awp_region ?_
  refine aR 1 ?_
  refine aS (does_nilI (op := .neq) (c := false) rfl (.inr ⟨rfl, rfl⟩) (by kernel_rfl) (by kernel_rfl)) ?_
  refine aE ?_
  refine awp_false (by kernel_rfl) rfl ?_
  refine awp_skip ?_
  refine awp_seq ?_
  refine awp_region ?_
  refine aR 3 ?_
  refine aE ?_
  refine awp_ret ?_
  exact oF hF [] []

/-! ### beaconfleet/base.Number -/
def base_Number_x1_k : Bool → AEx
  | _ => .normal

def base_Number_x1_S (qs : List UInt8) (qdigits : Int) (vr : List UInt8) : Bool → St
  | vx => Mem.st ⟨[], []⟩ (tl [(0, .v (.one (.d (.str qs)))), (6, .v (.one (.d (.str vr)))), (36, .v (.one (.d (.bool vx))))]) 0

def base_Number_x1_I (qs : List UInt8) (qdigits : Int) (vr : List UInt8) : St := Mem.st ⟨[], []⟩ (tl [(0, .v (.one (.d (.str qs)))), (1, .v (.one (.d (.int .i64 qdigits)))), (6, .v (.one (.d (.str vr))))]) 0

theorem base_Number_x1_ok (qs : List UInt8) (qdigits : Int) (vr : List UInt8) {r} (hF : base_Number_x1 qs qdigits vr = some r) : Awp prog 0 61 (cL (cL (cR (cR (cB f43))))) (Out 0 base_Number_x1_k (base_Number_x1_S qs qdigits vr) r) (base_Number_x1_I qs qdigits vr) := by
  unfold base_Number_x1 at hF
  refine cE hF (fun h2 hF => ?_) fun h2 hF => ?_
  · refine awp_region ?_
    refine aR 1 ?_
    refine aB h2 ?_
    refine aR 23 ?_
    refine aE ?_
    exact oO hF [] [] rfl
  · refine cE hF (fun h3 hF => ?_) fun h3 hF => ?_
    · refine awp_region ?_
      refine aR 1 ?_
      refine aB h2 ?_
      refine aR 4 ?_
      refine aB h3 ?_
      refine aR 18 ?_
      refine aE ?_
      exact oO hF [] [] rfl
    · refine bE hF fun vc h4 hF => ?_
      refine cE hF (fun h5 hF => ?_) fun h5 hF => ?_
      · refine cE hF (fun h6 hF => ?_) fun h6 hF => ?_
        · refine awp_region ?_
          refine aR 1 ?_
          refine aB h2 ?_
          refine aR 4 ?_
          refine aB h3 ?_
          refine aR 3 ?_
          refine aX (x_idxS h4) ?_
          refine aB h5 ?_
          refine aR 3 ?_
          refine aB h6 ?_
          refine aR 9 ?_
          refine aE ?_
          exact oO hF [] [] rfl
        · refine awp_region ?_
          refine aR 1 ?_
          refine aB h2 ?_
          refine aR 4 ?_
          refine aB h3 ?_
          refine aR 3 ?_
          refine aX (x_idxS h4) ?_
          refine aB h5 ?_
          refine aR 3 ?_
          refine aB h6 ?_
          refine aR 9 ?_
          refine aE ?_
          exact oO hF [] [] rfl
      · refine awp_region ?_
        refine aR 1 ?_
        refine aB h2 ?_
        refine aR 4 ?_
        refine aB h3 ?_
        refine aR 3 ?_
        refine aX (x_idxS h4) ?_
        refine aB h5 ?_
        refine aR 13 ?_
        refine aE ?_
        exact oO hF [] [] rfl

def base_Number_x3_k : Bool → AEx
  | _ => .normal

def base_Number_x3_S (qs : List UInt8) (vr : List UInt8) (vx2 : Int) : Bool → St
  | vx4 => Mem.st ⟨[], []⟩ (tl [(0, .v (.one (.d (.str qs)))), (6, .v (.one (.d (.str vr)))), (38, .v (.one (.d (.int .i64 (vr.length : Int))))), (39, .v (.one (.d (.int .i64 vx2)))), (51, .v (.one (.d (.bool vx4))))]) 0

def base_Number_x3_I (qs : List UInt8) (vr : List UInt8) (vx2 : Int) : St := Mem.st ⟨[], []⟩ (tl [(0, .v (.one (.d (.str qs)))), (6, .v (.one (.d (.str vr)))), (7, .v (.one (.d (.int .i64 vx2)))), (38, .v (.one (.d (.int .i64 (vr.length : Int))))), (39, .v (.one (.d (.int .i64 vx2))))]) 0

theorem base_Number_x3_ok (qs : List UInt8) (vr : List UInt8) (vx2 : Int) {r} (hF : base_Number_x3 vr vx2 = some r) : Awp prog 0 61 (cL (cR (cL (cL (cR (cR (cL (cL (cR (cL (cR (cR (cR (cB f43)))))))))))))) (Out 0 base_Number_x3_k (base_Number_x3_S qs vr vx2) r) (base_Number_x3_I qs vr vx2) := by
  unfold base_Number_x3 at hF
  refine bE hF fun vc2 h10 hF => ?_
  refine cE hF (fun h11 hF => ?_) fun h11 hF => ?_
  · refine awp_region ?_
    refine aR 2 ?_
    refine aX (x_idxS h10) ?_
    refine aB h11 ?_
    refine aR 6 ?_
    refine aE ?_
    exact oO hF [] [] rfl
  · refine awp_region ?_
    refine aR 2 ?_
    refine aX (x_idxS h10) ?_
    refine aB h11 ?_
    refine aR 3 ?_
    refine aX (x_idxS h10) ?_
    refine aR 2 ?_
    refine aE ?_
    exact oO hF [] [] rfl

def base_Number_x2_k : Unit ⊕ Unit → AEx
  | .inl _ => .exit 0
  | .inr _ => .ret

def base_Number_x2_S (qs : List UInt8) (vr : List UInt8) : Unit ⊕ Unit → St
  | .inl _ => Mem.st ⟨[], []⟩ (tl [(0, .v (.one (.d (.str qs))))]) 0
  | .inr _ => Mem.st ⟨[], []⟩ (tl [(4, .v (.one (.d (.int .i64 0)))), (5, .v (.one (.d (.bool false))))]) 0

def base_Number_x2_H (qs : List UInt8) (vr : List UInt8) : Int → St
  | vx2 => Mem.st ⟨[], []⟩ (tl [(0, .v (.one (.d (.str qs)))), (6, .v (.one (.d (.str vr)))), (38, .v (.one (.d (.int .i64 (vr.length : Int))))), (39, .v (.one (.d (.int .i64 vx2))))]) 0

theorem base_Number_x2_ok (qs : List UInt8) (vr : List UInt8) (vx2 : Int) (r : (Int) ⊕ (Unit ⊕ Unit)) (hF : base_Number_x2 vr vx2 = some r) : Awp prog 0 61 (cL (cL (cR (cL (cR (cR (cR (cB f43)))))))) (Out 0 (kk base_Number_x2_k) (SS (base_Number_x2_H qs vr) (base_Number_x2_S qs vr)) r) (base_Number_x2_H qs vr vx2) := by
  unfold base_Number_x2 at hF
  refine awp_seq ?_
  refine awp_region ?_
  refine aR 1 ?_
  refine aE ?_
  refine awp_seq ?_
  refine cE hF (fun h9 hF => ?_) fun h9 hF => ?_
  · refine awp_true (by kernel_rfl) h9 ?_
    refine awp_skip ?_
    refine awp_seq ?_
    refine awp_block ?_
    refine awp_seq ?_
    refine awp_region ?_
    refine aR 2 ?_
    refine aE ?_
    refine awp_seq ?_
    refine awp_to (st' := base_Number_x3_I qs vr vx2) (oT [] []) ?_
    refine bE hF fun vx4_1 h12 hF => ?_
    refine awp_sub (base_Number_x3_ok qs vr vx2 h12) ?_
    refine cE hF (fun h13 hF => ?_) fun h13 hF => ?_
    · refine awp_true (by kernel_rfl) h13 ?_
      refine awp_seq ?_
      refine awp_region ?_
      refine aR 2 ?_
      refine aE ?_
      refine awp_ret ?_
      exact oO hF [] [] rfl
    · refine awp_false (by kernel_rfl) h13 ?_
      refine awp_skip ?_
      refine awp_region ?_
      refine aR 2 ?_
      refine aE ?_
      exact oO hF [] [] rfl
  · refine awp_false (by kernel_rfl) h9 ?_
    refine awp_exit ?_
    exact oO hF [] [] rfl

def base_Number_R (qs : List UInt8) (qdigits : Int) (r : Int × Bool) : TV × Mem := (.tup [.one (.d (.int .i64 r.1)), .one (.d (.bool r.2))], ⟨[], []⟩)

theorem base_Number_ok {qs : List UInt8} {qdigits : Int} {r} (hF : base_Number qs qdigits = some r) : Holds prog 43 [.v (.one (.d (.str qs))), .v (.one (.d (.int .i64 qdigits)))] ⟨[], []⟩ (Is (base_Number_R qs qdigits r)) := by
  unfold base_Number at hF
  refine holds_of_awp hΓ (fn := f43) (c := cB f43) (A := 0) (nx := 0) (by kernel_rfl) (by kernel_rfl) (by kernel_rfl) (by kernel_rfl) (by kernel_rfl) (by kernel_rfl) (lowc_of (by kernel_rfl)) ?_
  show Awp prog 0 61 (cB f43) _ _
  refine awp_seq ?_
  refine awp_region ?_
  refine aR 2 ?_
  refine aE ?_
  refine awp_seq ?_
  refine bE hF fun vr h1 hF => ?_
  refine awp_region ?_
  refine aR 1 ?_
  refine aC (strings_TrimPrefix_ok h1) [] [] [] ?_
  refine aR 1 ?_
  refine aE ?_
  refine awp_seq ?_
  refine awp_seq ?_
  refine awp_to (st' := base_Number_x1_I qs qdigits vr) (oT [] []) ?_
  refine bE hF fun vx1 h7 hF => ?_
  refine awp_sub (base_Number_x1_ok qs qdigits vr h7) ?_
  refine cE hF (fun h8 hF => ?_) fun h8 hF => ?_
  · refine awp_true (by kernel_rfl) h8 ?_
    refine awp_seq ?_
    refine awp_region ?_
    refine aR 2 ?_
    refine aE ?_
    refine awp_ret ?_
    exact oF hF [] []
  · refine awp_false (by kernel_rfl) h8 ?_
    refine awp_skip ?_
    refine awp_seq ?_
    refine awp_seq ?_
    refine awp_region ?_
    refine aR 3 ?_
    refine aE ?_
    refine awp_block ?_
    refine awp_to (st' := base_Number_x2_H qs vr 0) (oT [] []) ?_
    refine bE hF fun x h14 hF => ?_
    rcases x with _ | _
    · refine awp_sub (awp_loop' (base_Number_x2_H qs vr) base_Number_x2_k (base_Number_x2_S qs vr) (by intro x; rcases x with x | x <;> exact fun h => nomatch h) h14 (base_Number_x2_ok qs vr)) ?_
      refine awp_seq ?_
      refine bE hF fun vr1 h15 hF => ?_
      refine awp_region ?_
      refine aR 1 ?_
      refine aC (strconv_Atoi_ok h15) [] [] [] ?_
      refine aR 5 ?_
      refine aE ?_
      refine awp_seq ?_
      refine aD ?_
      refine dR 2 ?_
      refine dS (U := []) (stable_nilI (op := .eql) (c := true) rfl (.inl ⟨rfl, rfl⟩) (by kernel_rfl) (by kernel_rfl)) ?_
      refine dR 2 ?_
      refine dE ?_
      refine awp_ret ?_
      exact oF hF [] []
    · refine awp_sub (awp_loop' (base_Number_x2_H qs vr) base_Number_x2_k (base_Number_x2_S qs vr) (by intro x; rcases x with x | x <;> exact fun h => nomatch h) h14 (base_Number_x2_ok qs vr)) ?_
      exact oF hF [] []

/-! ### beaconfleet/base.Numbers -/
def base_Numbers_o0_x1_k : (List Int) ⊕ Unit → AEx
  | .inl _ => .exit 0
  | .inr _ => .ret

def base_Numbers_o0_x1_S (qwords : List (List UInt8)) (qdigits : Int) : (List Int) ⊕ Unit → St
  | .inl vout1 => Mem.st ⟨[(1, ⟨3, 1, List.map (encI .i64) vout1⟩)], []⟩ (tl [(6, .v (.one (.own 1 none)))]) 2
  | .inr _ => Mem.st ⟨[], []⟩ (tl [(4, .v (.one (.nil))), (5, .v (.one (.d (.bool false))))]) 1

def base_Numbers_o0_x1_H (qwords : List (List UInt8)) (qdigits : Int) : (List Int) × Int → St
  | (vout, vx) => Mem.st ⟨[(1, ⟨3, 1, List.map (encI .i64) vout⟩)], []⟩ (tl [(1, .v (.one (.d (.int .i64 qdigits)))), (6, .v (.one (.own 1 none))), (11, .v (.one (.d (.lst (List.map encS qwords))))), (12, .v (.one (.d (.int .i64 (qwords.length : Int))))), (13, .v (.one (.d (.int .i64 vx))))]) 2

theorem base_Numbers_o0_x1_ok (qwords : List (List UInt8)) (qdigits : Int) (s : (List Int) × Int) (r : ((List Int) × Int) ⊕ ((List Int) ⊕ Unit)) (hF : base_Numbers_o0_x1 qwords qdigits s = some r) : Awp prog 1 31 (cL (cL (cR (cL (cR (cR (cB f36))))))) (Out 1 (kk base_Numbers_o0_x1_k) (SS (base_Numbers_o0_x1_H qwords qdigits) (base_Numbers_o0_x1_S qwords qdigits)) r) (base_Numbers_o0_x1_H qwords qdigits s) := by
  obtain ⟨vout, vx⟩ := s
  unfold base_Numbers_o0_x1 at hF
  refine awp_seq ?_
  refine awp_region ?_
  refine aR 1 ?_
  refine aE ?_
  refine awp_seq ?_
  refine cE hF (fun h1 hF => ?_) fun h1 hF => ?_
  · refine awp_true (by kernel_rfl) h1 ?_
    refine awp_skip ?_
    refine awp_seq ?_
    refine awp_block ?_
    refine awp_seq ?_
    refine bE hF fun vy1 h2 hF => ?_
    refine awp_region ?_
    refine aX (x_idx encS h2) ?_
    refine aR 2 ?_
    refine aE ?_
    refine awp_seq ?_
    refine bE hF fun x h3 hF => ?_
    obtain ⟨vr2_1, vr3_1⟩ := x
    refine awp_region ?_
    refine aR 2 ?_
    refine aC (base_Number_ok h3) [] [] [] ?_
    refine aR 5 ?_
    refine aE ?_
    refine awp_seq ?_
    refine awp_seq ?_
    refine awp_region ?_
    refine aR 2 ?_
    refine aE ?_
    refine cE hF (fun h4 hF => ?_) fun h4 hF => ?_
    · refine awp_true (by kernel_rfl) h4 ?_
      refine awp_seq ?_
      refine awp_region ?_
      refine aR 2 ?_
      refine aE ?_
      refine awp_ret ?_
      exact oO hF [] [] rfl
    · refine awp_false (by kernel_rfl) h4 ?_
      refine awp_skip ?_
      refine gE hF fun h5 hF => ?_
      refine awp_region ?_
      refine aR 3 ?_
      refine aX (x_app (encI .i64) 1 h5) ?_
      refine aR 1 ?_
      refine aE ?_
      refine awp_region ?_
      refine aR 2 ?_
      refine aE ?_
      exact oO hF [(1, 17002)] [] rfl
  · refine awp_false (by kernel_rfl) h1 ?_
    refine awp_exit ?_
    exact oO hF [] [] rfl

def base_Numbers_o0_R (qwords : List (List UInt8)) (qdigits : Int) (r : (List Int) × Bool) : TV × Mem := (.tup [.one (.own 1 none), .one (.d (.bool r.2))], ⟨[(1, ⟨3, 1, List.map (encI .i64) r.1⟩)], []⟩)

theorem base_Numbers_o0_ok {qwords : List (List UInt8)} {qdigits : Int} {r} (hF : base_Numbers_o0 qwords qdigits = some r) : Holds prog 36 [.v (.one (.own 0 none)), .v (.one (.d (.int .i64 qdigits)))] ⟨[(0, ⟨9, 1, List.map encS qwords⟩)], []⟩ (Is (base_Numbers_o0_R qwords qdigits r)) := by
  unfold base_Numbers_o0 at hF
  refine holds_of_awp hΓ (fn := f36) (c := cB f36) (A := 1) (nx := 1) (by kernel_rfl) (by kernel_rfl) (by kernel_rfl) (by kernel_rfl) (by kernel_rfl) (by kernel_rfl) (lowc_of (by kernel_rfl)) ?_
  show Awp prog 1 31 (cB f36) _ _
  refine awp_seq ?_
  refine awp_region ?_
  refine aR 2 ?_
  refine aE ?_
  refine awp_to (oT (m := ⟨[], []⟩) (ts := [(0, .v (.one (.d (.lst (List.map encS qwords))))), (1, .v (.one (.d (.int .i64 qdigits))))]) (nx := 1) [] []) ?_
  refine awp_seq ?_
  refine awp_region ?_
  refine aR 1 ?_
  refine aE ?_
  refine awp_seq ?_
  refine awp_seq ?_
  refine awp_region ?_
  refine aR 1 ?_
  refine aL encS qwords ?_
  refine aR 1 ?_
  refine aE ?_
  refine awp_block ?_
  refine awp_to (st' := base_Numbers_o0_x1_H qwords qdigits ([], 0)) (oT [] [1]) ?_
  refine bE hF fun x h6 hF => ?_
  rcases x with vout1_1 | _
  · refine awp_sub (awp_loop' (base_Numbers_o0_x1_H qwords qdigits) base_Numbers_o0_x1_k (base_Numbers_o0_x1_S qwords qdigits) (by intro x; rcases x with x | x <;> exact fun h => nomatch h) h6 (base_Numbers_o0_x1_ok qwords qdigits)) ?_
    refine awp_seq ?_
    refine awp_region ?_
    refine aR 3 ?_
    refine aE ?_
    refine awp_ret ?_
    exact oF hF [] []
  · refine awp_sub (awp_loop' (base_Numbers_o0_x1_H qwords qdigits) base_Numbers_o0_x1_k (base_Numbers_o0_x1_S qwords qdigits) (by intro x; rcases x with x | x <;> exact fun h => nomatch h) h6 (base_Numbers_o0_x1_ok qwords qdigits)) ?_
    exact oF hF [] [1]

/-! ### beaconfleet/base.Version -/
def base_Version_x1_k : Bool → AEx
  | _ => .normal

def base_Version_x1_S (qv : api_Version) : Bool → St
  | vx => Mem.st ⟨[], []⟩ (tl [(2, .v (.one (.d (.bool vx))))]) 0

def base_Version_x1_I (qv : api_Version) : St := Mem.st ⟨[], [(0, [.d (.int .i64 qv.Major), .d (.int .i64 qv.Minor), .d (.int .i64 qv.Patch)])]⟩ (tl [(1, .v (.one (.box 0 0)))]) 1

theorem base_Version_x1_ok (qv : api_Version) {r} (hF : base_Version_x1 qv = some r) : Awp prog 0 19 (cL (cR (cB f38))) (Out 0 base_Version_x1_k (base_Version_x1_S qv) r) (base_Version_x1_I qv) := by
  unfold base_Version_x1 at hF
  refine bE hF fun vr h1 hF => ?_
  refine cE hF (fun h2 hF => ?_) fun h2 hF => ?_
  · refine bE hF fun vr1 h3 hF => ?_
    refine cE hF (fun h4 hF => ?_) fun h4 hF => ?_
    · refine bE hF fun vr2 h5 hF => ?_
      refine awp_region ?_
      refine aR 2 ?_
      refine aC (base_Out_ok h1) [] [] [] ?_
      refine aB h2 ?_
      refine aR 3 ?_
      refine aC (base_Out_ok h3) [] [] [] ?_
      refine aB h4 ?_
      refine aR 4 ?_
      refine aC (base_Out_ok h5) [] [] [] ?_
      refine aR 3 ?_
      refine aE ?_
      exact oO hF [] [] rfl
    · refine awp_region ?_
      refine aR 2 ?_
      refine aC (base_Out_ok h1) [] [] [] ?_
      refine aB h2 ?_
      refine aR 3 ?_
      refine aC (base_Out_ok h3) [] [] [] ?_
      refine aB h4 ?_
      refine aR 8 ?_
      refine aE ?_
      exact oO hF [] [] rfl
  · refine awp_region ?_
    refine aR 2 ?_
    refine aC (base_Out_ok h1) [] [] [] ?_
    refine aB h2 ?_
    refine aR 13 ?_
    refine aE ?_
    exact oO hF [] [] rfl

def base_Version_R (qv : api_Version) (r : Bool) : TV × Mem := (.v (.one (.d (.bool r))), ⟨[], []⟩)

theorem base_Version_ok {qv : api_Version} {r} (hF : base_Version qv = some r) : Holds prog 38 [.v (.agg [.d (.int .i64 qv.Major), .d (.int .i64 qv.Minor), .d (.int .i64 qv.Patch)])] ⟨[], []⟩ (Is (base_Version_R qv r)) := by
  unfold base_Version at hF
  refine holds_of_awp hΓ (fn := f38) (c := cB f38) (A := 0) (nx := 0) (by kernel_rfl) (by kernel_rfl) (by kernel_rfl) (by kernel_rfl) (by kernel_rfl) (by kernel_rfl) (lowc_of (by kernel_rfl)) ?_
  show Awp prog 0 19 (cB f38) _ _
  refine awp_seq ?_
  refine awp_region ?_
  refine aR 2 ?_
  refine aE ?_
  refine awp_seq ?_
  refine awp_to (st' := base_Version_x1_I qv) (oT [] []) ?_
  refine bE hF fun vx1 h6 hF => ?_
  refine awp_sub (base_Version_x1_ok qv h6) ?_
  refine awp_ret ?_
  exact oF hF [] []

/-! ### beaconfleet/campaign.ParseVersion -/
def campaign_ParseVersion_x1_k : Bool → AEx
  | _ => .normal

def campaign_ParseVersion_x1_S (vr1 : List Int) (vr1_1 : Bool) : Bool → St
  | vx => Mem.st ⟨[], [(0, [.d (.int .i64 0), .d (.int .i64 0), .d (.int .i64 0)])]⟩ (tl [(2, .v (.one (.box 0 0))), (4, .v (.one (.d (.lst (List.map (encI .i64) vr1))))), (19, .v (.one (.d (.bool vx))))]) 1

def campaign_ParseVersion_x1_I (vr1 : List Int) (vr1_1 : Bool) : St := Mem.st ⟨[], [(0, [.d (.int .i64 0), .d (.int .i64 0), .d (.int .i64 0)])]⟩ (tl [(2, .v (.one (.box 0 0))), (4, .v (.one (.d (.lst (List.map (encI .i64) vr1))))), (5, .v (.one (.d (.bool vr1_1))))]) 1

theorem campaign_ParseVersion_x1_ok (vr1 : List Int) (vr1_1 : Bool) {r} (hF : campaign_ParseVersion_x1 vr1 vr1_1 = some r) : Awp prog 0 36 (cL (cL (cR (cR (cB f27))))) (Out 0 campaign_ParseVersion_x1_k (campaign_ParseVersion_x1_S vr1 vr1_1) r) (campaign_ParseVersion_x1_I vr1 vr1_1) := by
  unfold campaign_ParseVersion_x1 at hF
  refine cE hF (fun h3 hF => ?_) fun h3 hF => ?_
  · refine awp_region ?_
    refine aR 1 ?_
    refine aB h3 ?_
    refine aR 5 ?_
    refine aE ?_
    exact oO hF [] [] rfl
  · refine awp_region ?_
    refine aR 1 ?_
    refine aB h3 ?_
    refine aR 2 ?_
    refine aL (encI .i64) vr1 ?_
    refine aR 2 ?_
    refine aE ?_
    exact oO hF [] [] rfl

def campaign_ParseVersion_R (qs : List UInt8) (r : api_Version × Int) : TV × Mem := (.tup [.agg [.d (.int .i64 r.1.Major), .d (.int .i64 r.1.Minor), .d (.int .i64 r.1.Patch)], .one (.d (.int .i64 r.2))], ⟨[], []⟩)

theorem campaign_ParseVersion_ok {qs : List UInt8} {r} (hF : campaign_ParseVersion qs = some r) : Holds prog 27 [.v (.one (.d (.str qs)))] ⟨[], []⟩ (Is (campaign_ParseVersion_R qs r)) := by
  unfold campaign_ParseVersion at hF
  refine holds_of_awp hΓ (fn := f27) (c := cB f27) (A := 0) (nx := 0) (by kernel_rfl) (by kernel_rfl) (by kernel_rfl) (by kernel_rfl) (by kernel_rfl) (by kernel_rfl) (lowc_of (by kernel_rfl)) ?_
  show Awp prog 0 36 (cB f27) _ _
  refine awp_seq ?_
  refine awp_region ?_
  refine aR 2 ?_
  refine aE ?_
  refine awp_seq ?_
  refine bE hF fun vr h1 hF => ?_
  refine bE hF fun x h2 hF => ?_
  obtain ⟨vr1, vr1_1⟩ := x
  refine awp_region ?_
  refine aR 1 ?_
  refine aC (strings_Split_ok h1) [] [] [] ?_
  refine aC (base_Numbers_o0_ok h2) [(0, 3000)] [] [] ?_
  refine aR 5 ?_
  refine aE ?_
  refine awp_to (oT (m := ⟨[], [(0, [.d (.int .i64 0), .d (.int .i64 0), .d (.int .i64 0)])]⟩) (ts := [(2, .v (.one (.box 0 0))), (4, .v (.one (.d (.lst (List.map (encI .i64) vr1))))), (5, .v (.one (.d (.bool vr1_1))))]) (nx := 1) [] []) ?_
  refine awp_seq ?_
  refine awp_seq ?_
  refine awp_to (st' := campaign_ParseVersion_x1_I vr1 vr1_1) (oT [] []) ?_
  refine bE hF fun vx1 h4 hF => ?_
  refine awp_sub (campaign_ParseVersion_x1_ok vr1 vr1_1 h4) ?_
  refine cE hF (fun h5 hF => ?_) fun h5 hF => ?_
  · refine awp_true (by kernel_rfl) h5 ?_
    refine awp_seq ?_
    refine awp_region ?_
    refine aR 3 ?_
    refine aE ?_
    refine awp_ret ?_
    exact oF hF [] []
  · refine awp_false (by kernel_rfl) h5 ?_
    refine awp_skip ?_
    refine awp_seq ?_
    refine bE hF fun vy h6 hF => ?_
    refine bE hF fun vy1 h7 hF => ?_
    refine bE hF fun vy2 h8 hF => ?_
    refine aD ?_
    refine dR 1 ?_
    refine dX (x_idx (encI .i64) h6) ?_
    refine dR 2 ?_
    refine dX (x_idx (encI .i64) h7) ?_
    refine dR 2 ?_
    refine dX (x_idx (encI .i64) h8) ?_
    refine dR 4 ?_
    refine dE ?_
    refine awp_seq ?_
    refine awp_seq ?_
    refine bE hF fun vr3 h9 hF => ?_
    refine awp_region ?_
    refine aR 1 ?_
    refine aC (base_Version_ok h9) [] [] [] ?_
    refine aR 1 ?_
    refine aE ?_
    refine cE hF (fun h10 hF => ?_) fun h10 hF => ?_
    · refine awp_true (by kernel_rfl) h10 ?_
      refine awp_seq ?_
      refine awp_region ?_
      refine aR 3 ?_
      refine aE ?_
      refine awp_ret ?_
      exact oF hF [] []
    · refine awp_false (by kernel_rfl) h10 ?_
      refine awp_skip ?_
      refine awp_seq ?_
      refine awp_region ?_
      refine aR 3 ?_
      refine aE ?_
      refine awp_ret ?_
      exact oF hF [] []

/-! ### beaconfleet/place.isSpot -/
def place_isSpot_x1_k : Bool → AEx
  | _ => .normal

def place_isSpot_x1_S (qs : api_Spot) : Bool → St
  | vx => Mem.st ⟨[], []⟩ (tl [(2, .v (.one (.d (.bool vx))))]) 0

def place_isSpot_x1_I (qs : api_Spot) : St := Mem.st ⟨[], [(0, [.d (.int .i64 qs.X), .d (.int .i64 qs.Y)])]⟩ (tl [(1, .v (.one (.box 0 0)))]) 1

theorem place_isSpot_x1_ok (qs : api_Spot) {r} (hF : place_isSpot_x1 qs = some r) : Awp prog 0 13 (cL (cR (cB f39))) (Out 0 place_isSpot_x1_k (place_isSpot_x1_S qs) r) (place_isSpot_x1_I qs) := by
  unfold place_isSpot_x1 at hF
  refine bE hF fun vr h1 hF => ?_
  refine cE hF (fun h2 hF => ?_) fun h2 hF => ?_
  · refine bE hF fun vr1 h3 hF => ?_
    refine awp_region ?_
    refine aR 2 ?_
    refine aC (base_Out_ok h1) [] [] [] ?_
    refine aB h2 ?_
    refine aR 3 ?_
    refine aC (base_Out_ok h3) [] [] [] ?_
    refine aR 3 ?_
    refine aE ?_
    exact oO hF [] [] rfl
  · refine awp_region ?_
    refine aR 2 ?_
    refine aC (base_Out_ok h1) [] [] [] ?_
    refine aB h2 ?_
    refine aR 7 ?_
    refine aE ?_
    exact oO hF [] [] rfl

def place_isSpot_R (qs : api_Spot) (r : Bool) : TV × Mem := (.v (.one (.d (.bool r))), ⟨[], []⟩)

theorem place_isSpot_ok {qs : api_Spot} {r} (hF : place_isSpot qs = some r) : Holds prog 39 [.v (.agg [.d (.int .i64 qs.X), .d (.int .i64 qs.Y)])] ⟨[], []⟩ (Is (place_isSpot_R qs r)) := by
  unfold place_isSpot at hF
  refine holds_of_awp hΓ (fn := f39) (c := cB f39) (A := 0) (nx := 0) (by kernel_rfl) (by kernel_rfl) (by kernel_rfl) (by kernel_rfl) (by kernel_rfl) (by kernel_rfl) (lowc_of (by kernel_rfl)) ?_
  show Awp prog 0 13 (cB f39) _ _
  refine awp_seq ?_
  refine awp_region ?_
  refine aR 2 ?_
  refine aE ?_
  refine awp_seq ?_
  refine awp_to (st' := place_isSpot_x1_I qs) (oT [] []) ?_
  refine bE hF fun vx1 h4 hF => ?_
  refine awp_sub (place_isSpot_x1_ok qs h4) ?_
  refine awp_ret ?_
  exact oF hF [] []

/-! ### beaconfleet/place.Cell -/
def place_Cell_x1_k : Bool → AEx
  | _ => .normal

def place_Cell_x1_S (qs : api_Spot) (qlevel : Int) : Bool → St
  | vx => Mem.st ⟨[], [(0, [.d (.int .i64 qs.X), .d (.int .i64 qs.Y)])]⟩ (tl [(1, .v (.one (.d (.int .i64 qlevel)))), (2, .v (.one (.box 0 0))), (16, .v (.one (.d (.bool vx))))]) 1

def place_Cell_x1_I (qs : api_Spot) (qlevel : Int) : St := Mem.st ⟨[], [(0, [.d (.int .i64 qs.X), .d (.int .i64 qs.Y)])]⟩ (tl [(1, .v (.one (.d (.int .i64 qlevel)))), (2, .v (.one (.box 0 0)))]) 1

theorem place_Cell_x1_ok (qs : api_Spot) (qlevel : Int) {r} (hF : place_Cell_x1 qs qlevel = some r) : Awp prog 0 47 (cL (cL (cR (cB f28)))) (Out 0 place_Cell_x1_k (place_Cell_x1_S qs qlevel) r) (place_Cell_x1_I qs qlevel) := by
  unfold place_Cell_x1 at hF
  refine bE hF fun vr2 h1 hF => ?_
  refine cE hF (fun h2 hF => ?_) fun h2 hF => ?_
  · refine awp_region ?_
    refine aR 1 ?_
    refine aC (place_isSpot_ok h1) [] [] [] ?_
    refine aB h2 ?_
    refine aR 4 ?_
    refine aE ?_
    exact oO hF [] [] rfl
  · refine bE hF fun vr h3 hF => ?_
    refine awp_region ?_
    refine aR 1 ?_
    refine aC (place_isSpot_ok h1) [] [] [] ?_
    refine aB h2 ?_
    refine aR 2 ?_
    refine aC (base_Out_ok h3) [] [] [] ?_
    refine aR 1 ?_
    refine aE ?_
    exact oO hF [] [] rfl

def place_Cell_x2_k : (List Int) → AEx
  | _ => .exit 0

def place_Cell_x2_S (qs : api_Spot) (qlevel : Int) : (List Int) → St
  | vout1 => Mem.st ⟨[(0, ⟨5, 1, List.map (encI .u8) vout1⟩)], []⟩ (tl [(6, .v (.one (.own 0 none)))]) 1

def place_Cell_x2_H (qs : api_Spot) (qlevel : Int) : (List Int) × Int × Int → St
  | (vout, vlong, vx2) => Mem.st ⟨[(0, ⟨5, 1, List.map (encI .u8) vout⟩)], []⟩ (tl [(6, .v (.one (.own 0 none))), (7, .v (.one (.d (.int .i64 (IntKind.wrap .i64 (qs.X - (-16384))))))), (8, .v (.one (.d (.int .i64 (IntKind.wrap .i64 (qs.Y - (-16384))))))), (9, .v (.one (.d (.int .i64 vlong)))), (23, .v (.one (.d (.int .i64 qlevel)))), (24, .v (.one (.d (.int .i64 vx2))))]) 1

theorem place_Cell_x2_ok (qs : api_Spot) (qlevel : Int) (s : (List Int) × Int × Int) (r : ((List Int) × Int × Int) ⊕ ((List Int))) (hF : place_Cell_x2 qs qlevel s = some r) : Awp prog 0 47 (cL (cL (cR (cL (cR (cR (cR (cR (cB f28))))))))) (Out 0 (kk place_Cell_x2_k) (SS (place_Cell_x2_H qs qlevel) (place_Cell_x2_S qs qlevel)) r) (place_Cell_x2_H qs qlevel s) := by
  obtain ⟨vout, vlong, vx2⟩ := s
  unfold place_Cell_x2 at hF
  refine awp_seq ?_
  refine awp_region ?_
  refine aR 1 ?_
  refine aE ?_
  refine awp_seq ?_
  refine cE hF (fun h6 hF => ?_) fun h6 hF => ?_
  · refine awp_true (by kernel_rfl) h6 ?_
    refine awp_skip ?_
    refine awp_seq ?_
    refine awp_block ?_
    refine awp_seq ?_
    refine awp_region ?_
    refine aR 3 ?_
    refine aE ?_
    refine gE hF fun h7 hF => ?_
    refine gE hF fun h8 hF => ?_
    refine aD ?_
    refine dR 3 ?_
    refine dX (x_quo h7) ?_
    refine dR 5 ?_
    refine dX (x_quo h7) ?_
    refine dR 5 ?_
    refine dX (x_app (encI .u8) 0 h8) ?_
    refine dR 1 ?_
    refine dE ?_
    refine awp_region ?_
    refine aR 2 ?_
    refine aE ?_
    exact oO hF [(0, 19001)] [] rfl
  · refine awp_false (by kernel_rfl) h6 ?_
    refine awp_exit ?_
    exact oO hF [] [] rfl

def place_Cell_R (qs : api_Spot) (qlevel : Int) (r : (List UInt8) × Int) : TV × Mem := (.tup [.one (.d (.str r.1)), .one (.d (.int .i64 r.2))], ⟨[], []⟩)

theorem place_Cell_ok {qs : api_Spot} {qlevel : Int} {r} (hF : place_Cell qs qlevel = some r) : Holds prog 28 [.v (.agg [.d (.int .i64 qs.X), .d (.int .i64 qs.Y)]), .v (.one (.d (.int .i64 qlevel)))] ⟨[], []⟩ (Is (place_Cell_R qs qlevel r)) := by
  unfold place_Cell at hF
  refine holds_of_awp hΓ (fn := f28) (c := cB f28) (A := 0) (nx := 0) (by kernel_rfl) (by kernel_rfl) (by kernel_rfl) (by kernel_rfl) (by kernel_rfl) (by kernel_rfl) (lowc_of (by kernel_rfl)) ?_
  show Awp prog 0 47 (cB f28) _ _
  refine awp_seq ?_
  refine awp_region ?_
  refine aR 3 ?_
  refine aE ?_
  refine awp_seq ?_
  refine awp_seq ?_
  refine awp_to (st' := place_Cell_x1_I qs qlevel) (oT [] []) ?_
  refine bE hF fun vx1 h4 hF => ?_
  refine awp_sub (place_Cell_x1_ok qs qlevel h4) ?_
  refine cE hF (fun h5 hF => ?_) fun h5 hF => ?_
  · refine awp_true (by kernel_rfl) h5 ?_
    refine awp_seq ?_
    refine awp_region ?_
    refine aR 2 ?_
    refine aE ?_
    refine awp_ret ?_
    exact oF hF [] []
  · refine awp_false (by kernel_rfl) h5 ?_
    refine awp_skip ?_
    refine awp_seq ?_
    refine awp_region ?_
    refine aR 1 ?_
    refine aE ?_
    refine awp_seq ?_
    refine aD ?_
    refine dR 9 ?_
    refine dE ?_
    refine awp_seq ?_
    refine awp_seq ?_
    refine awp_region ?_
    refine aR 2 ?_
    refine aE ?_
    refine awp_block ?_
    refine awp_to (st' := place_Cell_x2_H qs qlevel ([], 32768, 0)) (oT [] [0]) ?_
    refine bE hF fun vout1_1 h9 hF => ?_
    refine awp_sub (awp_loop' (place_Cell_x2_H qs qlevel) place_Cell_x2_k (place_Cell_x2_S qs qlevel) (by intro x; exact fun h => nomatch h) h9 (place_Cell_x2_ok qs qlevel)) ?_
    refine awp_seq ?_
    refine awp_region ?_
    refine aR 1 ?_
    refine aSt (xs := vout1_1) rfl rfl ?_
    refine aR 2 ?_
    refine aE ?_
    refine awp_ret ?_
    exact oF hF [] []

/-! ### beaconfleet/fleettop.h10facts -/
def fleettop_h10facts_x1_k : Bool → AEx
  | _ => .normal

def fleettop_h10facts_x1_S (vr : List Int) (vr2 : Int) (vr2_1 : api_Version) (vr4 : Int) (vr1 : List UInt8) (vr3 : Int) : Bool → St
  | vx => Mem.st ⟨[], []⟩ (tl [(0, .v (.one (.d (.bool vx))))]) 0

def fleettop_h10facts_x1_I (vr : List Int) (vr2 : Int) (vr2_1 : api_Version) (vr4 : Int) (vr1 : List UInt8) (vr3 : Int) : St := Mem.st ⟨[], [(0, [.d (.int .i64 vr2_1.Major), .d (.int .i64 vr2_1.Minor), .d (.int .i64 vr2_1.Patch)])]⟩ (tl [(1, .v (.one (.d (.lst (List.map (encI .u8) vr))))), (2, .v (.one (.d (.int .i64 vr2)))), (3, .v (.one (.box 0 0))), (4, .v (.one (.d (.int .i64 vr4)))), (5, .v (.one (.d (.str vr1)))), (6, .v (.one (.d (.int .i64 vr3))))]) 1

theorem fleettop_h10facts_x1_ok (vr : List Int) (vr2 : Int) (vr2_1 : api_Version) (vr4 : Int) (vr1 : List UInt8) (vr3 : Int) {r} (hF : fleettop_h10facts_x1 vr vr2 vr2_1 vr4 vr1 vr3 = some r) : Awp prog 0 46 (cL (cR (cR (cR (cR (cB f10)))))) (Out 0 fleettop_h10facts_x1_k (fleettop_h10facts_x1_S vr vr2 vr2_1 vr4 vr1 vr3) r) (fleettop_h10facts_x1_I vr vr2 vr2_1 vr4 vr1 vr3) := by
  unfold fleettop_h10facts_x1 at hF
  refine cE hF (fun h4 hF => ?_) fun h4 hF => ?_
  · refine cE hF (fun h5 hF => ?_) fun h5 hF => ?_
    · refine cE hF (fun h6 hF => ?_) fun h6 hF => ?_
      · refine bE hF fun vr5 h7 hF => ?_
        refine cE hF (fun h8 hF => ?_) fun h8 hF => ?_
        · refine cE hF (fun h9 hF => ?_) fun h9 hF => ?_
          · refine awp_region ?_
            refine aR 1 ?_
            refine aB h4 ?_
            refine aR 2 ?_
            refine aB h5 ?_
            refine aR 3 ?_
            refine aB h6 ?_
            refine aR 4 ?_
            refine aCb (slices_Equal_byte_byte_ok h7) [] [] [12001] h8 ?_
            refine aR 4 ?_
            refine aB h9 ?_
            refine aR 6 ?_
            refine aE ?_
            exact oO hF [] [] rfl
          · refine awp_region ?_
            refine aR 1 ?_
            refine aB h4 ?_
            refine aR 2 ?_
            refine aB h5 ?_
            refine aR 3 ?_
            refine aB h6 ?_
            refine aR 4 ?_
            refine aCb (slices_Equal_byte_byte_ok h7) [] [] [12001] h8 ?_
            refine aR 4 ?_
            refine aB h9 ?_
            refine aR 6 ?_
            refine aE ?_
            exact oO hF [] [] rfl
        · refine awp_region ?_
          refine aR 1 ?_
          refine aB h4 ?_
          refine aR 2 ?_
          refine aB h5 ?_
          refine aR 3 ?_
          refine aB h6 ?_
          refine aR 4 ?_
          refine aCb (slices_Equal_byte_byte_ok h7) [] [] [12001] h8 ?_
          refine aR 11 ?_
          refine aE ?_
          exact oO hF [] [] rfl
      · refine awp_region ?_
        refine aR 1 ?_
        refine aB h4 ?_
        refine aR 2 ?_
        refine aB h5 ?_
        refine aR 3 ?_
        refine aB h6 ?_
        refine aR 16 ?_
        refine aE ?_
        exact oO hF [] [] rfl
    · refine awp_region ?_
      refine aR 1 ?_
      refine aB h4 ?_
      refine aR 2 ?_
      refine aB h5 ?_
      refine aR 20 ?_
      refine aE ?_
      exact oO hF [] [] rfl
  · refine awp_region ?_
    refine aR 1 ?_
    refine aB h4 ?_
    refine aR 23 ?_
    refine aE ?_
    exact oO hF [] [] rfl

def fleettop_h10facts_R (r : Bool) : TV × Mem := (.v (.one (.d (.bool r))), ⟨[], []⟩)

theorem fleettop_h10facts_ok {r} (hF : fleettop_h10facts = some r) : Holds prog 10 [] ⟨[], []⟩ (Is (fleettop_h10facts_R  r)) := by
  unfold fleettop_h10facts at hF
  refine holds_of_awp hΓ (fn := f10) (c := cB f10) (A := 0) (nx := 0) (by kernel_rfl) (by kernel_rfl) (by kernel_rfl) (by kernel_rfl) (by kernel_rfl) (by kernel_rfl) (lowc_of (by kernel_rfl)) ?_
  show Awp prog 0 46 (cB f10) _ _
  refine awp_seq ?_
  refine awp_region ?_
  refine aR 1 ?_
  refine aE ?_
  refine awp_seq ?_
  refine bE hF fun x h1 hF => ?_
  obtain ⟨vr, vr2⟩ := x
  refine awp_region ?_
  refine aR 2 ?_
  refine aC (series_Pack_o0_ok h1) [(0, 2000)] [] [] ?_
  refine aR 5 ?_
  refine aE ?_
  refine awp_to (oT (m := ⟨[], []⟩) (ts := [(1, .v (.one (.d (.lst (List.map (encI .u8) vr))))), (2, .v (.one (.d (.int .i64 vr2))))]) (nx := 0) [] []) ?_
  refine awp_seq ?_
  refine bE hF fun x h2 hF => ?_
  obtain ⟨vr2_1, vr4⟩ := x
  refine awp_region ?_
  refine aC (campaign_ParseVersion_ok h2) [] [] [] ?_
  refine aR 6 ?_
  refine aE ?_
  refine awp_seq ?_
  refine bE hF fun x h3 hF => ?_
  obtain ⟨vr1, vr3⟩ := x
  refine awp_region ?_
  refine aR 1 ?_
  refine aC (place_Cell_ok h3) [] [] [] ?_
  refine aR 5 ?_
  refine aE ?_
  refine awp_seq ?_
  refine awp_to (st' := fleettop_h10facts_x1_I vr vr2 vr2_1 vr4 vr1 vr3) (oT [(0, 4000)] []) ?_
  refine bE hF fun vx1 h10 hF => ?_
  refine awp_sub (fleettop_h10facts_x1_ok vr vr2 vr2_1 vr4 vr1 vr3 h10) ?_
  refine awp_ret ?_
  exact oF hF [] []

/-! ### beaconfleet/fleettop.TopPackedRollsUp -/
def fleettop_TopPackedRollsUp_x1_k : Int → AEx
  | _ => .exit 0

def fleettop_TopPackedRollsUp_x1_S (vr5 : List api_Sample) (vr2 : Int) (vr15 : Int) (vr6 : List api_Bucket) (vr7 : Int) (vr6_1 : List api_Bucket) (vr7_1 : Int) (vr5_1 : List api_Bucket) (vr6_2 : Int) : Int → St
  | vx2 => Mem.st ⟨[], []⟩ (tl [(4, .v (.one (.d (.lst (List.map api_Sample.enc vr5))))), (6, .v (.one (.d (.int .i64 vr2)))), (8, .v (.one (.d (.int .i64 vr15)))), (10, .v (.one (.d (.lst (List.map api_Bucket.enc vr6))))), (11, .v (.one (.d (.int .i64 vr7)))), (12, .v (.one (.d (.lst (List.map api_Bucket.enc vr6_1))))), (13, .v (.one (.d (.int .i64 vr7_1)))), (14, .v (.one (.d (.lst (List.map api_Bucket.enc vr5_1))))), (15, .v (.one (.d (.int .i64 vr6_2)))), (16, .v (.one (.d (.int .i64 vx2))))]) 0

def fleettop_TopPackedRollsUp_x1_H (vr5 : List api_Sample) (vr2 : Int) (vr15 : Int) (vr6 : List api_Bucket) (vr7 : Int) (vr6_1 : List api_Bucket) (vr7_1 : Int) (vr5_1 : List api_Bucket) (vr6_2 : Int) : Int × Int → St
  | (vx, vx1) => Mem.st ⟨[], []⟩ (tl [(4, .v (.one (.d (.lst (List.map api_Sample.enc vr5))))), (6, .v (.one (.d (.int .i64 vr2)))), (8, .v (.one (.d (.int .i64 vr15)))), (10, .v (.one (.d (.lst (List.map api_Bucket.enc vr6))))), (11, .v (.one (.d (.int .i64 vr7)))), (12, .v (.one (.d (.lst (List.map api_Bucket.enc vr6_1))))), (13, .v (.one (.d (.int .i64 vr7_1)))), (14, .v (.one (.d (.lst (List.map api_Bucket.enc vr5_1))))), (15, .v (.one (.d (.int .i64 vr6_2)))), (16, .v (.one (.d (.int .i64 vx)))), (52, .v (.one (.d (.lst (List.map api_Sample.enc vr5))))), (53, .v (.one (.d (.int .i64 (vr5.length : Int))))), (54, .v (.one (.d (.int .i64 vx1))))]) 0

theorem fleettop_TopPackedRollsUp_x1_ok (vr5 : List api_Sample) (vr2 : Int) (vr15 : Int) (vr6 : List api_Bucket) (vr7 : Int) (vr6_1 : List api_Bucket) (vr7_1 : Int) (vr5_1 : List api_Bucket) (vr6_2 : Int) (s : Int × Int) (r : (Int × Int) ⊕ (Int)) (hF : fleettop_TopPackedRollsUp_x1 vr5 s = some r) : Awp prog 0 144 (cL (cL (cR (cL (cR (cR (cR (cR (cR (cR (cR (cR (cR (cR (cB f3))))))))))))))) (Out 0 (kk fleettop_TopPackedRollsUp_x1_k) (SS (fleettop_TopPackedRollsUp_x1_H vr5 vr2 vr15 vr6 vr7 vr6_1 vr7_1 vr5_1 vr6_2) (fleettop_TopPackedRollsUp_x1_S vr5 vr2 vr15 vr6 vr7 vr6_1 vr7_1 vr5_1 vr6_2)) r) (fleettop_TopPackedRollsUp_x1_H vr5 vr2 vr15 vr6 vr7 vr6_1 vr7_1 vr5_1 vr6_2 s) := by
  obtain ⟨vx, vx1⟩ := s
  unfold fleettop_TopPackedRollsUp_x1 at hF
  refine awp_seq ?_
  refine awp_region ?_
  refine aR 1 ?_
  refine aE ?_
  refine awp_seq ?_
  refine cE hF (fun h7 hF => ?_) fun h7 hF => ?_
  · refine awp_true (by kernel_rfl) h7 ?_
    refine awp_skip ?_
    refine awp_seq ?_
    refine awp_block ?_
    refine awp_seq ?_
    refine bE hF fun vy1 h8 hF => ?_
    refine awp_region ?_
    refine aX (x_idx api_Sample.enc h8) ?_
    refine aR 3 ?_
    refine aE ?_
    refine awp_region ?_
    refine aR 5 ?_
    refine aE ?_
    refine awp_region ?_
    refine aR 2 ?_
    refine aE ?_
    exact oO hF [] [] rfl
  · refine awp_false (by kernel_rfl) h7 ?_
    refine awp_exit ?_
    exact oO hF [] [] rfl

def fleettop_TopPackedRollsUp_x2_k : Bool → AEx
  | _ => .normal

def fleettop_TopPackedRollsUp_x2_S (vr5 : List api_Sample) (vr2 : Int) (vr15 : Int) (vr6 : List api_Bucket) (vr7 : Int) (vr6_1 : List api_Bucket) (vr7_1 : Int) (vr5_1 : List api_Bucket) (vr6_2 : Int) (vx2_1 : Int) : Bool → St
  | vx3 => Mem.st ⟨[], []⟩ (tl [(4, .v (.one (.d (.lst (List.map api_Sample.enc vr5))))), (14, .v (.one (.d (.lst (List.map api_Bucket.enc vr5_1))))), (16, .v (.one (.d (.int .i64 vx2_1)))), (86, .v (.one (.d (.bool vx3))))]) 0

def fleettop_TopPackedRollsUp_x2_I (vr5 : List api_Sample) (vr2 : Int) (vr15 : Int) (vr6 : List api_Bucket) (vr7 : Int) (vr6_1 : List api_Bucket) (vr7_1 : Int) (vr5_1 : List api_Bucket) (vr6_2 : Int) (vx2_1 : Int) : St := Mem.st ⟨[], []⟩ (tl [(4, .v (.one (.d (.lst (List.map api_Sample.enc vr5))))), (6, .v (.one (.d (.int .i64 vr2)))), (8, .v (.one (.d (.int .i64 vr15)))), (10, .v (.one (.d (.lst (List.map api_Bucket.enc vr6))))), (11, .v (.one (.d (.int .i64 vr7)))), (12, .v (.one (.d (.lst (List.map api_Bucket.enc vr6_1))))), (13, .v (.one (.d (.int .i64 vr7_1)))), (14, .v (.one (.d (.lst (List.map api_Bucket.enc vr5_1))))), (15, .v (.one (.d (.int .i64 vr6_2)))), (16, .v (.one (.d (.int .i64 vx2_1))))]) 0

theorem fleettop_TopPackedRollsUp_x2_ok (vr5 : List api_Sample) (vr2 : Int) (vr15 : Int) (vr6 : List api_Bucket) (vr7 : Int) (vr6_1 : List api_Bucket) (vr7_1 : Int) (vr5_1 : List api_Bucket) (vr6_2 : Int) (vx2_1 : Int) {r} (hF : fleettop_TopPackedRollsUp_x2 vr2 vr15 vr6 vr7 vr6_1 vr7_1 vr6_2 = some r) : Awp prog 0 144 (cL (cL (cR (cR (cR (cR (cR (cR (cR (cR (cR (cR (cR (cB f3)))))))))))))) (Out 0 fleettop_TopPackedRollsUp_x2_k (fleettop_TopPackedRollsUp_x2_S vr5 vr2 vr15 vr6 vr7 vr6_1 vr7_1 vr5_1 vr6_2 vx2_1) r) (fleettop_TopPackedRollsUp_x2_I vr5 vr2 vr15 vr6 vr7 vr6_1 vr7_1 vr5_1 vr6_2 vx2_1) := by
  unfold fleettop_TopPackedRollsUp_x2 at hF
  refine cE hF (fun h10 hF => ?_) fun h10 hF => ?_
  · refine awp_region ?_
    refine aR 1 ?_
    refine aB h10 ?_
    refine aR 22 ?_
    refine aE ?_
    exact oO hF [] [] rfl
  · refine cE hF (fun h11 hF => ?_) fun h11 hF => ?_
    · refine awp_region ?_
      refine aR 1 ?_
      refine aB h10 ?_
      refine aR 2 ?_
      refine aB h11 ?_
      refine aR 19 ?_
      refine aE ?_
      exact oO hF [] [] rfl
    · refine cE hF (fun h12 hF => ?_) fun h12 hF => ?_
      · refine awp_region ?_
        refine aR 1 ?_
        refine aB h10 ?_
        refine aR 2 ?_
        refine aB h11 ?_
        refine aR 3 ?_
        refine aB h12 ?_
        refine aR 15 ?_
        refine aE ?_
        exact oO hF [] [] rfl
      · refine cE hF (fun h13 hF => ?_) fun h13 hF => ?_
        · refine awp_region ?_
          refine aR 1 ?_
          refine aB h10 ?_
          refine aR 2 ?_
          refine aB h11 ?_
          refine aR 3 ?_
          refine aB h12 ?_
          refine aR 3 ?_
          refine aB h13 ?_
          refine aR 11 ?_
          refine aE ?_
          exact oO hF [] [] rfl
        · refine cE hF (fun h14 hF => ?_) fun h14 hF => ?_
          · refine awp_region ?_
            refine aR 1 ?_
            refine aB h10 ?_
            refine aR 2 ?_
            refine aB h11 ?_
            refine aR 3 ?_
            refine aB h12 ?_
            refine aR 3 ?_
            refine aB h13 ?_
            refine aR 3 ?_
            refine aB h14 ?_
            refine aR 7 ?_
            refine aE ?_
            exact oO hF [] [] rfl
          · refine bE hF fun vr1 h15 hF => ?_
            refine awp_region ?_
            refine aR 1 ?_
            refine aB h10 ?_
            refine aR 2 ?_
            refine aB h11 ?_
            refine aR 3 ?_
            refine aB h12 ?_
            refine aR 3 ?_
            refine aB h13 ?_
            refine aR 3 ?_
            refine aB h14 ?_
            refine aR 4 ?_
            refine aC (slices_Equal_api_Bucket_api_Bucket_ok h15) [] [] [] ?_
            refine aR 2 ?_
            refine aE ?_
            exact oO hF [] [] rfl

def fleettop_TopPackedRollsUp_x3_k : Bool → AEx
  | _ => .normal

def fleettop_TopPackedRollsUp_x3_S (vr5_1 : List api_Bucket) : Bool → St
  | vx4 => Mem.st ⟨[], []⟩ (tl [(2, .v (.one (.d (.bool vx4))))]) 0

def fleettop_TopPackedRollsUp_x3_I (vr5_1 : List api_Bucket) : St := Mem.st ⟨[], []⟩ (tl [(14, .v (.one (.d (.lst (List.map api_Bucket.enc vr5_1)))))]) 0

theorem fleettop_TopPackedRollsUp_x3_ok (vr5_1 : List api_Bucket) {r} (hF : fleettop_TopPackedRollsUp_x3 vr5_1 = some r) : Awp prog 0 144 (cL (cL (cR (cL (cR (cR (cR (cR (cR (cR (cR (cR (cR (cR (cR (cR (cB f3))))))))))))))))) (Out 0 fleettop_TopPackedRollsUp_x3_k (fleettop_TopPackedRollsUp_x3_S vr5_1) r) (fleettop_TopPackedRollsUp_x3_I vr5_1) := by
  unfold fleettop_TopPackedRollsUp_x3 at hF
  refine cE hF (fun h19 hF => ?_) fun h19 hF => ?_
  · refine bE hF fun vr6_3 h20 hF => ?_
    refine awp_region ?_
    refine aR 1 ?_
    refine aL api_Bucket.enc vr5_1 ?_
    refine aB h19 ?_
    refine aR 1 ?_
    refine aC (fleettop_h10facts_ok h20) [] [] [] ?_
    refine aR 2 ?_
    refine aE ?_
    exact oO hF [] [] rfl
  · refine awp_region ?_
    refine aR 1 ?_
    refine aL api_Bucket.enc vr5_1 ?_
    refine aB h19 ?_
    refine aR 4 ?_
    refine aE ?_
    exact oO hF [] [] rfl

def fleettop_TopPackedRollsUp_x4_k : Bool → AEx
  | _ => .normal

def fleettop_TopPackedRollsUp_x4_S (vr5 : List api_Sample) (vr5_1 : List api_Bucket) (vx2_1 : Int) : Bool → St
  | vx5 => Mem.st ⟨[], []⟩ (tl [(2, .v (.one (.d (.bool vx5))))]) 0

def fleettop_TopPackedRollsUp_x4_I (vr5 : List api_Sample) (vr5_1 : List api_Bucket) (vx2_1 : Int) : St := Mem.st ⟨[], []⟩ (tl [(4, .v (.one (.d (.lst (List.map api_Sample.enc vr5))))), (14, .v (.one (.d (.lst (List.map api_Bucket.enc vr5_1))))), (16, .v (.one (.d (.int .i64 vx2_1))))]) 0

theorem fleettop_TopPackedRollsUp_x4_ok (vr5 : List api_Sample) (vr5_1 : List api_Bucket) (vx2_1 : Int) {r} (hF : fleettop_TopPackedRollsUp_x4 vr5 vr5_1 vx2_1 = some r) : Awp prog 0 144 (cL (cR (cR (cR (cR (cR (cR (cR (cR (cR (cR (cR (cR (cR (cB f3))))))))))))))) (Out 0 fleettop_TopPackedRollsUp_x4_k (fleettop_TopPackedRollsUp_x4_S vr5 vr5_1 vx2_1) r) (fleettop_TopPackedRollsUp_x4_I vr5 vr5_1 vx2_1) := by
  unfold fleettop_TopPackedRollsUp_x4 at hF
  refine cE hF (fun h22 hF => ?_) fun h22 hF => ?_
  · refine bE hF fun vy2 h23 hF => ?_
    refine cE hF (fun h24 hF => ?_) fun h24 hF => ?_
    · refine cE hF (fun h25 hF => ?_) fun h25 hF => ?_
      · refine bE hF fun vy3 h26 hF => ?_
        refine cE hF (fun h27 hF => ?_) fun h27 hF => ?_
        · refine bE hF fun vy4 h28 hF => ?_
          refine cE hF (fun h29 hF => ?_) fun h29 hF => ?_
          · refine bE hF fun vr6_4 h30 hF => ?_
            refine aD ?_
            refine dR 1 ?_
            refine dL api_Bucket.enc vr5_1 ?_
            refine dB h22 ?_
            refine dR 2 ?_
            refine dX (x_idx api_Bucket.enc h23) ?_
            refine dR 3 ?_
            refine dB h24 ?_
            refine dR 3 ?_
            refine dX (x_idx api_Bucket.enc h23) ?_
            refine dR 3 ?_
            refine dL api_Sample.enc vr5 ?_
            refine dB h25 ?_
            refine dR 3 ?_
            refine dX (x_idx api_Bucket.enc h23) ?_
            refine dR 3 ?_
            refine dX (x_idx api_Sample.enc h26) ?_
            refine dR 2 ?_
            refine dB h27 ?_
            refine dR 3 ?_
            refine dX (x_idx api_Bucket.enc h23) ?_
            refine dR 4 ?_
            refine dL api_Sample.enc vr5 ?_
            refine dR 1 ?_
            refine dX (x_idx api_Sample.enc h28) ?_
            refine dR 2 ?_
            refine dB h29 ?_
            refine dR 2 ?_
            refine dC (fleettop_h10facts_ok h30) [] [] [] ?_
            refine dR 2 ?_
            refine dE ?_
            exact oO hF [] [] rfl
          · refine aD ?_
            refine dR 1 ?_
            refine dL api_Bucket.enc vr5_1 ?_
            refine dB h22 ?_
            refine dR 2 ?_
            refine dX (x_idx api_Bucket.enc h23) ?_
            refine dR 3 ?_
            refine dB h24 ?_
            refine dR 3 ?_
            refine dX (x_idx api_Bucket.enc h23) ?_
            refine dR 3 ?_
            refine dL api_Sample.enc vr5 ?_
            refine dB h25 ?_
            refine dR 3 ?_
            refine dX (x_idx api_Bucket.enc h23) ?_
            refine dR 3 ?_
            refine dX (x_idx api_Sample.enc h26) ?_
            refine dR 2 ?_
            refine dB h27 ?_
            refine dR 3 ?_
            refine dX (x_idx api_Bucket.enc h23) ?_
            refine dR 4 ?_
            refine dL api_Sample.enc vr5 ?_
            refine dR 1 ?_
            refine dX (x_idx api_Sample.enc h28) ?_
            refine dR 2 ?_
            refine dB h29 ?_
            refine dR 5 ?_
            refine dE ?_
            exact oO hF [] [] rfl
        · refine aD ?_
          refine dR 1 ?_
          refine dL api_Bucket.enc vr5_1 ?_
          refine dB h22 ?_
          refine dR 2 ?_
          refine dX (x_idx api_Bucket.enc h23) ?_
          refine dR 3 ?_
          refine dB h24 ?_
          refine dR 3 ?_
          refine dX (x_idx api_Bucket.enc h23) ?_
          refine dR 3 ?_
          refine dL api_Sample.enc vr5 ?_
          refine dB h25 ?_
          refine dR 3 ?_
          refine dX (x_idx api_Bucket.enc h23) ?_
          refine dR 3 ?_
          refine dX (x_idx api_Sample.enc h26) ?_
          refine dR 2 ?_
          refine dB h27 ?_
          refine dR 19 ?_
          refine dE ?_
          exact oO hF [] [] rfl
      · refine aD ?_
        refine dR 1 ?_
        refine dL api_Bucket.enc vr5_1 ?_
        refine dB h22 ?_
        refine dR 2 ?_
        refine dX (x_idx api_Bucket.enc h23) ?_
        refine dR 3 ?_
        refine dB h24 ?_
        refine dR 3 ?_
        refine dX (x_idx api_Bucket.enc h23) ?_
        refine dR 3 ?_
        refine dL api_Sample.enc vr5 ?_
        refine dB h25 ?_
        refine dR 30 ?_
        refine dE ?_
        exact oO hF [] [] rfl
    · refine aD ?_
      refine dR 1 ?_
      refine dL api_Bucket.enc vr5_1 ?_
      refine dB h22 ?_
      refine dR 2 ?_
      refine dX (x_idx api_Bucket.enc h23) ?_
      refine dR 3 ?_
      refine dB h24 ?_
      refine dR 39 ?_
      refine dE ?_
      exact oO hF [] [] rfl
  · refine aD ?_
    refine dR 1 ?_
    refine dL api_Bucket.enc vr5_1 ?_
    refine dB h22 ?_
    refine dR 46 ?_
    refine dE ?_
    exact oO hF [] [] rfl

def fleettop_TopPackedRollsUp_R (qx : List Int) (r : Bool) : TV × Mem := (.v (.one (.d (.bool r))), ⟨[], []⟩)

theorem fleettop_TopPackedRollsUp_ok {qx : List Int} {r} (hF : fleettop_TopPackedRollsUp qx = some r) : Holds prog 3 [.v (.one (.d (.lst (List.map (encI .i64) qx))))] ⟨[], []⟩ (Is (fleettop_TopPackedRollsUp_R qx r)) := by
  unfold fleettop_TopPackedRollsUp at hF
  refine holds_of_awp hΓ (fn := f3) (c := cB f3) (A := 0) (nx := 0) (by kernel_rfl) (by kernel_rfl) (by kernel_rfl) (by kernel_rfl) (by kernel_rfl) (by kernel_rfl) (lowc_of (by kernel_rfl)) ?_
  show Awp prog 0 144 (cB f3) _ _
  refine awp_seq ?_
  refine awp_region ?_
  refine aR 1 ?_
  refine aE ?_
  refine awp_seq ?_
  refine awp_region ?_
  refine aR 4 ?_
  refine aE ?_
  refine awp_seq ?_
  refine bE hF fun x h1 hF => ?_
  obtain ⟨vs3, vr5⟩ := x
  refine awp_region ?_
  refine aR 1 ?_
  refine aC (fleetmake_Stream_RightSeries_ok h1) [(0, 3000)] [] [] ?_
  refine aR 1 ?_
  refine aE ?_
  refine awp_to (oT (m := ⟨[], []⟩) (ts := [(4, .v (.one (.d (.lst (List.map api_Sample.enc vr5)))))]) (nx := 0) [] []) ?_
  refine awp_seq ?_
  refine bE hF fun x h2 hF => ?_
  obtain ⟨vr, vr2⟩ := x
  refine awp_region ?_
  refine aR 1 ?_
  refine aC (series_Pack_ok h2) [] [] [] ?_
  refine aR 5 ?_
  refine aE ?_
  refine awp_to (oT (m := ⟨[], []⟩) (ts := [(4, .v (.one (.d (.lst (List.map api_Sample.enc vr5))))), (5, .v (.one (.d (.lst (List.map (encI .u8) vr))))), (6, .v (.one (.d (.int .i64 vr2))))]) (nx := 0) [] []) ?_
  refine awp_seq ?_
  refine bE hF fun x h3 hF => ?_
  obtain ⟨vr14, vr15⟩ := x
  refine awp_region ?_
  refine aR 1 ?_
  refine aC (series_Unpack_ok h3) [] [] [] ?_
  refine aR 5 ?_
  refine aE ?_
  refine awp_seq ?_
  refine awp_region ?_
  refine aR 3 ?_
  refine aE ?_
  refine awp_seq ?_
  refine bE hF fun x h4 hF => ?_
  obtain ⟨vr6, vr7⟩ := x
  refine awp_region ?_
  refine aR 2 ?_
  refine aC (series_Buckets_ok h4) [] [] [] ?_
  refine aR 5 ?_
  refine aE ?_
  refine awp_to (oT (m := ⟨[], [(0, [.d (.int .i64 0), .d (.int .i64 100000)])]⟩) (ts := [(4, .v (.one (.d (.lst (List.map api_Sample.enc vr5))))), (6, .v (.one (.d (.int .i64 vr2)))), (7, .v (.one (.d (.lst (List.map api_Sample.enc vr14))))), (8, .v (.one (.d (.int .i64 vr15)))), (9, .v (.one (.box 0 0))), (10, .v (.one (.d (.lst (List.map api_Bucket.enc vr6))))), (11, .v (.one (.d (.int .i64 vr7))))]) (nx := 1) [(0, 8000)] []) ?_
  refine awp_seq ?_
  refine bE hF fun x h5 hF => ?_
  obtain ⟨vr6_1, vr7_1⟩ := x
  refine awp_region ?_
  refine aR 2 ?_
  refine aC (series_Buckets_ok h5) [] [] [] ?_
  refine aR 5 ?_
  refine aE ?_
  refine awp_to (oT (m := ⟨[], []⟩) (ts := [(4, .v (.one (.d (.lst (List.map api_Sample.enc vr5))))), (6, .v (.one (.d (.int .i64 vr2)))), (8, .v (.one (.d (.int .i64 vr15)))), (10, .v (.one (.d (.lst (List.map api_Bucket.enc vr6))))), (11, .v (.one (.d (.int .i64 vr7)))), (12, .v (.one (.d (.lst (List.map api_Bucket.enc vr6_1))))), (13, .v (.one (.d (.int .i64 vr7_1))))]) (nx := 0) [] []) ?_
  refine awp_seq ?_
  refine bE hF fun x h6 hF => ?_
  obtain ⟨vr5_1, vr6_2⟩ := x
  refine awp_region ?_
  refine aR 1 ?_
  refine aC (series_Wider_ok h6) [] [] [] ?_
  refine aR 5 ?_
  refine aE ?_
  refine awp_to (oT (m := ⟨[], []⟩) (ts := [(4, .v (.one (.d (.lst (List.map api_Sample.enc vr5))))), (6, .v (.one (.d (.int .i64 vr2)))), (8, .v (.one (.d (.int .i64 vr15)))), (10, .v (.one (.d (.lst (List.map api_Bucket.enc vr6))))), (11, .v (.one (.d (.int .i64 vr7)))), (12, .v (.one (.d (.lst (List.map api_Bucket.enc vr6_1))))), (13, .v (.one (.d (.int .i64 vr7_1)))), (14, .v (.one (.d (.lst (List.map api_Bucket.enc vr5_1))))), (15, .v (.one (.d (.int .i64 vr6_2))))]) (nx := 0) [] []) ?_
  refine awp_seq ?_
  refine awp_region ?_
  refine aR 1 ?_
  refine aE ?_
  refine awp_seq ?_
  refine awp_seq ?_
  refine awp_region ?_
  refine aR 1 ?_
  refine aL api_Sample.enc vr5 ?_
  refine aR 1 ?_
  refine aE ?_
  refine awp_block ?_
  refine awp_to (st' := fleettop_TopPackedRollsUp_x1_H vr5 vr2 vr15 vr6 vr7 vr6_1 vr7_1 vr5_1 vr6_2 (0, 0)) (oT [] []) ?_
  refine bE hF fun vx2_1 h9 hF => ?_
  refine awp_sub (awp_loop' (fleettop_TopPackedRollsUp_x1_H vr5 vr2 vr15 vr6 vr7 vr6_1 vr7_1 vr5_1 vr6_2) fleettop_TopPackedRollsUp_x1_k (fleettop_TopPackedRollsUp_x1_S vr5 vr2 vr15 vr6 vr7 vr6_1 vr7_1 vr5_1 vr6_2) (by intro x; exact fun h => nomatch h) h9 (fleettop_TopPackedRollsUp_x1_ok vr5 vr2 vr15 vr6 vr7 vr6_1 vr7_1 vr5_1 vr6_2)) ?_
  refine awp_seq ?_
  refine awp_seq ?_
  refine awp_to (st' := fleettop_TopPackedRollsUp_x2_I vr5 vr2 vr15 vr6 vr7 vr6_1 vr7_1 vr5_1 vr6_2 vx2_1) (oT [] []) ?_
  refine bE hF fun vx3_1 h16 hF => ?_
  refine awp_sub (fleettop_TopPackedRollsUp_x2_ok vr5 vr2 vr15 vr6 vr7 vr6_1 vr7_1 vr5_1 vr6_2 vx2_1 h16) ?_
  refine cE hF (fun h17 hF => ?_) fun h17 hF => ?_
  · refine awp_true (by kernel_rfl) h17 ?_
    refine awp_seq ?_
    refine awp_region ?_
    refine aR 1 ?_
    refine aE ?_
    refine awp_ret ?_
    exact oF hF [] []
  · refine awp_false (by kernel_rfl) h17 ?_
    refine awp_skip ?_
    refine awp_seq ?_
    refine awp_seq ?_
    refine awp_region ?_
    refine aR 1 ?_
    refine aL api_Sample.enc vr5 ?_
    refine aR 1 ?_
    refine aE ?_
    refine cE hF (fun h18 hF => ?_) fun h18 hF => ?_
    · refine awp_true (by kernel_rfl) h18 ?_
      refine awp_seq ?_
      refine awp_to (st' := fleettop_TopPackedRollsUp_x3_I vr5_1) (oT [] []) ?_
      refine bE hF fun vx4_1 h21 hF => ?_
      refine awp_sub (fleettop_TopPackedRollsUp_x3_ok vr5_1 h21) ?_
      refine awp_ret ?_
      exact oF hF [] []
    · refine awp_false (by kernel_rfl) h18 ?_
      refine awp_skip ?_
      refine awp_seq ?_
      refine awp_to (st' := fleettop_TopPackedRollsUp_x4_I vr5 vr5_1 vx2_1) (oT [] []) ?_
      refine bE hF fun vx5_1 h31 hF => ?_
      refine awp_sub (fleettop_TopPackedRollsUp_x4_ok vr5 vr5_1 vx2_1 h31) ?_
      refine awp_ret ?_
      exact oF hF [] []

end Go.Eng
