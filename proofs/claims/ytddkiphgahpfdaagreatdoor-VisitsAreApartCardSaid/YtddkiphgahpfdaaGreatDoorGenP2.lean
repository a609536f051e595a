/-
The code of the Go functions that the law VisitsAreApart reaches does what the plain functions say, part 2.
-/
import Derived.Test.YtddkiphgahpfdaaGreatDoorGenP1

namespace Go.Eng

open Go Go.Proofs.Tryz

set_option linter.unusedVariables false

set_option maxRecDepth 20000

set_option maxHeartbeats 0

/-! ### internal/strconv.underscoreOK -/
def strconv_underscoreOK_x2_k : Bool → AEx
  | _ => .normal

def strconv_underscoreOK_x2_S (qx : List UInt8) : Bool → St
  | vx => Mem.st ⟨[], []⟩ (tl [(0, .v (.one (.d (.str qx)))), (3, .v (.one (.d (.int .i32 94)))), (4, .v (.one (.d (.int .i64 0)))), (18, .v (.one (.d (.bool vx))))]) 0

def strconv_underscoreOK_x2_I (qx : List UInt8) : St := Mem.st ⟨[], []⟩ (tl [(0, .v (.one (.d (.str qx)))), (3, .v (.one (.d (.int .i32 94)))), (4, .v (.one (.d (.int .i64 0))))]) 0

theorem strconv_underscoreOK_x2_ok (qx : List UInt8) {r} (hF : strconv_underscoreOK_x2 qx = some r) : Awp prog 0 94 (cL (cL (cR (cR (cR (cB f185)))))) (Out 0 strconv_underscoreOK_x2_k (strconv_underscoreOK_x2_S qx) r) (strconv_underscoreOK_x2_I qx) := by
  unfold strconv_underscoreOK_x2 at hF
  refine cE hF (fun h1 hF => ?_) fun h1 hF => ?_
  · refine bE hF fun vc h2 hF => ?_
    refine cE hF (fun h3 hF => ?_) fun h3 hF => ?_
    · refine awp_region ?_
      refine aR 2 ?_
      refine aB h1 ?_
      refine aR 2 ?_
      refine aX (x_idxS h2) ?_
      refine aB h3 ?_
      refine aR 6 ?_
      refine aE ?_
      exact oO hF [] [] rfl
    · refine awp_region ?_
      refine aR 2 ?_
      refine aB h1 ?_
      refine aR 2 ?_
      refine aX (x_idxS h2) ?_
      refine aB h3 ?_
      refine aR 2 ?_
      refine aX (x_idxS h2) ?_
      refine aR 3 ?_
      refine aE ?_
      exact oO hF [] [] rfl
  · refine awp_region ?_
    refine aR 2 ?_
    refine aB h1 ?_
    refine aR 10 ?_
    refine aE ?_
    exact oO hF [] [] rfl

def strconv_underscoreOK_x1_k : (List UInt8) → AEx
  | _ => .normal

def strconv_underscoreOK_x1_S (qx : List UInt8) : (List UInt8) → St
  | vx2 => Mem.st ⟨[], []⟩ (tl [(0, .v (.one (.d (.str vx2)))), (3, .v (.one (.d (.int .i32 94)))), (4, .v (.one (.d (.int .i64 0))))]) 0

def strconv_underscoreOK_x1_I (qx : List UInt8) : St := Mem.st ⟨[], []⟩ (tl [(0, .v (.one (.d (.str qx)))), (3, .v (.one (.d (.int .i32 94)))), (4, .v (.one (.d (.int .i64 0))))]) 0

theorem strconv_underscoreOK_x1_ok (qx : List UInt8) {r} (hF : strconv_underscoreOK_x1 qx = some r) : Awp prog 0 94 (cL (cR (cR (cR (cB f185))))) (Out 0 strconv_underscoreOK_x1_k (strconv_underscoreOK_x1_S qx) r) (strconv_underscoreOK_x1_I qx) := by
  unfold strconv_underscoreOK_x1 at hF
  refine awp_seq ?_
  refine awp_to (st' := strconv_underscoreOK_x2_I qx) (oT [] []) ?_
  refine bE hF fun vx1 h4 hF => ?_
  refine awp_sub (strconv_underscoreOK_x2_ok qx h4) ?_
  refine cE hF (fun h5 hF => ?_) fun h5 hF => ?_
  · refine awp_true (by kernel_rfl) h5 ?_
    refine bE hF fun vs h6 hF => ?_
    refine awp_region ?_
    refine aR 1 ?_
    refine aX (x_sliceS h6) ?_
    refine aR 1 ?_
    refine aE ?_
    exact oO hF [] [] rfl
  · refine awp_false (by kernel_rfl) h5 ?_
    refine awp_skip ?_
    exact oO hF [] [] rfl

def strconv_underscoreOK_x4_k : Bool → AEx
  | _ => .normal

def strconv_underscoreOK_x4_S (vx2_1 : List UInt8) : Bool → St
  | vx3 => Mem.st ⟨[], []⟩ (tl [(0, .v (.one (.d (.str vx2_1)))), (3, .v (.one (.d (.int .i32 94)))), (4, .v (.one (.d (.int .i64 0)))), (5, .v (.one (.d (.bool false)))), (46, .v (.one (.d (.bool vx3))))]) 0

def strconv_underscoreOK_x4_I (vx2_1 : List UInt8) : St := Mem.st ⟨[], []⟩ (tl [(0, .v (.one (.d (.str vx2_1)))), (3, .v (.one (.d (.int .i32 94)))), (4, .v (.one (.d (.int .i64 0)))), (5, .v (.one (.d (.bool false))))]) 0

theorem strconv_underscoreOK_x4_ok (vx2_1 : List UInt8) {r} (hF : strconv_underscoreOK_x4 vx2_1 = some r) : Awp prog 0 94 (cL (cL (cR (cR (cR (cR (cR (cB f185)))))))) (Out 0 strconv_underscoreOK_x4_k (strconv_underscoreOK_x4_S vx2_1) r) (strconv_underscoreOK_x4_I vx2_1) := by
  unfold strconv_underscoreOK_x4 at hF
  refine cE hF (fun h8 hF => ?_) fun h8 hF => ?_
  · refine bE hF fun vc1 h9 hF => ?_
    refine cE hF (fun h10 hF => ?_) fun h10 hF => ?_
    · refine bE hF fun vc2 h11 hF => ?_
      refine bE hF fun _ h12 hF => ?_
      refine cE hF (fun h13 hF => ?_) fun h13 hF => ?_
      · refine awp_region ?_
        refine aR 2 ?_
        refine aB h8 ?_
        refine aR 2 ?_
        refine aX (x_idxS h9) ?_
        refine aB h10 ?_
        refine aR 3 ?_
        refine aX (x_idxS h11) ?_
        refine aC (strconv_lower_ok h12) [] [] [] ?_
        refine aB h13 ?_
        refine aR 13 ?_
        refine aE ?_
        exact oO hF [] [] rfl
      · refine cE hF (fun h14 hF => ?_) fun h14 hF => ?_
        · refine awp_region ?_
          refine aR 2 ?_
          refine aB h8 ?_
          refine aR 2 ?_
          refine aX (x_idxS h9) ?_
          refine aB h10 ?_
          refine aR 3 ?_
          refine aX (x_idxS h11) ?_
          refine aC (strconv_lower_ok h12) [] [] [] ?_
          refine aB h13 ?_
          refine aR 2 ?_
          refine aX (x_idxS h11) ?_
          refine aC (strconv_lower_ok h12) [] [] [] ?_
          refine aB h14 ?_
          refine aR 8 ?_
          refine aE ?_
          exact oO hF [] [] rfl
        · refine awp_region ?_
          refine aR 2 ?_
          refine aB h8 ?_
          refine aR 2 ?_
          refine aX (x_idxS h9) ?_
          refine aB h10 ?_
          refine aR 3 ?_
          refine aX (x_idxS h11) ?_
          refine aC (strconv_lower_ok h12) [] [] [] ?_
          refine aB h13 ?_
          refine aR 2 ?_
          refine aX (x_idxS h11) ?_
          refine aC (strconv_lower_ok h12) [] [] [] ?_
          refine aB h14 ?_
          refine aR 3 ?_
          refine aX (x_idxS h11) ?_
          refine aC (strconv_lower_ok h12) [] [] [] ?_
          refine aR 3 ?_
          refine aE ?_
          exact oO hF [] [] rfl
    · refine awp_region ?_
      refine aR 2 ?_
      refine aB h8 ?_
      refine aR 2 ?_
      refine aX (x_idxS h9) ?_
      refine aB h10 ?_
      refine aR 19 ?_
      refine aE ?_
      exact oO hF [] [] rfl
  · refine awp_region ?_
    refine aR 2 ?_
    refine aB h8 ?_
    refine aR 23 ?_
    refine aE ?_
    exact oO hF [] [] rfl

def strconv_underscoreOK_x3_k : (Int × Int × Bool) → AEx
  | _ => .normal

def strconv_underscoreOK_x3_S (vx2_1 : List UInt8) : (Int × Int × Bool) → St
  | (vx4, vx5, vx6) => Mem.st ⟨[], []⟩ (tl [(0, .v (.one (.d (.str vx2_1)))), (3, .v (.one (.d (.int .i32 vx4)))), (4, .v (.one (.d (.int .i64 vx5)))), (5, .v (.one (.d (.bool vx6))))]) 0

def strconv_underscoreOK_x3_I (vx2_1 : List UInt8) : St := Mem.st ⟨[], []⟩ (tl [(0, .v (.one (.d (.str vx2_1)))), (3, .v (.one (.d (.int .i32 94)))), (4, .v (.one (.d (.int .i64 0)))), (5, .v (.one (.d (.bool false))))]) 0

theorem strconv_underscoreOK_x3_ok (vx2_1 : List UInt8) {r} (hF : strconv_underscoreOK_x3 vx2_1 = some r) : Awp prog 0 94 (cL (cR (cR (cR (cR (cR (cB f185))))))) (Out 0 strconv_underscoreOK_x3_k (strconv_underscoreOK_x3_S vx2_1) r) (strconv_underscoreOK_x3_I vx2_1) := by
  unfold strconv_underscoreOK_x3 at hF
  refine awp_seq ?_
  refine awp_to (st' := strconv_underscoreOK_x4_I vx2_1) (oT [] []) ?_
  refine bE hF fun vx3_1 h15 hF => ?_
  refine awp_sub (strconv_underscoreOK_x4_ok vx2_1 h15) ?_
  refine cE hF (fun h16 hF => ?_) fun h16 hF => ?_
  · refine awp_true (by kernel_rfl) h16 ?_
    refine awp_seq ?_
    refine awp_region ?_
    refine aR 1 ?_
    refine aE ?_
    refine awp_seq ?_
    refine awp_region ?_
    refine aR 1 ?_
    refine aE ?_
    refine bE hF fun vc3 h17 hF => ?_
    refine bE hF fun _ h18 hF => ?_
    refine awp_region ?_
    refine aR 1 ?_
    refine aX (x_idxS h17) ?_
    refine aC (strconv_lower_ok h18) [] [] [] ?_
    refine aR 2 ?_
    refine aE ?_
    exact oO hF [] [] rfl
  · refine awp_false (by kernel_rfl) h16 ?_
    refine awp_skip ?_
    exact oO hF [] [] rfl

def strconv_underscoreOK_x7_k : Bool → AEx
  | _ => .normal

def strconv_underscoreOK_x7_S (vx2_1 : List UInt8) (vx6_1 : Bool) (vx7 : Int) (vx8 : Int) : Bool → St
  | vx11 => Mem.st ⟨[], []⟩ (tl [(0, .v (.one (.d (.str vx2_1)))), (3, .v (.one (.d (.int .i32 vx7)))), (4, .v (.one (.d (.int .i64 vx8)))), (5, .v (.one (.d (.bool vx6_1)))), (83, .v (.one (.d (.bool vx11))))]) 0

def strconv_underscoreOK_x7_I (vx2_1 : List UInt8) (vx6_1 : Bool) (vx7 : Int) (vx8 : Int) : St := Mem.st ⟨[], []⟩ (tl [(0, .v (.one (.d (.str vx2_1)))), (3, .v (.one (.d (.int .i32 vx7)))), (4, .v (.one (.d (.int .i64 vx8)))), (5, .v (.one (.d (.bool vx6_1))))]) 0

theorem strconv_underscoreOK_x7_ok (vx2_1 : List UInt8) (vx6_1 : Bool) (vx7 : Int) (vx8 : Int) {r} (hF : strconv_underscoreOK_x7 vx2_1 vx6_1 vx8 = some r) : Awp prog 0 94 (cL (cL (cL (cL (cR (cL (cL (cL (cR (cR (cR (cR (cR (cR (cB f185))))))))))))))) (Out 0 strconv_underscoreOK_x7_k (strconv_underscoreOK_x7_S vx2_1 vx6_1 vx7 vx8) r) (strconv_underscoreOK_x7_I vx2_1 vx6_1 vx7 vx8) := by
  unfold strconv_underscoreOK_x7 at hF
  refine bE hF fun vc6 h21 hF => ?_
  refine cE hF (fun h22 hF => ?_) fun h22 hF => ?_
  · refine cE hF (fun h23 hF => ?_) fun h23 hF => ?_
    · refine awp_region ?_
      refine aR 2 ?_
      refine aX (x_idxS h21) ?_
      refine aB h22 ?_
      refine aR 3 ?_
      refine aX (x_idxS h21) ?_
      refine aB h23 ?_
      refine aR 18 ?_
      refine aE ?_
      exact oO hF [] [] rfl
    · refine cE hF (fun h24 hF => ?_) fun h24 hF => ?_
      · refine bE hF fun _ h25 hF => ?_
        refine cE hF (fun h26 hF => ?_) fun h26 hF => ?_
        · refine awp_region ?_
          refine aR 2 ?_
          refine aX (x_idxS h21) ?_
          refine aB h22 ?_
          refine aR 3 ?_
          refine aX (x_idxS h21) ?_
          refine aB h23 ?_
          refine aR 2 ?_
          refine aB h24 ?_
          refine aR 3 ?_
          refine aX (x_idxS h21) ?_
          refine aC (strconv_lower_ok h25) [] [] [] ?_
          refine aB h26 ?_
          refine aR 4 ?_
          refine aX (x_idxS h21) ?_
          refine aC (strconv_lower_ok h25) [] [] [] ?_
          refine aR 3 ?_
          refine aE ?_
          exact oO hF [] [] rfl
        · refine awp_region ?_
          refine aR 2 ?_
          refine aX (x_idxS h21) ?_
          refine aB h22 ?_
          refine aR 3 ?_
          refine aX (x_idxS h21) ?_
          refine aB h23 ?_
          refine aR 2 ?_
          refine aB h24 ?_
          refine aR 3 ?_
          refine aX (x_idxS h21) ?_
          refine aC (strconv_lower_ok h25) [] [] [] ?_
          refine aB h26 ?_
          refine aR 9 ?_
          refine aE ?_
          exact oO hF [] [] rfl
      · refine awp_region ?_
        refine aR 2 ?_
        refine aX (x_idxS h21) ?_
        refine aB h22 ?_
        refine aR 3 ?_
        refine aX (x_idxS h21) ?_
        refine aB h23 ?_
        refine aR 2 ?_
        refine aB h24 ?_
        refine aR 15 ?_
        refine aE ?_
        exact oO hF [] [] rfl
  · refine cE hF (fun h27 hF => ?_) fun h27 hF => ?_
    · refine bE hF fun _ h28 hF => ?_
      refine cE hF (fun h29 hF => ?_) fun h29 hF => ?_
      · refine awp_region ?_
        refine aR 2 ?_
        refine aX (x_idxS h21) ?_
        refine aB h22 ?_
        refine aR 7 ?_
        refine aB h27 ?_
        refine aR 3 ?_
        refine aX (x_idxS h21) ?_
        refine aC (strconv_lower_ok h28) [] [] [] ?_
        refine aB h29 ?_
        refine aR 4 ?_
        refine aX (x_idxS h21) ?_
        refine aC (strconv_lower_ok h28) [] [] [] ?_
        refine aR 3 ?_
        refine aE ?_
        exact oO hF [] [] rfl
      · refine awp_region ?_
        refine aR 2 ?_
        refine aX (x_idxS h21) ?_
        refine aB h22 ?_
        refine aR 7 ?_
        refine aB h27 ?_
        refine aR 3 ?_
        refine aX (x_idxS h21) ?_
        refine aC (strconv_lower_ok h28) [] [] [] ?_
        refine aB h29 ?_
        refine aR 9 ?_
        refine aE ?_
        exact oO hF [] [] rfl
    · refine awp_region ?_
      refine aR 2 ?_
      refine aX (x_idxS h21) ?_
      refine aB h22 ?_
      refine aR 7 ?_
      refine aB h27 ?_
      refine aR 15 ?_
      refine aE ?_
      exact oO hF [] [] rfl

def strconv_underscoreOK_x6_k : Int ⊕ Unit → AEx
  | .inl _ => .normal
  | .inr _ => .ret

def strconv_underscoreOK_x6_S (vx2_1 : List UInt8) (vx6_1 : Bool) (vx7 : Int) (vx8 : Int) : Int ⊕ Unit → St
  | .inl vx12 => Mem.st ⟨[], []⟩ (tl [(0, .v (.one (.d (.str vx2_1)))), (3, .v (.one (.d (.int .i32 vx12)))), (4, .v (.one (.d (.int .i64 vx8)))), (5, .v (.one (.d (.bool vx6_1))))]) 0
  | .inr _ => Mem.st ⟨[], []⟩ (tl [(2, .v (.one (.d (.bool false))))]) 0

def strconv_underscoreOK_x6_I (vx2_1 : List UInt8) (vx6_1 : Bool) (vx7 : Int) (vx8 : Int) : St := Mem.st ⟨[], []⟩ (tl [(0, .v (.one (.d (.str vx2_1)))), (3, .v (.one (.d (.int .i32 vx7)))), (4, .v (.one (.d (.int .i64 vx8)))), (5, .v (.one (.d (.bool vx6_1))))]) 0

theorem strconv_underscoreOK_x6_ok (vx2_1 : List UInt8) (vx6_1 : Bool) (vx7 : Int) (vx8 : Int) {r} (hF : strconv_underscoreOK_x6 vx2_1 vx6_1 vx7 vx8 = some r) : Awp prog 0 94 (cL (cR (cL (cL (cL (cR (cR (cR (cR (cR (cR (cB f185)))))))))))) (Out 0 strconv_underscoreOK_x6_k (strconv_underscoreOK_x6_S vx2_1 vx6_1 vx7 vx8) r) (strconv_underscoreOK_x6_I vx2_1 vx6_1 vx7 vx8) := by
  unfold strconv_underscoreOK_x6 at hF
  refine awp_block ?_
  refine awp_seq ?_
  refine awp_seq ?_
  refine awp_to (st' := strconv_underscoreOK_x7_I vx2_1 vx6_1 vx7 vx8) (oT [] []) ?_
  refine bE hF fun vx11_1 h30 hF => ?_
  refine awp_sub (strconv_underscoreOK_x7_ok vx2_1 vx6_1 vx7 vx8 h30) ?_
  refine cE hF (fun h31 hF => ?_) fun h31 hF => ?_
  · refine awp_true (by kernel_rfl) h31 ?_
    refine awp_seq ?_
    refine awp_region ?_
    refine aR 1 ?_
    refine aE ?_
    refine awp_exit ?_
    exact oO hF [] [] rfl
  · refine awp_false (by kernel_rfl) h31 ?_
    refine awp_skip ?_
    refine awp_seq ?_
    refine awp_seq ?_
    refine bE hF fun vc7 h32 hF => ?_
    refine awp_region ?_
    refine aR 2 ?_
    refine aX (x_idxS h32) ?_
    refine aR 1 ?_
    refine aE ?_
    refine cE hF (fun h33 hF => ?_) fun h33 hF => ?_
    · refine awp_true (by kernel_rfl) h33 ?_
      refine awp_seq ?_
      refine awp_seq ?_
      refine awp_region ?_
      refine aR 2 ?_
      refine aE ?_
      refine cE hF (fun h34 hF => ?_) fun h34 hF => ?_
      · refine awp_true (by kernel_rfl) h34 ?_
        refine awp_seq ?_
        refine awp_region ?_
        refine aR 1 ?_
        refine aE ?_
        refine awp_ret ?_
        exact oO hF [] [] rfl
      · refine awp_false (by kernel_rfl) h34 ?_
        refine awp_skip ?_
        refine awp_seq ?_
        refine awp_region ?_
        refine aR 1 ?_
        refine aE ?_
        refine awp_exit ?_
        exact oO hF [] [] rfl
    · refine awp_false (by kernel_rfl) h33 ?_
      refine awp_skip ?_
      refine awp_seq ?_
      refine awp_seq ?_
      refine awp_region ?_
      refine aR 2 ?_
      refine aE ?_
      refine cE hF (fun h35 hF => ?_) fun h35 hF => ?_
      · refine awp_true (by kernel_rfl) h35 ?_
        refine awp_seq ?_
        refine awp_region ?_
        refine aR 1 ?_
        refine aE ?_
        refine awp_ret ?_
        exact oO hF [] [] rfl
      · refine awp_false (by kernel_rfl) h35 ?_
        refine awp_skip ?_
        refine awp_region ?_
        refine aR 1 ?_
        refine aE ?_
        exact oO hF [] [] rfl

def strconv_underscoreOK_x5_k : Int ⊕ Unit → AEx
  | .inl _ => .exit 0
  | .inr _ => .ret

def strconv_underscoreOK_x5_S (vx2_1 : List UInt8) (vx6_1 : Bool) : Int ⊕ Unit → St
  | .inl vx13 => Mem.st ⟨[], []⟩ (tl [(3, .v (.one (.d (.int .i32 vx13))))]) 0
  | .inr _ => Mem.st ⟨[], []⟩ (tl [(2, .v (.one (.d (.bool false))))]) 0

def strconv_underscoreOK_x5_H (vx2_1 : List UInt8) (vx6_1 : Bool) : Int × Int → St
  | (vx7, vx8) => Mem.st ⟨[], []⟩ (tl [(0, .v (.one (.d (.str vx2_1)))), (3, .v (.one (.d (.int .i32 vx7)))), (4, .v (.one (.d (.int .i64 vx8)))), (5, .v (.one (.d (.bool vx6_1))))]) 0

theorem strconv_underscoreOK_x5_ok (vx2_1 : List UInt8) (vx6_1 : Bool) (s : Int × Int) (r : (Int × Int) ⊕ (Int ⊕ Unit)) (hF : strconv_underscoreOK_x5 vx2_1 vx6_1 s = some r) : Awp prog 0 94 (cL (cL (cL (cR (cR (cR (cR (cR (cR (cB f185)))))))))) (Out 0 (kk strconv_underscoreOK_x5_k) (SS (strconv_underscoreOK_x5_H vx2_1 vx6_1) (strconv_underscoreOK_x5_S vx2_1 vx6_1)) r) (strconv_underscoreOK_x5_H vx2_1 vx6_1 s) := by
  obtain ⟨vx7, vx8⟩ := s
  unfold strconv_underscoreOK_x5 at hF
  refine awp_seq ?_
  refine awp_seq ?_
  refine awp_region ?_
  refine aR 4 ?_
  refine aE ?_
  refine cE hF (fun h20 hF => ?_) fun h20 hF => ?_
  · refine awp_true (by kernel_rfl) h20 ?_
    refine awp_skip ?_
    refine awp_seq ?_
    refine awp_to (st' := strconv_underscoreOK_x6_I vx2_1 vx6_1 vx7 vx8) (oT [] []) ?_
    refine bE hF fun x h36 hF => ?_
    rcases x with vx12_1 | _
    · refine awp_sub (strconv_underscoreOK_x6_ok vx2_1 vx6_1 vx7 vx8 h36) ?_
      refine awp_region ?_
      refine aR 3 ?_
      refine aE ?_
      exact oO hF [] [] rfl
    · refine awp_sub (strconv_underscoreOK_x6_ok vx2_1 vx6_1 vx7 vx8 h36) ?_
      exact oO hF [] [] rfl
  · refine awp_false (by kernel_rfl) h20 ?_
    refine awp_exit ?_
    exact oO hF [] [] rfl

def strconv_underscoreOK_R (qx : List UInt8) (r : Bool) : TV × Mem := (.v (.one (.d (.bool r))), ⟨[], []⟩)

theorem strconv_underscoreOK_ok {qx : List UInt8} {r} (hF : strconv_underscoreOK qx = some r) : Holds prog 185 [.v (.one (.d (.str qx)))] ⟨[], []⟩ (Is (strconv_underscoreOK_R qx r)) := by
  unfold strconv_underscoreOK at hF
  refine holds_of_awp hΓ (fn := f185) (c := cB f185) (A := 0) (nx := 0) (by kernel_rfl) (by kernel_rfl) (by kernel_rfl) (by kernel_rfl) (by kernel_rfl) (by kernel_rfl) (lowc_of (by kernel_rfl)) ?_
  show Awp prog 0 94 (cB f185) _ _
  refine awp_seq ?_
  refine awp_region ?_
  refine aR 1 ?_
  refine aE ?_
  refine awp_seq ?_
  refine awp_region ?_
  refine aR 1 ?_
  refine aE ?_
  refine awp_seq ?_
  refine awp_region ?_
  refine aR 1 ?_
  refine aE ?_
  refine awp_seq ?_
  refine awp_to (st' := strconv_underscoreOK_x1_I qx) (oT [] []) ?_
  refine bE hF fun vx2_1 h7 hF => ?_
  refine awp_sub (strconv_underscoreOK_x1_ok qx h7) ?_
  refine awp_seq ?_
  refine awp_region ?_
  refine aR 1 ?_
  refine aE ?_
  refine awp_seq ?_
  refine awp_to (st' := strconv_underscoreOK_x3_I vx2_1) (oT [] []) ?_
  refine bE hF fun x h19 hF => ?_
  obtain ⟨vx4_1, vx5_1, vx6_1⟩ := x
  refine awp_sub (strconv_underscoreOK_x3_ok vx2_1 h19) ?_
  refine awp_seq ?_
  refine awp_block ?_
  refine awp_to (st' := strconv_underscoreOK_x5_H vx2_1 vx6_1 (vx4_1, vx5_1)) (oT [] []) ?_
  refine bE hF fun x h37 hF => ?_
  rcases x with vx13_1 | _
  · refine awp_sub (awp_loop' (strconv_underscoreOK_x5_H vx2_1 vx6_1) strconv_underscoreOK_x5_k (strconv_underscoreOK_x5_S vx2_1 vx6_1) (by intro x; rcases x with x | x <;> exact fun h => nomatch h) h37 (strconv_underscoreOK_x5_ok vx2_1 vx6_1)) ?_
    refine awp_seq ?_
    refine awp_region ?_
    refine aR 3 ?_
    refine aE ?_
    refine awp_ret ?_
    exact oF hF [] []
  · refine awp_sub (awp_loop' (strconv_underscoreOK_x5_H vx2_1 vx6_1) strconv_underscoreOK_x5_k (strconv_underscoreOK_x5_S vx2_1 vx6_1) (by intro x; rcases x with x | x <;> exact fun h => nomatch h) h37 (strconv_underscoreOK_x5_ok vx2_1 vx6_1)) ?_
    exact oF hF [] []

/-! ### internal/strconv.ParseUint -/
def strconv_ParseUint_x2_k : Bool → AEx
  | _ => .normal

def strconv_ParseUint_x2_S (qx : List UInt8) (qx1 : Int) (qx2 : Int) : Bool → St
  | vx => Mem.st ⟨[], []⟩ (tl [(0, .v (.one (.d (.str qx)))), (1, .v (.one (.d (.int .i64 qx1)))), (2, .v (.one (.d (.int .i64 qx2)))), (8, .v (.one (.d (.bool (decide (qx1 = 0)))))), (9, .v (.one (.d (.str qx)))), (25, .v (.one (.d (.bool vx))))]) 0

def strconv_ParseUint_x2_I (qx : List UInt8) (qx1 : Int) (qx2 : Int) : St := Mem.st ⟨[], []⟩ (tl [(0, .v (.one (.d (.str qx)))), (1, .v (.one (.d (.int .i64 qx1)))), (2, .v (.one (.d (.int .i64 qx2)))), (8, .v (.one (.d (.bool (decide (qx1 = 0)))))), (9, .v (.one (.d (.str qx))))]) 0

theorem strconv_ParseUint_x2_ok (qx : List UInt8) (qx1 : Int) (qx2 : Int) {r} (hF : strconv_ParseUint_x2 qx1 = some r) : Awp prog 0 172 (cL (cL (cL (cR (cR (cR (cR (cB f178)))))))) (Out 0 strconv_ParseUint_x2_k (strconv_ParseUint_x2_S qx qx1 qx2) r) (strconv_ParseUint_x2_I qx qx1 qx2) := by
  unfold strconv_ParseUint_x2 at hF
  refine cE hF (fun h3 hF => ?_) fun h3 hF => ?_
  · refine awp_region ?_
    refine aR 1 ?_
    refine aB h3 ?_
    refine aR 5 ?_
    refine aE ?_
    exact oO hF [] [] rfl
  · refine awp_region ?_
    refine aR 1 ?_
    refine aB h3 ?_
    refine aR 5 ?_
    refine aE ?_
    exact oO hF [] [] rfl

def strconv_ParseUint_x3_k : Bool → AEx
  | _ => .normal

def strconv_ParseUint_x3_S (qx : List UInt8) (qx1 : Int) (qx2 : Int) : Bool → St
  | vx2 => Mem.st ⟨[], []⟩ (tl [(0, .v (.one (.d (.str qx)))), (2, .v (.one (.d (.int .i64 qx2)))), (8, .v (.one (.d (.bool (decide (qx1 = 0)))))), (9, .v (.one (.d (.str qx)))), (40, .v (.one (.d (.bool vx2))))]) 0

def strconv_ParseUint_x3_I (qx : List UInt8) (qx1 : Int) (qx2 : Int) : St := Mem.st ⟨[], []⟩ (tl [(0, .v (.one (.d (.str qx)))), (2, .v (.one (.d (.int .i64 qx2)))), (8, .v (.one (.d (.bool (decide (qx1 = 0)))))), (9, .v (.one (.d (.str qx))))]) 0

theorem strconv_ParseUint_x3_ok (qx : List UInt8) (qx1 : Int) (qx2 : Int) {r} (hF : strconv_ParseUint_x3 qx = some r) : Awp prog 0 172 (cL (cL (cL (cR (cR (cL (cR (cR (cR (cL (cL (cR (cR (cR (cR (cB f178)))))))))))))))) (Out 0 strconv_ParseUint_x3_k (strconv_ParseUint_x3_S qx qx1 qx2) r) (strconv_ParseUint_x3_I qx qx1 qx2) := by
  unfold strconv_ParseUint_x3 at hF
  refine cE hF (fun h9 hF => ?_) fun h9 hF => ?_
  · refine bE hF fun vc1 h10 hF => ?_
    refine bE hF fun _ h11 hF => ?_
    refine awp_region ?_
    refine aR 2 ?_
    refine aB h9 ?_
    refine aR 2 ?_
    refine aX (x_idxS h10) ?_
    refine aC (strconv_lower_ok h11) [] [] [] ?_
    refine aR 3 ?_
    refine aE ?_
    exact oO hF [] [] rfl
  · refine awp_region ?_
    refine aR 2 ?_
    refine aB h9 ?_
    refine aR 7 ?_
    refine aE ?_
    exact oO hF [] [] rfl

def strconv_ParseUint_x4_k : Bool → AEx
  | _ => .normal

def strconv_ParseUint_x4_S (qx : List UInt8) (qx1 : Int) (qx2 : Int) : Bool → St
  | vx3 => Mem.st ⟨[], []⟩ (tl [(0, .v (.one (.d (.str qx)))), (2, .v (.one (.d (.int .i64 qx2)))), (8, .v (.one (.d (.bool (decide (qx1 = 0)))))), (9, .v (.one (.d (.str qx)))), (52, .v (.one (.d (.bool vx3))))]) 0

def strconv_ParseUint_x4_I (qx : List UInt8) (qx1 : Int) (qx2 : Int) : St := Mem.st ⟨[], []⟩ (tl [(0, .v (.one (.d (.str qx)))), (2, .v (.one (.d (.int .i64 qx2)))), (8, .v (.one (.d (.bool (decide (qx1 = 0)))))), (9, .v (.one (.d (.str qx))))]) 0

theorem strconv_ParseUint_x4_ok (qx : List UInt8) (qx1 : Int) (qx2 : Int) {r} (hF : strconv_ParseUint_x4 qx = some r) : Awp prog 0 172 (cL (cR (cR (cL (cL (cR (cR (cL (cR (cR (cR (cL (cL (cR (cR (cR (cR (cB f178)))))))))))))))))) (Out 0 strconv_ParseUint_x4_k (strconv_ParseUint_x4_S qx qx1 qx2) r) (strconv_ParseUint_x4_I qx qx1 qx2) := by
  unfold strconv_ParseUint_x4 at hF
  refine cE hF (fun h15 hF => ?_) fun h15 hF => ?_
  · refine bE hF fun vc2 h16 hF => ?_
    refine bE hF fun _ h17 hF => ?_
    refine awp_region ?_
    refine aR 2 ?_
    refine aB h15 ?_
    refine aR 2 ?_
    refine aX (x_idxS h16) ?_
    refine aC (strconv_lower_ok h17) [] [] [] ?_
    refine aR 3 ?_
    refine aE ?_
    exact oO hF [] [] rfl
  · refine awp_region ?_
    refine aR 2 ?_
    refine aB h15 ?_
    refine aR 7 ?_
    refine aE ?_
    exact oO hF [] [] rfl

def strconv_ParseUint_x5_k : Bool → AEx
  | _ => .normal

def strconv_ParseUint_x5_S (qx : List UInt8) (qx1 : Int) (qx2 : Int) : Bool → St
  | vx4 => Mem.st ⟨[], []⟩ (tl [(0, .v (.one (.d (.str qx)))), (2, .v (.one (.d (.int .i64 qx2)))), (8, .v (.one (.d (.bool (decide (qx1 = 0)))))), (9, .v (.one (.d (.str qx)))), (64, .v (.one (.d (.bool vx4))))]) 0

def strconv_ParseUint_x5_I (qx : List UInt8) (qx1 : Int) (qx2 : Int) : St := Mem.st ⟨[], []⟩ (tl [(0, .v (.one (.d (.str qx)))), (2, .v (.one (.d (.int .i64 qx2)))), (8, .v (.one (.d (.bool (decide (qx1 = 0)))))), (9, .v (.one (.d (.str qx))))]) 0

theorem strconv_ParseUint_x5_ok (qx : List UInt8) (qx1 : Int) (qx2 : Int) {r} (hF : strconv_ParseUint_x5 qx = some r) : Awp prog 0 172 (cL (cR (cR (cR (cR (cL (cL (cR (cR (cL (cR (cR (cR (cL (cL (cR (cR (cR (cR (cB f178)))))))))))))))))))) (Out 0 strconv_ParseUint_x5_k (strconv_ParseUint_x5_S qx qx1 qx2) r) (strconv_ParseUint_x5_I qx qx1 qx2) := by
  unfold strconv_ParseUint_x5 at hF
  refine cE hF (fun h21 hF => ?_) fun h21 hF => ?_
  · refine bE hF fun vc3 h22 hF => ?_
    refine bE hF fun _ h23 hF => ?_
    refine awp_region ?_
    refine aR 2 ?_
    refine aB h21 ?_
    refine aR 2 ?_
    refine aX (x_idxS h22) ?_
    refine aC (strconv_lower_ok h23) [] [] [] ?_
    refine aR 3 ?_
    refine aE ?_
    exact oO hF [] [] rfl
  · refine awp_region ?_
    refine aR 2 ?_
    refine aB h21 ?_
    refine aR 7 ?_
    refine aE ?_
    exact oO hF [] [] rfl

def strconv_ParseUint_x1_k : ((List UInt8) × Int) → AEx
  | _ => .normal

def strconv_ParseUint_x1_S (qx : List UInt8) (qx1 : Int) (qx2 : Int) : ((List UInt8) × Int) → St
  | (vx5, vx6) => Mem.st ⟨[], []⟩ (tl [(0, .v (.one (.d (.str vx5)))), (1, .v (.one (.d (.int .i64 vx6)))), (2, .v (.one (.d (.int .i64 qx2)))), (8, .v (.one (.d (.bool (decide (qx1 = 0)))))), (9, .v (.one (.d (.str qx))))]) 0

def strconv_ParseUint_x1_I (qx : List UInt8) (qx1 : Int) (qx2 : Int) : St := Mem.st ⟨[], []⟩ (tl [(0, .v (.one (.d (.str qx)))), (1, .v (.one (.d (.int .i64 qx1)))), (2, .v (.one (.d (.int .i64 qx2)))), (8, .v (.one (.d (.bool (decide (qx1 = 0)))))), (9, .v (.one (.d (.str qx))))]) 0

theorem strconv_ParseUint_x1_ok (qx : List UInt8) (qx1 : Int) (qx2 : Int) {r} (hF : strconv_ParseUint_x1 qx qx1 = some r) : Awp prog 0 172 (cL (cR (cR (cR (cR (cB f178)))))) (Out 0 strconv_ParseUint_x1_k (strconv_ParseUint_x1_S qx qx1 qx2) r) (strconv_ParseUint_x1_I qx qx1 qx2) := by
  unfold strconv_ParseUint_x1 at hF
  refine awp_block ?_
  refine awp_seq ?_
  refine awp_to (st' := strconv_ParseUint_x2_I qx qx1 qx2) (oT [] []) ?_
  refine bE hF fun vx1 h4 hF => ?_
  refine awp_sub (strconv_ParseUint_x2_ok qx qx1 qx2 h4) ?_
  refine cE hF (fun h5 hF => ?_) fun h5 hF => ?_
  · refine awp_true (by kernel_rfl) h5 ?_
    refine awp_skip ?_
    exact oO hF [] [] rfl
  · refine awp_false (by kernel_rfl) h5 ?_
    refine awp_seq ?_
    refine awp_region ?_
    refine aR 3 ?_
    refine aE ?_
    refine cE hF (fun h6 hF => ?_) fun h6 hF => ?_
    · refine awp_true (by kernel_rfl) h6 ?_
      refine awp_seq ?_
      refine awp_region ?_
      refine aR 1 ?_
      refine aE ?_
      refine awp_seq ?_
      refine bE hF fun vc h7 hF => ?_
      refine awp_region ?_
      refine aR 1 ?_
      refine aX (x_idxS h7) ?_
      refine aR 1 ?_
      refine aE ?_
      refine cE hF (fun h8 hF => ?_) fun h8 hF => ?_
      · refine awp_true (by kernel_rfl) h8 ?_
        refine awp_block ?_
        refine awp_seq ?_
        refine awp_to (st' := strconv_ParseUint_x3_I qx qx1 qx2) (oT [] []) ?_
        refine bE hF fun vx2_1 h12 hF => ?_
        refine awp_sub (strconv_ParseUint_x3_ok qx qx1 qx2 h12) ?_
        refine cE hF (fun h13 hF => ?_) fun h13 hF => ?_
        · refine awp_true (by kernel_rfl) h13 ?_
          refine awp_seq ?_
          refine awp_region ?_
          refine aR 1 ?_
          refine aE ?_
          refine bE hF fun vs h14 hF => ?_
          refine awp_region ?_
          refine aR 1 ?_
          refine aX (x_sliceS h14) ?_
          refine aR 1 ?_
          refine aE ?_
          exact oO hF [] [] rfl
        · refine awp_false (by kernel_rfl) h13 ?_
          refine awp_seq ?_
          refine awp_to (st' := strconv_ParseUint_x4_I qx qx1 qx2) (oT [] []) ?_
          refine bE hF fun vx3_1 h18 hF => ?_
          refine awp_sub (strconv_ParseUint_x4_ok qx qx1 qx2 h18) ?_
          refine cE hF (fun h19 hF => ?_) fun h19 hF => ?_
          · refine awp_true (by kernel_rfl) h19 ?_
            refine awp_seq ?_
            refine awp_region ?_
            refine aR 1 ?_
            refine aE ?_
            refine bE hF fun vs1 h20 hF => ?_
            refine awp_region ?_
            refine aR 1 ?_
            refine aX (x_sliceS h20) ?_
            refine aR 1 ?_
            refine aE ?_
            exact oO hF [] [] rfl
          · refine awp_false (by kernel_rfl) h19 ?_
            refine awp_seq ?_
            refine awp_to (st' := strconv_ParseUint_x5_I qx qx1 qx2) (oT [] []) ?_
            refine bE hF fun vx4_1 h24 hF => ?_
            refine awp_sub (strconv_ParseUint_x5_ok qx qx1 qx2 h24) ?_
            refine cE hF (fun h25 hF => ?_) fun h25 hF => ?_
            · refine awp_true (by kernel_rfl) h25 ?_
              refine awp_seq ?_
              refine awp_region ?_
              refine aR 1 ?_
              refine aE ?_
              refine bE hF fun vs2 h26 hF => ?_
              refine awp_region ?_
              refine aR 1 ?_
              refine aX (x_sliceS h26) ?_
              refine aR 1 ?_
              refine aE ?_
              exact oO hF [] [] rfl
            · refine awp_false (by kernel_rfl) h25 ?_
              refine awp_seq ?_
              refine awp_region ?_
              refine aR 1 ?_
              refine aE ?_
              refine bE hF fun vs3 h27 hF => ?_
              refine awp_region ?_
              refine aR 1 ?_
              refine aX (x_sliceS h27) ?_
              refine aR 1 ?_
              refine aE ?_
              exact oO hF [] [] rfl
      · refine awp_false (by kernel_rfl) h8 ?_
        refine awp_skip ?_
        exact oO hF [] [] rfl
    · refine awp_false (by kernel_rfl) h6 ?_
      refine awp_seq ?_
      exact nE hF

def strconv_ParseUint_x7_k : Bool → AEx
  | _ => .normal

def strconv_ParseUint_x7_S (qx : List UInt8) (qx1 : Int) (qx2 : Int) (vx5_1 : List UInt8) (vx6_1 : Int) : Bool → St
  | vx7 => Mem.st ⟨[], []⟩ (tl [(0, .v (.one (.d (.str vx5_1)))), (1, .v (.one (.d (.int .i64 vx6_1)))), (2, .v (.one (.d (.int .i64 qx2)))), (8, .v (.one (.d (.bool (decide (qx1 = 0)))))), (9, .v (.one (.d (.str qx)))), (83, .v (.one (.d (.bool vx7))))]) 0

def strconv_ParseUint_x7_I (qx : List UInt8) (qx1 : Int) (qx2 : Int) (vx5_1 : List UInt8) (vx6_1 : Int) : St := Mem.st ⟨[], []⟩ (tl [(0, .v (.one (.d (.str vx5_1)))), (1, .v (.one (.d (.int .i64 vx6_1)))), (2, .v (.one (.d (.int .i64 qx2)))), (8, .v (.one (.d (.bool (decide (qx1 = 0)))))), (9, .v (.one (.d (.str qx))))]) 0

theorem strconv_ParseUint_x7_ok (qx : List UInt8) (qx1 : Int) (qx2 : Int) (vx5_1 : List UInt8) (vx6_1 : Int) {r} (hF : strconv_ParseUint_x7 qx2 = some r) : Awp prog 0 172 (cL (cR (cR (cL (cR (cR (cR (cR (cR (cB f178)))))))))) (Out 0 strconv_ParseUint_x7_k (strconv_ParseUint_x7_S qx qx1 qx2 vx5_1 vx6_1) r) (strconv_ParseUint_x7_I qx qx1 qx2 vx5_1 vx6_1) := by
  unfold strconv_ParseUint_x7 at hF
  refine cE hF (fun h31 hF => ?_) fun h31 hF => ?_
  · refine awp_region ?_
    refine aR 1 ?_
    refine aB h31 ?_
    refine aR 4 ?_
    refine aE ?_
    exact oO hF [] [] rfl
  · refine awp_region ?_
    refine aR 1 ?_
    refine aB h31 ?_
    refine aR 4 ?_
    refine aE ?_
    exact oO hF [] [] rfl

def strconv_ParseUint_x6_k : Int → AEx
  | _ => .normal

def strconv_ParseUint_x6_S (qx : List UInt8) (qx1 : Int) (qx2 : Int) (vx5_1 : List UInt8) (vx6_1 : Int) : Int → St
  | vx8 => Mem.st ⟨[], []⟩ (tl [(0, .v (.one (.d (.str vx5_1)))), (1, .v (.one (.d (.int .i64 vx6_1)))), (2, .v (.one (.d (.int .i64 vx8)))), (8, .v (.one (.d (.bool (decide (qx1 = 0)))))), (9, .v (.one (.d (.str qx))))]) 0

def strconv_ParseUint_x6_I (qx : List UInt8) (qx1 : Int) (qx2 : Int) (vx5_1 : List UInt8) (vx6_1 : Int) : St := Mem.st ⟨[], []⟩ (tl [(0, .v (.one (.d (.str vx5_1)))), (1, .v (.one (.d (.int .i64 vx6_1)))), (2, .v (.one (.d (.int .i64 qx2)))), (8, .v (.one (.d (.bool (decide (qx1 = 0)))))), (9, .v (.one (.d (.str qx))))]) 0

theorem strconv_ParseUint_x6_ok (qx : List UInt8) (qx1 : Int) (qx2 : Int) (vx5_1 : List UInt8) (vx6_1 : Int) {r} (hF : strconv_ParseUint_x6 qx2 = some r) : Awp prog 0 172 (cL (cR (cR (cR (cR (cR (cB f178))))))) (Out 0 strconv_ParseUint_x6_k (strconv_ParseUint_x6_S qx qx1 qx2 vx5_1 vx6_1) r) (strconv_ParseUint_x6_I qx qx1 qx2 vx5_1 vx6_1) := by
  unfold strconv_ParseUint_x6 at hF
  refine awp_seq ?_
  refine awp_region ?_
  refine aR 2 ?_
  refine aE ?_
  refine cE hF (fun h30 hF => ?_) fun h30 hF => ?_
  · refine awp_true (by kernel_rfl) h30 ?_
    refine awp_region ?_
    refine aR 1 ?_
    refine aE ?_
    exact oO hF [] [] rfl
  · refine awp_false (by kernel_rfl) h30 ?_
    refine awp_seq ?_
    refine awp_to (st' := strconv_ParseUint_x7_I qx qx1 qx2 vx5_1 vx6_1) (oT [] []) ?_
    refine bE hF fun vx7_1 h32 hF => ?_
    refine awp_sub (strconv_ParseUint_x7_ok qx qx1 qx2 vx5_1 vx6_1 h32) ?_
    refine cE hF (fun h33 hF => ?_) fun h33 hF => ?_
    · refine awp_true (by kernel_rfl) h33 ?_
      refine awp_seq ?_
      exact nE hF
    · refine awp_false (by kernel_rfl) h33 ?_
      refine awp_skip ?_
      exact oO hF [] [] rfl

def strconv_ParseUint_x8_k : Int → AEx
  | _ => .normal

def strconv_ParseUint_x8_S (qx : List UInt8) (qx1 : Int) (vx5_1 : List UInt8) (vx6_1 : Int) (vx8_1 : Int) : Int → St
  | vx9 => Mem.st ⟨[], []⟩ (tl [(0, .v (.one (.d (.str vx5_1)))), (1, .v (.one (.d (.int .i64 vx6_1)))), (2, .v (.one (.d (.int .i64 vx8_1)))), (8, .v (.one (.d (.bool (decide (qx1 = 0)))))), (9, .v (.one (.d (.str qx)))), (10, .v (.one (.d (.int .u64 vx9))))]) 0

def strconv_ParseUint_x8_I (qx : List UInt8) (qx1 : Int) (vx5_1 : List UInt8) (vx6_1 : Int) (vx8_1 : Int) : St := Mem.st ⟨[], []⟩ (tl [(0, .v (.one (.d (.str vx5_1)))), (1, .v (.one (.d (.int .i64 vx6_1)))), (2, .v (.one (.d (.int .i64 vx8_1)))), (8, .v (.one (.d (.bool (decide (qx1 = 0)))))), (9, .v (.one (.d (.str qx))))]) 0

theorem strconv_ParseUint_x8_ok (qx : List UInt8) (qx1 : Int) (vx5_1 : List UInt8) (vx6_1 : Int) (vx8_1 : Int) {r} (hF : strconv_ParseUint_x8 vx6_1 = some r) : Awp prog 0 172 (cL (cR (cR (cR (cR (cR (cR (cR (cB f178))))))))) (Out 0 strconv_ParseUint_x8_k (strconv_ParseUint_x8_S qx qx1 vx5_1 vx6_1 vx8_1) r) (strconv_ParseUint_x8_I qx qx1 vx5_1 vx6_1 vx8_1) := by
  unfold strconv_ParseUint_x8 at hF
  refine awp_seq ?_
  refine awp_region ?_
  refine aR 1 ?_
  refine aE ?_
  refine awp_block ?_
  refine awp_seq ?_
  refine awp_region ?_
  refine aR 2 ?_
  refine aE ?_
  refine cE hF (fun h36 hF => ?_) fun h36 hF => ?_
  · refine awp_true (by kernel_rfl) h36 ?_
    refine awp_region ?_
    refine aR 1 ?_
    refine aE ?_
    exact oO hF [] [] rfl
  · refine awp_false (by kernel_rfl) h36 ?_
    refine awp_seq ?_
    refine awp_region ?_
    refine aR 2 ?_
    refine aE ?_
    refine cE hF (fun h37 hF => ?_) fun h37 hF => ?_
    · refine awp_true (by kernel_rfl) h37 ?_
      refine awp_region ?_
      refine aR 1 ?_
      refine aE ?_
      exact oO hF [] [] rfl
    · refine awp_false (by kernel_rfl) h37 ?_
      refine gE hF fun h38 hF => ?_
      refine awp_region ?_
      refine aR 2 ?_
      refine aX (x_quo h38) ?_
      refine aR 2 ?_
      refine aE ?_
      exact oO hF [] [] rfl

def strconv_ParseUint_x12_k : Bool → AEx
  | _ => .normal

def strconv_ParseUint_x12_S (qx : List UInt8) (qx1 : Int) (vx5_1 : List UInt8) (vx6_1 : Int) (vx8_1 : Int) (vx9_1 : Int) (vx10 : Bool) (vx11 : Int) (vx12 : Int) (vy1 : Int) : Bool → St
  | vx20 => Mem.st ⟨[], []⟩ (tl [(1, .v (.one (.d (.int .i64 vx6_1)))), (8, .v (.one (.d (.bool (decide (qx1 = 0)))))), (9, .v (.one (.d (.str qx)))), (10, .v (.one (.d (.int .u64 vx9_1)))), (11, .v (.one (.d (.int .u64 (IntKind.wrap .u64 ((ishl .u64 1 (IntKind.wrap .u64 (vx8_1))) - 1)))))), (12, .v (.one (.d (.bool vx10)))), (13, .v (.one (.d (.int .u64 vx11)))), (15, .v (.one (.d (.int .u8 vy1)))), (99, .v (.one (.d (.lst (List.map (encI .u8) (bytesD vx5_1)))))), (100, .v (.one (.d (.int .i64 ((bytesD vx5_1).length : Int))))), (101, .v (.one (.d (.int .i64 vx12)))), (106, .v (.one (.d (.bool vx20))))]) 0

def strconv_ParseUint_x12_I (qx : List UInt8) (qx1 : Int) (vx5_1 : List UInt8) (vx6_1 : Int) (vx8_1 : Int) (vx9_1 : Int) (vx10 : Bool) (vx11 : Int) (vx12 : Int) (vy1 : Int) : St := Mem.st ⟨[], []⟩ (tl [(1, .v (.one (.d (.int .i64 vx6_1)))), (8, .v (.one (.d (.bool (decide (qx1 = 0)))))), (9, .v (.one (.d (.str qx)))), (10, .v (.one (.d (.int .u64 vx9_1)))), (11, .v (.one (.d (.int .u64 (IntKind.wrap .u64 ((ishl .u64 1 (IntKind.wrap .u64 (vx8_1))) - 1)))))), (12, .v (.one (.d (.bool vx10)))), (13, .v (.one (.d (.int .u64 vx11)))), (15, .v (.one (.d (.int .u8 vy1)))), (99, .v (.one (.d (.lst (List.map (encI .u8) (bytesD vx5_1)))))), (100, .v (.one (.d (.int .i64 ((bytesD vx5_1).length : Int))))), (101, .v (.one (.d (.int .i64 vx12))))]) 0

theorem strconv_ParseUint_x12_ok (qx : List UInt8) (qx1 : Int) (vx5_1 : List UInt8) (vx6_1 : Int) (vx8_1 : Int) (vx9_1 : Int) (vx10 : Bool) (vx11 : Int) (vx12 : Int) (vy1 : Int) {r} (hF : strconv_ParseUint_x12 qx1 vy1 = some r) : Awp prog 0 172 (cL (cL (cL (cR (cR (cL (cL (cR (cR (cL (cL (cR (cL (cR (cR (cR (cR (cR (cR (cR (cR (cR (cR (cR (cB f178))))))))))))))))))))))))) (Out 0 strconv_ParseUint_x12_k (strconv_ParseUint_x12_S qx qx1 vx5_1 vx6_1 vx8_1 vx9_1 vx10 vx11 vx12 vy1) r) (strconv_ParseUint_x12_I qx qx1 vx5_1 vx6_1 vx8_1 vx9_1 vx10 vx11 vx12 vy1) := by
  unfold strconv_ParseUint_x12 at hF
  refine cE hF (fun h43 hF => ?_) fun h43 hF => ?_
  · refine awp_region ?_
    refine aR 1 ?_
    refine aB h43 ?_
    refine aR 4 ?_
    refine aE ?_
    exact oO hF [] [] rfl
  · refine awp_region ?_
    refine aR 1 ?_
    refine aB h43 ?_
    refine aR 4 ?_
    refine aE ?_
    exact oO hF [] [] rfl

def strconv_ParseUint_x13_k : Bool → AEx
  | _ => .normal

def strconv_ParseUint_x13_S (qx : List UInt8) (qx1 : Int) (vx5_1 : List UInt8) (vx6_1 : Int) (vx8_1 : Int) (vx9_1 : Int) (vx10 : Bool) (vx11 : Int) (vx12 : Int) (vy1 : Int) : Bool → St
  | vx21 => Mem.st ⟨[], []⟩ (tl [(1, .v (.one (.d (.int .i64 vx6_1)))), (8, .v (.one (.d (.bool (decide (qx1 = 0)))))), (9, .v (.one (.d (.str qx)))), (10, .v (.one (.d (.int .u64 vx9_1)))), (11, .v (.one (.d (.int .u64 (IntKind.wrap .u64 ((ishl .u64 1 (IntKind.wrap .u64 (vx8_1))) - 1)))))), (12, .v (.one (.d (.bool vx10)))), (13, .v (.one (.d (.int .u64 vx11)))), (15, .v (.one (.d (.int .u8 vy1)))), (99, .v (.one (.d (.lst (List.map (encI .u8) (bytesD vx5_1)))))), (100, .v (.one (.d (.int .i64 ((bytesD vx5_1).length : Int))))), (101, .v (.one (.d (.int .i64 vx12)))), (112, .v (.one (.d (.bool vx21))))]) 0

def strconv_ParseUint_x13_I (qx : List UInt8) (qx1 : Int) (vx5_1 : List UInt8) (vx6_1 : Int) (vx8_1 : Int) (vx9_1 : Int) (vx10 : Bool) (vx11 : Int) (vx12 : Int) (vy1 : Int) : St := Mem.st ⟨[], []⟩ (tl [(1, .v (.one (.d (.int .i64 vx6_1)))), (8, .v (.one (.d (.bool (decide (qx1 = 0)))))), (9, .v (.one (.d (.str qx)))), (10, .v (.one (.d (.int .u64 vx9_1)))), (11, .v (.one (.d (.int .u64 (IntKind.wrap .u64 ((ishl .u64 1 (IntKind.wrap .u64 (vx8_1))) - 1)))))), (12, .v (.one (.d (.bool vx10)))), (13, .v (.one (.d (.int .u64 vx11)))), (15, .v (.one (.d (.int .u8 vy1)))), (99, .v (.one (.d (.lst (List.map (encI .u8) (bytesD vx5_1)))))), (100, .v (.one (.d (.int .i64 ((bytesD vx5_1).length : Int))))), (101, .v (.one (.d (.int .i64 vx12))))]) 0

theorem strconv_ParseUint_x13_ok (qx : List UInt8) (qx1 : Int) (vx5_1 : List UInt8) (vx6_1 : Int) (vx8_1 : Int) (vx9_1 : Int) (vx10 : Bool) (vx11 : Int) (vx12 : Int) (vy1 : Int) {r} (hF : strconv_ParseUint_x13 vy1 = some r) : Awp prog 0 172 (cL (cR (cR (cL (cL (cR (cR (cL (cL (cR (cR (cL (cL (cR (cL (cR (cR (cR (cR (cR (cR (cR (cR (cR (cR (cR (cB f178))))))))))))))))))))))))))) (Out 0 strconv_ParseUint_x13_k (strconv_ParseUint_x13_S qx qx1 vx5_1 vx6_1 vx8_1 vx9_1 vx10 vx11 vx12 vy1) r) (strconv_ParseUint_x13_I qx qx1 vx5_1 vx6_1 vx8_1 vx9_1 vx10 vx11 vx12 vy1) := by
  unfold strconv_ParseUint_x13 at hF
  refine cE hF (fun h46 hF => ?_) fun h46 hF => ?_
  · refine awp_region ?_
    refine aR 1 ?_
    refine aB h46 ?_
    refine aR 5 ?_
    refine aE ?_
    exact oO hF [] [] rfl
  · refine awp_region ?_
    refine aR 1 ?_
    refine aB h46 ?_
    refine aR 5 ?_
    refine aE ?_
    exact oO hF [] [] rfl

def strconv_ParseUint_x14_k : Bool → AEx
  | _ => .normal

def strconv_ParseUint_x14_S (qx : List UInt8) (qx1 : Int) (vx5_1 : List UInt8) (vx6_1 : Int) (vx8_1 : Int) (vx9_1 : Int) (vx10 : Bool) (vx11 : Int) (vx12 : Int) (vy1 : Int) : Bool → St
  | vx22 => Mem.st ⟨[], []⟩ (tl [(1, .v (.one (.d (.int .i64 vx6_1)))), (8, .v (.one (.d (.bool (decide (qx1 = 0)))))), (9, .v (.one (.d (.str qx)))), (10, .v (.one (.d (.int .u64 vx9_1)))), (11, .v (.one (.d (.int .u64 (IntKind.wrap .u64 ((ishl .u64 1 (IntKind.wrap .u64 (vx8_1))) - 1)))))), (12, .v (.one (.d (.bool vx10)))), (13, .v (.one (.d (.int .u64 vx11)))), (15, .v (.one (.d (.int .u8 vy1)))), (99, .v (.one (.d (.lst (List.map (encI .u8) (bytesD vx5_1)))))), (100, .v (.one (.d (.int .i64 ((bytesD vx5_1).length : Int))))), (101, .v (.one (.d (.int .i64 vx12)))), (121, .v (.one (.d (.bool vx22))))]) 0

def strconv_ParseUint_x14_I (qx : List UInt8) (qx1 : Int) (vx5_1 : List UInt8) (vx6_1 : Int) (vx8_1 : Int) (vx9_1 : Int) (vx10 : Bool) (vx11 : Int) (vx12 : Int) (vy1 : Int) : St := Mem.st ⟨[], []⟩ (tl [(1, .v (.one (.d (.int .i64 vx6_1)))), (8, .v (.one (.d (.bool (decide (qx1 = 0)))))), (9, .v (.one (.d (.str qx)))), (10, .v (.one (.d (.int .u64 vx9_1)))), (11, .v (.one (.d (.int .u64 (IntKind.wrap .u64 ((ishl .u64 1 (IntKind.wrap .u64 (vx8_1))) - 1)))))), (12, .v (.one (.d (.bool vx10)))), (13, .v (.one (.d (.int .u64 vx11)))), (15, .v (.one (.d (.int .u8 vy1)))), (99, .v (.one (.d (.lst (List.map (encI .u8) (bytesD vx5_1)))))), (100, .v (.one (.d (.int .i64 ((bytesD vx5_1).length : Int))))), (101, .v (.one (.d (.int .i64 vx12))))]) 0

theorem strconv_ParseUint_x14_ok (qx : List UInt8) (qx1 : Int) (vx5_1 : List UInt8) (vx6_1 : Int) (vx8_1 : Int) (vx9_1 : Int) (vx10 : Bool) (vx11 : Int) (vx12 : Int) (vy1 : Int) {r} (hF : strconv_ParseUint_x14 vy1 = some r) : Awp prog 0 172 (cL (cR (cR (cR (cR (cL (cL (cR (cR (cL (cL (cR (cR (cL (cL (cR (cL (cR (cR (cR (cR (cR (cR (cR (cR (cR (cR (cR (cB f178))))))))))))))))))))))))))))) (Out 0 strconv_ParseUint_x14_k (strconv_ParseUint_x14_S qx qx1 vx5_1 vx6_1 vx8_1 vx9_1 vx10 vx11 vx12 vy1) r) (strconv_ParseUint_x14_I qx qx1 vx5_1 vx6_1 vx8_1 vx9_1 vx10 vx11 vx12 vy1) := by
  unfold strconv_ParseUint_x14 at hF
  refine bE hF fun _ h49 hF => ?_
  refine cE hF (fun h50 hF => ?_) fun h50 hF => ?_
  · refine awp_region ?_
    refine aR 1 ?_
    refine aC (strconv_lower_ok h49) [] [] [] ?_
    refine aB h50 ?_
    refine aR 2 ?_
    refine aC (strconv_lower_ok h49) [] [] [] ?_
    refine aR 3 ?_
    refine aE ?_
    exact oO hF [] [] rfl
  · refine awp_region ?_
    refine aR 1 ?_
    refine aC (strconv_lower_ok h49) [] [] [] ?_
    refine aB h50 ?_
    refine aR 6 ?_
    refine aE ?_
    exact oO hF [] [] rfl

def strconv_ParseUint_x11_k : Int ⊕ Unit → AEx
  | .inl _ => .normal
  | .inr _ => .exit 4

def strconv_ParseUint_x11_S (qx : List UInt8) (qx1 : Int) (vx5_1 : List UInt8) (vx6_1 : Int) (vx8_1 : Int) (vx9_1 : Int) (vx10 : Bool) (vx11 : Int) (vx12 : Int) (vy1 : Int) : Int ⊕ Unit → St
  | .inl vx23 => Mem.st ⟨[], []⟩ (tl [(1, .v (.one (.d (.int .i64 vx6_1)))), (8, .v (.one (.d (.bool (decide (qx1 = 0)))))), (9, .v (.one (.d (.str qx)))), (10, .v (.one (.d (.int .u64 vx9_1)))), (11, .v (.one (.d (.int .u64 (IntKind.wrap .u64 ((ishl .u64 1 (IntKind.wrap .u64 (vx8_1))) - 1)))))), (12, .v (.one (.d (.bool vx10)))), (13, .v (.one (.d (.int .u64 vx11)))), (16, .v (.one (.d (.int .u8 vx23)))), (99, .v (.one (.d (.lst (List.map (encI .u8) (bytesD vx5_1)))))), (100, .v (.one (.d (.int .i64 ((bytesD vx5_1).length : Int))))), (101, .v (.one (.d (.int .i64 vx12))))]) 0
  | .inr _ => Mem.st ⟨[], []⟩ (tl [(1, .v (.one (.d (.int .i64 vx6_1)))), (8, .v (.one (.d (.bool (decide (qx1 = 0)))))), (9, .v (.one (.d (.str qx)))), (10, .v (.one (.d (.int .u64 vx9_1)))), (11, .v (.one (.d (.int .u64 (IntKind.wrap .u64 ((ishl .u64 1 (IntKind.wrap .u64 (vx8_1))) - 1)))))), (12, .v (.one (.d (.bool true)))), (13, .v (.one (.d (.int .u64 vx11)))), (99, .v (.one (.d (.lst (List.map (encI .u8) (bytesD vx5_1)))))), (100, .v (.one (.d (.int .i64 ((bytesD vx5_1).length : Int))))), (101, .v (.one (.d (.int .i64 vx12))))]) 0

def strconv_ParseUint_x11_I (qx : List UInt8) (qx1 : Int) (vx5_1 : List UInt8) (vx6_1 : Int) (vx8_1 : Int) (vx9_1 : Int) (vx10 : Bool) (vx11 : Int) (vx12 : Int) (vy1 : Int) : St := Mem.st ⟨[], []⟩ (tl [(1, .v (.one (.d (.int .i64 vx6_1)))), (8, .v (.one (.d (.bool (decide (qx1 = 0)))))), (9, .v (.one (.d (.str qx)))), (10, .v (.one (.d (.int .u64 vx9_1)))), (11, .v (.one (.d (.int .u64 (IntKind.wrap .u64 ((ishl .u64 1 (IntKind.wrap .u64 (vx8_1))) - 1)))))), (12, .v (.one (.d (.bool vx10)))), (13, .v (.one (.d (.int .u64 vx11)))), (15, .v (.one (.d (.int .u8 vy1)))), (99, .v (.one (.d (.lst (List.map (encI .u8) (bytesD vx5_1)))))), (100, .v (.one (.d (.int .i64 ((bytesD vx5_1).length : Int))))), (101, .v (.one (.d (.int .i64 vx12))))]) 0

theorem strconv_ParseUint_x11_ok (qx : List UInt8) (qx1 : Int) (vx5_1 : List UInt8) (vx6_1 : Int) (vx8_1 : Int) (vx9_1 : Int) (vx10 : Bool) (vx11 : Int) (vx12 : Int) (vy1 : Int) {r} (hF : strconv_ParseUint_x11 qx1 vy1 = some r) : Awp prog 0 172 (cL (cR (cR (cL (cL (cR (cR (cL (cL (cR (cL (cR (cR (cR (cR (cR (cR (cR (cR (cR (cR (cR (cB f178))))))))))))))))))))))) (Out 0 strconv_ParseUint_x11_k (strconv_ParseUint_x11_S qx qx1 vx5_1 vx6_1 vx8_1 vx9_1 vx10 vx11 vx12 vy1) r) (strconv_ParseUint_x11_I qx qx1 vx5_1 vx6_1 vx8_1 vx9_1 vx10 vx11 vx12 vy1) := by
  unfold strconv_ParseUint_x11 at hF
  refine awp_block ?_
  refine awp_seq ?_
  refine awp_to (st' := strconv_ParseUint_x12_I qx qx1 vx5_1 vx6_1 vx8_1 vx9_1 vx10 vx11 vx12 vy1) (oT [] []) ?_
  refine bE hF fun vx20_1 h44 hF => ?_
  refine awp_sub (strconv_ParseUint_x12_ok qx qx1 vx5_1 vx6_1 vx8_1 vx9_1 vx10 vx11 vx12 vy1 h44) ?_
  refine cE hF (fun h45 hF => ?_) fun h45 hF => ?_
  · refine awp_true (by kernel_rfl) h45 ?_
    refine awp_seq ?_
    refine awp_region ?_
    refine aR 1 ?_
    refine aE ?_
    refine awp_exit ?_
    exact oO hF [] [] rfl
  · refine awp_false (by kernel_rfl) h45 ?_
    refine awp_seq ?_
    refine awp_to (st' := strconv_ParseUint_x13_I qx qx1 vx5_1 vx6_1 vx8_1 vx9_1 vx10 vx11 vx12 vy1) (oT [] []) ?_
    refine bE hF fun vx21_1 h47 hF => ?_
    refine awp_sub (strconv_ParseUint_x13_ok qx qx1 vx5_1 vx6_1 vx8_1 vx9_1 vx10 vx11 vx12 vy1 h47) ?_
    refine cE hF (fun h48 hF => ?_) fun h48 hF => ?_
    · refine awp_true (by kernel_rfl) h48 ?_
      refine awp_region ?_
      refine aR 3 ?_
      refine aE ?_
      exact oO hF [] [] rfl
    · refine awp_false (by kernel_rfl) h48 ?_
      refine awp_seq ?_
      refine awp_to (st' := strconv_ParseUint_x14_I qx qx1 vx5_1 vx6_1 vx8_1 vx9_1 vx10 vx11 vx12 vy1) (oT [] []) ?_
      refine bE hF fun vx22_1 h51 hF => ?_
      refine awp_sub (strconv_ParseUint_x14_ok qx qx1 vx5_1 vx6_1 vx8_1 vx9_1 vx10 vx11 vx12 vy1 h51) ?_
      refine cE hF (fun h52 hF => ?_) fun h52 hF => ?_
      · refine awp_true (by kernel_rfl) h52 ?_
        refine bE hF fun _ h53 hF => ?_
        refine awp_region ?_
        refine aR 1 ?_
        refine aC (strconv_lower_ok h53) [] [] [] ?_
        refine aR 3 ?_
        refine aE ?_
        exact oO hF [] [] rfl
      · refine awp_false (by kernel_rfl) h52 ?_
        refine awp_seq ?_
        exact nE hF

def strconv_ParseUint_x15_k : Bool → AEx
  | _ => .normal

def strconv_ParseUint_x15_S (qx : List UInt8) (qx1 : Int) (vx5_1 : List UInt8) (vx6_1 : Int) (vx8_1 : Int) (vx9_1 : Int) (vx10 : Bool) (vx11 : Int) (vx12 : Int) (vx23_1 : Int) : Bool → St
  | vx24 => Mem.st ⟨[], []⟩ (tl [(1, .v (.one (.d (.int .i64 vx6_1)))), (8, .v (.one (.d (.bool (decide (qx1 = 0)))))), (9, .v (.one (.d (.str qx)))), (10, .v (.one (.d (.int .u64 vx9_1)))), (11, .v (.one (.d (.int .u64 (IntKind.wrap .u64 ((ishl .u64 1 (IntKind.wrap .u64 (vx8_1))) - 1)))))), (12, .v (.one (.d (.bool vx10)))), (17, .v (.one (.d (.int .u64 (IntKind.wrap .u64 ((IntKind.wrap .u64 (vx11 * (IntKind.wrap .u64 (vx6_1)))) + (IntKind.wrap .u64 (vx23_1)))))))), (99, .v (.one (.d (.lst (List.map (encI .u8) (bytesD vx5_1)))))), (100, .v (.one (.d (.int .i64 ((bytesD vx5_1).length : Int))))), (101, .v (.one (.d (.int .i64 vx12)))), (159, .v (.one (.d (.bool vx24))))]) 0

def strconv_ParseUint_x15_I (qx : List UInt8) (qx1 : Int) (vx5_1 : List UInt8) (vx6_1 : Int) (vx8_1 : Int) (vx9_1 : Int) (vx10 : Bool) (vx11 : Int) (vx12 : Int) (vx23_1 : Int) : St := Mem.st ⟨[], []⟩ (tl [(1, .v (.one (.d (.int .i64 vx6_1)))), (8, .v (.one (.d (.bool (decide (qx1 = 0)))))), (9, .v (.one (.d (.str qx)))), (10, .v (.one (.d (.int .u64 vx9_1)))), (11, .v (.one (.d (.int .u64 (IntKind.wrap .u64 ((ishl .u64 1 (IntKind.wrap .u64 (vx8_1))) - 1)))))), (12, .v (.one (.d (.bool vx10)))), (13, .v (.one (.d (.int .u64 (IntKind.wrap .u64 (vx11 * (IntKind.wrap .u64 (vx6_1)))))))), (17, .v (.one (.d (.int .u64 (IntKind.wrap .u64 ((IntKind.wrap .u64 (vx11 * (IntKind.wrap .u64 (vx6_1)))) + (IntKind.wrap .u64 (vx23_1)))))))), (99, .v (.one (.d (.lst (List.map (encI .u8) (bytesD vx5_1)))))), (100, .v (.one (.d (.int .i64 ((bytesD vx5_1).length : Int))))), (101, .v (.one (.d (.int .i64 vx12))))]) 0

theorem strconv_ParseUint_x15_ok (qx : List UInt8) (qx1 : Int) (vx5_1 : List UInt8) (vx6_1 : Int) (vx8_1 : Int) (vx9_1 : Int) (vx10 : Bool) (vx11 : Int) (vx12 : Int) (vx23_1 : Int) {r} (hF : strconv_ParseUint_x15 vx6_1 vx8_1 vx11 vx23_1 = some r) : Awp prog 0 172 (cL (cL (cR (cR (cR (cR (cR (cR (cR (cL (cL (cR (cR (cL (cL (cR (cL (cR (cR (cR (cR (cR (cR (cR (cR (cR (cR (cR (cB f178))))))))))))))))))))))))))))) (Out 0 strconv_ParseUint_x15_k (strconv_ParseUint_x15_S qx qx1 vx5_1 vx6_1 vx8_1 vx9_1 vx10 vx11 vx12 vx23_1) r) (strconv_ParseUint_x15_I qx qx1 vx5_1 vx6_1 vx8_1 vx9_1 vx10 vx11 vx12 vx23_1) := by
  unfold strconv_ParseUint_x15 at hF
  refine cE hF (fun h60 hF => ?_) fun h60 hF => ?_
  · refine awp_region ?_
    refine aR 2 ?_
    refine aB h60 ?_
    refine aR 5 ?_
    refine aE ?_
    exact oO hF [] [] rfl
  · refine awp_region ?_
    refine aR 2 ?_
    refine aB h60 ?_
    refine aR 5 ?_
    refine aE ?_
    exact oO hF [] [] rfl

def strconv_ParseUint_x10_k : (Bool × Int) → AEx
  | _ => .normal

def strconv_ParseUint_x10_S (qx : List UInt8) (qx1 : Int) (vx5_1 : List UInt8) (vx6_1 : Int) (vx8_1 : Int) (vx9_1 : Int) (vx10 : Bool) (vx11 : Int) (vx12 : Int) : (Bool × Int) → St
  | (vx25, vx26) => Mem.st ⟨[], []⟩ (tl [(1, .v (.one (.d (.int .i64 vx6_1)))), (8, .v (.one (.d (.bool (decide (qx1 = 0)))))), (9, .v (.one (.d (.str qx)))), (10, .v (.one (.d (.int .u64 vx9_1)))), (11, .v (.one (.d (.int .u64 (IntKind.wrap .u64 ((ishl .u64 1 (IntKind.wrap .u64 (vx8_1))) - 1)))))), (12, .v (.one (.d (.bool vx25)))), (13, .v (.one (.d (.int .u64 vx26)))), (99, .v (.one (.d (.lst (List.map (encI .u8) (bytesD vx5_1)))))), (100, .v (.one (.d (.int .i64 ((bytesD vx5_1).length : Int))))), (101, .v (.one (.d (.int .i64 vx12))))]) 0

def strconv_ParseUint_x10_I (qx : List UInt8) (qx1 : Int) (vx5_1 : List UInt8) (vx6_1 : Int) (vx8_1 : Int) (vx9_1 : Int) (vx10 : Bool) (vx11 : Int) (vx12 : Int) : St := Mem.st ⟨[], []⟩ (tl [(1, .v (.one (.d (.int .i64 vx6_1)))), (8, .v (.one (.d (.bool (decide (qx1 = 0)))))), (9, .v (.one (.d (.str qx)))), (10, .v (.one (.d (.int .u64 vx9_1)))), (11, .v (.one (.d (.int .u64 (IntKind.wrap .u64 ((ishl .u64 1 (IntKind.wrap .u64 (vx8_1))) - 1)))))), (12, .v (.one (.d (.bool vx10)))), (13, .v (.one (.d (.int .u64 vx11)))), (99, .v (.one (.d (.lst (List.map (encI .u8) (bytesD vx5_1)))))), (100, .v (.one (.d (.int .i64 ((bytesD vx5_1).length : Int))))), (101, .v (.one (.d (.int .i64 vx12))))]) 0

theorem strconv_ParseUint_x10_ok (qx : List UInt8) (qx1 : Int) (vx5_1 : List UInt8) (vx6_1 : Int) (vx8_1 : Int) (vx9_1 : Int) (vx10 : Bool) (vx11 : Int) (vx12 : Int) {r} (hF : strconv_ParseUint_x10 qx1 vx5_1 vx6_1 vx8_1 vx9_1 vx10 vx11 vx12 = some r) : Awp prog 0 172 (cL (cR (cR (cL (cL (cR (cL (cR (cR (cR (cR (cR (cR (cR (cR (cR (cR (cR (cB f178))))))))))))))))))) (Out 0 strconv_ParseUint_x10_k (strconv_ParseUint_x10_S qx qx1 vx5_1 vx6_1 vx8_1 vx9_1 vx10 vx11 vx12) r) (strconv_ParseUint_x10_I qx qx1 vx5_1 vx6_1 vx8_1 vx9_1 vx10 vx11 vx12) := by
  unfold strconv_ParseUint_x10 at hF
  refine awp_block ?_
  refine awp_seq ?_
  refine bE hF fun vy1 h42 hF => ?_
  refine awp_region ?_
  refine aX (x_idx (encI .u8) h42) ?_
  refine aR 2 ?_
  refine aE ?_
  refine awp_seq ?_
  refine awp_region ?_
  refine aR 1 ?_
  refine aE ?_
  refine awp_seq ?_
  refine awp_to (st' := strconv_ParseUint_x11_I qx qx1 vx5_1 vx6_1 vx8_1 vx9_1 vx10 vx11 vx12 vy1) (oT [] []) ?_
  refine bE hF fun x h55 hF => ?_
  rcases x with vx23_1 | _
  · refine awp_sub (strconv_ParseUint_x11_ok qx qx1 vx5_1 vx6_1 vx8_1 vx9_1 vx10 vx11 vx12 vy1 h55) ?_
    refine awp_seq ?_
    refine awp_seq ?_
    refine awp_region ?_
    refine aR 4 ?_
    refine aE ?_
    refine cE hF (fun h56 hF => ?_) fun h56 hF => ?_
    · refine awp_true (by kernel_rfl) h56 ?_
      refine awp_seq ?_
      exact nE hF
    · refine awp_false (by kernel_rfl) h56 ?_
      refine awp_skip ?_
      refine awp_seq ?_
      refine awp_seq ?_
      refine awp_region ?_
      refine aR 3 ?_
      refine aE ?_
      refine cE hF (fun h58 hF => ?_) fun h58 hF => ?_
      · refine awp_true (by kernel_rfl) h58 ?_
        refine awp_seq ?_
        exact nE hF
      · refine awp_false (by kernel_rfl) h58 ?_
        refine awp_skip ?_
        refine awp_seq ?_
        refine awp_region ?_
        refine aR 5 ?_
        refine aE ?_
        refine awp_seq ?_
        refine awp_region ?_
        refine aR 5 ?_
        refine aE ?_
        refine awp_seq ?_
        refine awp_seq ?_
        refine awp_to (st' := strconv_ParseUint_x15_I qx qx1 vx5_1 vx6_1 vx8_1 vx9_1 vx10 vx11 vx12 vx23_1) (oT [] []) ?_
        refine bE hF fun vx24_1 h61 hF => ?_
        refine awp_sub (strconv_ParseUint_x15_ok qx qx1 vx5_1 vx6_1 vx8_1 vx9_1 vx10 vx11 vx12 vx23_1 h61) ?_
        refine cE hF (fun h62 hF => ?_) fun h62 hF => ?_
        · refine awp_true (by kernel_rfl) h62 ?_
          refine awp_seq ?_
          exact nE hF
        · refine awp_false (by kernel_rfl) h62 ?_
          refine awp_skip ?_
          refine awp_region ?_
          refine aR 2 ?_
          refine aE ?_
          exact oO hF [] [] rfl
  · refine awp_sub (strconv_ParseUint_x11_ok qx qx1 vx5_1 vx6_1 vx8_1 vx9_1 vx10 vx11 vx12 vy1 h55) ?_
    exact oO hF [] [] rfl

def strconv_ParseUint_x9_k : (Bool × Int) → AEx
  | _ => .exit 3

def strconv_ParseUint_x9_S (qx : List UInt8) (qx1 : Int) (vx5_1 : List UInt8) (vx6_1 : Int) (vx8_1 : Int) (vx9_1 : Int) : (Bool × Int) → St
  | (vx27, vx28) => Mem.st ⟨[], []⟩ (tl [(9, .v (.one (.d (.str qx)))), (12, .v (.one (.d (.bool vx27)))), (13, .v (.one (.d (.int .u64 vx28))))]) 0

def strconv_ParseUint_x9_H (qx : List UInt8) (qx1 : Int) (vx5_1 : List UInt8) (vx6_1 : Int) (vx8_1 : Int) (vx9_1 : Int) : Bool × Int × Int → St
  | (vx10, vx11, vx12) => Mem.st ⟨[], []⟩ (tl [(1, .v (.one (.d (.int .i64 vx6_1)))), (8, .v (.one (.d (.bool (decide (qx1 = 0)))))), (9, .v (.one (.d (.str qx)))), (10, .v (.one (.d (.int .u64 vx9_1)))), (11, .v (.one (.d (.int .u64 (IntKind.wrap .u64 ((ishl .u64 1 (IntKind.wrap .u64 (vx8_1))) - 1)))))), (12, .v (.one (.d (.bool vx10)))), (13, .v (.one (.d (.int .u64 vx11)))), (99, .v (.one (.d (.lst (List.map (encI .u8) (bytesD vx5_1)))))), (100, .v (.one (.d (.int .i64 ((bytesD vx5_1).length : Int))))), (101, .v (.one (.d (.int .i64 vx12))))]) 0

theorem strconv_ParseUint_x9_ok (qx : List UInt8) (qx1 : Int) (vx5_1 : List UInt8) (vx6_1 : Int) (vx8_1 : Int) (vx9_1 : Int) (s : Bool × Int × Int) (r : (Bool × Int × Int) ⊕ ((Bool × Int))) (hF : strconv_ParseUint_x9 qx1 vx5_1 vx6_1 vx8_1 vx9_1 s = some r) : Awp prog 0 172 (cL (cL (cR (cL (cR (cR (cR (cR (cR (cR (cR (cR (cR (cR (cR (cB f178)))))))))))))))) (Out 0 (kk strconv_ParseUint_x9_k) (SS (strconv_ParseUint_x9_H qx qx1 vx5_1 vx6_1 vx8_1 vx9_1) (strconv_ParseUint_x9_S qx qx1 vx5_1 vx6_1 vx8_1 vx9_1)) r) (strconv_ParseUint_x9_H qx qx1 vx5_1 vx6_1 vx8_1 vx9_1 s) := by
  obtain ⟨vx10, vx11, vx12⟩ := s
  unfold strconv_ParseUint_x9 at hF
  refine awp_seq ?_
  refine awp_region ?_
  refine aR 1 ?_
  refine aE ?_
  refine awp_seq ?_
  refine cE hF (fun h41 hF => ?_) fun h41 hF => ?_
  · refine awp_true (by kernel_rfl) h41 ?_
    refine awp_skip ?_
    refine awp_seq ?_
    refine awp_to (st' := strconv_ParseUint_x10_I qx qx1 vx5_1 vx6_1 vx8_1 vx9_1 vx10 vx11 vx12) (oT [] []) ?_
    refine bE hF fun x h64 hF => ?_
    obtain ⟨vx25_1, vx26_1⟩ := x
    refine awp_sub (strconv_ParseUint_x10_ok qx qx1 vx5_1 vx6_1 vx8_1 vx9_1 vx10 vx11 vx12 h64) ?_
    refine awp_region ?_
    refine aR 2 ?_
    refine aE ?_
    exact oO hF [] [] rfl
  · refine awp_false (by kernel_rfl) h41 ?_
    refine awp_exit ?_
    exact oO hF [] [] rfl

def strconv_ParseUint_x16_k : Bool → AEx
  | _ => .normal

def strconv_ParseUint_x16_S (qx : List UInt8) (vx27_1 : Bool) (vx28_1 : Int) : Bool → St
  | vx29 => Mem.st ⟨[], []⟩ (tl [(13, .v (.one (.d (.int .u64 vx28_1)))), (169, .v (.one (.d (.bool vx29))))]) 0

def strconv_ParseUint_x16_I (qx : List UInt8) (vx27_1 : Bool) (vx28_1 : Int) : St := Mem.st ⟨[], []⟩ (tl [(9, .v (.one (.d (.str qx)))), (12, .v (.one (.d (.bool vx27_1)))), (13, .v (.one (.d (.int .u64 vx28_1))))]) 0

theorem strconv_ParseUint_x16_ok (qx : List UInt8) (vx27_1 : Bool) (vx28_1 : Int) {r} (hF : strconv_ParseUint_x16 qx vx27_1 = some r) : Awp prog 0 172 (cL (cL (cR (cR (cR (cR (cR (cR (cR (cR (cR (cR (cR (cR (cB f178))))))))))))))) (Out 0 strconv_ParseUint_x16_k (strconv_ParseUint_x16_S qx vx27_1 vx28_1) r) (strconv_ParseUint_x16_I qx vx27_1 vx28_1) := by
  unfold strconv_ParseUint_x16 at hF
  refine cE hF (fun h66 hF => ?_) fun h66 hF => ?_
  · refine bE hF fun vr h67 hF => ?_
    refine awp_region ?_
    refine aB h66 ?_
    refine aR 2 ?_
    refine aC (strconv_underscoreOK_ok h67) [] [] [] ?_
    refine aR 2 ?_
    refine aE ?_
    exact oO hF [] [] rfl
  · refine awp_region ?_
    refine aB h66 ?_
    refine aR 5 ?_
    refine aE ?_
    exact oO hF [] [] rfl

def strconv_ParseUint_R (qx : List UInt8) (qx1 : Int) (qx2 : Int) (r : Int) : TV × Mem := (.tup [.one (.d (.int .u64 r)), .one (.nili)], ⟨[], []⟩)

theorem strconv_ParseUint_ok {qx : List UInt8} {qx1 : Int} {qx2 : Int} {r} (hF : strconv_ParseUint qx qx1 qx2 = some r) : Holds prog 178 [.v (.one (.d (.str qx))), .v (.one (.d (.int .i64 qx1))), .v (.one (.d (.int .i64 qx2)))] ⟨[], []⟩ (Is (strconv_ParseUint_R qx qx1 qx2 r)) := by
  unfold strconv_ParseUint at hF
  refine holds_of_awp hΓ (fn := f178) (c := cB f178) (A := 0) (nx := 0) (by kernel_rfl) (by kernel_rfl) (by kernel_rfl) (by kernel_rfl) (by kernel_rfl) (by kernel_rfl) (lowc_of (by kernel_rfl)) ?_
  show Awp prog 0 172 (cB f178) _ _
  refine awp_seq ?_
  refine awp_region ?_
  refine aR 2 ?_
  refine aE ?_
  refine awp_seq ?_
  refine awp_seq ?_
  refine awp_region ?_
  refine aR 2 ?_
  refine aE ?_
  refine cE hF (fun h1 hF => ?_) fun h1 hF => ?_
  · refine awp_true (by kernel_rfl) h1 ?_
    refine awp_seq ?_
    exact nE hF
  · refine awp_false (by kernel_rfl) h1 ?_
    refine awp_skip ?_
    refine awp_seq ?_
    refine awp_region ?_
    refine aR 3 ?_
    refine aE ?_
    refine awp_seq ?_
    refine awp_region ?_
    refine aR 2 ?_
    refine aE ?_
    refine awp_seq ?_
    refine awp_to (st' := strconv_ParseUint_x1_I qx qx1 qx2) (oT [] []) ?_
    refine bE hF fun x h29 hF => ?_
    obtain ⟨vx5_1, vx6_1⟩ := x
    refine awp_sub (strconv_ParseUint_x1_ok qx qx1 qx2 h29) ?_
    refine awp_seq ?_
    refine awp_to (st' := strconv_ParseUint_x6_I qx qx1 qx2 vx5_1 vx6_1) (oT [] []) ?_
    refine bE hF fun vx8_1 h35 hF => ?_
    refine awp_sub (strconv_ParseUint_x6_ok qx qx1 qx2 vx5_1 vx6_1 h35) ?_
    refine awp_seq ?_
    refine awp_region ?_
    refine aR 1 ?_
    refine aE ?_
    refine awp_seq ?_
    refine awp_to (st' := strconv_ParseUint_x8_I qx qx1 vx5_1 vx6_1 vx8_1) (oT [] []) ?_
    refine bE hF fun vx9_1 h39 hF => ?_
    refine awp_sub (strconv_ParseUint_x8_ok qx qx1 vx5_1 vx6_1 vx8_1 h39) ?_
    refine awp_seq ?_
    refine gE hF fun h40 hF => ?_
    refine awp_region ?_
    refine aR 2 ?_
    refine aX (x_shl h40) ?_
    refine aR 2 ?_
    refine aE ?_
    refine awp_seq ?_
    refine awp_region ?_
    refine aR 1 ?_
    refine aE ?_
    refine awp_seq ?_
    refine awp_region ?_
    refine aR 1 ?_
    refine aE ?_
    refine awp_seq ?_
    refine awp_seq ?_
    refine awp_region ?_
    refine aR 1 ?_
    refine aBs (s := vx5_1) rfl ?_
    refine aL (encI .u8) (bytesD vx5_1) ?_
    refine aR 1 ?_
    refine aE ?_
    refine awp_block ?_
    refine awp_to (st' := strconv_ParseUint_x9_H qx qx1 vx5_1 vx6_1 vx8_1 vx9_1 (false, 0, 0)) (oT [] []) ?_
    refine bE hF fun x h65 hF => ?_
    obtain ⟨vx27_1, vx28_1⟩ := x
    refine awp_sub (awp_loop' (strconv_ParseUint_x9_H qx qx1 vx5_1 vx6_1 vx8_1 vx9_1) strconv_ParseUint_x9_k (strconv_ParseUint_x9_S qx qx1 vx5_1 vx6_1 vx8_1 vx9_1) (by intro x; exact fun h => nomatch h) h65 (strconv_ParseUint_x9_ok qx qx1 vx5_1 vx6_1 vx8_1 vx9_1)) ?_
    refine awp_seq ?_
    refine awp_seq ?_
    refine awp_to (st' := strconv_ParseUint_x16_I qx vx27_1 vx28_1) (oT [] []) ?_
    refine bE hF fun vx29_1 h68 hF => ?_
    refine awp_sub (strconv_ParseUint_x16_ok qx vx27_1 vx28_1 h68) ?_
    refine cE hF (fun h69 hF => ?_) fun h69 hF => ?_
    · refine awp_true (by kernel_rfl) h69 ?_
      refine awp_seq ?_
      exact nE hF
    · refine awp_false (by kernel_rfl) h69 ?_
      refine awp_skip ?_
      refine awp_seq ?_
      refine awp_region ?_
      refine aR 3 ?_
      refine aE ?_
      refine awp_ret ?_
      exact oF hF [] []

/-! ### internal/strconv.ParseInt -/
def strconv_ParseInt_x1_k : ((List UInt8) × Bool) → AEx
  | _ => .normal

def strconv_ParseInt_x1_S (qx : List UInt8) (qx1 : Int) (qx2 : Int) : ((List UInt8) × Bool) → St
  | (vx, vx1) => Mem.st ⟨[], []⟩ (tl [(0, .v (.one (.d (.str vx)))), (1, .v (.one (.d (.int .i64 qx1)))), (2, .v (.one (.d (.int .i64 qx2)))), (8, .v (.one (.d (.bool vx1))))]) 0

def strconv_ParseInt_x1_I (qx : List UInt8) (qx1 : Int) (qx2 : Int) : St := Mem.st ⟨[], []⟩ (tl [(0, .v (.one (.d (.str qx)))), (1, .v (.one (.d (.int .i64 qx1)))), (2, .v (.one (.d (.int .i64 qx2)))), (8, .v (.one (.d (.bool false))))]) 0

theorem strconv_ParseInt_x1_ok (qx : List UInt8) (qx1 : Int) (qx2 : Int) {r} (hF : strconv_ParseInt_x1 qx = some r) : Awp prog 0 73 (cL (cR (cR (cR (cB f166))))) (Out 0 strconv_ParseInt_x1_k (strconv_ParseInt_x1_S qx qx1 qx2) r) (strconv_ParseInt_x1_I qx qx1 qx2) := by
  unfold strconv_ParseInt_x1 at hF
  refine awp_seq ?_
  refine bE hF fun vc h3 hF => ?_
  refine awp_region ?_
  refine aR 1 ?_
  refine aX (x_idxS h3) ?_
  refine aE ?_
  refine awp_block ?_
  refine awp_seq ?_
  refine awp_region ?_
  refine aR 2 ?_
  refine aE ?_
  refine cE hF (fun h4 hF => ?_) fun h4 hF => ?_
  · refine awp_true (by kernel_rfl) h4 ?_
    refine bE hF fun vs h5 hF => ?_
    refine awp_region ?_
    refine aR 1 ?_
    refine aX (x_sliceS h5) ?_
    refine aR 1 ?_
    refine aE ?_
    exact oO hF [] [] rfl
  · refine awp_false (by kernel_rfl) h4 ?_
    refine awp_seq ?_
    refine awp_region ?_
    refine aR 2 ?_
    refine aE ?_
    refine cE hF (fun h6 hF => ?_) fun h6 hF => ?_
    · refine awp_true (by kernel_rfl) h6 ?_
      refine awp_seq ?_
      refine bE hF fun vs1 h7 hF => ?_
      refine awp_region ?_
      refine aR 1 ?_
      refine aX (x_sliceS h7) ?_
      refine aR 1 ?_
      refine aE ?_
      refine awp_region ?_
      refine aR 1 ?_
      refine aE ?_
      exact oO hF [] [] rfl
    · refine awp_false (by kernel_rfl) h6 ?_
      refine awp_skip ?_
      exact oO hF [] [] rfl

def strconv_ParseInt_x2_k : Int → AEx
  | _ => .normal

def strconv_ParseInt_x2_S (qx2 : Int) (vx1_1 : Bool) (vr1 : Int) : Int → St
  | vx3 => Mem.st ⟨[], []⟩ (tl [(2, .v (.one (.d (.int .i64 vx3)))), (8, .v (.one (.d (.bool vx1_1)))), (9, .v (.one (.d (.int .u64 vr1))))]) 0

def strconv_ParseInt_x2_I (qx2 : Int) (vx1_1 : Bool) (vr1 : Int) : St := Mem.st ⟨[], []⟩ (tl [(2, .v (.one (.d (.int .i64 qx2)))), (8, .v (.one (.d (.bool vx1_1)))), (9, .v (.one (.d (.int .u64 vr1))))]) 0

theorem strconv_ParseInt_x2_ok (qx2 : Int) (vx1_1 : Bool) (vr1 : Int) {r} (hF : strconv_ParseInt_x2 qx2 = some r) : Awp prog 0 73 (cL (cR (cR (cR (cR (cR (cR (cR (cB f166))))))))) (Out 0 strconv_ParseInt_x2_k (strconv_ParseInt_x2_S qx2 vx1_1 vr1) r) (strconv_ParseInt_x2_I qx2 vx1_1 vr1) := by
  unfold strconv_ParseInt_x2 at hF
  refine awp_seq ?_
  refine awp_region ?_
  refine aR 2 ?_
  refine aE ?_
  refine cE hF (fun h10 hF => ?_) fun h10 hF => ?_
  · refine awp_true (by kernel_rfl) h10 ?_
    refine awp_region ?_
    refine aR 1 ?_
    refine aE ?_
    exact oO hF [] [] rfl
  · refine awp_false (by kernel_rfl) h10 ?_
    refine awp_skip ?_
    exact oO hF [] [] rfl

def strconv_ParseInt_x3_k : Bool → AEx
  | _ => .normal

def strconv_ParseInt_x3_S (vx1_1 : Bool) (vr1 : Int) (vx3_1 : Int) : Bool → St
  | vx4 => Mem.st ⟨[], []⟩ (tl [(8, .v (.one (.d (.bool vx1_1)))), (9, .v (.one (.d (.int .u64 vr1)))), (10, .v (.one (.d (.int .u64 (ishl .u64 1 (IntKind.wrap .u64 (IntKind.wrap .i64 (vx3_1 - 1)))))))), (52, .v (.one (.d (.bool vx4))))]) 0

def strconv_ParseInt_x3_I (vx1_1 : Bool) (vr1 : Int) (vx3_1 : Int) : St := Mem.st ⟨[], []⟩ (tl [(8, .v (.one (.d (.bool vx1_1)))), (9, .v (.one (.d (.int .u64 vr1)))), (10, .v (.one (.d (.int .u64 (ishl .u64 1 (IntKind.wrap .u64 (IntKind.wrap .i64 (vx3_1 - 1))))))))]) 0

theorem strconv_ParseInt_x3_ok (vx1_1 : Bool) (vr1 : Int) (vx3_1 : Int) {r} (hF : strconv_ParseInt_x3 vx1_1 vr1 vx3_1 = some r) : Awp prog 0 73 (cL (cL (cR (cR (cR (cR (cR (cR (cR (cR (cR (cB f166)))))))))))) (Out 0 strconv_ParseInt_x3_k (strconv_ParseInt_x3_S vx1_1 vr1 vx3_1) r) (strconv_ParseInt_x3_I vx1_1 vr1 vx3_1) := by
  unfold strconv_ParseInt_x3 at hF
  refine cE hF (fun h13 hF => ?_) fun h13 hF => ?_
  · refine awp_region ?_
    refine aR 1 ?_
    refine aB h13 ?_
    refine aR 5 ?_
    refine aE ?_
    exact oO hF [] [] rfl
  · refine awp_region ?_
    refine aR 1 ?_
    refine aB h13 ?_
    refine aR 5 ?_
    refine aE ?_
    exact oO hF [] [] rfl

def strconv_ParseInt_x4_k : Bool → AEx
  | _ => .normal

def strconv_ParseInt_x4_S (vx1_1 : Bool) (vr1 : Int) (vx3_1 : Int) : Bool → St
  | vx5 => Mem.st ⟨[], []⟩ (tl [(8, .v (.one (.d (.bool vx1_1)))), (9, .v (.one (.d (.int .u64 vr1)))), (10, .v (.one (.d (.int .u64 (ishl .u64 1 (IntKind.wrap .u64 (IntKind.wrap .i64 (vx3_1 - 1)))))))), (62, .v (.one (.d (.bool vx5))))]) 0

def strconv_ParseInt_x4_I (vx1_1 : Bool) (vr1 : Int) (vx3_1 : Int) : St := Mem.st ⟨[], []⟩ (tl [(8, .v (.one (.d (.bool vx1_1)))), (9, .v (.one (.d (.int .u64 vr1)))), (10, .v (.one (.d (.int .u64 (ishl .u64 1 (IntKind.wrap .u64 (IntKind.wrap .i64 (vx3_1 - 1))))))))]) 0

theorem strconv_ParseInt_x4_ok (vx1_1 : Bool) (vr1 : Int) (vx3_1 : Int) {r} (hF : strconv_ParseInt_x4 vx1_1 vr1 vx3_1 = some r) : Awp prog 0 73 (cL (cL (cR (cR (cR (cR (cR (cR (cR (cR (cR (cR (cB f166))))))))))))) (Out 0 strconv_ParseInt_x4_k (strconv_ParseInt_x4_S vx1_1 vr1 vx3_1) r) (strconv_ParseInt_x4_I vx1_1 vr1 vx3_1) := by
  unfold strconv_ParseInt_x4 at hF
  refine cE hF (fun h17 hF => ?_) fun h17 hF => ?_
  · refine awp_region ?_
    refine aB h17 ?_
    refine aR 5 ?_
    refine aE ?_
    exact oO hF [] [] rfl
  · refine awp_region ?_
    refine aB h17 ?_
    refine aR 5 ?_
    refine aE ?_
    exact oO hF [] [] rfl

def strconv_ParseInt_x5_k : Int → AEx
  | _ => .normal

def strconv_ParseInt_x5_S (vx1_1 : Bool) (vr1 : Int) : Int → St
  | vx6 => Mem.st ⟨[], []⟩ (tl [(11, .v (.one (.d (.int .i64 vx6))))]) 0

def strconv_ParseInt_x5_I (vx1_1 : Bool) (vr1 : Int) : St := Mem.st ⟨[], []⟩ (tl [(8, .v (.one (.d (.bool vx1_1)))), (11, .v (.one (.d (.int .i64 (IntKind.wrap .i64 (vr1))))))]) 0

theorem strconv_ParseInt_x5_ok (vx1_1 : Bool) (vr1 : Int) {r} (hF : strconv_ParseInt_x5 vx1_1 vr1 = some r) : Awp prog 0 73 (cL (cR (cR (cR (cR (cR (cR (cR (cR (cR (cR (cR (cR (cB f166)))))))))))))) (Out 0 strconv_ParseInt_x5_k (strconv_ParseInt_x5_S vx1_1 vr1) r) (strconv_ParseInt_x5_I vx1_1 vr1) := by
  unfold strconv_ParseInt_x5 at hF
  refine awp_seq ?_
  refine awp_region ?_
  refine aR 1 ?_
  refine aE ?_
  refine cE hF (fun h21 hF => ?_) fun h21 hF => ?_
  · refine awp_true (by kernel_rfl) h21 ?_
    refine awp_region ?_
    refine aR 3 ?_
    refine aE ?_
    exact oO hF [] [] rfl
  · refine awp_false (by kernel_rfl) h21 ?_
    refine awp_skip ?_
    exact oO hF [] [] rfl

def strconv_ParseInt_R (qx : List UInt8) (qx1 : Int) (qx2 : Int) (r : Int) : TV × Mem := (.tup [.one (.d (.int .i64 r)), .one (.nili)], ⟨[], []⟩)

theorem strconv_ParseInt_ok {qx : List UInt8} {qx1 : Int} {qx2 : Int} {r} (hF : strconv_ParseInt qx qx1 qx2 = some r) : Holds prog 166 [.v (.one (.d (.str qx))), .v (.one (.d (.int .i64 qx1))), .v (.one (.d (.int .i64 qx2)))] ⟨[], []⟩ (Is (strconv_ParseInt_R qx qx1 qx2 r)) := by
  unfold strconv_ParseInt at hF
  refine holds_of_awp hΓ (fn := f166) (c := cB f166) (A := 0) (nx := 0) (by kernel_rfl) (by kernel_rfl) (by kernel_rfl) (by kernel_rfl) (by kernel_rfl) (by kernel_rfl) (lowc_of (by kernel_rfl)) ?_
  show Awp prog 0 73 (cB f166) _ _
  refine awp_seq ?_
  refine awp_region ?_
  refine aR 2 ?_
  refine aE ?_
  refine awp_seq ?_
  refine awp_seq ?_
  refine awp_region ?_
  refine aR 2 ?_
  refine aE ?_
  refine cE hF (fun h1 hF => ?_) fun h1 hF => ?_
  · refine awp_true (by kernel_rfl) h1 ?_
    refine awp_seq ?_
    exact nE hF
  · refine awp_false (by kernel_rfl) h1 ?_
    refine awp_skip ?_
    refine awp_seq ?_
    refine awp_region ?_
    refine aR 1 ?_
    refine aE ?_
    refine awp_seq ?_
    refine awp_to (st' := strconv_ParseInt_x1_I qx qx1 qx2) (oT [] []) ?_
    refine bE hF fun x h8 hF => ?_
    obtain ⟨vx2, vx1_1⟩ := x
    refine awp_sub (strconv_ParseInt_x1_ok qx qx1 qx2 h8) ?_
    refine awp_seq ?_
    refine awp_region ?_
    refine aR 1 ?_
    refine aE ?_
    refine awp_seq ?_
    refine bE hF fun vr1 h9 hF => ?_
    refine awp_region ?_
    refine aR 3 ?_
    refine aC (strconv_ParseUint_ok h9) [] [] [] ?_
    refine aR 5 ?_
    refine aE ?_
    refine awp_seq ?_
    refine awp_seq ?_
    refine awp_region ?_
    refine aR 1 ?_
    refine aS (does_nilI (op := .neq) (c := false) rfl (.inr ⟨rfl, rfl⟩) (by kernel_rfl) (by kernel_rfl)) ?_
    refine aR 5 ?_
    refine aE ?_
    refine awp_false (by kernel_rfl) rfl ?_
    refine awp_skip ?_
    refine awp_seq ?_
    refine awp_to (st' := strconv_ParseInt_x2_I qx2 vx1_1 vr1) (oT [] []) ?_
    refine bE hF fun vx3_1 h11 hF => ?_
    refine awp_sub (strconv_ParseInt_x2_ok qx2 vx1_1 vr1 h11) ?_
    refine awp_seq ?_
    refine gE hF fun h12 hF => ?_
    refine awp_region ?_
    refine aR 3 ?_
    refine aX (x_shl h12) ?_
    refine aR 1 ?_
    refine aE ?_
    refine awp_seq ?_
    refine awp_seq ?_
    refine awp_to (st' := strconv_ParseInt_x3_I vx1_1 vr1 vx3_1) (oT [] []) ?_
    refine bE hF fun vx4_1 h14 hF => ?_
    refine awp_sub (strconv_ParseInt_x3_ok vx1_1 vr1 vx3_1 h14) ?_
    refine cE hF (fun h15 hF => ?_) fun h15 hF => ?_
    · refine awp_true (by kernel_rfl) h15 ?_
      refine awp_seq ?_
      exact nE hF
    · refine awp_false (by kernel_rfl) h15 ?_
      refine awp_skip ?_
      refine awp_seq ?_
      refine awp_seq ?_
      refine awp_to (st' := strconv_ParseInt_x4_I vx1_1 vr1 vx3_1) (oT [] []) ?_
      refine bE hF fun vx5_1 h18 hF => ?_
      refine awp_sub (strconv_ParseInt_x4_ok vx1_1 vr1 vx3_1 h18) ?_
      refine cE hF (fun h19 hF => ?_) fun h19 hF => ?_
      · refine awp_true (by kernel_rfl) h19 ?_
        refine awp_seq ?_
        exact nE hF
      · refine awp_false (by kernel_rfl) h19 ?_
        refine awp_skip ?_
        refine awp_seq ?_
        refine awp_region ?_
        refine aR 3 ?_
        refine aE ?_
        refine awp_seq ?_
        refine awp_to (st' := strconv_ParseInt_x5_I vx1_1 vr1) (oT [] []) ?_
        refine bE hF fun vx6_1 h22 hF => ?_
        refine awp_sub (strconv_ParseInt_x5_ok vx1_1 vr1 h22) ?_
        refine awp_seq ?_
        refine awp_region ?_
        refine aR 3 ?_
        refine aE ?_
        refine awp_ret ?_
        exact oF hF [] []

/-! ### internal/strconv.Atoi -/
def strconv_Atoi_2_x1_k : Bool → AEx
  | _ => .normal

def strconv_Atoi_2_x1_S (qx : List UInt8) : Bool → St
  | vx => Mem.st ⟨[], []⟩ (tl [(0, .v (.one (.d (.str qx)))), (30, .v (.one (.d (.bool vx))))]) 0

def strconv_Atoi_2_x1_I (qx : List UInt8) : St := Mem.st ⟨[], []⟩ (tl [(0, .v (.one (.d (.str qx)))), (4, .v (.one (.d (.int .i64 (qx.length : Int)))))]) 0

theorem strconv_Atoi_2_x1_ok (qx : List UInt8) {r} (hF : strconv_Atoi_2_x1 qx = some r) : Awp prog 0 77 (cL (cL (cR (cR (cB f146))))) (Out 0 strconv_Atoi_2_x1_k (strconv_Atoi_2_x1_S qx) r) (strconv_Atoi_2_x1_I qx) := by
  unfold strconv_Atoi_2_x1 at hF
  refine cE hF (fun h1 hF => ?_) fun h1 hF => ?_
  · refine awp_region ?_
    refine aR 11 ?_
    refine aB h1 ?_
    refine aR 6 ?_
    refine aE ?_
    exact oO hF [] [] rfl
  · refine awp_region ?_
    refine aR 11 ?_
    refine aB h1 ?_
    refine aR 6 ?_
    refine aE ?_
    exact oO hF [] [] rfl

def strconv_Atoi_2_x3_k : Bool → AEx
  | _ => .normal

def strconv_Atoi_2_x3_S (qx : List UInt8) : Bool → St
  | vx2 => Mem.st ⟨[], []⟩ (tl [(0, .v (.one (.d (.str qx)))), (5, .v (.one (.d (.str qx)))), (39, .v (.one (.d (.bool vx2))))]) 0

def strconv_Atoi_2_x3_I (qx : List UInt8) : St := Mem.st ⟨[], []⟩ (tl [(0, .v (.one (.d (.str qx)))), (5, .v (.one (.d (.str qx))))]) 0

theorem strconv_Atoi_2_x3_ok (qx : List UInt8) {r} (hF : strconv_Atoi_2_x3 qx = some r) : Awp prog 0 77 (cL (cL (cR (cL (cR (cL (cR (cR (cB f146))))))))) (Out 0 strconv_Atoi_2_x3_k (strconv_Atoi_2_x3_S qx) r) (strconv_Atoi_2_x3_I qx) := by
  unfold strconv_Atoi_2_x3 at hF
  refine bE hF fun vc h4 hF => ?_
  refine cE hF (fun h5 hF => ?_) fun h5 hF => ?_
  · refine awp_region ?_
    refine aR 1 ?_
    refine aX (x_idxS h4) ?_
    refine aB h5 ?_
    refine aR 5 ?_
    refine aE ?_
    exact oO hF [] [] rfl
  · refine awp_region ?_
    refine aR 1 ?_
    refine aX (x_idxS h4) ?_
    refine aB h5 ?_
    refine aR 2 ?_
    refine aX (x_idxS h4) ?_
    refine aR 2 ?_
    refine aE ?_
    exact oO hF [] [] rfl

def strconv_Atoi_2_x2_k : (List UInt8) → AEx
  | _ => .normal

def strconv_Atoi_2_x2_S (qx : List UInt8) : (List UInt8) → St
  | vx3 => Mem.st ⟨[], []⟩ (tl [(0, .v (.one (.d (.str vx3)))), (5, .v (.one (.d (.str qx))))]) 0

def strconv_Atoi_2_x2_I (qx : List UInt8) : St := Mem.st ⟨[], []⟩ (tl [(0, .v (.one (.d (.str qx)))), (5, .v (.one (.d (.str qx))))]) 0

theorem strconv_Atoi_2_x2_ok (qx : List UInt8) {r} (hF : strconv_Atoi_2_x2 qx = some r) : Awp prog 0 77 (cL (cR (cL (cR (cL (cR (cR (cB f146)))))))) (Out 0 strconv_Atoi_2_x2_k (strconv_Atoi_2_x2_S qx) r) (strconv_Atoi_2_x2_I qx) := by
  unfold strconv_Atoi_2_x2 at hF
  refine awp_seq ?_
  refine awp_to (st' := strconv_Atoi_2_x3_I qx) (oT [] []) ?_
  refine bE hF fun vx2_1 h6 hF => ?_
  refine awp_sub (strconv_Atoi_2_x3_ok qx h6) ?_
  refine cE hF (fun h7 hF => ?_) fun h7 hF => ?_
  · refine awp_true (by kernel_rfl) h7 ?_
    refine awp_seq ?_
    refine bE hF fun vs h8 hF => ?_
    refine awp_region ?_
    refine aR 1 ?_
    refine aX (x_sliceS h8) ?_
    refine aR 1 ?_
    refine aE ?_
    refine awp_seq ?_
    refine awp_region ?_
    refine aR 3 ?_
    refine aE ?_
    refine cE hF (fun h9 hF => ?_) fun h9 hF => ?_
    · refine awp_true (by kernel_rfl) h9 ?_
      refine awp_seq ?_
      exact nE hF
    · refine awp_false (by kernel_rfl) h9 ?_
      refine awp_skip ?_
      exact oO hF [] [] rfl
  · refine awp_false (by kernel_rfl) h7 ?_
    refine awp_skip ?_
    exact oO hF [] [] rfl

def strconv_Atoi_2_x4_k : Int → AEx
  | _ => .exit 0

def strconv_Atoi_2_x4_S (qx : List UInt8) (vx3_1 : List UInt8) : Int → St
  | vx6 => Mem.st ⟨[], []⟩ (tl [(5, .v (.one (.d (.str qx)))), (6, .v (.one (.d (.int .i64 vx6))))]) 0

def strconv_Atoi_2_x4_H (qx : List UInt8) (vx3_1 : List UInt8) : Int × Int → St
  | (vx4, vx5) => Mem.st ⟨[], []⟩ (tl [(5, .v (.one (.d (.str qx)))), (6, .v (.one (.d (.int .i64 vx4)))), (47, .v (.one (.d (.lst (List.map (encI .u8) (bytesD vx3_1)))))), (48, .v (.one (.d (.int .i64 ((bytesD vx3_1).length : Int))))), (49, .v (.one (.d (.int .i64 vx5))))]) 0

theorem strconv_Atoi_2_x4_ok (qx : List UInt8) (vx3_1 : List UInt8) (s : Int × Int) (r : (Int × Int) ⊕ (Int)) (hF : strconv_Atoi_2_x4 vx3_1 s = some r) : Awp prog 0 77 (cL (cL (cR (cL (cR (cR (cR (cL (cR (cL (cR (cR (cB f146))))))))))))) (Out 0 (kk strconv_Atoi_2_x4_k) (SS (strconv_Atoi_2_x4_H qx vx3_1) (strconv_Atoi_2_x4_S qx vx3_1)) r) (strconv_Atoi_2_x4_H qx vx3_1 s) := by
  obtain ⟨vx4, vx5⟩ := s
  unfold strconv_Atoi_2_x4 at hF
  refine awp_seq ?_
  refine awp_region ?_
  refine aR 1 ?_
  refine aE ?_
  refine awp_seq ?_
  refine cE hF (fun h12 hF => ?_) fun h12 hF => ?_
  · refine awp_true (by kernel_rfl) h12 ?_
    refine awp_skip ?_
    refine awp_seq ?_
    refine awp_block ?_
    refine awp_seq ?_
    refine bE hF fun vy1 h13 hF => ?_
    refine awp_region ?_
    refine aX (x_idx (encI .u8) h13) ?_
    refine aR 2 ?_
    refine aE ?_
    refine awp_seq ?_
    refine awp_region ?_
    refine aR 3 ?_
    refine aE ?_
    refine awp_seq ?_
    refine awp_seq ?_
    refine awp_region ?_
    refine aR 2 ?_
    refine aE ?_
    refine cE hF (fun h14 hF => ?_) fun h14 hF => ?_
    · refine awp_true (by kernel_rfl) h14 ?_
      refine awp_seq ?_
      exact nE hF
    · refine awp_false (by kernel_rfl) h14 ?_
      refine awp_skip ?_
      refine awp_region ?_
      refine aR 6 ?_
      refine aE ?_
      refine awp_region ?_
      refine aR 2 ?_
      refine aE ?_
      exact oO hF [] [] rfl
  · refine awp_false (by kernel_rfl) h12 ?_
    refine awp_exit ?_
    exact oO hF [] [] rfl

def strconv_Atoi_2_x5_k : Int → AEx
  | _ => .normal

def strconv_Atoi_2_x5_S (qx : List UInt8) (vx6_1 : Int) : Int → St
  | vx7 => Mem.st ⟨[], []⟩ (tl [(6, .v (.one (.d (.int .i64 vx7))))]) 0

def strconv_Atoi_2_x5_I (qx : List UInt8) (vx6_1 : Int) : St := Mem.st ⟨[], []⟩ (tl [(5, .v (.one (.d (.str qx)))), (6, .v (.one (.d (.int .i64 vx6_1))))]) 0

theorem strconv_Atoi_2_x5_ok (qx : List UInt8) (vx6_1 : Int) {r} (hF : strconv_Atoi_2_x5 qx vx6_1 = some r) : Awp prog 0 77 (cL (cR (cR (cR (cR (cL (cR (cL (cR (cR (cB f146))))))))))) (Out 0 strconv_Atoi_2_x5_k (strconv_Atoi_2_x5_S qx vx6_1) r) (strconv_Atoi_2_x5_I qx vx6_1) := by
  unfold strconv_Atoi_2_x5 at hF
  refine awp_seq ?_
  refine bE hF fun vc1 h17 hF => ?_
  refine awp_region ?_
  refine aR 1 ?_
  refine aX (x_idxS h17) ?_
  refine aR 1 ?_
  refine aE ?_
  refine cE hF (fun h18 hF => ?_) fun h18 hF => ?_
  · refine awp_true (by kernel_rfl) h18 ?_
    refine awp_region ?_
    refine aR 3 ?_
    refine aE ?_
    exact oO hF [] [] rfl
  · refine awp_false (by kernel_rfl) h18 ?_
    refine awp_skip ?_
    exact oO hF [] [] rfl

def strconv_Atoi_2_R (qx : List UInt8) (r : Int) : TV × Mem := (.tup [.one (.d (.int .i64 r)), .one (.nili)], ⟨[], []⟩)

theorem strconv_Atoi_2_ok {qx : List UInt8} {r} (hF : strconv_Atoi_2 qx = some r) : Holds prog 146 [.v (.one (.d (.str qx)))] ⟨[], []⟩ (Is (strconv_Atoi_2_R qx r)) := by
  unfold strconv_Atoi_2 at hF
  refine holds_of_awp hΓ (fn := f146) (c := cB f146) (A := 0) (nx := 0) (by kernel_rfl) (by kernel_rfl) (by kernel_rfl) (by kernel_rfl) (by kernel_rfl) (by kernel_rfl) (lowc_of (by kernel_rfl)) ?_
  show Awp prog 0 77 (cB f146) _ _
  refine awp_seq ?_
  refine awp_region ?_
  refine aR 2 ?_
  refine aE ?_
  refine awp_seq ?_
  refine awp_region ?_
  refine aR 3 ?_
  refine aE ?_
  refine awp_seq ?_
  refine awp_seq ?_
  refine awp_to (st' := strconv_Atoi_2_x1_I qx) (oT [] []) ?_
  refine bE hF fun vx1 h2 hF => ?_
  refine awp_sub (strconv_Atoi_2_x1_ok qx h2) ?_
  refine cE hF (fun h3 hF => ?_) fun h3 hF => ?_
  · refine awp_true (by kernel_rfl) h3 ?_
    refine awp_seq ?_
    refine awp_region ?_
    refine aR 2 ?_
    refine aE ?_
    refine awp_seq ?_
    refine awp_to (st' := strconv_Atoi_2_x2_I qx) (oT [] []) ?_
    refine bE hF fun vx3_1 h11 hF => ?_
    refine awp_sub (strconv_Atoi_2_x2_ok qx h11) ?_
    refine awp_seq ?_
    refine awp_region ?_
    refine aR 1 ?_
    refine aE ?_
    refine awp_seq ?_
    refine awp_seq ?_
    refine awp_region ?_
    refine aR 1 ?_
    refine aBs (s := vx3_1) rfl ?_
    refine aL (encI .u8) (bytesD vx3_1) ?_
    refine aR 1 ?_
    refine aE ?_
    refine awp_block ?_
    refine awp_to (st' := strconv_Atoi_2_x4_H qx vx3_1 (0, 0)) (oT [] []) ?_
    refine bE hF fun vx6_1 h16 hF => ?_
    refine awp_sub (awp_loop' (strconv_Atoi_2_x4_H qx vx3_1) strconv_Atoi_2_x4_k (strconv_Atoi_2_x4_S qx vx3_1) (by intro x; exact fun h => nomatch h) h16 (strconv_Atoi_2_x4_ok qx vx3_1)) ?_
    refine awp_seq ?_
    refine awp_to (st' := strconv_Atoi_2_x5_I qx vx6_1) (oT [] []) ?_
    refine bE hF fun vx7_1 h19 hF => ?_
    refine awp_sub (strconv_Atoi_2_x5_ok qx vx6_1 h19) ?_
    refine awp_seq ?_
    refine awp_region ?_
    refine aR 3 ?_
    refine aE ?_
    refine awp_ret ?_
    exact oF hF [] []
  · refine awp_false (by kernel_rfl) h3 ?_
    refine awp_skip ?_
    refine awp_seq ?_
    refine bE hF fun vr h20 hF => ?_
    refine awp_region ?_
    refine aR 1 ?_
    refine aC (strconv_ParseInt_ok h20) [] [] [] ?_
    refine aR 5 ?_
    refine aE ?_
    refine awp_seq ?_
    refine awp_region ?_
    refine aR 4 ?_
    refine aE ?_
    refine awp_ret ?_
    exact oF hF [] []

/-! ### strconv.Atoi -/
def strconv_Atoi_R (qs : List UInt8) (r : Int) : TV × Mem := (.tup [.one (.d (.int .i64 r)), .one (.nili)], ⟨[], []⟩)

theorem strconv_Atoi_ok {qs : List UInt8} {r} (hF : strconv_Atoi qs = some r) : Holds prog 114 [.v (.one (.d (.str qs)))] ⟨[], []⟩ (Is (strconv_Atoi_R qs r)) := by
  unfold strconv_Atoi at hF
  refine holds_of_awp hΓ (fn := f114) (c := cB f114) (A := 0) (nx := 0) (by kernel_rfl) (by kernel_rfl) (by kernel_rfl) (by kernel_rfl) (by kernel_rfl) (by kernel_rfl) (lowc_of (by kernel_rfl)) ?_
  show Awp prog 0 18 (cB f114) _ _
  refine awp_seq ?_
  refine awp_region ?_
  refine aR 2 ?_
  refine aE ?_
  refine awp_seq ?_
  refine bE hF fun vr1 h1 hF => ?_
  refine awp_region ?_
  refine aR 1 ?_
  refine aC (strconv_Atoi_2_ok h1) [] [] [] ?_
  refine aR 5 ?_
  refine aE ?_
  refine awp_seq ?_
  refine awp_seq ?_
  refine awp_region ?_
  refine aR 1 ?_
  refine aS (does_nilI (op := .neq) (c := false) rfl (.inr ⟨rfl, rfl⟩) (by kernel_rfl) (by kernel_rfl)) ?_
  refine aE ?_
  refine awp_false (by kernel_rfl) rfl ?_
  refine awp_skip ?_
  refine awp_seq ?_
  refine awp_region ?_
  refine aR 3 ?_
  refine aE ?_
  refine awp_ret ?_
  exact oF hF [] []

/-! ### beaconfleet/base.Number -/
def base_Number_x1_k : Bool → AEx
  | _ => .normal

def base_Number_x1_S (qs : List UInt8) (qdigits : Int) (vr : List UInt8) : Bool → St
  | vx => Mem.st ⟨[], []⟩ (tl [(0, .v (.one (.d (.str qs)))), (6, .v (.one (.d (.str vr)))), (36, .v (.one (.d (.bool vx))))]) 0

def base_Number_x1_I (qs : List UInt8) (qdigits : Int) (vr : List UInt8) : St := Mem.st ⟨[], []⟩ (tl [(0, .v (.one (.d (.str qs)))), (1, .v (.one (.d (.int .i64 qdigits)))), (6, .v (.one (.d (.str vr))))]) 0

theorem base_Number_x1_ok (qs : List UInt8) (qdigits : Int) (vr : List UInt8) {r} (hF : base_Number_x1 qs qdigits vr = some r) : Awp prog 0 61 (cL (cL (cR (cR (cB f90))))) (Out 0 base_Number_x1_k (base_Number_x1_S qs qdigits vr) r) (base_Number_x1_I qs qdigits vr) := by
  unfold base_Number_x1 at hF
  refine cE hF (fun h2 hF => ?_) fun h2 hF => ?_
  · refine awp_region ?_
    refine aR 1 ?_
    refine aB h2 ?_
    refine aR 23 ?_
    refine aE ?_
    exact oO hF [] [] rfl
  · refine cE hF (fun h3 hF => ?_) fun h3 hF => ?_
    · refine awp_region ?_
      refine aR 1 ?_
      refine aB h2 ?_
      refine aR 4 ?_
      refine aB h3 ?_
      refine aR 18 ?_
      refine aE ?_
      exact oO hF [] [] rfl
    · refine bE hF fun vc h4 hF => ?_
      refine cE hF (fun h5 hF => ?_) fun h5 hF => ?_
      · refine cE hF (fun h6 hF => ?_) fun h6 hF => ?_
        · refine awp_region ?_
          refine aR 1 ?_
          refine aB h2 ?_
          refine aR 4 ?_
          refine aB h3 ?_
          refine aR 3 ?_
          refine aX (x_idxS h4) ?_
          refine aB h5 ?_
          refine aR 3 ?_
          refine aB h6 ?_
          refine aR 9 ?_
          refine aE ?_
          exact oO hF [] [] rfl
        · refine awp_region ?_
          refine aR 1 ?_
          refine aB h2 ?_
          refine aR 4 ?_
          refine aB h3 ?_
          refine aR 3 ?_
          refine aX (x_idxS h4) ?_
          refine aB h5 ?_
          refine aR 3 ?_
          refine aB h6 ?_
          refine aR 9 ?_
          refine aE ?_
          exact oO hF [] [] rfl
      · refine awp_region ?_
        refine aR 1 ?_
        refine aB h2 ?_
        refine aR 4 ?_
        refine aB h3 ?_
        refine aR 3 ?_
        refine aX (x_idxS h4) ?_
        refine aB h5 ?_
        refine aR 13 ?_
        refine aE ?_
        exact oO hF [] [] rfl

def base_Number_x3_k : Bool → AEx
  | _ => .normal

def base_Number_x3_S (qs : List UInt8) (vr : List UInt8) (vx2 : Int) : Bool → St
  | vx4 => Mem.st ⟨[], []⟩ (tl [(0, .v (.one (.d (.str qs)))), (6, .v (.one (.d (.str vr)))), (38, .v (.one (.d (.int .i64 (vr.length : Int))))), (39, .v (.one (.d (.int .i64 vx2)))), (51, .v (.one (.d (.bool vx4))))]) 0

def base_Number_x3_I (qs : List UInt8) (vr : List UInt8) (vx2 : Int) : St := Mem.st ⟨[], []⟩ (tl [(0, .v (.one (.d (.str qs)))), (6, .v (.one (.d (.str vr)))), (7, .v (.one (.d (.int .i64 vx2)))), (38, .v (.one (.d (.int .i64 (vr.length : Int))))), (39, .v (.one (.d (.int .i64 vx2))))]) 0

theorem base_Number_x3_ok (qs : List UInt8) (vr : List UInt8) (vx2 : Int) {r} (hF : base_Number_x3 vr vx2 = some r) : Awp prog 0 61 (cL (cR (cL (cL (cR (cR (cL (cL (cR (cL (cR (cR (cR (cB f90)))))))))))))) (Out 0 base_Number_x3_k (base_Number_x3_S qs vr vx2) r) (base_Number_x3_I qs vr vx2) := by
  unfold base_Number_x3 at hF
  refine bE hF fun vc2 h10 hF => ?_
  refine cE hF (fun h11 hF => ?_) fun h11 hF => ?_
  · refine awp_region ?_
    refine aR 2 ?_
    refine aX (x_idxS h10) ?_
    refine aB h11 ?_
    refine aR 6 ?_
    refine aE ?_
    exact oO hF [] [] rfl
  · refine awp_region ?_
    refine aR 2 ?_
    refine aX (x_idxS h10) ?_
    refine aB h11 ?_
    refine aR 3 ?_
    refine aX (x_idxS h10) ?_
    refine aR 2 ?_
    refine aE ?_
    exact oO hF [] [] rfl

def base_Number_x2_k : Unit ⊕ Unit → AEx
  | .inl _ => .exit 0
  | .inr _ => .ret

def base_Number_x2_S (qs : List UInt8) (vr : List UInt8) : Unit ⊕ Unit → St
  | .inl _ => Mem.st ⟨[], []⟩ (tl [(0, .v (.one (.d (.str qs))))]) 0
  | .inr _ => Mem.st ⟨[], []⟩ (tl [(4, .v (.one (.d (.int .i64 0)))), (5, .v (.one (.d (.bool false))))]) 0

def base_Number_x2_H (qs : List UInt8) (vr : List UInt8) : Int → St
  | vx2 => Mem.st ⟨[], []⟩ (tl [(0, .v (.one (.d (.str qs)))), (6, .v (.one (.d (.str vr)))), (38, .v (.one (.d (.int .i64 (vr.length : Int))))), (39, .v (.one (.d (.int .i64 vx2))))]) 0

theorem base_Number_x2_ok (qs : List UInt8) (vr : List UInt8) (vx2 : Int) (r : (Int) ⊕ (Unit ⊕ Unit)) (hF : base_Number_x2 vr vx2 = some r) : Awp prog 0 61 (cL (cL (cR (cL (cR (cR (cR (cB f90)))))))) (Out 0 (kk base_Number_x2_k) (SS (base_Number_x2_H qs vr) (base_Number_x2_S qs vr)) r) (base_Number_x2_H qs vr vx2) := by
  unfold base_Number_x2 at hF
  refine awp_seq ?_
  refine awp_region ?_
  refine aR 1 ?_
  refine aE ?_
  refine awp_seq ?_
  refine cE hF (fun h9 hF => ?_) fun h9 hF => ?_
  · refine awp_true (by kernel_rfl) h9 ?_
    refine awp_skip ?_
    refine awp_seq ?_
    refine awp_block ?_
    refine awp_seq ?_
    refine awp_region ?_
    refine aR 2 ?_
    refine aE ?_
    refine awp_seq ?_
    refine awp_to (st' := base_Number_x3_I qs vr vx2) (oT [] []) ?_
    refine bE hF fun vx4_1 h12 hF => ?_
    refine awp_sub (base_Number_x3_ok qs vr vx2 h12) ?_
    refine cE hF (fun h13 hF => ?_) fun h13 hF => ?_
    · refine awp_true (by kernel_rfl) h13 ?_
      refine awp_seq ?_
      refine awp_region ?_
      refine aR 2 ?_
      refine aE ?_
      refine awp_ret ?_
      exact oO hF [] [] rfl
    · refine awp_false (by kernel_rfl) h13 ?_
      refine awp_skip ?_
      refine awp_region ?_
      refine aR 2 ?_
      refine aE ?_
      exact oO hF [] [] rfl
  · refine awp_false (by kernel_rfl) h9 ?_
    refine awp_exit ?_
    exact oO hF [] [] rfl

def base_Number_R (qs : List UInt8) (qdigits : Int) (r : Int × Bool) : TV × Mem := (.tup [.one (.d (.int .i64 r.1)), .one (.d (.bool r.2))], ⟨[], []⟩)

theorem base_Number_ok {qs : List UInt8} {qdigits : Int} {r} (hF : base_Number qs qdigits = some r) : Holds prog 90 [.v (.one (.d (.str qs))), .v (.one (.d (.int .i64 qdigits)))] ⟨[], []⟩ (Is (base_Number_R qs qdigits r)) := by
  unfold base_Number at hF
  refine holds_of_awp hΓ (fn := f90) (c := cB f90) (A := 0) (nx := 0) (by kernel_rfl) (by kernel_rfl) (by kernel_rfl) (by kernel_rfl) (by kernel_rfl) (by kernel_rfl) (lowc_of (by kernel_rfl)) ?_
  show Awp prog 0 61 (cB f90) _ _
  refine awp_seq ?_
  refine awp_region ?_
  refine aR 2 ?_
  refine aE ?_
  refine awp_seq ?_
  refine bE hF fun vr h1 hF => ?_
  refine awp_region ?_
  refine aR 1 ?_
  refine aC (strings_TrimPrefix_ok h1) [] [] [] ?_
  refine aR 1 ?_
  refine aE ?_
  refine awp_seq ?_
  refine awp_seq ?_
  refine awp_to (st' := base_Number_x1_I qs qdigits vr) (oT [] []) ?_
  refine bE hF fun vx1 h7 hF => ?_
  refine awp_sub (base_Number_x1_ok qs qdigits vr h7) ?_
  refine cE hF (fun h8 hF => ?_) fun h8 hF => ?_
  · refine awp_true (by kernel_rfl) h8 ?_
    refine awp_seq ?_
    refine awp_region ?_
    refine aR 2 ?_
    refine aE ?_
    refine awp_ret ?_
    exact oF hF [] []
  · refine awp_false (by kernel_rfl) h8 ?_
    refine awp_skip ?_
    refine awp_seq ?_
    refine awp_seq ?_
    refine awp_region ?_
    refine aR 3 ?_
    refine aE ?_
    refine awp_block ?_
    refine awp_to (st' := base_Number_x2_H qs vr 0) (oT [] []) ?_
    refine bE hF fun x h14 hF => ?_
    rcases x with _ | _
    · refine awp_sub (awp_loop' (base_Number_x2_H qs vr) base_Number_x2_k (base_Number_x2_S qs vr) (by intro x; rcases x with x | x <;> exact fun h => nomatch h) h14 (base_Number_x2_ok qs vr)) ?_
      refine awp_seq ?_
      refine bE hF fun vr1 h15 hF => ?_
      refine awp_region ?_
      refine aR 1 ?_
      refine aC (strconv_Atoi_ok h15) [] [] [] ?_
      refine aR 5 ?_
      refine aE ?_
      refine awp_seq ?_
      refine aD ?_
      refine dR 2 ?_
      refine dS (U := []) (stable_nilI (op := .eql) (c := true) rfl (.inl ⟨rfl, rfl⟩) (by kernel_rfl) (by kernel_rfl)) ?_
      refine dR 2 ?_
      refine dE ?_
      refine awp_ret ?_
      exact oF hF [] []
    · refine awp_sub (awp_loop' (base_Number_x2_H qs vr) base_Number_x2_k (base_Number_x2_S qs vr) (by intro x; rcases x with x | x <;> exact fun h => nomatch h) h14 (base_Number_x2_ok qs vr)) ?_
      exact oF hF [] []

/-! ### beaconfleet/base.Numbers -/
def base_Numbers_o0_x1_k : (List Int) ⊕ Unit → AEx
  | .inl _ => .exit 0
  | .inr _ => .ret

def base_Numbers_o0_x1_S (qwords : List (List UInt8)) (qdigits : Int) : (List Int) ⊕ Unit → St
  | .inl vout1 => Mem.st ⟨[(1, ⟨3, 1, List.map (encI .i64) vout1⟩)], []⟩ (tl [(6, .v (.one (.own 1 none)))]) 2
  | .inr _ => Mem.st ⟨[], []⟩ (tl [(4, .v (.one (.nil))), (5, .v (.one (.d (.bool false))))]) 1

def base_Numbers_o0_x1_H (qwords : List (List UInt8)) (qdigits : Int) : (List Int) × Int → St
  | (vout, vx) => Mem.st ⟨[(1, ⟨3, 1, List.map (encI .i64) vout⟩)], []⟩ (tl [(1, .v (.one (.d (.int .i64 qdigits)))), (6, .v (.one (.own 1 none))), (11, .v (.one (.d (.lst (List.map encS qwords))))), (12, .v (.one (.d (.int .i64 (qwords.length : Int))))), (13, .v (.one (.d (.int .i64 vx))))]) 2

theorem base_Numbers_o0_x1_ok (qwords : List (List UInt8)) (qdigits : Int) (s : (List Int) × Int) (r : ((List Int) × Int) ⊕ ((List Int) ⊕ Unit)) (hF : base_Numbers_o0_x1 qwords qdigits s = some r) : Awp prog 1 31 (cL (cL (cR (cL (cR (cR (cB f49))))))) (Out 1 (kk base_Numbers_o0_x1_k) (SS (base_Numbers_o0_x1_H qwords qdigits) (base_Numbers_o0_x1_S qwords qdigits)) r) (base_Numbers_o0_x1_H qwords qdigits s) := by
  obtain ⟨vout, vx⟩ := s
  unfold base_Numbers_o0_x1 at hF
  refine awp_seq ?_
  refine awp_region ?_
  refine aR 1 ?_
  refine aE ?_
  refine awp_seq ?_
  refine cE hF (fun h1 hF => ?_) fun h1 hF => ?_
  · refine awp_true (by kernel_rfl) h1 ?_
    refine awp_skip ?_
    refine awp_seq ?_
    refine awp_block ?_
    refine awp_seq ?_
    refine bE hF fun vy1 h2 hF => ?_
    refine awp_region ?_
    refine aX (x_idx encS h2) ?_
    refine aR 2 ?_
    refine aE ?_
    refine awp_seq ?_
    refine bE hF fun x h3 hF => ?_
    obtain ⟨vr2_1, vr3_1⟩ := x
    refine awp_region ?_
    refine aR 2 ?_
    refine aC (base_Number_ok h3) [] [] [] ?_
    refine aR 5 ?_
    refine aE ?_
    refine awp_seq ?_
    refine awp_seq ?_
    refine awp_region ?_
    refine aR 2 ?_
    refine aE ?_
    refine cE hF (fun h4 hF => ?_) fun h4 hF => ?_
    · refine awp_true (by kernel_rfl) h4 ?_
      refine awp_seq ?_
      refine awp_region ?_
      refine aR 2 ?_
      refine aE ?_
      refine awp_ret ?_
      exact oO hF [] [] rfl
    · refine awp_false (by kernel_rfl) h4 ?_
      refine awp_skip ?_
      refine gE hF fun h5 hF => ?_
      refine awp_region ?_
      refine aR 3 ?_
      refine aX (x_app (encI .i64) 1 h5) ?_
      refine aR 1 ?_
      refine aE ?_
      refine awp_region ?_
      refine aR 2 ?_
      refine aE ?_
      exact oO hF [(1, 17002)] [] rfl
  · refine awp_false (by kernel_rfl) h1 ?_
    refine awp_exit ?_
    exact oO hF [] [] rfl

def base_Numbers_o0_R (qwords : List (List UInt8)) (qdigits : Int) (r : (List Int) × Bool) : TV × Mem := (.tup [.one (.own 1 none), .one (.d (.bool r.2))], ⟨[(1, ⟨3, 1, List.map (encI .i64) r.1⟩)], []⟩)

theorem base_Numbers_o0_ok {qwords : List (List UInt8)} {qdigits : Int} {r} (hF : base_Numbers_o0 qwords qdigits = some r) : Holds prog 49 [.v (.one (.own 0 none)), .v (.one (.d (.int .i64 qdigits)))] ⟨[(0, ⟨9, 1, List.map encS qwords⟩)], []⟩ (Is (base_Numbers_o0_R qwords qdigits r)) := by
  unfold base_Numbers_o0 at hF
  refine holds_of_awp hΓ (fn := f49) (c := cB f49) (A := 1) (nx := 1) (by kernel_rfl) (by kernel_rfl) (by kernel_rfl) (by kernel_rfl) (by kernel_rfl) (by kernel_rfl) (lowc_of (by kernel_rfl)) ?_
  show Awp prog 1 31 (cB f49) _ _
  refine awp_seq ?_
  refine awp_region ?_
  refine aR 2 ?_
  refine aE ?_
  refine awp_to (oT (m := ⟨[], []⟩) (ts := [(0, .v (.one (.d (.lst (List.map encS qwords))))), (1, .v (.one (.d (.int .i64 qdigits))))]) (nx := 1) [] []) ?_
  refine awp_seq ?_
  refine awp_region ?_
  refine aR 1 ?_
  refine aE ?_
  refine awp_seq ?_
  refine awp_seq ?_
  refine awp_region ?_
  refine aR 1 ?_
  refine aL encS qwords ?_
  refine aR 1 ?_
  refine aE ?_
  refine awp_block ?_
  refine awp_to (st' := base_Numbers_o0_x1_H qwords qdigits ([], 0)) (oT [] [1]) ?_
  refine bE hF fun x h6 hF => ?_
  rcases x with vout1_1 | _
  · refine awp_sub (awp_loop' (base_Numbers_o0_x1_H qwords qdigits) base_Numbers_o0_x1_k (base_Numbers_o0_x1_S qwords qdigits) (by intro x; rcases x with x | x <;> exact fun h => nomatch h) h6 (base_Numbers_o0_x1_ok qwords qdigits)) ?_
    refine awp_seq ?_
    refine awp_region ?_
    refine aR 3 ?_
    refine aE ?_
    refine awp_ret ?_
    exact oF hF [] []
  · refine awp_sub (awp_loop' (base_Numbers_o0_x1_H qwords qdigits) base_Numbers_o0_x1_k (base_Numbers_o0_x1_S qwords qdigits) (by intro x; rcases x with x | x <;> exact fun h => nomatch h) h6 (base_Numbers_o0_x1_ok qwords qdigits)) ?_
    exact oF hF [] [1]

/-! ### beaconfleet/base.Version -/
def base_Version_x1_k : Bool → AEx
  | _ => .normal

def base_Version_x1_S (qv : api_Version) : Bool → St
  | vx => Mem.st ⟨[], []⟩ (tl [(2, .v (.one (.d (.bool vx))))]) 0

def base_Version_x1_I (qv : api_Version) : St := Mem.st ⟨[], [(0, [.d (.int .i64 qv.Major), .d (.int .i64 qv.Minor), .d (.int .i64 qv.Patch)])]⟩ (tl [(1, .v (.one (.box 0 0)))]) 1

theorem base_Version_x1_ok (qv : api_Version) {r} (hF : base_Version_x1 qv = some r) : Awp prog 0 19 (cL (cR (cB f51))) (Out 0 base_Version_x1_k (base_Version_x1_S qv) r) (base_Version_x1_I qv) := by
  unfold base_Version_x1 at hF
  refine bE hF fun vr h1 hF => ?_
  refine cE hF (fun h2 hF => ?_) fun h2 hF => ?_
  · refine bE hF fun vr1 h3 hF => ?_
    refine cE hF (fun h4 hF => ?_) fun h4 hF => ?_
    · refine bE hF fun vr2 h5 hF => ?_
      refine awp_region ?_
      refine aR 2 ?_
      refine aC (base_Out_ok h1) [] [] [] ?_
      refine aB h2 ?_
      refine aR 3 ?_
      refine aC (base_Out_ok h3) [] [] [] ?_
      refine aB h4 ?_
      refine aR 4 ?_
      refine aC (base_Out_ok h5) [] [] [] ?_
      refine aR 3 ?_
      refine aE ?_
      exact oO hF [] [] rfl
    · refine awp_region ?_
      refine aR 2 ?_
      refine aC (base_Out_ok h1) [] [] [] ?_
      refine aB h2 ?_
      refine aR 3 ?_
      refine aC (base_Out_ok h3) [] [] [] ?_
      refine aB h4 ?_
      refine aR 8 ?_
      refine aE ?_
      exact oO hF [] [] rfl
  · refine awp_region ?_
    refine aR 2 ?_
    refine aC (base_Out_ok h1) [] [] [] ?_
    refine aB h2 ?_
    refine aR 13 ?_
    refine aE ?_
    exact oO hF [] [] rfl

def base_Version_R (qv : api_Version) (r : Bool) : TV × Mem := (.v (.one (.d (.bool r))), ⟨[], []⟩)

theorem base_Version_ok {qv : api_Version} {r} (hF : base_Version qv = some r) : Holds prog 51 [.v (.agg [.d (.int .i64 qv.Major), .d (.int .i64 qv.Minor), .d (.int .i64 qv.Patch)])] ⟨[], []⟩ (Is (base_Version_R qv r)) := by
  unfold base_Version at hF
  refine holds_of_awp hΓ (fn := f51) (c := cB f51) (A := 0) (nx := 0) (by kernel_rfl) (by kernel_rfl) (by kernel_rfl) (by kernel_rfl) (by kernel_rfl) (by kernel_rfl) (lowc_of (by kernel_rfl)) ?_
  show Awp prog 0 19 (cB f51) _ _
  refine awp_seq ?_
  refine awp_region ?_
  refine aR 2 ?_
  refine aE ?_
  refine awp_seq ?_
  refine awp_to (st' := base_Version_x1_I qv) (oT [] []) ?_
  refine bE hF fun vx1 h6 hF => ?_
  refine awp_sub (base_Version_x1_ok qv h6) ?_
  refine awp_ret ?_
  exact oF hF [] []

/-! ### beaconfleet/campaign.ParseVersion -/
def campaign_ParseVersion_x1_k : Bool → AEx
  | _ => .normal

def campaign_ParseVersion_x1_S (vr1 : List Int) (vr1_1 : Bool) : Bool → St
  | vx => Mem.st ⟨[], [(0, [.d (.int .i64 0), .d (.int .i64 0), .d (.int .i64 0)])]⟩ (tl [(2, .v (.one (.box 0 0))), (4, .v (.one (.d (.lst (List.map (encI .i64) vr1))))), (19, .v (.one (.d (.bool vx))))]) 1

def campaign_ParseVersion_x1_I (vr1 : List Int) (vr1_1 : Bool) : St := Mem.st ⟨[], [(0, [.d (.int .i64 0), .d (.int .i64 0), .d (.int .i64 0)])]⟩ (tl [(2, .v (.one (.box 0 0))), (4, .v (.one (.d (.lst (List.map (encI .i64) vr1))))), (5, .v (.one (.d (.bool vr1_1))))]) 1

theorem campaign_ParseVersion_x1_ok (vr1 : List Int) (vr1_1 : Bool) {r} (hF : campaign_ParseVersion_x1 vr1 vr1_1 = some r) : Awp prog 0 36 (cL (cL (cR (cR (cB f29))))) (Out 0 campaign_ParseVersion_x1_k (campaign_ParseVersion_x1_S vr1 vr1_1) r) (campaign_ParseVersion_x1_I vr1 vr1_1) := by
  unfold campaign_ParseVersion_x1 at hF
  refine cE hF (fun h3 hF => ?_) fun h3 hF => ?_
  · refine awp_region ?_
    refine aR 1 ?_
    refine aB h3 ?_
    refine aR 5 ?_
    refine aE ?_
    exact oO hF [] [] rfl
  · refine awp_region ?_
    refine aR 1 ?_
    refine aB h3 ?_
    refine aR 2 ?_
    refine aL (encI .i64) vr1 ?_
    refine aR 2 ?_
    refine aE ?_
    exact oO hF [] [] rfl

def campaign_ParseVersion_R (qs : List UInt8) (r : api_Version × Int) : TV × Mem := (.tup [.agg [.d (.int .i64 r.1.Major), .d (.int .i64 r.1.Minor), .d (.int .i64 r.1.Patch)], .one (.d (.int .i64 r.2))], ⟨[], []⟩)

theorem campaign_ParseVersion_ok {qs : List UInt8} {r} (hF : campaign_ParseVersion qs = some r) : Holds prog 29 [.v (.one (.d (.str qs)))] ⟨[], []⟩ (Is (campaign_ParseVersion_R qs r)) := by
  unfold campaign_ParseVersion at hF
  refine holds_of_awp hΓ (fn := f29) (c := cB f29) (A := 0) (nx := 0) (by kernel_rfl) (by kernel_rfl) (by kernel_rfl) (by kernel_rfl) (by kernel_rfl) (by kernel_rfl) (lowc_of (by kernel_rfl)) ?_
  show Awp prog 0 36 (cB f29) _ _
  refine awp_seq ?_
  refine awp_region ?_
  refine aR 2 ?_
  refine aE ?_
  refine awp_seq ?_
  refine bE hF fun vr h1 hF => ?_
  refine bE hF fun x h2 hF => ?_
  obtain ⟨vr1, vr1_1⟩ := x
  refine awp_region ?_
  refine aR 1 ?_
  refine aC (strings_Split_ok h1) [] [] [] ?_
  refine aC (base_Numbers_o0_ok h2) [(0, 3000)] [] [] ?_
  refine aR 5 ?_
  refine aE ?_
  refine awp_to (oT (m := ⟨[], [(0, [.d (.int .i64 0), .d (.int .i64 0), .d (.int .i64 0)])]⟩) (ts := [(2, .v (.one (.box 0 0))), (4, .v (.one (.d (.lst (List.map (encI .i64) vr1))))), (5, .v (.one (.d (.bool vr1_1))))]) (nx := 1) [] []) ?_
  refine awp_seq ?_
  refine awp_seq ?_
  refine awp_to (st' := campaign_ParseVersion_x1_I vr1 vr1_1) (oT [] []) ?_
  refine bE hF fun vx1 h4 hF => ?_
  refine awp_sub (campaign_ParseVersion_x1_ok vr1 vr1_1 h4) ?_
  refine cE hF (fun h5 hF => ?_) fun h5 hF => ?_
  · refine awp_true (by kernel_rfl) h5 ?_
    refine awp_seq ?_
    refine awp_region ?_
    refine aR 3 ?_
    refine aE ?_
    refine awp_ret ?_
    exact oF hF [] []
  · refine awp_false (by kernel_rfl) h5 ?_
    refine awp_skip ?_
    refine awp_seq ?_
    refine bE hF fun vy h6 hF => ?_
    refine bE hF fun vy1 h7 hF => ?_
    refine bE hF fun vy2 h8 hF => ?_
    refine aD ?_
    refine dR 1 ?_
    refine dX (x_idx (encI .i64) h6) ?_
    refine dR 2 ?_
    refine dX (x_idx (encI .i64) h7) ?_
    refine dR 2 ?_
    refine dX (x_idx (encI .i64) h8) ?_
    refine dR 4 ?_
    refine dE ?_
    refine awp_seq ?_
    refine awp_seq ?_
    refine bE hF fun vr3 h9 hF => ?_
    refine awp_region ?_
    refine aR 1 ?_
    refine aC (base_Version_ok h9) [] [] [] ?_
    refine aR 1 ?_
    refine aE ?_
    refine cE hF (fun h10 hF => ?_) fun h10 hF => ?_
    · refine awp_true (by kernel_rfl) h10 ?_
      refine awp_seq ?_
      refine awp_region ?_
      refine aR 3 ?_
      refine aE ?_
      refine awp_ret ?_
      exact oF hF [] []
    · refine awp_false (by kernel_rfl) h10 ?_
      refine awp_skip ?_
      refine awp_seq ?_
      refine awp_region ?_
      refine aR 3 ?_
      refine aE ?_
      refine awp_ret ?_
      exact oF hF [] []

/-! ### beaconfleet/place.Cell -/
def place_Cell_x1_k : Bool → AEx
  | _ => .normal

def place_Cell_x1_S (qs : api_Spot) (qlevel : Int) : Bool → St
  | vx => Mem.st ⟨[], [(0, [.d (.int .i64 qs.X), .d (.int .i64 qs.Y)])]⟩ (tl [(1, .v (.one (.d (.int .i64 qlevel)))), (2, .v (.one (.box 0 0))), (16, .v (.one (.d (.bool vx))))]) 1

def place_Cell_x1_I (qs : api_Spot) (qlevel : Int) : St := Mem.st ⟨[], [(0, [.d (.int .i64 qs.X), .d (.int .i64 qs.Y)])]⟩ (tl [(1, .v (.one (.d (.int .i64 qlevel)))), (2, .v (.one (.box 0 0)))]) 1

theorem place_Cell_x1_ok (qs : api_Spot) (qlevel : Int) {r} (hF : place_Cell_x1 qs qlevel = some r) : Awp prog 0 47 (cL (cL (cR (cB f30)))) (Out 0 place_Cell_x1_k (place_Cell_x1_S qs qlevel) r) (place_Cell_x1_I qs qlevel) := by
  unfold place_Cell_x1 at hF
  refine bE hF fun vr2 h1 hF => ?_
  refine cE hF (fun h2 hF => ?_) fun h2 hF => ?_
  · refine awp_region ?_
    refine aR 1 ?_
    refine aC (place_isSpot_ok h1) [] [] [] ?_
    refine aB h2 ?_
    refine aR 4 ?_
    refine aE ?_
    exact oO hF [] [] rfl
  · refine bE hF fun vr h3 hF => ?_
    refine awp_region ?_
    refine aR 1 ?_
    refine aC (place_isSpot_ok h1) [] [] [] ?_
    refine aB h2 ?_
    refine aR 2 ?_
    refine aC (base_Out_ok h3) [] [] [] ?_
    refine aR 1 ?_
    refine aE ?_
    exact oO hF [] [] rfl

def place_Cell_x2_k : (List Int) → AEx
  | _ => .exit 0

def place_Cell_x2_S (qs : api_Spot) (qlevel : Int) : (List Int) → St
  | vout1 => Mem.st ⟨[(0, ⟨5, 1, List.map (encI .u8) vout1⟩)], []⟩ (tl [(6, .v (.one (.own 0 none)))]) 1

def place_Cell_x2_H (qs : api_Spot) (qlevel : Int) : (List Int) × Int × Int → St
  | (vout, vlong, vx2) => Mem.st ⟨[(0, ⟨5, 1, List.map (encI .u8) vout⟩)], []⟩ (tl [(6, .v (.one (.own 0 none))), (7, .v (.one (.d (.int .i64 (IntKind.wrap .i64 (qs.X - (-16384))))))), (8, .v (.one (.d (.int .i64 (IntKind.wrap .i64 (qs.Y - (-16384))))))), (9, .v (.one (.d (.int .i64 vlong)))), (23, .v (.one (.d (.int .i64 qlevel)))), (24, .v (.one (.d (.int .i64 vx2))))]) 1

theorem place_Cell_x2_ok (qs : api_Spot) (qlevel : Int) (s : (List Int) × Int × Int) (r : ((List Int) × Int × Int) ⊕ ((List Int))) (hF : place_Cell_x2 qs qlevel s = some r) : Awp prog 0 47 (cL (cL (cR (cL (cR (cR (cR (cR (cB f30))))))))) (Out 0 (kk place_Cell_x2_k) (SS (place_Cell_x2_H qs qlevel) (place_Cell_x2_S qs qlevel)) r) (place_Cell_x2_H qs qlevel s) := by
  obtain ⟨vout, vlong, vx2⟩ := s
  unfold place_Cell_x2 at hF
  refine awp_seq ?_
  refine awp_region ?_
  refine aR 1 ?_
  refine aE ?_
  refine awp_seq ?_
  refine cE hF (fun h6 hF => ?_) fun h6 hF => ?_
  · refine awp_true (by kernel_rfl) h6 ?_
    refine awp_skip ?_
    refine awp_seq ?_
    refine awp_block ?_
    refine awp_seq ?_
    refine awp_region ?_
    refine aR 3 ?_
    refine aE ?_
    refine gE hF fun h7 hF => ?_
    refine gE hF fun h8 hF => ?_
    refine aD ?_
    refine dR 3 ?_
    refine dX (x_quo h7) ?_
    refine dR 5 ?_
    refine dX (x_quo h7) ?_
    refine dR 5 ?_
    refine dX (x_app (encI .u8) 0 h8) ?_
    refine dR 1 ?_
    refine dE ?_
    refine awp_region ?_
    refine aR 2 ?_
    refine aE ?_
    exact oO hF [(0, 19001)] [] rfl
  · refine awp_false (by kernel_rfl) h6 ?_
    refine awp_exit ?_
    exact oO hF [] [] rfl

def place_Cell_R (qs : api_Spot) (qlevel : Int) (r : (List UInt8) × Int) : TV × Mem := (.tup [.one (.d (.str r.1)), .one (.d (.int .i64 r.2))], ⟨[], []⟩)

theorem place_Cell_ok {qs : api_Spot} {qlevel : Int} {r} (hF : place_Cell qs qlevel = some r) : Holds prog 30 [.v (.agg [.d (.int .i64 qs.X), .d (.int .i64 qs.Y)]), .v (.one (.d (.int .i64 qlevel)))] ⟨[], []⟩ (Is (place_Cell_R qs qlevel r)) := by
  unfold place_Cell at hF
  refine holds_of_awp hΓ (fn := f30) (c := cB f30) (A := 0) (nx := 0) (by kernel_rfl) (by kernel_rfl) (by kernel_rfl) (by kernel_rfl) (by kernel_rfl) (by kernel_rfl) (lowc_of (by kernel_rfl)) ?_
  show Awp prog 0 47 (cB f30) _ _
  refine awp_seq ?_
  refine awp_region ?_
  refine aR 3 ?_
  refine aE ?_
  refine awp_seq ?_
  refine awp_seq ?_
  refine awp_to (st' := place_Cell_x1_I qs qlevel) (oT [] []) ?_
  refine bE hF fun vx1 h4 hF => ?_
  refine awp_sub (place_Cell_x1_ok qs qlevel h4) ?_
  refine cE hF (fun h5 hF => ?_) fun h5 hF => ?_
  · refine awp_true (by kernel_rfl) h5 ?_
    refine awp_seq ?_
    refine awp_region ?_
    refine aR 2 ?_
    refine aE ?_
    refine awp_ret ?_
    exact oF hF [] []
  · refine awp_false (by kernel_rfl) h5 ?_
    refine awp_skip ?_
    refine awp_seq ?_
    refine awp_region ?_
    refine aR 1 ?_
    refine aE ?_
    refine awp_seq ?_
    refine aD ?_
    refine dR 9 ?_
    refine dE ?_
    refine awp_seq ?_
    refine awp_seq ?_
    refine awp_region ?_
    refine aR 2 ?_
    refine aE ?_
    refine awp_block ?_
    refine awp_to (st' := place_Cell_x2_H qs qlevel ([], 32768, 0)) (oT [] [0]) ?_
    refine bE hF fun vout1_1 h9 hF => ?_
    refine awp_sub (awp_loop' (place_Cell_x2_H qs qlevel) place_Cell_x2_k (place_Cell_x2_S qs qlevel) (by intro x; exact fun h => nomatch h) h9 (place_Cell_x2_ok qs qlevel)) ?_
    refine awp_seq ?_
    refine awp_region ?_
    refine aR 1 ?_
    refine aSt (xs := vout1_1) rfl rfl ?_
    refine aR 2 ?_
    refine aE ?_
    refine awp_ret ?_
    exact oF hF [] []

/-! ### beaconfleet/command.CheckLetter -/
def command_CheckLetter_x1_k : Bool → AEx
  | _ => .normal

def command_CheckLetter_x1_S (ql : api_Letter) : Bool → St
  | vx => Mem.st ⟨[], [(0, [.d (.str ql.Id), .d (.str ql.Slot), .d (.str ql.Body), .d (.int .i64 ql.Prio), .d (.int .i64 ql.At), .d (.int .i64 ql.Until)])]⟩ (tl [(1, .v (.one (.box 0 0))), (3, .v (.one (.d (.bool vx))))]) 1

def command_CheckLetter_x1_I (ql : api_Letter) : St := Mem.st ⟨[], [(0, [.d (.str ql.Id), .d (.str ql.Slot), .d (.str ql.Body), .d (.int .i64 ql.Prio), .d (.int .i64 ql.At), .d (.int .i64 ql.Until)])]⟩ (tl [(1, .v (.one (.box 0 0)))]) 1

theorem command_CheckLetter_x1_ok (ql : api_Letter) {r} (hF : command_CheckLetter_x1 ql = some r) : Awp prog 0 51 (cL (cL (cL (cR (cB f53))))) (Out 0 command_CheckLetter_x1_k (command_CheckLetter_x1_S ql) r) (command_CheckLetter_x1_I ql) := by
  unfold command_CheckLetter_x1 at hF
  refine bE hF fun vr h1 hF => ?_
  refine cE hF (fun h2 hF => ?_) fun h2 hF => ?_
  · refine awp_region ?_
    refine aR 2 ?_
    refine aC (base_Key_ok h1) [] [] [] ?_
    refine aB h2 ?_
    refine aR 12 ?_
    refine aE ?_
    exact oO hF [] [] rfl
  · refine cE hF (fun h3 hF => ?_) fun h3 hF => ?_
    · refine bE hF fun vr1 h4 hF => ?_
      refine awp_region ?_
      refine aR 2 ?_
      refine aC (base_Key_ok h1) [] [] [] ?_
      refine aB h2 ?_
      refine aR 3 ?_
      refine aB h3 ?_
      refine aR 3 ?_
      refine aC (base_Key_ok h4) [] [] [] ?_
      refine aR 4 ?_
      refine aE ?_
      exact oO hF [] [] rfl
    · refine awp_region ?_
      refine aR 2 ?_
      refine aC (base_Key_ok h1) [] [] [] ?_
      refine aB h2 ?_
      refine aR 3 ?_
      refine aB h3 ?_
      refine aR 8 ?_
      refine aE ?_
      exact oO hF [] [] rfl

def command_CheckLetter_x2_k : Bool → AEx
  | _ => .normal

def command_CheckLetter_x2_S (ql : api_Letter) : Bool → St
  | vx2 => Mem.st ⟨[], []⟩ (tl [(29, .v (.one (.d (.bool vx2))))]) 0

def command_CheckLetter_x2_I (ql : api_Letter) : St := Mem.st ⟨[], [(0, [.d (.str ql.Id), .d (.str ql.Slot), .d (.str ql.Body), .d (.int .i64 ql.Prio), .d (.int .i64 ql.At), .d (.int .i64 ql.Until)])]⟩ (tl [(1, .v (.one (.box 0 0)))]) 1

theorem command_CheckLetter_x2_ok (ql : api_Letter) {r} (hF : command_CheckLetter_x2 ql = some r) : Awp prog 0 51 (cL (cR (cR (cR (cR (cR (cR (cL (cL (cR (cB f53))))))))))) (Out 0 command_CheckLetter_x2_k (command_CheckLetter_x2_S ql) r) (command_CheckLetter_x2_I ql) := by
  unfold command_CheckLetter_x2 at hF
  refine bE hF fun vr3 h10 hF => ?_
  refine cE hF (fun h11 hF => ?_) fun h11 hF => ?_
  · refine awp_region ?_
    refine aR 2 ?_
    refine aCb (base_Out_ok h10) [] [] [] h11 ?_
    refine aR 19 ?_
    refine aE ?_
    exact oO hF [] [] rfl
  · refine bE hF fun vr1_1 h12 hF => ?_
    refine cE hF (fun h13 hF => ?_) fun h13 hF => ?_
    · refine awp_region ?_
      refine aR 2 ?_
      refine aCb (base_Out_ok h10) [] [] [] h11 ?_
      refine aR 3 ?_
      refine aC (base_Moment_ok h12) [] [] [] ?_
      refine aB h13 ?_
      refine aR 14 ?_
      refine aE ?_
      exact oO hF [] [] rfl
    · refine cE hF (fun h14 hF => ?_) fun h14 hF => ?_
      · refine awp_region ?_
        refine aR 2 ?_
        refine aCb (base_Out_ok h10) [] [] [] h11 ?_
        refine aR 3 ?_
        refine aC (base_Moment_ok h12) [] [] [] ?_
        refine aB h13 ?_
        refine aR 6 ?_
        refine aB h14 ?_
        refine aR 7 ?_
        refine aE ?_
        exact oO hF [] [] rfl
      · refine awp_region ?_
        refine aR 2 ?_
        refine aCb (base_Out_ok h10) [] [] [] h11 ?_
        refine aR 3 ?_
        refine aC (base_Moment_ok h12) [] [] [] ?_
        refine aB h13 ?_
        refine aR 6 ?_
        refine aB h14 ?_
        refine aR 7 ?_
        refine aE ?_
        exact oO hF [] [] rfl

def command_CheckLetter_R (ql : api_Letter) (r : Int) : TV × Mem := (.v (.one (.d (.int .i64 r))), ⟨[], []⟩)

theorem command_CheckLetter_ok {ql : api_Letter} {r} (hF : command_CheckLetter ql = some r) : Holds prog 53 [.v (.agg [.d (.str ql.Id), .d (.str ql.Slot), .d (.str ql.Body), .d (.int .i64 ql.Prio), .d (.int .i64 ql.At), .d (.int .i64 ql.Until)])] ⟨[], []⟩ (Is (command_CheckLetter_R ql r)) := by
  unfold command_CheckLetter at hF
  refine holds_of_awp hΓ (fn := f53) (c := cB f53) (A := 0) (nx := 0) (by kernel_rfl) (by kernel_rfl) (by kernel_rfl) (by kernel_rfl) (by kernel_rfl) (by kernel_rfl) (lowc_of (by kernel_rfl)) ?_
  show Awp prog 0 51 (cB f53) _ _
  refine awp_seq ?_
  refine awp_region ?_
  refine aR 2 ?_
  refine aE ?_
  refine awp_seq ?_
  refine awp_block ?_
  refine awp_seq ?_
  refine awp_to (st' := command_CheckLetter_x1_I ql) (oT [] []) ?_
  refine bE hF fun vx1 h5 hF => ?_
  refine awp_sub (command_CheckLetter_x1_ok ql h5) ?_
  refine cE hF (fun h6 hF => ?_) fun h6 hF => ?_
  · refine awp_true (by kernel_rfl) h6 ?_
    refine awp_seq ?_
    refine awp_region ?_
    refine aR 1 ?_
    refine aE ?_
    refine awp_ret ?_
    exact oF hF [] []
  · refine awp_false (by kernel_rfl) h6 ?_
    refine awp_seq ?_
    refine awp_region ?_
    refine aR 5 ?_
    refine aE ?_
    refine cE hF (fun h7 hF => ?_) fun h7 hF => ?_
    · refine awp_true (by kernel_rfl) h7 ?_
      refine awp_seq ?_
      refine awp_region ?_
      refine aR 1 ?_
      refine aE ?_
      refine awp_ret ?_
      exact oF hF [] []
    · refine awp_false (by kernel_rfl) h7 ?_
      refine awp_seq ?_
      refine bE hF fun vr2 h8 hF => ?_
      refine awp_region ?_
      refine aR 2 ?_
      refine aC (base_Unmarked_ok h8) [] [] [] ?_
      refine aR 2 ?_
      refine aE ?_
      refine cE hF (fun h9 hF => ?_) fun h9 hF => ?_
      · refine awp_true (by kernel_rfl) h9 ?_
        refine awp_seq ?_
        refine awp_region ?_
        refine aR 1 ?_
        refine aE ?_
        refine awp_ret ?_
        exact oF hF [] []
      · refine awp_false (by kernel_rfl) h9 ?_
        refine awp_seq ?_
        refine awp_to (st' := command_CheckLetter_x2_I ql) (oT [] []) ?_
        refine bE hF fun vx2_1 h15 hF => ?_
        refine awp_sub (command_CheckLetter_x2_ok ql h15) ?_
        refine cE hF (fun h16 hF => ?_) fun h16 hF => ?_
        · refine awp_true (by kernel_rfl) h16 ?_
          refine awp_seq ?_
          refine awp_region ?_
          refine aR 1 ?_
          refine aE ?_
          refine awp_ret ?_
          exact oF hF [] []
        · refine awp_false (by kernel_rfl) h16 ?_
          refine awp_skip ?_
          refine awp_seq ?_
          refine awp_region ?_
          refine aR 1 ?_
          refine aE ?_
          refine awp_ret ?_
          exact oF hF [] []

/-! ### beaconfleet/command.Order$1 -/
def command_Order_1_R (qy : api_Letter) (qx : api_Letter) (r : Unit) : TV × Mem := (.v (.one (.d (.bool (decide (qy.Id = qx.Id))))), ⟨[], [(0, [.d (.str qx.Id), .d (.str qx.Slot), .d (.str qx.Body), .d (.int .i64 qx.Prio), .d (.int .i64 qx.At), .d (.int .i64 qx.Until)])]⟩)

theorem command_Order_1_ok {qy : api_Letter} {qx : api_Letter} {r} (hF : command_Order_1 qy qx = some r) : Holds prog 55 [.v (.agg [.d (.str qy.Id), .d (.str qy.Slot), .d (.str qy.Body), .d (.int .i64 qy.Prio), .d (.int .i64 qy.At), .d (.int .i64 qy.Until)]), .v (.one (.box 0 0))] ⟨[], [(0, [.d (.str qx.Id), .d (.str qx.Slot), .d (.str qx.Body), .d (.int .i64 qx.Prio), .d (.int .i64 qx.At), .d (.int .i64 qx.Until)])]⟩ (Is (command_Order_1_R qy qx r)) := by
  unfold command_Order_1 at hF
  refine holds_of_awp hΓ (fn := f55) (c := cB f55) (A := 1) (nx := 1) (by kernel_rfl) (by kernel_rfl) (by kernel_rfl) (by kernel_rfl) (by kernel_rfl) (by kernel_rfl) (lowc_of (by kernel_rfl)) ?_
  show Awp prog 1 9 (cB f55) _ _
  refine awp_seq ?_
  refine awp_region ?_
  refine aR 2 ?_
  refine aE ?_
  refine awp_seq ?_
  refine awp_region ?_
  refine aR 6 ?_
  refine aE ?_
  refine awp_ret ?_
  exact oF hF [] []

/-! ### slices.IndexFunc[[]beaconfleet/api.Letter,beaconfleet/api.Letter] -/
def slices_IndexFunc_api_Letter_api_Letter_f1_command_Order_1_x1_k : Unit ⊕ Int → AEx
  | .inl _ => .exit 0
  | .inr _ => .ret

def slices_IndexFunc_api_Letter_api_Letter_f1_command_Order_1_x1_S (qs : List api_Letter) (qf : api_Letter) : Unit ⊕ Int → St
  | .inl _ => Mem.st ⟨[], [(0, [.d (.str qf.Id), .d (.str qf.Slot), .d (.str qf.Body), .d (.int .i64 qf.Prio), .d (.int .i64 qf.At), .d (.int .i64 qf.Until)])]⟩ (tl []) 1
  | .inr vx1 => Mem.st ⟨[], [(0, [.d (.str qf.Id), .d (.str qf.Slot), .d (.str qf.Body), .d (.int .i64 qf.Prio), .d (.int .i64 qf.At), .d (.int .i64 qf.Until)])]⟩ (tl [(4, .v (.one (.d (.int .i64 vx1))))]) 1

def slices_IndexFunc_api_Letter_api_Letter_f1_command_Order_1_x1_H (qs : List api_Letter) (qf : api_Letter) : Int → St
  | vx => Mem.st ⟨[], [(0, [.d (.str qf.Id), .d (.str qf.Slot), .d (.str qf.Body), .d (.int .i64 qf.Prio), .d (.int .i64 qf.At), .d (.int .i64 qf.Until)])]⟩ (tl [(0, .v (.one (.d (.lst (List.map api_Letter.enc qs))))), (1, .v (.one (.fn 55 [0]))), (7, .v (.one (.d (.int .i64 (qs.length : Int))))), (8, .v (.one (.d (.int .i64 vx))))]) 1

theorem slices_IndexFunc_api_Letter_api_Letter_f1_command_Order_1_x1_ok (qs : List api_Letter) (qf : api_Letter) (vx : Int) (r : (Int) ⊕ (Unit ⊕ Int)) (hF : slices_IndexFunc_api_Letter_api_Letter_f1_command_Order_1_x1 qs qf vx = some r) : Awp prog 1 19 (cL (cL (cR (cL (cR (cB f93)))))) (Out 1 (kk slices_IndexFunc_api_Letter_api_Letter_f1_command_Order_1_x1_k) (SS (slices_IndexFunc_api_Letter_api_Letter_f1_command_Order_1_x1_H qs qf) (slices_IndexFunc_api_Letter_api_Letter_f1_command_Order_1_x1_S qs qf)) r) (slices_IndexFunc_api_Letter_api_Letter_f1_command_Order_1_x1_H qs qf vx) := by
  unfold slices_IndexFunc_api_Letter_api_Letter_f1_command_Order_1_x1 at hF
  refine awp_seq ?_
  refine awp_region ?_
  refine aR 1 ?_
  refine aE ?_
  refine awp_seq ?_
  refine cE hF (fun h1 hF => ?_) fun h1 hF => ?_
  · refine awp_true (by kernel_rfl) h1 ?_
    refine awp_skip ?_
    refine awp_seq ?_
    refine awp_block ?_
    refine awp_seq ?_
    refine awp_region ?_
    refine aR 2 ?_
    refine aE ?_
    refine awp_seq ?_
    refine bE hF fun vy1 h2 hF => ?_
    refine bE hF fun _ h3 hF => ?_
    refine awp_region ?_
    refine aR 3 ?_
    refine aX (x_idx api_Letter.enc h2) ?_
    refine aR 1 ?_
    refine aC (command_Order_1_ok h3) [] [] [] ?_
    refine aE ?_
    refine cE hF (fun h4 hF => ?_) fun h4 hF => ?_
    · refine awp_true (by kernel_rfl) h4 ?_
      refine awp_seq ?_
      refine awp_region ?_
      refine aR 2 ?_
      refine aE ?_
      refine awp_ret ?_
      exact oO hF [] [] rfl
    · refine awp_false (by kernel_rfl) h4 ?_
      refine awp_skip ?_
      refine awp_region ?_
      refine aR 2 ?_
      refine aE ?_
      exact oO hF [] [] rfl
  · refine awp_false (by kernel_rfl) h1 ?_
    refine awp_exit ?_
    exact oO hF [] [] rfl

def slices_IndexFunc_api_Letter_api_Letter_f1_command_Order_1_R (qs : List api_Letter) (qf : api_Letter) (r : Int) : TV × Mem := (.v (.one (.d (.int .i64 r))), ⟨[], [(0, [.d (.str qf.Id), .d (.str qf.Slot), .d (.str qf.Body), .d (.int .i64 qf.Prio), .d (.int .i64 qf.At), .d (.int .i64 qf.Until)])]⟩)

theorem slices_IndexFunc_api_Letter_api_Letter_f1_command_Order_1_ok {qs : List api_Letter} {qf : api_Letter} {r} (hF : slices_IndexFunc_api_Letter_api_Letter_f1_command_Order_1 qs qf = some r) : Holds prog 93 [.v (.one (.d (.lst (List.map api_Letter.enc qs)))), .v (.one (.fn 55 [0]))] ⟨[], [(0, [.d (.str qf.Id), .d (.str qf.Slot), .d (.str qf.Body), .d (.int .i64 qf.Prio), .d (.int .i64 qf.At), .d (.int .i64 qf.Until)])]⟩ (Is (slices_IndexFunc_api_Letter_api_Letter_f1_command_Order_1_R qs qf r)) := by
  unfold slices_IndexFunc_api_Letter_api_Letter_f1_command_Order_1 at hF
  refine holds_of_awp hΓ (fn := f93) (c := cB f93) (A := 1) (nx := 1) (by kernel_rfl) (by kernel_rfl) (by kernel_rfl) (by kernel_rfl) (by kernel_rfl) (by kernel_rfl) (lowc_of (by kernel_rfl)) ?_
  show Awp prog 1 19 (cB f93) _ _
  refine awp_seq ?_
  refine awp_region ?_
  refine aR 1 ?_
  refine aE ?_
  refine awp_seq ?_
  refine awp_seq ?_
  refine awp_region ?_
  refine aR 1 ?_
  refine aL api_Letter.enc qs ?_
  refine aR 1 ?_
  refine aE ?_
  refine awp_block ?_
  refine awp_to (st' := slices_IndexFunc_api_Letter_api_Letter_f1_command_Order_1_x1_H qs qf 0) (oT [] []) ?_
  refine bE hF fun x h5 hF => ?_
  rcases x with _ | vx1_1
  · refine awp_sub (awp_loop' (slices_IndexFunc_api_Letter_api_Letter_f1_command_Order_1_x1_H qs qf) slices_IndexFunc_api_Letter_api_Letter_f1_command_Order_1_x1_k (slices_IndexFunc_api_Letter_api_Letter_f1_command_Order_1_x1_S qs qf) (by intro x; rcases x with x | x <;> exact fun h => nomatch h) h5 (slices_IndexFunc_api_Letter_api_Letter_f1_command_Order_1_x1_ok qs qf)) ?_
    refine awp_seq ?_
    refine awp_region ?_
    refine aR 1 ?_
    refine aE ?_
    refine awp_ret ?_
    exact oF hF [] []
  · refine awp_sub (awp_loop' (slices_IndexFunc_api_Letter_api_Letter_f1_command_Order_1_x1_H qs qf) slices_IndexFunc_api_Letter_api_Letter_f1_command_Order_1_x1_k (slices_IndexFunc_api_Letter_api_Letter_f1_command_Order_1_x1_S qs qf) (by intro x; rcases x with x | x <;> exact fun h => nomatch h) h5 (slices_IndexFunc_api_Letter_api_Letter_f1_command_Order_1_x1_ok qs qf)) ?_
    exact oF hF [] []

/-! ### slices.ContainsFunc[[]beaconfleet/api.Letter,beaconfleet/api.Letter] -/
def slices_ContainsFunc_api_Letter_api_Letter_f1_command_Order_1_R (qs : List api_Letter) (qf : api_Letter) (r : Bool) : TV × Mem := (.v (.one (.d (.bool r))), ⟨[], [(0, [.d (.str qf.Id), .d (.str qf.Slot), .d (.str qf.Body), .d (.int .i64 qf.Prio), .d (.int .i64 qf.At), .d (.int .i64 qf.Until)])]⟩)

theorem slices_ContainsFunc_api_Letter_api_Letter_f1_command_Order_1_ok {qs : List api_Letter} {qf : api_Letter} {r} (hF : slices_ContainsFunc_api_Letter_api_Letter_f1_command_Order_1 qs qf = some r) : Holds prog 54 [.v (.one (.d (.lst (List.map api_Letter.enc qs)))), .v (.one (.fn 55 [0]))] ⟨[], [(0, [.d (.str qf.Id), .d (.str qf.Slot), .d (.str qf.Body), .d (.int .i64 qf.Prio), .d (.int .i64 qf.At), .d (.int .i64 qf.Until)])]⟩ (Is (slices_ContainsFunc_api_Letter_api_Letter_f1_command_Order_1_R qs qf r)) := by
  unfold slices_ContainsFunc_api_Letter_api_Letter_f1_command_Order_1 at hF
  refine holds_of_awp hΓ (fn := f54) (c := cB f54) (A := 1) (nx := 1) (by kernel_rfl) (by kernel_rfl) (by kernel_rfl) (by kernel_rfl) (by kernel_rfl) (by kernel_rfl) (lowc_of (by kernel_rfl)) ?_
  show Awp prog 1 9 (cB f54) _ _
  refine awp_seq ?_
  refine awp_region ?_
  refine aR 1 ?_
  refine aE ?_
  refine awp_seq ?_
  refine bE hF fun vr h1 hF => ?_
  refine awp_region ?_
  refine aR 2 ?_
  refine aC (slices_IndexFunc_api_Letter_api_Letter_f1_command_Order_1_ok h1) [] [] [] ?_
  refine aR 2 ?_
  refine aE ?_
  refine awp_ret ?_
  exact oF hF [] []

/-! ### slices.Clone[[]beaconfleet/api.Letter,beaconfleet/api.Letter] -/
def slices_Clone_api_Letter_api_Letter_R (qs : List api_Letter) (r : List api_Letter) : TV × Mem := (.v (.one (.own 0 none)), ⟨[(0, ⟨90, 6, List.map api_Letter.enc r⟩)], []⟩)

theorem slices_Clone_api_Letter_api_Letter_ok {qs : List api_Letter} {r} (hF : slices_Clone_api_Letter_api_Letter qs = some r) : Holds prog 56 [.v (.one (.d (.lst (List.map api_Letter.enc qs))))] ⟨[], []⟩ (Is (slices_Clone_api_Letter_api_Letter_R qs r)) := by
  unfold slices_Clone_api_Letter_api_Letter at hF
  refine gE hF fun h1 hF => ?_
  refine holds_of_awp hΓ (fn := f56) (c := cB f56) (A := 0) (nx := 0) (by kernel_rfl) (by kernel_rfl) (by kernel_rfl) (by kernel_rfl) (by kernel_rfl) (by kernel_rfl) (lowc_of (by kernel_rfl)) ?_
  show Awp prog 0 8 (cB f56) _ _
  refine awp_seq ?_
  refine awp_region ?_
  refine aR 1 ?_
  refine aE ?_
  refine awp_seq ?_
  refine awp_seq ?_
  refine awp_region ?_
  refine aR 1 ?_
  refine aN api_Letter.enc qs (fun b hb => ?_) rfl
  refine aE ?_
  cases b with
  | true =>
    obtain rfl := hb rfl
    refine awp_true (by kernel_rfl) rfl ?_
    refine awp_seq ?_
    refine awp_region ?_
    refine aR 1 ?_
    refine aE ?_
    refine awp_ret ?_
    exact oF hF [] [0]
  | false =>
    refine awp_false (by kernel_rfl) rfl ?_
    refine awp_skip ?_
    refine awp_seq ?_
    refine awp_region ?_
    refine aR 2 ?_
    refine aX (x_app api_Letter.enc 3000 h1) ?_
    refine aR 1 ?_
    refine aE ?_
    refine awp_ret ?_
    exact oF hF [(0, 5000)] []

/-! ### beaconfleet/command.byOrder -/
def command_byOrder_R (qa : api_Letter) (qb : api_Letter) (r : Int) : TV × Mem := (.v (.one (.d (.int .i64 r))), ⟨[], []⟩)

theorem command_byOrder_ok {qa : api_Letter} {qb : api_Letter} {r} (hF : command_byOrder qa qb = some r) : Holds prog 58 [.v (.agg [.d (.str qa.Id), .d (.str qa.Slot), .d (.str qa.Body), .d (.int .i64 qa.Prio), .d (.int .i64 qa.At), .d (.int .i64 qa.Until)]), .v (.agg [.d (.str qb.Id), .d (.str qb.Slot), .d (.str qb.Body), .d (.int .i64 qb.Prio), .d (.int .i64 qb.At), .d (.int .i64 qb.Until)])] ⟨[], []⟩ (Is (command_byOrder_R qa qb r)) := by
  unfold command_byOrder at hF
  refine holds_of_awp hΓ (fn := f58) (c := cB f58) (A := 0) (nx := 0) (by kernel_rfl) (by kernel_rfl) (by kernel_rfl) (by kernel_rfl) (by kernel_rfl) (by kernel_rfl) (lowc_of (by kernel_rfl)) ?_
  show Awp prog 0 22 (cB f58) _ _
  refine awp_seq ?_
  refine awp_region ?_
  refine aR 3 ?_
  refine aE ?_
  refine awp_seq ?_
  refine bE hF fun vr h1 hF => ?_
  refine bE hF fun vr1 h2 hF => ?_
  refine bE hF fun _ h3 hF => ?_
  refine bE hF fun vr2 h4 hF => ?_
  refine aD ?_
  refine dR 4 ?_
  refine dC (cmp_Compare_int_ok h1) [] [] [] ?_
  refine dR 4 ?_
  refine dC (cmp_Compare_int_ok h2) [] [] [] ?_
  refine dR 4 ?_
  refine dC (strings_Compare_ok h3) [] [] [] ?_
  refine dR 1 ?_
  refine dC (cmp_Or_int_ok h4) [] [] [18000] ?_
  refine dR 1 ?_
  refine dE ?_
  refine awp_ret ?_
  exact oF hF [] []

/-! ### slices.insertionSortCmpFunc[beaconfleet/api.Letter] -/
def slices_insertionSortCmpFunc_api_Letter_o0_f3_command_byOrder_x3_k : Bool → AEx
  | _ => .normal

def slices_insertionSortCmpFunc_api_Letter_o0_f3_command_byOrder_x3_S (qa : Int) (qb : Int) (vi : Int) (vl3 : List api_Letter) (vj1 : Int) : Bool → St
  | vx4 => Mem.st ⟨[(0, ⟨90, 6, List.map api_Letter.enc vl3⟩)], []⟩ (tl [(0, .v (.one (.own 0 none))), (1, .v (.one (.d (.int .i64 qa)))), (2, .v (.one (.d (.int .i64 qb)))), (3, .v (.one (.fn 58 []))), (8, .v (.one (.d (.int .i64 vi)))), (9, .v (.one (.d (.int .i64 vj1)))), (34, .v (.one (.d (.bool vx4))))]) 1

def slices_insertionSortCmpFunc_api_Letter_o0_f3_command_byOrder_x3_I (qa : Int) (qb : Int) (vi : Int) (vl3 : List api_Letter) (vj1 : Int) : St := Mem.st ⟨[(0, ⟨90, 6, List.map api_Letter.enc vl3⟩)], []⟩ (tl [(0, .v (.one (.own 0 none))), (1, .v (.one (.d (.int .i64 qa)))), (2, .v (.one (.d (.int .i64 qb)))), (3, .v (.one (.fn 58 []))), (8, .v (.one (.d (.int .i64 vi)))), (9, .v (.one (.d (.int .i64 vj1))))]) 1

theorem slices_insertionSortCmpFunc_api_Letter_o0_f3_command_byOrder_x3_ok (qa : Int) (qb : Int) (vi : Int) (vl3 : List api_Letter) (vj1 : Int) {r} (hF : slices_insertionSortCmpFunc_api_Letter_o0_f3_command_byOrder_x3 qa vl3 vj1 = some r) : Awp prog 1 53 (cL (cL (cL (cL (cR (cL (cL (cR (cL (cL (cR (cB f119)))))))))))) (Out 1 slices_insertionSortCmpFunc_api_Letter_o0_f3_command_byOrder_x3_k (slices_insertionSortCmpFunc_api_Letter_o0_f3_command_byOrder_x3_S qa qb vi vl3 vj1) r) (slices_insertionSortCmpFunc_api_Letter_o0_f3_command_byOrder_x3_I qa qb vi vl3 vj1) := by
  unfold slices_insertionSortCmpFunc_api_Letter_o0_f3_command_byOrder_x3 at hF
  refine cE hF (fun h2 hF => ?_) fun h2 hF => ?_
  · refine bE hF fun vy15 h3 hF => ?_
    refine bE hF fun vy16 h4 hF => ?_
    refine bE hF fun vr3_3 h5 hF => ?_
    refine aD ?_
    refine dR 2 ?_
    refine dB h2 ?_
    refine dR 4 ?_
    refine dX (x_idxO api_Letter.enc 0 h3) ?_
    refine dX (x_ldE api_Letter.enc h3) ?_
    refine dR 3 ?_
    refine dX (x_idxO api_Letter.enc 0 h4) ?_
    refine dX (x_ldE api_Letter.enc h4) ?_
    refine dC (command_byOrder_ok h5) [] [] [] ?_
    refine dR 2 ?_
    refine dE ?_
    exact oO hF [] [] rfl
  · refine aD ?_
    refine dR 2 ?_
    refine dB h2 ?_
    refine dR 14 ?_
    refine dE ?_
    exact oO hF [] [] rfl

def slices_insertionSortCmpFunc_api_Letter_o0_f3_command_byOrder_x2_k : (List api_Letter) → AEx
  | _ => .exit 2

def slices_insertionSortCmpFunc_api_Letter_o0_f3_command_byOrder_x2_S (qa : Int) (qb : Int) (vi : Int) : (List api_Letter) → St
  | vl4 => Mem.st ⟨[(0, ⟨90, 6, List.map api_Letter.enc vl4⟩)], []⟩ (tl [(0, .v (.one (.own 0 none))), (1, .v (.one (.d (.int .i64 qa)))), (2, .v (.one (.d (.int .i64 qb)))), (3, .v (.one (.fn 58 []))), (8, .v (.one (.d (.int .i64 vi))))]) 1

def slices_insertionSortCmpFunc_api_Letter_o0_f3_command_byOrder_x2_H (qa : Int) (qb : Int) (vi : Int) : (List api_Letter) × Int → St
  | (vl3, vj1) => Mem.st ⟨[(0, ⟨90, 6, List.map api_Letter.enc vl3⟩)], []⟩ (tl [(0, .v (.one (.own 0 none))), (1, .v (.one (.d (.int .i64 qa)))), (2, .v (.one (.d (.int .i64 qb)))), (3, .v (.one (.fn 58 []))), (8, .v (.one (.d (.int .i64 vi)))), (9, .v (.one (.d (.int .i64 vj1))))]) 1

theorem slices_insertionSortCmpFunc_api_Letter_o0_f3_command_byOrder_x2_ok (qa : Int) (qb : Int) (vi : Int) (s : (List api_Letter) × Int) (r : ((List api_Letter) × Int) ⊕ ((List api_Letter))) (hF : slices_insertionSortCmpFunc_api_Letter_o0_f3_command_byOrder_x2 qa s = some r) : Awp prog 1 53 (cL (cL (cR (cL (cL (cR (cL (cL (cR (cB f119)))))))))) (Out 1 (kk slices_insertionSortCmpFunc_api_Letter_o0_f3_command_byOrder_x2_k) (SS (slices_insertionSortCmpFunc_api_Letter_o0_f3_command_byOrder_x2_H qa qb vi) (slices_insertionSortCmpFunc_api_Letter_o0_f3_command_byOrder_x2_S qa qb vi)) r) (slices_insertionSortCmpFunc_api_Letter_o0_f3_command_byOrder_x2_H qa qb vi s) := by
  obtain ⟨vl3, vj1⟩ := s
  unfold slices_insertionSortCmpFunc_api_Letter_o0_f3_command_byOrder_x2 at hF
  refine awp_seq ?_
  refine awp_seq ?_
  refine awp_to (st' := slices_insertionSortCmpFunc_api_Letter_o0_f3_command_byOrder_x3_I qa qb vi vl3 vj1) (oT [] []) ?_
  refine bE hF fun vx4_1 h6 hF => ?_
  refine awp_sub (slices_insertionSortCmpFunc_api_Letter_o0_f3_command_byOrder_x3_ok qa qb vi vl3 vj1 h6) ?_
  refine cE hF (fun h7 hF => ?_) fun h7 hF => ?_
  · refine awp_true (by kernel_rfl) h7 ?_
    refine awp_skip ?_
    refine awp_seq ?_
    refine awp_block ?_
    refine bE hF fun vy17 h8 hF => ?_
    refine bE hF fun vy18 h9 hF => ?_
    refine bE hF fun vy19 h10 hF => ?_
    refine aDw [0] ?_
    refine dR 8 ?_
    refine dI api_Letter.enc 0 h8 rfl ?_
    refine dX (x_ldE api_Letter.enc h8) ?_
    refine dR 2 ?_
    refine dI api_Letter.enc 0 h9 rfl ?_
    refine dX (x_ldE api_Letter.enc h9) ?_
    refine dI api_Letter.enc 0 h9 rfl ?_
    refine dW api_Letter.enc vy17 h9 rfl ?_
    refine dI api_Letter.enc 0 h10 rfl ?_
    refine dW api_Letter.enc vy18 h10 rfl ?_
    refine dE ?_
    refine awp_region ?_
    refine aR 3 ?_
    refine aE ?_
    exact oO hF [] [] rfl
  · refine awp_false (by kernel_rfl) h7 ?_
    refine awp_exit ?_
    exact oO hF [] [] rfl

def slices_insertionSortCmpFunc_api_Letter_o0_f3_command_byOrder_x1_k : (List api_Letter) → AEx
  | _ => .exit 0

def slices_insertionSortCmpFunc_api_Letter_o0_f3_command_byOrder_x1_S (qa : Int) (qb : Int) : (List api_Letter) → St
  | vl5 => Mem.st ⟨[(0, ⟨90, 6, List.map api_Letter.enc vl5⟩)], []⟩ (tl []) 1

def slices_insertionSortCmpFunc_api_Letter_o0_f3_command_byOrder_x1_H (qa : Int) (qb : Int) : (List api_Letter) × Int → St
  | (vl, vi) => Mem.st ⟨[(0, ⟨90, 6, List.map api_Letter.enc vl⟩)], []⟩ (tl [(0, .v (.one (.own 0 none))), (1, .v (.one (.d (.int .i64 qa)))), (2, .v (.one (.d (.int .i64 qb)))), (3, .v (.one (.fn 58 []))), (8, .v (.one (.d (.int .i64 vi))))]) 1

theorem slices_insertionSortCmpFunc_api_Letter_o0_f3_command_byOrder_x1_ok (qa : Int) (qb : Int) (s : (List api_Letter) × Int) (r : ((List api_Letter) × Int) ⊕ ((List api_Letter))) (hF : slices_insertionSortCmpFunc_api_Letter_o0_f3_command_byOrder_x1 qa qb s = some r) : Awp prog 1 53 (cL (cL (cR (cB f119)))) (Out 1 (kk slices_insertionSortCmpFunc_api_Letter_o0_f3_command_byOrder_x1_k) (SS (slices_insertionSortCmpFunc_api_Letter_o0_f3_command_byOrder_x1_H qa qb) (slices_insertionSortCmpFunc_api_Letter_o0_f3_command_byOrder_x1_S qa qb)) r) (slices_insertionSortCmpFunc_api_Letter_o0_f3_command_byOrder_x1_H qa qb s) := by
  obtain ⟨vl, vi⟩ := s
  unfold slices_insertionSortCmpFunc_api_Letter_o0_f3_command_byOrder_x1 at hF
  refine awp_seq ?_
  refine awp_seq ?_
  refine awp_region ?_
  refine aR 3 ?_
  refine aE ?_
  refine cE hF (fun h1 hF => ?_) fun h1 hF => ?_
  · refine awp_true (by kernel_rfl) h1 ?_
    refine awp_skip ?_
    refine awp_seq ?_
    refine awp_block ?_
    refine awp_seq ?_
    refine awp_region ?_
    refine aR 2 ?_
    refine aE ?_
    refine awp_block ?_
    refine awp_to (st' := slices_insertionSortCmpFunc_api_Letter_o0_f3_command_byOrder_x2_H qa qb vi (vl, vi)) (oT [] []) ?_
    refine bE hF fun vl4_1 h11 hF => ?_
    refine awp_sub (awp_loop' (slices_insertionSortCmpFunc_api_Letter_o0_f3_command_byOrder_x2_H qa qb vi) slices_insertionSortCmpFunc_api_Letter_o0_f3_command_byOrder_x2_k (slices_insertionSortCmpFunc_api_Letter_o0_f3_command_byOrder_x2_S qa qb vi) (by intro x; exact fun h => nomatch h) h11 (slices_insertionSortCmpFunc_api_Letter_o0_f3_command_byOrder_x2_ok qa qb vi)) ?_
    refine awp_region ?_
    refine aR 3 ?_
    refine aE ?_
    exact oO hF [] [] rfl
  · refine awp_false (by kernel_rfl) h1 ?_
    refine awp_exit ?_
    exact oO hF [] [] rfl

def slices_insertionSortCmpFunc_api_Letter_o0_f3_command_byOrder_R (qdata : List api_Letter) (qa : Int) (qb : Int) (r : (List api_Letter)) : TV × Mem := (.tup [], ⟨[(0, ⟨90, 6, List.map api_Letter.enc r⟩)], []⟩)

theorem slices_insertionSortCmpFunc_api_Letter_o0_f3_command_byOrder_ok {qdata : List api_Letter} {qa : Int} {qb : Int} {r} (hF : slices_insertionSortCmpFunc_api_Letter_o0_f3_command_byOrder qdata qa qb = some r) : Holds prog 119 [.v (.one (.own 0 none)), .v (.one (.d (.int .i64 qa))), .v (.one (.d (.int .i64 qb))), .v (.one (.fn 58 []))] ⟨[(0, ⟨90, 6, List.map api_Letter.enc qdata⟩)], []⟩ (Is (slices_insertionSortCmpFunc_api_Letter_o0_f3_command_byOrder_R qdata qa qb r)) := by
  unfold slices_insertionSortCmpFunc_api_Letter_o0_f3_command_byOrder at hF
  refine holds_of_awp hΓ (fn := f119) (c := cB f119) (A := 1) (nx := 1) (by kernel_rfl) (by kernel_rfl) (by kernel_rfl) (by kernel_rfl) (by kernel_rfl) (by kernel_rfl) (lowc_of (by kernel_rfl)) ?_
  show Awp prog 1 53 (cB f119) _ _
  refine awp_seq ?_
  refine awp_region ?_
  refine aR 3 ?_
  refine aE ?_
  refine awp_block ?_
  refine awp_to (st' := slices_insertionSortCmpFunc_api_Letter_o0_f3_command_byOrder_x1_H qa qb (qdata, IntKind.wrap .i64 (qa + 1))) (oT [] []) ?_
  refine bE hF fun vl5_1 h12 hF => ?_
  refine awp_sub (awp_loop' (slices_insertionSortCmpFunc_api_Letter_o0_f3_command_byOrder_x1_H qa qb) slices_insertionSortCmpFunc_api_Letter_o0_f3_command_byOrder_x1_k (slices_insertionSortCmpFunc_api_Letter_o0_f3_command_byOrder_x1_S qa qb) (by intro x; exact fun h => nomatch h) h12 (slices_insertionSortCmpFunc_api_Letter_o0_f3_command_byOrder_x1_ok qa qb)) ?_
  exact oF hF [] []

/-! ### slices.pdqsortCmpFunc[beaconfleet/api.Letter] -/
def slices_pdqsortCmpFunc_api_Letter_o0_f4_command_byOrder_x1_k : (List api_Letter) → AEx
  | _ => .ret

def slices_pdqsortCmpFunc_api_Letter_o0_f4_command_byOrder_x1_S (qx : List api_Letter) (qx1 : Int) (qx2 : Int) (qx3 : Int) : (List api_Letter) → St
  | vl => Mem.st ⟨[(0, ⟨90, 6, List.map api_Letter.enc vl⟩)], []⟩ (tl []) 1

def slices_pdqsortCmpFunc_api_Letter_o0_f4_command_byOrder_x1_H (qx : List api_Letter) (qx1 : Int) (qx2 : Int) (qx3 : Int) : Unit → St
  | _ => Mem.st ⟨[(0, ⟨90, 6, List.map api_Letter.enc qx⟩)], []⟩ (tl [(0, .v (.one (.own 0 none))), (1, .v (.one (.d (.int .i64 qx1)))), (2, .v (.one (.d (.int .i64 qx2)))), (3, .v (.one (.d (.int .i64 qx3)))), (4, .v (.one (.fn 58 []))), (10, .v (.one (.d (.bool true)))), (11, .v (.one (.d (.bool true))))]) 1

theorem slices_pdqsortCmpFunc_api_Letter_o0_f4_command_byOrder_x1_ok (qx : List api_Letter) (qx1 : Int) (qx2 : Int) (qx3 : Int) (s : Unit) (r : (Unit) ⊕ ((List api_Letter))) (hF : slices_pdqsortCmpFunc_api_Letter_o0_f4_command_byOrder_x1 qx qx1 qx2 qx3 s = some r) : Awp prog 1 148 (cL (cL (cR (cR (cB f94))))) (Out 1 (kk slices_pdqsortCmpFunc_api_Letter_o0_f4_command_byOrder_x1_k) (SS (slices_pdqsortCmpFunc_api_Letter_o0_f4_command_byOrder_x1_H qx qx1 qx2 qx3) (slices_pdqsortCmpFunc_api_Letter_o0_f4_command_byOrder_x1_S qx qx1 qx2 qx3)) r) (slices_pdqsortCmpFunc_api_Letter_o0_f4_command_byOrder_x1_H qx qx1 qx2 qx3 s) := by
  unfold slices_pdqsortCmpFunc_api_Letter_o0_f4_command_byOrder_x1 at hF
  refine awp_block ?_
  refine awp_seq ?_
  refine awp_region ?_
  refine aR 4 ?_
  refine aE ?_
  refine awp_seq ?_
  refine awp_seq ?_
  refine awp_region ?_
  refine aR 2 ?_
  refine aE ?_
  refine cE hF (fun h1 hF => ?_) fun h1 hF => ?_
  · refine awp_true (by kernel_rfl) h1 ?_
    refine awp_seq ?_
    refine bE hF fun vl6_1 h2 hF => ?_
    refine gE hF fun h3 hF => ?_
    refine awp_region ?_
    refine aR 4 ?_
    refine aCp (slices_insertionSortCmpFunc_api_Letter_o0_f3_command_byOrder_ok h2) ⟨⟨rfl, rfl, pin1 h3⟩, trivial⟩ [] [] [] ?_
    refine aE ?_
    refine awp_ret ?_
    exact oO hF [] [] rfl
  · refine awp_false (by kernel_rfl) h1 ?_
    refine awp_skip ?_
    refine awp_seq ?_
    refine awp_seq ?_
    refine awp_region ?_
    refine aR 2 ?_
    refine aE ?_
    refine cE hF (fun h4 hF => ?_) fun h4 hF => ?_
    · refine awp_true (by kernel_rfl) h4 ?_
      refine awp_seq ?_
      exact nE hF
    · refine awp_false (by kernel_rfl) h4 ?_
      refine awp_skip ?_
      refine awp_seq ?_
      refine awp_seq ?_
      refine awp_region ?_
      refine aR 2 ?_
      refine aE ?_
      refine awp_false (by kernel_rfl) rfl ?_
      refine awp_skip ?_
      refine awp_seq ?_
      exact nE hF

def slices_pdqsortCmpFunc_api_Letter_o0_f4_command_byOrder_R (qx : List api_Letter) (qx1 : Int) (qx2 : Int) (qx3 : Int) (r : (List api_Letter)) : TV × Mem := (.tup [], ⟨[(0, ⟨90, 6, List.map api_Letter.enc r⟩)], []⟩)

theorem slices_pdqsortCmpFunc_api_Letter_o0_f4_command_byOrder_ok {qx : List api_Letter} {qx1 : Int} {qx2 : Int} {qx3 : Int} {r} (hF : slices_pdqsortCmpFunc_api_Letter_o0_f4_command_byOrder qx qx1 qx2 qx3 = some r) : Holds prog 94 [.v (.one (.own 0 none)), .v (.one (.d (.int .i64 qx1))), .v (.one (.d (.int .i64 qx2))), .v (.one (.d (.int .i64 qx3))), .v (.one (.fn 58 []))] ⟨[(0, ⟨90, 6, List.map api_Letter.enc qx⟩)], []⟩ (Is (slices_pdqsortCmpFunc_api_Letter_o0_f4_command_byOrder_R qx qx1 qx2 qx3 r)) := by
  unfold slices_pdqsortCmpFunc_api_Letter_o0_f4_command_byOrder at hF
  refine holds_of_awp hΓ (fn := f94) (c := cB f94) (A := 1) (nx := 1) (by kernel_rfl) (by kernel_rfl) (by kernel_rfl) (by kernel_rfl) (by kernel_rfl) (by kernel_rfl) (lowc_of (by kernel_rfl)) ?_
  show Awp prog 1 148 (cB f94) _ _
  refine awp_seq ?_
  refine awp_region ?_
  refine aR 1 ?_
  refine aE ?_
  refine awp_seq ?_
  refine awp_region ?_
  refine aR 1 ?_
  refine aE ?_
  refine awp_block ?_
  refine awp_to (st' := slices_pdqsortCmpFunc_api_Letter_o0_f4_command_byOrder_x1_H qx qx1 qx2 qx3 ()) (oT [] []) ?_
  refine bE hF fun vl1 h7 hF => ?_
  refine awp_sub (awp_loop' (slices_pdqsortCmpFunc_api_Letter_o0_f4_command_byOrder_x1_H qx qx1 qx2 qx3) slices_pdqsortCmpFunc_api_Letter_o0_f4_command_byOrder_x1_k (slices_pdqsortCmpFunc_api_Letter_o0_f4_command_byOrder_x1_S qx qx1 qx2 qx3) (by intro x; exact fun h => nomatch h) h7 (slices_pdqsortCmpFunc_api_Letter_o0_f4_command_byOrder_x1_ok qx qx1 qx2 qx3)) ?_
  exact oF hF [] []

/-! ### slices.SortFunc[[]beaconfleet/api.Letter,beaconfleet/api.Letter] -/
def slices_SortFunc_api_Letter_api_Letter_o0_f1_command_byOrder_R (qx : List api_Letter) (r : (List api_Letter)) : TV × Mem := (.tup [], ⟨[(0, ⟨90, 6, List.map api_Letter.enc r⟩)], []⟩)

theorem slices_SortFunc_api_Letter_api_Letter_o0_f1_command_byOrder_ok {qx : List api_Letter} {r} (hF : slices_SortFunc_api_Letter_api_Letter_o0_f1_command_byOrder qx = some r) : Holds prog 57 [.v (.one (.own 0 none)), .v (.one (.fn 58 []))] ⟨[(0, ⟨90, 6, List.map api_Letter.enc qx⟩)], []⟩ (Is (slices_SortFunc_api_Letter_api_Letter_o0_f1_command_byOrder_R qx r)) := by
  unfold slices_SortFunc_api_Letter_api_Letter_o0_f1_command_byOrder at hF
  refine holds_of_awp hΓ (fn := f57) (c := cB f57) (A := 1) (nx := 1) (by kernel_rfl) (by kernel_rfl) (by kernel_rfl) (by kernel_rfl) (by kernel_rfl) (by kernel_rfl) (lowc_of (by kernel_rfl)) ?_
  show Awp prog 1 14 (cB f57) _ _
  refine awp_seq ?_
  refine awp_region ?_
  refine aR 1 ?_
  refine aL api_Letter.enc qx ?_
  refine aR 1 ?_
  refine aE ?_
  refine bE hF fun vr1 h1 hF => ?_
  refine bE hF fun vl2 h2 hF => ?_
  refine gE hF fun h3 hF => ?_
  refine awp_region ?_
  refine aR 4 ?_
  refine aC (bits_Len_ok h1) [] [] [] ?_
  refine aR 1 ?_
  refine aCp (slices_pdqsortCmpFunc_api_Letter_o0_f4_command_byOrder_ok h2) ⟨⟨rfl, rfl, pin1 h3⟩, trivial⟩ [] [] [] ?_
  refine aE ?_
  exact oF hF [] []

/-! ### beaconfleet/command.Order -/
def command_Order_o0_x1_k : Unit ⊕ Int → AEx
  | .inl _ => .exit 0
  | .inr _ => .ret

def command_Order_o0_x1_S (ql : List api_Letter) : Unit ⊕ Int → St
  | .inl _ => Mem.st ⟨[], []⟩ (tl [(0, .v (.one (.d (.lst (List.map api_Letter.enc ql)))))]) 1
  | .inr vx1 => Mem.st ⟨[], []⟩ (tl [(2, .v (.one (.nil))), (3, .v (.one (.d (.int .i64 vx1))))]) 1

def command_Order_o0_x1_H (ql : List api_Letter) : Int → St
  | vx => Mem.st ⟨[], []⟩ (tl [(0, .v (.one (.d (.lst (List.map api_Letter.enc ql))))), (11, .v (.one (.d (.lst (List.map api_Letter.enc ql))))), (12, .v (.one (.d (.int .i64 (ql.length : Int))))), (13, .v (.one (.d (.int .i64 vx))))]) 1

theorem command_Order_o0_x1_ok (ql : List api_Letter) (vx : Int) (r : (Int) ⊕ (Unit ⊕ Int)) (hF : command_Order_o0_x1 ql vx = some r) : Awp prog 1 34 (cL (cL (cR (cL (cR (cR (cB f31))))))) (Out 1 (kk command_Order_o0_x1_k) (SS (command_Order_o0_x1_H ql) (command_Order_o0_x1_S ql)) r) (command_Order_o0_x1_H ql vx) := by
  unfold command_Order_o0_x1 at hF
  refine awp_seq ?_
  refine awp_region ?_
  refine aR 1 ?_
  refine aE ?_
  refine awp_seq ?_
  refine cE hF (fun h2 hF => ?_) fun h2 hF => ?_
  · refine awp_true (by kernel_rfl) h2 ?_
    refine awp_skip ?_
    refine awp_seq ?_
    refine awp_block ?_
    refine awp_seq ?_
    refine bE hF fun vy1 h3 hF => ?_
    refine awp_region ?_
    refine aR 1 ?_
    refine aX (x_idx api_Letter.enc h3) ?_
    refine aR 4 ?_
    refine aE ?_
    refine awp_seq ?_
    refine awp_seq ?_
    refine bE hF fun vr4_1 h4 hF => ?_
    refine awp_region ?_
    refine aR 1 ?_
    refine aC (command_CheckLetter_ok h4) [] [] [] ?_
    refine aR 1 ?_
    refine aE ?_
    refine awp_seq ?_
    refine awp_region ?_
    refine aR 2 ?_
    refine aE ?_
    refine cE hF (fun h5 hF => ?_) fun h5 hF => ?_
    · refine awp_true (by kernel_rfl) h5 ?_
      refine awp_seq ?_
      refine awp_region ?_
      refine aR 3 ?_
      refine aE ?_
      refine awp_ret ?_
      exact oO hF [] [] rfl
    · refine awp_false (by kernel_rfl) h5 ?_
      refine awp_skip ?_
      refine awp_seq ?_
      refine bE hF fun vl1 h6 hF => ?_
      refine bE hF fun vr1_1 h7 hF => ?_
      refine awp_region ?_
      refine aR 2 ?_
      refine aX (x_slice api_Letter.enc h6) ?_
      refine aR 1 ?_
      refine aC (slices_ContainsFunc_api_Letter_api_Letter_f1_command_Order_1_ok h7) [(0, 4001)] [] [] ?_
      refine aE ?_
      refine cE hF (fun h8 hF => ?_) fun h8 hF => ?_
      · refine awp_true (by kernel_rfl) h8 ?_
        refine awp_seq ?_
        refine awp_region ?_
        refine aR 2 ?_
        refine aE ?_
        refine awp_ret ?_
        exact oO hF [] [] rfl
      · refine awp_false (by kernel_rfl) h8 ?_
        refine awp_skip ?_
        refine awp_region ?_
        refine aR 2 ?_
        refine aE ?_
        exact oO hF [] [] rfl
  · refine awp_false (by kernel_rfl) h2 ?_
    refine awp_exit ?_
    exact oO hF [] [] rfl

def command_Order_o0_R (ql : List api_Letter) (r : (List api_Letter) × Int) : TV × Mem := (.tup [.one (.own 1 none), .one (.d (.int .i64 r.2))], ⟨[(1, ⟨90, 6, List.map api_Letter.enc r.1⟩)], []⟩)

theorem command_Order_o0_ok {ql : List api_Letter} {r} (hF : command_Order_o0 ql = some r) : Holds prog 31 [.v (.one (.own 0 none))] ⟨[(0, ⟨90, 6, List.map api_Letter.enc ql⟩)], []⟩ (Is (command_Order_o0_R ql r)) := by
  unfold command_Order_o0 at hF
  refine holds_of_awp hΓ (fn := f31) (c := cB f31) (A := 1) (nx := 1) (by kernel_rfl) (by kernel_rfl) (by kernel_rfl) (by kernel_rfl) (by kernel_rfl) (by kernel_rfl) (lowc_of (by kernel_rfl)) ?_
  show Awp prog 1 34 (cB f31) _ _
  refine awp_seq ?_
  refine awp_region ?_
  refine aR 2 ?_
  refine aE ?_
  refine awp_to (oT (m := ⟨[], []⟩) (ts := [(0, .v (.one (.d (.lst (List.map api_Letter.enc ql)))))]) (nx := 1) [] []) ?_
  refine awp_seq ?_
  refine awp_seq ?_
  refine awp_region ?_
  refine aR 1 ?_
  refine aL api_Letter.enc ql ?_
  refine aR 1 ?_
  refine aE ?_
  refine cE hF (fun h1 hF => ?_) fun h1 hF => ?_
  · refine awp_true (by kernel_rfl) h1 ?_
    refine awp_seq ?_
    refine awp_region ?_
    refine aR 2 ?_
    refine aE ?_
    refine awp_ret ?_
    exact oF hF [] [1]
  · refine awp_false (by kernel_rfl) h1 ?_
    refine awp_skip ?_
    refine awp_seq ?_
    refine awp_seq ?_
    refine awp_region ?_
    refine aR 1 ?_
    refine aL api_Letter.enc ql ?_
    refine aR 1 ?_
    refine aE ?_
    refine awp_block ?_
    refine awp_to (st' := command_Order_o0_x1_H ql 0) (oT [] []) ?_
    refine bE hF fun x h9 hF => ?_
    rcases x with _ | vx1_1
    · refine awp_sub (awp_loop' (command_Order_o0_x1_H ql) command_Order_o0_x1_k (command_Order_o0_x1_S ql) (by intro x; rcases x with x | x <;> exact fun h => nomatch h) h9 (command_Order_o0_x1_ok ql)) ?_
      refine awp_seq ?_
      refine bE hF fun vr h10 hF => ?_
      refine awp_region ?_
      refine aR 1 ?_
      refine aC (slices_Clone_api_Letter_api_Letter_ok h10) [] [] [] ?_
      refine aR 1 ?_
      refine aE ?_
      refine awp_seq ?_
      refine bE hF fun vl2 h11 hF => ?_
      refine gE hF fun h12 hF => ?_
      refine awp_region ?_
      refine aR 1 ?_
      refine aCp (slices_SortFunc_api_Letter_api_Letter_o0_f1_command_byOrder_ok h11) ⟨⟨rfl, rfl, pin1 h12⟩, trivial⟩ [(0, 1001)] [] [] ?_
      refine aE ?_
      refine awp_seq ?_
      refine awp_region ?_
      refine aR 3 ?_
      refine aE ?_
      refine awp_ret ?_
      exact oF hF [(1, 1001)] []
    · refine awp_sub (awp_loop' (command_Order_o0_x1_H ql) command_Order_o0_x1_k (command_Order_o0_x1_S ql) (by intro x; rcases x with x | x <;> exact fun h => nomatch h) h9 (command_Order_o0_x1_ok ql)) ?_
      exact oF hF [] [1]

/-! ### beaconfleet/fleetkeep2.errs -/
def fleetkeep2_errs_x1_k : Unit ⊕ Int → AEx
  | .inl _ => .exit 0
  | .inr _ => .ret

def fleetkeep2_errs_x1_S (ql : List Int) : Unit ⊕ Int → St
  | .inl _ => Mem.st ⟨[], []⟩ (tl []) 0
  | .inr vx1 => Mem.st ⟨[], []⟩ (tl [(2, .v (.one (.d (.int .i64 vx1))))]) 0

def fleetkeep2_errs_x1_H (ql : List Int) : Int → St
  | vx => Mem.st ⟨[], []⟩ (tl [(5, .v (.one (.d (.lst (List.map (encI .i64) ql))))), (6, .v (.one (.d (.int .i64 (ql.length : Int))))), (7, .v (.one (.d (.int .i64 vx))))]) 0

theorem fleetkeep2_errs_x1_ok (ql : List Int) (vx : Int) (r : (Int) ⊕ (Unit ⊕ Int)) (hF : fleetkeep2_errs_x1 ql vx = some r) : Awp prog 0 15 (cL (cL (cR (cL (cR (cB f15)))))) (Out 0 (kk fleetkeep2_errs_x1_k) (SS (fleetkeep2_errs_x1_H ql) (fleetkeep2_errs_x1_S ql)) r) (fleetkeep2_errs_x1_H ql vx) := by
  unfold fleetkeep2_errs_x1 at hF
  refine awp_seq ?_
  refine awp_region ?_
  refine aR 1 ?_
  refine aE ?_
  refine awp_seq ?_
  refine cE hF (fun h1 hF => ?_) fun h1 hF => ?_
  · refine awp_true (by kernel_rfl) h1 ?_
    refine awp_skip ?_
    refine awp_seq ?_
    refine awp_block ?_
    refine awp_seq ?_
    refine bE hF fun vy1 h2 hF => ?_
    refine awp_region ?_
    refine aX (x_idx (encI .i64) h2) ?_
    refine aR 2 ?_
    refine aE ?_
    refine awp_seq ?_
    refine awp_region ?_
    refine aR 2 ?_
    refine aE ?_
    refine cE hF (fun h3 hF => ?_) fun h3 hF => ?_
    · refine awp_true (by kernel_rfl) h3 ?_
      refine awp_seq ?_
      refine awp_region ?_
      refine aR 2 ?_
      refine aE ?_
      refine awp_ret ?_
      exact oO hF [] [] rfl
    · refine awp_false (by kernel_rfl) h3 ?_
      refine awp_skip ?_
      refine awp_region ?_
      refine aR 2 ?_
      refine aE ?_
      exact oO hF [] [] rfl
  · refine awp_false (by kernel_rfl) h1 ?_
    refine awp_exit ?_
    exact oO hF [] [] rfl

def fleetkeep2_errs_R (ql : List Int) (r : Int) : TV × Mem := (.v (.one (.d (.int .i64 r))), ⟨[], []⟩)

theorem fleetkeep2_errs_ok {ql : List Int} {r} (hF : fleetkeep2_errs ql = some r) : Holds prog 15 [.v (.one (.d (.lst (List.map (encI .i64) ql))))] ⟨[], []⟩ (Is (fleetkeep2_errs_R ql r)) := by
  unfold fleetkeep2_errs at hF
  refine holds_of_awp hΓ (fn := f15) (c := cB f15) (A := 0) (nx := 0) (by kernel_rfl) (by kernel_rfl) (by kernel_rfl) (by kernel_rfl) (by kernel_rfl) (by kernel_rfl) (lowc_of (by kernel_rfl)) ?_
  show Awp prog 0 15 (cB f15) _ _
  refine awp_seq ?_
  refine awp_region ?_
  refine aR 1 ?_
  refine aE ?_
  refine awp_seq ?_
  refine awp_seq ?_
  refine awp_region ?_
  refine aR 1 ?_
  refine aL (encI .i64) ql ?_
  refine aR 1 ?_
  refine aE ?_
  refine awp_block ?_
  refine awp_to (st' := fleetkeep2_errs_x1_H ql 0) (oT [] []) ?_
  refine bE hF fun x h4 hF => ?_
  rcases x with _ | vx1_1
  · refine awp_sub (awp_loop' (fleetkeep2_errs_x1_H ql) fleetkeep2_errs_x1_k (fleetkeep2_errs_x1_S ql) (by intro x; rcases x with x | x <;> exact fun h => nomatch h) h4 (fleetkeep2_errs_x1_ok ql)) ?_
    refine awp_seq ?_
    refine awp_region ?_
    refine aR 1 ?_
    refine aE ?_
    refine awp_ret ?_
    exact oF hF [] []
  · refine awp_sub (awp_loop' (fleetkeep2_errs_x1_H ql) fleetkeep2_errs_x1_k (fleetkeep2_errs_x1_S ql) (by intro x; rcases x with x | x <;> exact fun h => nomatch h) h4 (fleetkeep2_errs_x1_ok ql)) ?_
    exact oF hF [] []

/-! ### slices.Equal[[]byte,byte] -/
def slices_Equal_byte_byte_x1_k : Unit ⊕ Unit → AEx
  | .inl _ => .exit 0
  | .inr _ => .ret

def slices_Equal_byte_byte_x1_S (qs1 : List Int) (qs2 : List Int) : Unit ⊕ Unit → St
  | .inl _ => Mem.st ⟨[], []⟩ (tl []) 0
  | .inr _ => Mem.st ⟨[], []⟩ (tl [(4, .v (.one (.d (.bool false))))]) 0

def slices_Equal_byte_byte_x1_H (qs1 : List Int) (qs2 : List Int) : Int → St
  | vx => Mem.st ⟨[], []⟩ (tl [(0, .v (.one (.d (.lst (List.map (encI .u8) qs1))))), (1, .v (.one (.d (.lst (List.map (encI .u8) qs2))))), (12, .v (.one (.d (.int .i64 (qs1.length : Int))))), (13, .v (.one (.d (.int .i64 vx))))]) 0

theorem slices_Equal_byte_byte_x1_ok (qs1 : List Int) (qs2 : List Int) (vx : Int) (r : (Int) ⊕ (Unit ⊕ Unit)) (hF : slices_Equal_byte_byte_x1 qs1 qs2 vx = some r) : Awp prog 0 26 (cL (cL (cR (cL (cR (cR (cB f32))))))) (Out 0 (kk slices_Equal_byte_byte_x1_k) (SS (slices_Equal_byte_byte_x1_H qs1 qs2) (slices_Equal_byte_byte_x1_S qs1 qs2)) r) (slices_Equal_byte_byte_x1_H qs1 qs2 vx) := by
  unfold slices_Equal_byte_byte_x1 at hF
  refine awp_seq ?_
  refine awp_region ?_
  refine aR 1 ?_
  refine aE ?_
  refine awp_seq ?_
  refine cE hF (fun h2 hF => ?_) fun h2 hF => ?_
  · refine awp_true (by kernel_rfl) h2 ?_
    refine awp_skip ?_
    refine awp_seq ?_
    refine awp_block ?_
    refine awp_seq ?_
    refine awp_region ?_
    refine aR 2 ?_
    refine aE ?_
    refine awp_seq ?_
    refine bE hF fun vy2 h3 hF => ?_
    refine bE hF fun vy3 h4 hF => ?_
    refine aD ?_
    refine dR 2 ?_
    refine dX (x_idx (encI .u8) h3) ?_
    refine dR 3 ?_
    refine dX (x_idx (encI .u8) h4) ?_
    refine dR 2 ?_
    refine dE ?_
    refine cE hF (fun h5 hF => ?_) fun h5 hF => ?_
    · refine awp_true (by kernel_rfl) h5 ?_
      refine awp_seq ?_
      refine awp_region ?_
      refine aR 1 ?_
      refine aE ?_
      refine awp_ret ?_
      exact oO hF [] [] rfl
    · refine awp_false (by kernel_rfl) h5 ?_
      refine awp_skip ?_
      refine awp_region ?_
      refine aR 2 ?_
      refine aE ?_
      exact oO hF [] [] rfl
  · refine awp_false (by kernel_rfl) h2 ?_
    refine awp_exit ?_
    exact oO hF [] [] rfl

def slices_Equal_byte_byte_R (qs1 : List Int) (qs2 : List Int) (r : Bool) : TV × Mem := (.v (.one (.d (.bool r))), ⟨[], []⟩)

theorem slices_Equal_byte_byte_ok {qs1 : List Int} {qs2 : List Int} {r} (hF : slices_Equal_byte_byte qs1 qs2 = some r) : Holds prog 32 [.v (.one (.d (.lst (List.map (encI .u8) qs1)))), .v (.one (.d (.lst (List.map (encI .u8) qs2))))] ⟨[], []⟩ (Is (slices_Equal_byte_byte_R qs1 qs2 r)) := by
  unfold slices_Equal_byte_byte at hF
  refine holds_of_awp hΓ (fn := f32) (c := cB f32) (A := 0) (nx := 0) (by kernel_rfl) (by kernel_rfl) (by kernel_rfl) (by kernel_rfl) (by kernel_rfl) (by kernel_rfl) (lowc_of (by kernel_rfl)) ?_
  show Awp prog 0 26 (cB f32) _ _
  refine awp_seq ?_
  refine awp_region ?_
  refine aR 1 ?_
  refine aE ?_
  refine awp_seq ?_
  refine awp_seq ?_
  refine awp_region ?_
  refine aR 1 ?_
  refine aL (encI .u8) qs1 ?_
  refine aR 1 ?_
  refine aL (encI .u8) qs2 ?_
  refine aR 1 ?_
  refine aE ?_
  refine cE hF (fun h1 hF => ?_) fun h1 hF => ?_
  · refine awp_true (by kernel_rfl) h1 ?_
    refine awp_seq ?_
    refine awp_region ?_
    refine aR 1 ?_
    refine aE ?_
    refine awp_ret ?_
    exact oF hF [] []
  · refine awp_false (by kernel_rfl) h1 ?_
    refine awp_skip ?_
    refine awp_seq ?_
    refine awp_seq ?_
    refine awp_region ?_
    refine aR 1 ?_
    refine aL (encI .u8) qs1 ?_
    refine aR 1 ?_
    refine aE ?_
    refine awp_block ?_
    refine awp_to (st' := slices_Equal_byte_byte_x1_H qs1 qs2 0) (oT [] []) ?_
    refine bE hF fun x h6 hF => ?_
    rcases x with _ | _
    · refine awp_sub (awp_loop' (slices_Equal_byte_byte_x1_H qs1 qs2) slices_Equal_byte_byte_x1_k (slices_Equal_byte_byte_x1_S qs1 qs2) (by intro x; rcases x with x | x <;> exact fun h => nomatch h) h6 (slices_Equal_byte_byte_x1_ok qs1 qs2)) ?_
      refine awp_seq ?_
      refine awp_region ?_
      refine aR 1 ?_
      refine aE ?_
      refine awp_ret ?_
      exact oF hF [] []
    · refine awp_sub (awp_loop' (slices_Equal_byte_byte_x1_H qs1 qs2) slices_Equal_byte_byte_x1_k (slices_Equal_byte_byte_x1_S qs1 qs2) (by intro x; rcases x with x | x <;> exact fun h => nomatch h) h6 (slices_Equal_byte_byte_x1_ok qs1 qs2)) ?_
      exact oF hF [] []

/-! ### beaconfleet/fleetkeep2.ready -/
def fleetkeep2_ready_x1_k : Bool → AEx
  | _ => .normal

def fleetkeep2_ready_x1_S (vr5 : List api_Change) (vr6 : Int) (vr : List Int) (vr2 : Int) (vr2_1 : api_Version) (vr4 : Int) (vr1 : List UInt8) (vr3 : Int) (vr2_2 : List api_Letter) (vr3_1 : Int) : Bool → St
  | vx => Mem.st ⟨[], []⟩ (tl [(0, .v (.one (.d (.bool vx))))]) 0

def fleetkeep2_ready_x1_I (vr5 : List api_Change) (vr6 : Int) (vr : List Int) (vr2 : Int) (vr2_1 : api_Version) (vr4 : Int) (vr1 : List UInt8) (vr3 : Int) (vr2_2 : List api_Letter) (vr3_1 : Int) : St := Mem.st ⟨[], [(0, [.d (.int .i64 vr2_1.Major), .d (.int .i64 vr2_1.Minor), .d (.int .i64 vr2_1.Patch)])]⟩ (tl [(1, .v (.one (.d (.lst (List.map api_Change.enc vr5))))), (2, .v (.one (.d (.int .i64 vr6)))), (3, .v (.one (.d (.lst (List.map (encI .u8) vr))))), (4, .v (.one (.d (.int .i64 vr2)))), (5, .v (.one (.box 0 0))), (6, .v (.one (.d (.int .i64 vr4)))), (7, .v (.one (.d (.str vr1)))), (8, .v (.one (.d (.int .i64 vr3)))), (9, .v (.one (.d (.lst (List.map api_Letter.enc vr2_2))))), (10, .v (.one (.d (.int .i64 vr3_1))))]) 1

theorem fleetkeep2_ready_x1_ok (vr5 : List api_Change) (vr6 : Int) (vr : List Int) (vr2 : Int) (vr2_1 : api_Version) (vr4 : Int) (vr1 : List UInt8) (vr3 : Int) (vr2_2 : List api_Letter) (vr3_1 : Int) {r} (hF : fleetkeep2_ready_x1 vr5 vr6 vr vr2 vr2_1 vr4 vr1 vr3 vr2_2 vr3_1 = some r) : Awp prog 0 71 (cL (cR (cR (cR (cR (cR (cR (cB f10)))))))) (Out 0 fleetkeep2_ready_x1_k (fleetkeep2_ready_x1_S vr5 vr6 vr vr2 vr2_1 vr4 vr1 vr3 vr2_2 vr3_1) r) (fleetkeep2_ready_x1_I vr5 vr6 vr vr2 vr2_1 vr4 vr1 vr3 vr2_2 vr3_1) := by
  unfold fleetkeep2_ready_x1 at hF
  refine bE hF fun vr7 h6 hF => ?_
  refine cE hF (fun h7 hF => ?_) fun h7 hF => ?_
  · refine cE hF (fun h8 hF => ?_) fun h8 hF => ?_
    · refine bE hF fun vr8 h9 hF => ?_
      refine cE hF (fun h10 hF => ?_) fun h10 hF => ?_
      · refine cE hF (fun h11 hF => ?_) fun h11 hF => ?_
        · refine cE hF (fun h12 hF => ?_) fun h12 hF => ?_
          · refine awp_region ?_
            refine aR 6 ?_
            refine aC (fleetkeep2_errs_ok h6) [] [] [5001] ?_
            refine aB h7 ?_
            refine aR 2 ?_
            refine aL api_Change.enc vr5 ?_
            refine aB h8 ?_
            refine aR 4 ?_
            refine aCb (slices_Equal_byte_byte_ok h9) [] [] [15001] h10 ?_
            refine aR 4 ?_
            refine aB h11 ?_
            refine aR 3 ?_
            refine aB h12 ?_
            refine aR 3 ?_
            refine aL api_Letter.enc vr2_2 ?_
            refine aR 3 ?_
            refine aE ?_
            exact oO hF [] [] rfl
          · refine awp_region ?_
            refine aR 6 ?_
            refine aC (fleetkeep2_errs_ok h6) [] [] [5001] ?_
            refine aB h7 ?_
            refine aR 2 ?_
            refine aL api_Change.enc vr5 ?_
            refine aB h8 ?_
            refine aR 4 ?_
            refine aCb (slices_Equal_byte_byte_ok h9) [] [] [15001] h10 ?_
            refine aR 4 ?_
            refine aB h11 ?_
            refine aR 3 ?_
            refine aB h12 ?_
            refine aR 7 ?_
            refine aE ?_
            exact oO hF [] [] rfl
        · refine awp_region ?_
          refine aR 6 ?_
          refine aC (fleetkeep2_errs_ok h6) [] [] [5001] ?_
          refine aB h7 ?_
          refine aR 2 ?_
          refine aL api_Change.enc vr5 ?_
          refine aB h8 ?_
          refine aR 4 ?_
          refine aCb (slices_Equal_byte_byte_ok h9) [] [] [15001] h10 ?_
          refine aR 4 ?_
          refine aB h11 ?_
          refine aR 11 ?_
          refine aE ?_
          exact oO hF [] [] rfl
      · refine awp_region ?_
        refine aR 6 ?_
        refine aC (fleetkeep2_errs_ok h6) [] [] [5001] ?_
        refine aB h7 ?_
        refine aR 2 ?_
        refine aL api_Change.enc vr5 ?_
        refine aB h8 ?_
        refine aR 4 ?_
        refine aCb (slices_Equal_byte_byte_ok h9) [] [] [15001] h10 ?_
        refine aR 16 ?_
        refine aE ?_
        exact oO hF [] [] rfl
    · refine awp_region ?_
      refine aR 6 ?_
      refine aC (fleetkeep2_errs_ok h6) [] [] [5001] ?_
      refine aB h7 ?_
      refine aR 2 ?_
      refine aL api_Change.enc vr5 ?_
      refine aB h8 ?_
      refine aR 21 ?_
      refine aE ?_
      exact oO hF [] [] rfl
  · refine awp_region ?_
    refine aR 6 ?_
    refine aC (fleetkeep2_errs_ok h6) [] [] [5001] ?_
    refine aB h7 ?_
    refine aR 25 ?_
    refine aE ?_
    exact oO hF [] [] rfl

def fleetkeep2_ready_R (r : Bool) : TV × Mem := (.v (.one (.d (.bool r))), ⟨[], []⟩)

theorem fleetkeep2_ready_ok {r} (hF : fleetkeep2_ready = some r) : Holds prog 10 [] ⟨[], []⟩ (Is (fleetkeep2_ready_R  r)) := by
  unfold fleetkeep2_ready at hF
  refine holds_of_awp hΓ (fn := f10) (c := cB f10) (A := 0) (nx := 0) (by kernel_rfl) (by kernel_rfl) (by kernel_rfl) (by kernel_rfl) (by kernel_rfl) (by kernel_rfl) (lowc_of (by kernel_rfl)) ?_
  show Awp prog 0 71 (cB f10) _ _
  refine awp_seq ?_
  refine awp_region ?_
  refine aR 1 ?_
  refine aE ?_
  refine awp_seq ?_
  refine bE hF fun x h1 hF => ?_
  obtain ⟨vr5, vr6⟩ := x
  refine awp_region ?_
  refine aR 3 ?_
  refine aC (twin_Differ_n0_o1_ok h1) [(0, 3000)] [] [] ?_
  refine aR 5 ?_
  refine aE ?_
  refine awp_to (oT (m := ⟨[], []⟩) (ts := [(1, .v (.one (.d (.lst (List.map api_Change.enc vr5))))), (2, .v (.one (.d (.int .i64 vr6))))]) (nx := 0) [] []) ?_
  refine awp_seq ?_
  refine bE hF fun x h2 hF => ?_
  obtain ⟨vr, vr2⟩ := x
  refine awp_region ?_
  refine aR 2 ?_
  refine aC (series_Pack_o0_ok h2) [(0, 1000)] [] [] ?_
  refine aR 5 ?_
  refine aE ?_
  refine awp_to (oT (m := ⟨[], []⟩) (ts := [(1, .v (.one (.d (.lst (List.map api_Change.enc vr5))))), (2, .v (.one (.d (.int .i64 vr6)))), (3, .v (.one (.d (.lst (List.map (encI .u8) vr))))), (4, .v (.one (.d (.int .i64 vr2))))]) (nx := 0) [] []) ?_
  refine awp_seq ?_
  refine bE hF fun x h3 hF => ?_
  obtain ⟨vr2_1, vr4⟩ := x
  refine awp_region ?_
  refine aC (campaign_ParseVersion_ok h3) [] [] [] ?_
  refine aR 6 ?_
  refine aE ?_
  refine awp_seq ?_
  refine bE hF fun x h4 hF => ?_
  obtain ⟨vr1, vr3⟩ := x
  refine awp_region ?_
  refine aR 1 ?_
  refine aC (place_Cell_ok h4) [] [] [] ?_
  refine aR 5 ?_
  refine aE ?_
  refine awp_seq ?_
  refine bE hF fun x h5 hF => ?_
  obtain ⟨vr2_2, vr3_1⟩ := x
  refine awp_region ?_
  refine aR 2 ?_
  refine aC (command_Order_o0_ok h5) [(0, 15000)] [] [] ?_
  refine aR 5 ?_
  refine aE ?_
  refine awp_to (oT (m := ⟨[], [(0, [.d (.int .i64 vr2_1.Major), .d (.int .i64 vr2_1.Minor), .d (.int .i64 vr2_1.Patch)])]⟩) (ts := [(1, .v (.one (.d (.lst (List.map api_Change.enc vr5))))), (2, .v (.one (.d (.int .i64 vr6)))), (3, .v (.one (.d (.lst (List.map (encI .u8) vr))))), (4, .v (.one (.d (.int .i64 vr2)))), (5, .v (.one (.box 0 0))), (6, .v (.one (.d (.int .i64 vr4)))), (7, .v (.one (.d (.str vr1)))), (8, .v (.one (.d (.int .i64 vr3)))), (9, .v (.one (.d (.lst (List.map api_Letter.enc vr2_2))))), (10, .v (.one (.d (.int .i64 vr3_1))))]) (nx := 1) [(0, 4000)] []) ?_
  refine awp_seq ?_
  refine awp_to (st' := fleetkeep2_ready_x1_I vr5 vr6 vr vr2 vr2_1 vr4 vr1 vr3 vr2_2 vr3_1) (oT [] []) ?_
  refine bE hF fun vx1 h13 hF => ?_
  refine awp_sub (fleetkeep2_ready_x1_ok vr5 vr6 vr vr2 vr2_1 vr4 vr1 vr3 vr2_2 vr3_1 h13) ?_
  refine awp_ret ?_
  exact oF hF [] []

/-! ### beaconfleet/fleetref2.in -/
def fleetref2_in_x1_k : Bool → AEx
  | _ => .normal

def fleetref2_in_x1_S (qn : Int) (qlow : Int) (qhigh : Int) : Bool → St
  | vx => Mem.st ⟨[], []⟩ (tl [(6, .v (.one (.d (.bool vx))))]) 0

def fleetref2_in_x1_I (qn : Int) (qlow : Int) (qhigh : Int) : St := Mem.st ⟨[], []⟩ (tl [(0, .v (.one (.d (.int .i64 qn)))), (1, .v (.one (.d (.int .i64 qlow)))), (2, .v (.one (.d (.int .i64 qhigh))))]) 0

theorem fleetref2_in_x1_ok (qn : Int) (qlow : Int) (qhigh : Int) {r} (hF : fleetref2_in_x1 qn qlow qhigh = some r) : Awp prog 0 15 (cL (cR (cB f99))) (Out 0 fleetref2_in_x1_k (fleetref2_in_x1_S qn qlow qhigh) r) (fleetref2_in_x1_I qn qlow qhigh) := by
  unfold fleetref2_in_x1 at hF
  refine cE hF (fun h1 hF => ?_) fun h1 hF => ?_
  · refine awp_region ?_
    refine aR 2 ?_
    refine aB h1 ?_
    refine aR 6 ?_
    refine aE ?_
    exact oO hF [] [] rfl
  · refine awp_region ?_
    refine aR 2 ?_
    refine aB h1 ?_
    refine aR 6 ?_
    refine aE ?_
    exact oO hF [] [] rfl

def fleetref2_in_R (qn : Int) (qlow : Int) (qhigh : Int) (r : Bool) : TV × Mem := (.v (.one (.d (.bool r))), ⟨[], []⟩)

theorem fleetref2_in_ok {qn : Int} {qlow : Int} {qhigh : Int} {r} (hF : fleetref2_in qn qlow qhigh = some r) : Holds prog 99 [.v (.one (.d (.int .i64 qn))), .v (.one (.d (.int .i64 qlow))), .v (.one (.d (.int .i64 qhigh)))] ⟨[], []⟩ (Is (fleetref2_in_R qn qlow qhigh r)) := by
  unfold fleetref2_in at hF
  refine holds_of_awp hΓ (fn := f99) (c := cB f99) (A := 0) (nx := 0) (by kernel_rfl) (by kernel_rfl) (by kernel_rfl) (by kernel_rfl) (by kernel_rfl) (by kernel_rfl) (lowc_of (by kernel_rfl)) ?_
  show Awp prog 0 15 (cB f99) _ _
  refine awp_seq ?_
  refine awp_region ?_
  refine aR 1 ?_
  refine aE ?_
  refine awp_seq ?_
  refine awp_to (st' := fleetref2_in_x1_I qn qlow qhigh) (oT [] []) ?_
  refine bE hF fun vx1 h2 hF => ?_
  refine awp_sub (fleetref2_in_x1_ok qn qlow qhigh h2) ?_
  refine awp_ret ?_
  exact oF hF [] []

/-! ### beaconfleet/fleetref2.SpotFault -/
def fleetref2_SpotFault_x1_k : Bool → AEx
  | _ => .normal

def fleetref2_SpotFault_x1_S (qs : api_Spot) : Bool → St
  | vx => Mem.st ⟨[], []⟩ (tl [(12, .v (.one (.d (.bool vx))))]) 0

def fleetref2_SpotFault_x1_I (qs : api_Spot) : St := Mem.st ⟨[], [(0, [.d (.int .i64 qs.X), .d (.int .i64 qs.Y)])]⟩ (tl [(1, .v (.one (.box 0 0)))]) 1

theorem fleetref2_SpotFault_x1_ok (qs : api_Spot) {r} (hF : fleetref2_SpotFault_x1 qs = some r) : Awp prog 0 13 (cL (cL (cR (cB f59)))) (Out 0 fleetref2_SpotFault_x1_k (fleetref2_SpotFault_x1_S qs) r) (fleetref2_SpotFault_x1_I qs) := by
  unfold fleetref2_SpotFault_x1 at hF
  refine bE hF fun vr h1 hF => ?_
  refine cE hF (fun h2 hF => ?_) fun h2 hF => ?_
  · refine awp_region ?_
    refine aR 2 ?_
    refine aC (fleetref2_in_ok h1) [] [] [] ?_
    refine aB h2 ?_
    refine aR 6 ?_
    refine aE ?_
    exact oO hF [] [] rfl
  · refine bE hF fun vr1 h3 hF => ?_
    refine awp_region ?_
    refine aR 2 ?_
    refine aC (fleetref2_in_ok h1) [] [] [] ?_
    refine aB h2 ?_
    refine aR 3 ?_
    refine aC (fleetref2_in_ok h3) [] [] [] ?_
    refine aR 2 ?_
    refine aE ?_
    exact oO hF [] [] rfl

def fleetref2_SpotFault_R (qs : api_Spot) (r : Int) : TV × Mem := (.v (.one (.d (.int .i64 r))), ⟨[], []⟩)

theorem fleetref2_SpotFault_ok {qs : api_Spot} {r} (hF : fleetref2_SpotFault qs = some r) : Holds prog 59 [.v (.agg [.d (.int .i64 qs.X), .d (.int .i64 qs.Y)])] ⟨[], []⟩ (Is (fleetref2_SpotFault_R qs r)) := by
  unfold fleetref2_SpotFault at hF
  refine holds_of_awp hΓ (fn := f59) (c := cB f59) (A := 0) (nx := 0) (by kernel_rfl) (by kernel_rfl) (by kernel_rfl) (by kernel_rfl) (by kernel_rfl) (by kernel_rfl) (lowc_of (by kernel_rfl)) ?_
  show Awp prog 0 13 (cB f59) _ _
  refine awp_seq ?_
  refine awp_region ?_
  refine aR 2 ?_
  refine aE ?_
  refine awp_seq ?_
  refine awp_seq ?_
  refine awp_to (st' := fleetref2_SpotFault_x1_I qs) (oT [] []) ?_
  refine bE hF fun vx1 h4 hF => ?_
  refine awp_sub (fleetref2_SpotFault_x1_ok qs h4) ?_
  refine cE hF (fun h5 hF => ?_) fun h5 hF => ?_
  · refine awp_true (by kernel_rfl) h5 ?_
    refine awp_seq ?_
    refine awp_region ?_
    refine aR 1 ?_
    refine aE ?_
    refine awp_ret ?_
    exact oF hF [] []
  · refine awp_false (by kernel_rfl) h5 ?_
    refine awp_skip ?_
    refine awp_seq ?_
    refine awp_region ?_
    refine aR 1 ?_
    refine aE ?_
    refine awp_ret ?_
    exact oF hF [] []

/-! ### slices.Index[[]beaconfleet/api.Spot,beaconfleet/api.Spot] -/
def slices_Index_api_Spot_api_Spot_x1_k : Unit ⊕ Int → AEx
  | .inl _ => .exit 0
  | .inr _ => .ret

def slices_Index_api_Spot_api_Spot_x1_S (qs : List api_Spot) (qv : api_Spot) : Unit ⊕ Int → St
  | .inl _ => Mem.st ⟨[], []⟩ (tl []) 0
  | .inr vx1 => Mem.st ⟨[], []⟩ (tl [(4, .v (.one (.d (.int .i64 vx1))))]) 0

def slices_Index_api_Spot_api_Spot_x1_H (qs : List api_Spot) (qv : api_Spot) : Int → St
  | vx => Mem.st ⟨[], [(0, [.d (.int .i64 qv.X), .d (.int .i64 qv.Y)])]⟩ (tl [(0, .v (.one (.d (.lst (List.map api_Spot.enc qs))))), (3, .v (.one (.box 0 0))), (7, .v (.one (.d (.int .i64 (qs.length : Int))))), (8, .v (.one (.d (.int .i64 vx))))]) 1

theorem slices_Index_api_Spot_api_Spot_x1_ok (qs : List api_Spot) (qv : api_Spot) (vx : Int) (r : (Int) ⊕ (Unit ⊕ Int)) (hF : slices_Index_api_Spot_api_Spot_x1 qs qv vx = some r) : Awp prog 0 19 (cL (cL (cR (cL (cR (cB f100)))))) (Out 0 (kk slices_Index_api_Spot_api_Spot_x1_k) (SS (slices_Index_api_Spot_api_Spot_x1_H qs qv) (slices_Index_api_Spot_api_Spot_x1_S qs qv)) r) (slices_Index_api_Spot_api_Spot_x1_H qs qv vx) := by
  unfold slices_Index_api_Spot_api_Spot_x1 at hF
  refine awp_seq ?_
  refine awp_region ?_
  refine aR 1 ?_
  refine aE ?_
  refine awp_seq ?_
  refine cE hF (fun h1 hF => ?_) fun h1 hF => ?_
  · refine awp_true (by kernel_rfl) h1 ?_
    refine awp_skip ?_
    refine awp_seq ?_
    refine awp_block ?_
    refine awp_seq ?_
    refine awp_region ?_
    refine aR 2 ?_
    refine aE ?_
    refine awp_seq ?_
    refine bE hF fun vy1 h2 hF => ?_
    refine aD ?_
    refine dR 3 ?_
    refine dX (x_idx api_Spot.enc h2) ?_
    refine dR 1 ?_
    refine dS (U := []) (stable_eqS (op := .eql) (xs := [.int .i64 qv.X, .int .i64 qv.Y]) (ys := [.int .i64 vy1.X, .int .i64 vy1.Y]) (b := (decide (qv.X = vy1.X) && (decide (qv.Y = vy1.Y) && true))) (c := (decide (qv.X = vy1.X) && (decide (qv.Y = vy1.Y) && true))) rfl (.inl ⟨rfl, rfl⟩) (by kernel_rfl) (by kernel_rfl) (by kernel_rfl) (by kernel_rfl) (by kernel_rfl) (by kernel_rfl)) ?_
    refine dE ?_
    refine cE hF (fun h3 hF => ?_) fun h3 hF => ?_
    · refine awp_true (by kernel_rfl) h3 ?_
      refine awp_seq ?_
      refine awp_region ?_
      refine aR 2 ?_
      refine aE ?_
      refine awp_ret ?_
      exact oO hF [] [] rfl
    · refine awp_false (by kernel_rfl) h3 ?_
      refine awp_skip ?_
      refine awp_region ?_
      refine aR 2 ?_
      refine aE ?_
      exact oO hF [] [] rfl
  · refine awp_false (by kernel_rfl) h1 ?_
    refine awp_exit ?_
    exact oO hF [] [] rfl

def slices_Index_api_Spot_api_Spot_R (qs : List api_Spot) (qv : api_Spot) (r : Int) : TV × Mem := (.v (.one (.d (.int .i64 r))), ⟨[], []⟩)

theorem slices_Index_api_Spot_api_Spot_ok {qs : List api_Spot} {qv : api_Spot} {r} (hF : slices_Index_api_Spot_api_Spot qs qv = some r) : Holds prog 100 [.v (.one (.d (.lst (List.map api_Spot.enc qs)))), .v (.agg [.d (.int .i64 qv.X), .d (.int .i64 qv.Y)])] ⟨[], []⟩ (Is (slices_Index_api_Spot_api_Spot_R qs qv r)) := by
  unfold slices_Index_api_Spot_api_Spot at hF
  refine holds_of_awp hΓ (fn := f100) (c := cB f100) (A := 0) (nx := 0) (by kernel_rfl) (by kernel_rfl) (by kernel_rfl) (by kernel_rfl) (by kernel_rfl) (by kernel_rfl) (lowc_of (by kernel_rfl)) ?_
  show Awp prog 0 19 (cB f100) _ _
  refine awp_seq ?_
  refine awp_region ?_
  refine aR 2 ?_
  refine aE ?_
  refine awp_seq ?_
  refine awp_seq ?_
  refine awp_region ?_
  refine aR 1 ?_
  refine aL api_Spot.enc qs ?_
  refine aR 1 ?_
  refine aE ?_
  refine awp_block ?_
  refine awp_to (st' := slices_Index_api_Spot_api_Spot_x1_H qs qv 0) (oT [] []) ?_
  refine bE hF fun x h4 hF => ?_
  rcases x with _ | vx1_1
  · refine awp_sub (awp_loop' (slices_Index_api_Spot_api_Spot_x1_H qs qv) slices_Index_api_Spot_api_Spot_x1_k (slices_Index_api_Spot_api_Spot_x1_S qs qv) (by intro x; rcases x with x | x <;> exact fun h => nomatch h) h4 (slices_Index_api_Spot_api_Spot_x1_ok qs qv)) ?_
    refine awp_seq ?_
    refine awp_region ?_
    refine aR 1 ?_
    refine aE ?_
    refine awp_ret ?_
    exact oF hF [] []
  · refine awp_sub (awp_loop' (slices_Index_api_Spot_api_Spot_x1_H qs qv) slices_Index_api_Spot_api_Spot_x1_k (slices_Index_api_Spot_api_Spot_x1_S qs qv) (by intro x; rcases x with x | x <;> exact fun h => nomatch h) h4 (slices_Index_api_Spot_api_Spot_x1_ok qs qv)) ?_
    exact oF hF [] []

/-! ### slices.Contains[[]beaconfleet/api.Spot,beaconfleet/api.Spot] -/
def slices_Contains_api_Spot_api_Spot_R (qs : List api_Spot) (qv : api_Spot) (r : Bool) : TV × Mem := (.v (.one (.d (.bool r))), ⟨[], []⟩)

theorem slices_Contains_api_Spot_api_Spot_ok {qs : List api_Spot} {qv : api_Spot} {r} (hF : slices_Contains_api_Spot_api_Spot qs qv = some r) : Holds prog 60 [.v (.one (.d (.lst (List.map api_Spot.enc qs)))), .v (.agg [.d (.int .i64 qv.X), .d (.int .i64 qv.Y)])] ⟨[], []⟩ (Is (slices_Contains_api_Spot_api_Spot_R qs qv r)) := by
  unfold slices_Contains_api_Spot_api_Spot at hF
  refine holds_of_awp hΓ (fn := f60) (c := cB f60) (A := 0) (nx := 0) (by kernel_rfl) (by kernel_rfl) (by kernel_rfl) (by kernel_rfl) (by kernel_rfl) (by kernel_rfl) (lowc_of (by kernel_rfl)) ?_
  show Awp prog 0 9 (cB f60) _ _
  refine awp_seq ?_
  refine awp_region ?_
  refine aR 2 ?_
  refine aE ?_
  refine awp_seq ?_
  refine bE hF fun vr h1 hF => ?_
  refine awp_region ?_
  refine aR 2 ?_
  refine aC (slices_Index_api_Spot_api_Spot_ok h1) [] [] [] ?_
  refine aR 2 ?_
  refine aE ?_
  refine awp_ret ?_
  exact oF hF [] []

/-! ### beaconfleet/fleetref2.edge -/
def fleetref2_edge_R (ql : List api_Spot) (qi : Int) (r : api_Spot × api_Spot) : TV × Mem := (.tup [.agg [.d (.int .i64 r.1.X), .d (.int .i64 r.1.Y)], .agg [.d (.int .i64 r.2.X), .d (.int .i64 r.2.Y)]], ⟨[], []⟩)

theorem fleetref2_edge_ok {ql : List api_Spot} {qi : Int} {r} (hF : fleetref2_edge ql qi = some r) : Holds prog 61 [.v (.one (.d (.lst (List.map api_Spot.enc ql)))), .v (.one (.d (.int .i64 qi)))] ⟨[], []⟩ (Is (fleetref2_edge_R ql qi r)) := by
  unfold fleetref2_edge at hF
  refine holds_of_awp hΓ (fn := f61) (c := cB f61) (A := 0) (nx := 0) (by kernel_rfl) (by kernel_rfl) (by kernel_rfl) (by kernel_rfl) (by kernel_rfl) (by kernel_rfl) (lowc_of (by kernel_rfl)) ?_
  show Awp prog 0 18 (cB f61) _ _
  refine awp_seq ?_
  refine awp_region ?_
  refine aR 2 ?_
  refine aE ?_
  refine awp_seq ?_
  refine bE hF fun vy h1 hF => ?_
  refine gE hF fun h2 hF => ?_
  refine bE hF fun vy1 h3 hF => ?_
  refine aD ?_
  refine dR 2 ?_
  refine dX (x_idx api_Spot.enc h1) ?_
  refine dR 5 ?_
  refine dL api_Spot.enc ql ?_
  refine dX (x_rem h2) ?_
  refine dX (x_idx api_Spot.enc h3) ?_
  refine dR 3 ?_
  refine dE ?_
  refine awp_ret ?_
  exact oF hF [] []

/-! ### beaconfleet/fleetref2.minus -/
def fleetref2_minus_R (qa : api_Spot) (qb : api_Spot) (r : Unit) : TV × Mem := (.v (.agg [.d (.int .i64 (IntKind.wrap .i64 (qa.X - qb.X))), .d (.int .i64 (IntKind.wrap .i64 (qa.Y - qb.Y)))]), ⟨[], []⟩)

theorem fleetref2_minus_ok {qa : api_Spot} {qb : api_Spot} {r} (hF : fleetref2_minus qa qb = some r) : Holds prog 103 [.v (.agg [.d (.int .i64 qa.X), .d (.int .i64 qa.Y)]), .v (.agg [.d (.int .i64 qb.X), .d (.int .i64 qb.Y)])] ⟨[], []⟩ (Is (fleetref2_minus_R qa qb r)) := by
  unfold fleetref2_minus at hF
  refine holds_of_awp hΓ (fn := f103) (c := cB f103) (A := 0) (nx := 0) (by kernel_rfl) (by kernel_rfl) (by kernel_rfl) (by kernel_rfl) (by kernel_rfl) (by kernel_rfl) (lowc_of (by kernel_rfl)) ?_
  show Awp prog 0 16 (cB f103) _ _
  refine awp_seq ?_
  refine awp_region ?_
  refine aR 3 ?_
  refine aE ?_
  refine awp_seq ?_
  refine awp_region ?_
  refine aR 12 ?_
  refine aE ?_
  refine awp_ret ?_
  exact oF hF [] []

/-! ### beaconfleet/fleetref2.cross -/
def fleetref2_cross_R (qa : api_Spot) (qb : api_Spot) (r : Unit) : TV × Mem := (.v (.one (.d (.int .i64 (IntKind.wrap .i64 ((IntKind.wrap .i64 (qa.X * qb.Y)) - (IntKind.wrap .i64 (qa.Y * qb.X))))))), ⟨[], []⟩)

theorem fleetref2_cross_ok {qa : api_Spot} {qb : api_Spot} {r} (hF : fleetref2_cross qa qb = some r) : Holds prog 132 [.v (.agg [.d (.int .i64 qa.X), .d (.int .i64 qa.Y)]), .v (.agg [.d (.int .i64 qb.X), .d (.int .i64 qb.Y)])] ⟨[], []⟩ (Is (fleetref2_cross_R qa qb r)) := by
  unfold fleetref2_cross at hF
  refine holds_of_awp hΓ (fn := f132) (c := cB f132) (A := 0) (nx := 0) (by kernel_rfl) (by kernel_rfl) (by kernel_rfl) (by kernel_rfl) (by kernel_rfl) (by kernel_rfl) (lowc_of (by kernel_rfl)) ?_
  show Awp prog 0 16 (cB f132) _ _
  refine awp_seq ?_
  refine awp_region ?_
  refine aR 3 ?_
  refine aE ?_
  refine awp_seq ?_
  refine awp_region ?_
  refine aR 12 ?_
  refine aE ?_
  refine awp_ret ?_
  exact oF hF [] []

/-! ### beaconfleet/fleetref2.sign -/
def fleetref2_sign_R (qn : Int) (r : Int) : TV × Mem := (.v (.one (.d (.int .i64 r))), ⟨[], []⟩)

theorem fleetref2_sign_ok {qn : Int} {r} (hF : fleetref2_sign qn = some r) : Holds prog 131 [.v (.one (.d (.int .i64 qn)))] ⟨[], []⟩ (Is (fleetref2_sign_R qn r)) := by
  unfold fleetref2_sign at hF
  refine holds_of_awp hΓ (fn := f131) (c := cB f131) (A := 0) (nx := 0) (by kernel_rfl) (by kernel_rfl) (by kernel_rfl) (by kernel_rfl) (by kernel_rfl) (by kernel_rfl) (lowc_of (by kernel_rfl)) ?_
  show Awp prog 0 9 (cB f131) _ _
  refine awp_seq ?_
  refine awp_region ?_
  refine aR 1 ?_
  refine aE ?_
  refine awp_seq ?_
  refine awp_block ?_
  refine awp_seq ?_
  refine awp_region ?_
  refine aR 3 ?_
  refine aE ?_
  refine cE hF (fun h1 hF => ?_) fun h1 hF => ?_
  · refine awp_true (by kernel_rfl) h1 ?_
    refine awp_seq ?_
    refine awp_region ?_
    refine aR 1 ?_
    refine aE ?_
    refine awp_ret ?_
    exact oF hF [] []
  · refine awp_false (by kernel_rfl) h1 ?_
    refine awp_seq ?_
    refine awp_region ?_
    refine aR 3 ?_
    refine aE ?_
    refine cE hF (fun h2 hF => ?_) fun h2 hF => ?_
    · refine awp_true (by kernel_rfl) h2 ?_
      refine awp_seq ?_
      refine awp_region ?_
      refine aR 1 ?_
      refine aE ?_
      refine awp_ret ?_
      exact oF hF [] []
    · refine awp_false (by kernel_rfl) h2 ?_
      refine awp_skip ?_
      refine awp_seq ?_
      refine awp_region ?_
      refine aR 1 ?_
      refine aE ?_
      refine awp_ret ?_
      exact oF hF [] []

/-! ### beaconfleet/fleetref2.side -/
def fleetref2_side_R (qa : api_Spot) (qb : api_Spot) (qs : api_Spot) (r : Int) : TV × Mem := (.v (.one (.d (.int .i64 r))), ⟨[], []⟩)

theorem fleetref2_side_ok {qa : api_Spot} {qb : api_Spot} {qs : api_Spot} {r} (hF : fleetref2_side qa qb qs = some r) : Holds prog 101 [.v (.agg [.d (.int .i64 qa.X), .d (.int .i64 qa.Y)]), .v (.agg [.d (.int .i64 qb.X), .d (.int .i64 qb.Y)]), .v (.agg [.d (.int .i64 qs.X), .d (.int .i64 qs.Y)])] ⟨[], []⟩ (Is (fleetref2_side_R qa qb qs r)) := by
  unfold fleetref2_side at hF
  refine holds_of_awp hΓ (fn := f101) (c := cB f101) (A := 0) (nx := 0) (by kernel_rfl) (by kernel_rfl) (by kernel_rfl) (by kernel_rfl) (by kernel_rfl) (by kernel_rfl) (lowc_of (by kernel_rfl)) ?_
  show Awp prog 0 15 (cB f101) _ _
  refine awp_seq ?_
  refine awp_region ?_
  refine aR 4 ?_
  refine aE ?_
  refine awp_seq ?_
  refine bE hF fun _ h1 hF => ?_
  refine bE hF fun _ h2 hF => ?_
  refine bE hF fun _ h3 hF => ?_
  refine bE hF fun vr h4 hF => ?_
  refine aD ?_
  refine dR 2 ?_
  refine dC (fleetref2_minus_ok h1) [] [] [] ?_
  refine dR 2 ?_
  refine dC (fleetref2_minus_ok h2) [] [] [] ?_
  refine dC (fleetref2_cross_ok h3) [] [] [] ?_
  refine dC (fleetref2_sign_ok h4) [] [] [] ?_
  refine dR 1 ?_
  refine dE ?_
  refine awp_ret ?_
  exact oF hF [] []

/-! ### beaconfleet/fleetref2.dot -/
def fleetref2_dot_R (qa : api_Spot) (qb : api_Spot) (r : Unit) : TV × Mem := (.v (.one (.d (.int .i64 (IntKind.wrap .i64 ((IntKind.wrap .i64 (qa.X * qb.X)) + (IntKind.wrap .i64 (qa.Y * qb.Y))))))), ⟨[], []⟩)

theorem fleetref2_dot_ok {qa : api_Spot} {qb : api_Spot} {r} (hF : fleetref2_dot qa qb = some r) : Holds prog 102 [.v (.agg [.d (.int .i64 qa.X), .d (.int .i64 qa.Y)]), .v (.agg [.d (.int .i64 qb.X), .d (.int .i64 qb.Y)])] ⟨[], []⟩ (Is (fleetref2_dot_R qa qb r)) := by
  unfold fleetref2_dot at hF
  refine holds_of_awp hΓ (fn := f102) (c := cB f102) (A := 0) (nx := 0) (by kernel_rfl) (by kernel_rfl) (by kernel_rfl) (by kernel_rfl) (by kernel_rfl) (by kernel_rfl) (lowc_of (by kernel_rfl)) ?_
  show Awp prog 0 16 (cB f102) _ _
  refine awp_seq ?_
  refine awp_region ?_
  refine aR 3 ?_
  refine aE ?_
  refine awp_seq ?_
  refine awp_region ?_
  refine aR 12 ?_
  refine aE ?_
  refine awp_ret ?_
  exact oF hF [] []

/-! ### beaconfleet/fleetref2.onWay -/
def fleetref2_onWay_x1_k : Bool → AEx
  | _ => .normal

def fleetref2_onWay_x1_S (qa : api_Spot) (qb : api_Spot) (qs : api_Spot) : Bool → St
  | vx => Mem.st ⟨[], []⟩ (tl [(6, .v (.one (.d (.bool vx))))]) 0

def fleetref2_onWay_x1_I (qa : api_Spot) (qb : api_Spot) (qs : api_Spot) : St := Mem.st ⟨[], [(0, [.d (.int .i64 qa.X), .d (.int .i64 qa.Y)]), (1, [.d (.int .i64 qb.X), .d (.int .i64 qb.Y)]), (2, [.d (.int .i64 qs.X), .d (.int .i64 qs.Y)])]⟩ (tl [(3, .v (.one (.box 0 0))), (4, .v (.one (.box 1 0))), (5, .v (.one (.box 2 0)))]) 3

theorem fleetref2_onWay_x1_ok (qa : api_Spot) (qb : api_Spot) (qs : api_Spot) {r} (hF : fleetref2_onWay_x1 qa qb qs = some r) : Awp prog 0 22 (cL (cR (cB f62))) (Out 0 fleetref2_onWay_x1_k (fleetref2_onWay_x1_S qa qb qs) r) (fleetref2_onWay_x1_I qa qb qs) := by
  unfold fleetref2_onWay_x1 at hF
  refine bE hF fun vr1 h1 hF => ?_
  refine cE hF (fun h2 hF => ?_) fun h2 hF => ?_
  · refine bE hF fun _ h3 hF => ?_
    refine bE hF fun _ h4 hF => ?_
    refine bE hF fun _ h5 hF => ?_
    refine aD ?_
    refine dR 3 ?_
    refine dC (fleetref2_side_ok h1) [] [] [] ?_
    refine dB h2 ?_
    refine dR 3 ?_
    refine dC (fleetref2_minus_ok h3) [] [] [] ?_
    refine dR 2 ?_
    refine dC (fleetref2_minus_ok h4) [] [] [] ?_
    refine dC (fleetref2_dot_ok h5) [] [] [] ?_
    refine dR 3 ?_
    refine dE ?_
    exact oO hF [] [] rfl
  · refine aD ?_
    refine dR 3 ?_
    refine dC (fleetref2_side_ok h1) [] [] [] ?_
    refine dB h2 ?_
    refine dR 11 ?_
    refine dE ?_
    exact oO hF [] [] rfl

def fleetref2_onWay_R (qa : api_Spot) (qb : api_Spot) (qs : api_Spot) (r : Bool) : TV × Mem := (.v (.one (.d (.bool r))), ⟨[], []⟩)

theorem fleetref2_onWay_ok {qa : api_Spot} {qb : api_Spot} {qs : api_Spot} {r} (hF : fleetref2_onWay qa qb qs = some r) : Holds prog 62 [.v (.agg [.d (.int .i64 qa.X), .d (.int .i64 qa.Y)]), .v (.agg [.d (.int .i64 qb.X), .d (.int .i64 qb.Y)]), .v (.agg [.d (.int .i64 qs.X), .d (.int .i64 qs.Y)])] ⟨[], []⟩ (Is (fleetref2_onWay_R qa qb qs r)) := by
  unfold fleetref2_onWay at hF
  refine holds_of_awp hΓ (fn := f62) (c := cB f62) (A := 0) (nx := 0) (by kernel_rfl) (by kernel_rfl) (by kernel_rfl) (by kernel_rfl) (by kernel_rfl) (by kernel_rfl) (lowc_of (by kernel_rfl)) ?_
  show Awp prog 0 22 (cB f62) _ _
  refine awp_seq ?_
  refine awp_region ?_
  refine aR 4 ?_
  refine aE ?_
  refine awp_seq ?_
  refine awp_to (st' := fleetref2_onWay_x1_I qa qb qs) (oT [(1, 1000), (2, 2000)] []) ?_
  refine bE hF fun vx1 h6 hF => ?_
  refine awp_sub (fleetref2_onWay_x1_ok qa qb qs h6) ?_
  refine awp_ret ?_
  exact oF hF [] []

/-! ### beaconfleet/fleetref2.touches -/
def fleetref2_touches_x1_k : Bool → AEx
  | _ => .normal

def fleetref2_touches_x1_S (qa : api_Spot) (qb : api_Spot) (qc : api_Spot) (qd : api_Spot) : Bool → St
  | vx => Mem.st ⟨[], [(0, [.d (.int .i64 qa.X), .d (.int .i64 qa.Y)]), (1, [.d (.int .i64 qb.X), .d (.int .i64 qb.Y)]), (2, [.d (.int .i64 qc.X), .d (.int .i64 qc.Y)]), (3, [.d (.int .i64 qd.X), .d (.int .i64 qd.Y)])]⟩ (tl [(4, .v (.one (.box 0 0))), (5, .v (.one (.box 1 0))), (6, .v (.one (.box 2 0))), (7, .v (.one (.box 3 0))), (30, .v (.one (.d (.bool vx))))]) 4

def fleetref2_touches_x1_I (qa : api_Spot) (qb : api_Spot) (qc : api_Spot) (qd : api_Spot) : St := Mem.st ⟨[], [(0, [.d (.int .i64 qa.X), .d (.int .i64 qa.Y)]), (1, [.d (.int .i64 qb.X), .d (.int .i64 qb.Y)]), (2, [.d (.int .i64 qc.X), .d (.int .i64 qc.Y)]), (3, [.d (.int .i64 qd.X), .d (.int .i64 qd.Y)])]⟩ (tl [(4, .v (.one (.box 0 0))), (5, .v (.one (.box 1 0))), (6, .v (.one (.box 2 0))), (7, .v (.one (.box 3 0)))]) 4

theorem fleetref2_touches_x1_ok (qa : api_Spot) (qb : api_Spot) (qc : api_Spot) (qd : api_Spot) {r} (hF : fleetref2_touches_x1 qa qb qc qd = some r) : Awp prog 0 53 (cL (cL (cR (cB f63)))) (Out 0 fleetref2_touches_x1_k (fleetref2_touches_x1_S qa qb qc qd) r) (fleetref2_touches_x1_I qa qb qc qd) := by
  unfold fleetref2_touches_x1 at hF
  refine bE hF fun vr h1 hF => ?_
  refine cE hF (fun h2 hF => ?_) fun h2 hF => ?_
  · refine awp_region ?_
    refine aR 3 ?_
    refine aCb (fleetref2_onWay_ok h1) [] [] [] h2 ?_
    refine aR 18 ?_
    refine aE ?_
    exact oO hF [] [] rfl
  · refine bE hF fun vr1 h3 hF => ?_
    refine cE hF (fun h4 hF => ?_) fun h4 hF => ?_
    · refine awp_region ?_
      refine aR 3 ?_
      refine aCb (fleetref2_onWay_ok h1) [] [] [] h2 ?_
      refine aR 4 ?_
      refine aCb (fleetref2_onWay_ok h3) [] [] [] h4 ?_
      refine aR 13 ?_
      refine aE ?_
      exact oO hF [] [] rfl
    · refine bE hF fun vr2 h5 hF => ?_
      refine cE hF (fun h6 hF => ?_) fun h6 hF => ?_
      · refine awp_region ?_
        refine aR 3 ?_
        refine aCb (fleetref2_onWay_ok h1) [] [] [] h2 ?_
        refine aR 4 ?_
        refine aCb (fleetref2_onWay_ok h3) [] [] [] h4 ?_
        refine aR 5 ?_
        refine aCb (fleetref2_onWay_ok h5) [] [] [] h6 ?_
        refine aR 7 ?_
        refine aE ?_
        exact oO hF [] [] rfl
      · refine bE hF fun vr3 h7 hF => ?_
        refine awp_region ?_
        refine aR 3 ?_
        refine aCb (fleetref2_onWay_ok h1) [] [] [] h2 ?_
        refine aR 4 ?_
        refine aCb (fleetref2_onWay_ok h3) [] [] [] h4 ?_
        refine aR 5 ?_
        refine aCb (fleetref2_onWay_ok h5) [] [] [] h6 ?_
        refine aR 5 ?_
        refine aC (fleetref2_onWay_ok h7) [] [] [] ?_
        refine aR 1 ?_
        refine aE ?_
        exact oO hF [] [] rfl

def fleetref2_touches_x2_k : Bool → AEx
  | _ => .normal

def fleetref2_touches_x2_S (qa : api_Spot) (qb : api_Spot) (qc : api_Spot) (qd : api_Spot) : Bool → St
  | vx2 => Mem.st ⟨[], []⟩ (tl [(8, .v (.one (.d (.bool vx2))))]) 0

def fleetref2_touches_x2_I (qa : api_Spot) (qb : api_Spot) (qc : api_Spot) (qd : api_Spot) : St := Mem.st ⟨[], [(0, [.d (.int .i64 qa.X), .d (.int .i64 qa.Y)]), (1, [.d (.int .i64 qb.X), .d (.int .i64 qb.Y)]), (2, [.d (.int .i64 qc.X), .d (.int .i64 qc.Y)]), (3, [.d (.int .i64 qd.X), .d (.int .i64 qd.Y)])]⟩ (tl [(4, .v (.one (.box 0 0))), (5, .v (.one (.box 1 0))), (6, .v (.one (.box 2 0))), (7, .v (.one (.box 3 0)))]) 4

theorem fleetref2_touches_x2_ok (qa : api_Spot) (qb : api_Spot) (qc : api_Spot) (qd : api_Spot) {r} (hF : fleetref2_touches_x2 qa qb qc qd = some r) : Awp prog 0 53 (cL (cR (cR (cB f63)))) (Out 0 fleetref2_touches_x2_k (fleetref2_touches_x2_S qa qb qc qd) r) (fleetref2_touches_x2_I qa qb qc qd) := by
  unfold fleetref2_touches_x2 at hF
  refine bE hF fun vr1_1 h10 hF => ?_
  refine bE hF fun vr1_2 h11 hF => ?_
  refine cE hF (fun h12 hF => ?_) fun h12 hF => ?_
  · refine bE hF fun vr1_3 h13 hF => ?_
    refine bE hF fun vr1_4 h14 hF => ?_
    refine aD ?_
    refine dR 3 ?_
    refine dC (fleetref2_side_ok h10) [] [] [] ?_
    refine dR 3 ?_
    refine dC (fleetref2_side_ok h11) [] [] [] ?_
    refine dR 1 ?_
    refine dB h12 ?_
    refine dR 4 ?_
    refine dC (fleetref2_side_ok h13) [] [] [] ?_
    refine dR 3 ?_
    refine dC (fleetref2_side_ok h14) [] [] [] ?_
    refine dR 4 ?_
    refine dE ?_
    exact oO hF [] [] rfl
  · refine aD ?_
    refine dR 3 ?_
    refine dC (fleetref2_side_ok h10) [] [] [] ?_
    refine dR 3 ?_
    refine dC (fleetref2_side_ok h11) [] [] [] ?_
    refine dR 1 ?_
    refine dB h12 ?_
    refine dR 13 ?_
    refine dE ?_
    exact oO hF [] [] rfl

def fleetref2_touches_R (qa : api_Spot) (qb : api_Spot) (qc : api_Spot) (qd : api_Spot) (r : Bool) : TV × Mem := (.v (.one (.d (.bool r))), ⟨[], []⟩)

theorem fleetref2_touches_ok {qa : api_Spot} {qb : api_Spot} {qc : api_Spot} {qd : api_Spot} {r} (hF : fleetref2_touches qa qb qc qd = some r) : Holds prog 63 [.v (.agg [.d (.int .i64 qa.X), .d (.int .i64 qa.Y)]), .v (.agg [.d (.int .i64 qb.X), .d (.int .i64 qb.Y)]), .v (.agg [.d (.int .i64 qc.X), .d (.int .i64 qc.Y)]), .v (.agg [.d (.int .i64 qd.X), .d (.int .i64 qd.Y)])] ⟨[], []⟩ (Is (fleetref2_touches_R qa qb qc qd r)) := by
  unfold fleetref2_touches at hF
  refine holds_of_awp hΓ (fn := f63) (c := cB f63) (A := 0) (nx := 0) (by kernel_rfl) (by kernel_rfl) (by kernel_rfl) (by kernel_rfl) (by kernel_rfl) (by kernel_rfl) (lowc_of (by kernel_rfl)) ?_
  show Awp prog 0 53 (cB f63) _ _
  refine awp_seq ?_
  refine awp_region ?_
  refine aR 5 ?_
  refine aE ?_
  refine awp_seq ?_
  refine awp_seq ?_
  refine awp_to (st' := fleetref2_touches_x1_I qa qb qc qd) (oT [(1, 1000), (2, 2000), (3, 3000)] []) ?_
  refine bE hF fun vx1 h8 hF => ?_
  refine awp_sub (fleetref2_touches_x1_ok qa qb qc qd h8) ?_
  refine cE hF (fun h9 hF => ?_) fun h9 hF => ?_
  · refine awp_true (by kernel_rfl) h9 ?_
    refine awp_seq ?_
    refine awp_region ?_
    refine aR 1 ?_
    refine aE ?_
    refine awp_ret ?_
    exact oF hF [] []
  · refine awp_false (by kernel_rfl) h9 ?_
    refine awp_skip ?_
    refine awp_seq ?_
    refine awp_to (st' := fleetref2_touches_x2_I qa qb qc qd) (oT [] []) ?_
    refine bE hF fun vx2_1 h15 hF => ?_
    refine awp_sub (fleetref2_touches_x2_ok qa qb qc qd h15) ?_
    refine awp_ret ?_
    exact oF hF [] []

/-! ### beaconfleet/fleetref2.CornersFault -/
def fleetref2_CornersFault_x1_k : Unit ⊕ Int → AEx
  | .inl _ => .exit 1
  | .inr _ => .ret

def fleetref2_CornersFault_x1_S (qx : List api_Spot) : Unit ⊕ Int → St
  | .inl _ => Mem.st ⟨[], []⟩ (tl [(0, .v (.one (.d (.lst (List.map api_Spot.enc qx)))))]) 0
  | .inr vx1 => Mem.st ⟨[], []⟩ (tl [(2, .v (.one (.d (.int .i64 vx1))))]) 0

def fleetref2_CornersFault_x1_H (qx : List api_Spot) : Int → St
  | vx => Mem.st ⟨[], []⟩ (tl [(0, .v (.one (.d (.lst (List.map api_Spot.enc qx))))), (20, .v (.one (.d (.lst (List.map api_Spot.enc qx))))), (21, .v (.one (.d (.int .i64 (qx.length : Int))))), (22, .v (.one (.d (.int .i64 vx))))]) 0

theorem fleetref2_CornersFault_x1_ok (qx : List api_Spot) (vx : Int) (r : (Int) ⊕ (Unit ⊕ Int)) (hF : fleetref2_CornersFault_x1 qx vx = some r) : Awp prog 0 90 (cL (cL (cR (cL (cR (cR (cB f33))))))) (Out 0 (kk fleetref2_CornersFault_x1_k) (SS (fleetref2_CornersFault_x1_H qx) (fleetref2_CornersFault_x1_S qx)) r) (fleetref2_CornersFault_x1_H qx vx) := by
  unfold fleetref2_CornersFault_x1 at hF
  refine awp_seq ?_
  refine awp_region ?_
  refine aR 1 ?_
  refine aE ?_
  refine awp_seq ?_
  refine cE hF (fun h3 hF => ?_) fun h3 hF => ?_
  · refine awp_true (by kernel_rfl) h3 ?_
    refine awp_skip ?_
    refine awp_seq ?_
    refine awp_block ?_
    refine awp_seq ?_
    refine bE hF fun vy1 h4 hF => ?_
    refine awp_region ?_
    refine aR 1 ?_
    refine aX (x_idx api_Spot.enc h4) ?_
    refine aR 4 ?_
    refine aE ?_
    refine awp_seq ?_
    refine awp_seq ?_
    refine bE hF fun vr2_1 h5 hF => ?_
    refine awp_region ?_
    refine aR 1 ?_
    refine aC (fleetref2_SpotFault_ok h5) [] [] [] ?_
    refine aR 1 ?_
    refine aE ?_
    refine awp_seq ?_
    refine awp_region ?_
    refine aR 2 ?_
    refine aE ?_
    refine cE hF (fun h6 hF => ?_) fun h6 hF => ?_
    · refine awp_true (by kernel_rfl) h6 ?_
      refine awp_seq ?_
      refine awp_region ?_
      refine aR 2 ?_
      refine aE ?_
      refine awp_ret ?_
      exact oO hF [] [] rfl
    · refine awp_false (by kernel_rfl) h6 ?_
      refine awp_skip ?_
      refine awp_seq ?_
      refine bE hF fun vl1 h7 hF => ?_
      refine bE hF fun vr1_1 h8 hF => ?_
      refine aD ?_
      refine dR 2 ?_
      refine dX (x_slice api_Spot.enc h7) ?_
      refine dR 1 ?_
      refine dC (slices_Contains_api_Spot_api_Spot_ok h8) [] [] [] ?_
      refine dE ?_
      refine cE hF (fun h9 hF => ?_) fun h9 hF => ?_
      · refine awp_true (by kernel_rfl) h9 ?_
        refine awp_seq ?_
        refine awp_region ?_
        refine aR 1 ?_
        refine aE ?_
        refine awp_ret ?_
        exact oO hF [] [] rfl
      · refine awp_false (by kernel_rfl) h9 ?_
        refine awp_skip ?_
        refine awp_region ?_
        refine aR 2 ?_
        refine aE ?_
        exact oO hF [] [] rfl
  · refine awp_false (by kernel_rfl) h3 ?_
    refine awp_exit ?_
    exact oO hF [] [] rfl

def fleetref2_CornersFault_x5_k : Bool → AEx
  | _ => .normal

def fleetref2_CornersFault_x5_S (qx : List api_Spot) (vx2 : Int) (vr9 : api_Spot) (vr1_5 : api_Spot) (vx6 : Int) (vr13 : api_Spot) (vr1_7 : api_Spot) : Bool → St
  | vx8 => Mem.st ⟨[], [(0, [.d (.int .i64 vr9.X), .d (.int .i64 vr9.Y)]), (1, [.d (.int .i64 vr1_5.X), .d (.int .i64 vr1_5.Y)])]⟩ (tl [(0, .v (.one (.d (.lst (List.map api_Spot.enc qx))))), (6, .v (.one (.d (.int .i64 vx2)))), (7, .v (.one (.box 0 0))), (8, .v (.one (.box 1 0))), (39, .v (.one (.d (.int .i64 (qx.length : Int))))), (40, .v (.one (.d (.int .i64 vx2)))), (50, .v (.one (.d (.int .i64 (qx.length : Int))))), (51, .v (.one (.d (.int .i64 vx6)))), (77, .v (.one (.d (.bool vx8))))]) 2

def fleetref2_CornersFault_x5_I (qx : List api_Spot) (vx2 : Int) (vr9 : api_Spot) (vr1_5 : api_Spot) (vx6 : Int) (vr13 : api_Spot) (vr1_7 : api_Spot) : St := Mem.st ⟨[], [(0, [.d (.int .i64 vr9.X), .d (.int .i64 vr9.Y)]), (1, [.d (.int .i64 vr1_5.X), .d (.int .i64 vr1_5.Y)]), (2, [.d (.int .i64 vr13.X), .d (.int .i64 vr13.Y)]), (3, [.d (.int .i64 vr1_7.X), .d (.int .i64 vr1_7.Y)])]⟩ (tl [(0, .v (.one (.d (.lst (List.map api_Spot.enc qx))))), (6, .v (.one (.d (.int .i64 vx2)))), (7, .v (.one (.box 0 0))), (8, .v (.one (.box 1 0))), (10, .v (.one (.box 2 0))), (11, .v (.one (.box 3 0))), (39, .v (.one (.d (.int .i64 (qx.length : Int))))), (40, .v (.one (.d (.int .i64 vx2)))), (50, .v (.one (.d (.int .i64 (qx.length : Int))))), (51, .v (.one (.d (.int .i64 vx6))))]) 4

theorem fleetref2_CornersFault_x5_ok (qx : List api_Spot) (vx2 : Int) (vr9 : api_Spot) (vr1_5 : api_Spot) (vx6 : Int) (vr13 : api_Spot) (vr1_7 : api_Spot) {r} (hF : fleetref2_CornersFault_x5 vr9 vr1_5 vr13 vr1_7 = some r) : Awp prog 0 90 (cL (cL (cR (cR (cR (cL (cR (cR (cL (cL (cR (cR (cL (cL (cR (cR (cR (cL (cL (cR (cR (cL (cL (cR (cL (cR (cR (cR (cB f33))))))))))))))))))))))))))))) (Out 0 fleetref2_CornersFault_x5_k (fleetref2_CornersFault_x5_S qx vx2 vr9 vr1_5 vx6 vr13 vr1_7) r) (fleetref2_CornersFault_x5_I qx vx2 vr9 vr1_5 vx6 vr13 vr1_7) := by
  unfold fleetref2_CornersFault_x5 at hF
  refine bE hF fun vr14 h17 hF => ?_
  refine cE hF (fun h18 hF => ?_) fun h18 hF => ?_
  · refine awp_region ?_
    refine aR 3 ?_
    refine aCb (fleetref2_onWay_ok h17) [] [] [] h18 ?_
    refine aR 6 ?_
    refine aE ?_
    exact oO hF [] [] rfl
  · refine bE hF fun vr15 h19 hF => ?_
    refine awp_region ?_
    refine aR 3 ?_
    refine aCb (fleetref2_onWay_ok h17) [] [] [] h18 ?_
    refine aR 4 ?_
    refine aC (fleetref2_onWay_ok h19) [] [] [] ?_
    refine aR 1 ?_
    refine aE ?_
    exact oO hF [] [] rfl

def fleetref2_CornersFault_x4_k : Unit ⊕ Unit → AEx
  | .inl _ => .normal
  | .inr _ => .ret

def fleetref2_CornersFault_x4_S (qx : List api_Spot) (vx2 : Int) (vr9 : api_Spot) (vr1_5 : api_Spot) (vx6 : Int) : Unit ⊕ Unit → St
  | .inl _ => Mem.st ⟨[], [(0, [.d (.int .i64 vr9.X), .d (.int .i64 vr9.Y)]), (1, [.d (.int .i64 vr1_5.X), .d (.int .i64 vr1_5.Y)])]⟩ (tl [(0, .v (.one (.d (.lst (List.map api_Spot.enc qx))))), (6, .v (.one (.d (.int .i64 vx2)))), (7, .v (.one (.box 0 0))), (8, .v (.one (.box 1 0))), (39, .v (.one (.d (.int .i64 (qx.length : Int))))), (40, .v (.one (.d (.int .i64 vx2)))), (50, .v (.one (.d (.int .i64 (qx.length : Int))))), (51, .v (.one (.d (.int .i64 vx6))))]) 2
  | .inr _ => Mem.st ⟨[], []⟩ (tl [(2, .v (.one (.d (.int .i64 13))))]) 0

def fleetref2_CornersFault_x4_I (qx : List api_Spot) (vx2 : Int) (vr9 : api_Spot) (vr1_5 : api_Spot) (vx6 : Int) : St := Mem.st ⟨[], [(0, [.d (.int .i64 vr9.X), .d (.int .i64 vr9.Y)]), (1, [.d (.int .i64 vr1_5.X), .d (.int .i64 vr1_5.Y)])]⟩ (tl [(0, .v (.one (.d (.lst (List.map api_Spot.enc qx))))), (6, .v (.one (.d (.int .i64 vx2)))), (7, .v (.one (.box 0 0))), (8, .v (.one (.box 1 0))), (39, .v (.one (.d (.int .i64 (qx.length : Int))))), (40, .v (.one (.d (.int .i64 vx2)))), (50, .v (.one (.d (.int .i64 (qx.length : Int))))), (51, .v (.one (.d (.int .i64 vx6))))]) 2

theorem fleetref2_CornersFault_x4_ok (qx : List api_Spot) (vx2 : Int) (vr9 : api_Spot) (vr1_5 : api_Spot) (vx6 : Int) {r} (hF : fleetref2_CornersFault_x4 qx vx2 vr9 vr1_5 vx6 = some r) : Awp prog 0 90 (cL (cR (cR (cL (cL (cR (cR (cR (cL (cL (cR (cR (cL (cL (cR (cL (cR (cR (cR (cB f33)))))))))))))))))))) (Out 0 fleetref2_CornersFault_x4_k (fleetref2_CornersFault_x4_S qx vx2 vr9 vr1_5 vx6) r) (fleetref2_CornersFault_x4_I qx vx2 vr9 vr1_5 vx6) := by
  unfold fleetref2_CornersFault_x4 at hF
  refine awp_block ?_
  refine awp_seq ?_
  refine awp_region ?_
  refine aR 2 ?_
  refine aE ?_
  refine awp_seq ?_
  refine bE hF fun x h14 hF => ?_
  obtain ⟨vr13, vr1_7⟩ := x
  refine awp_region ?_
  refine aR 2 ?_
  refine aC (fleetref2_edge_ok h14) [] [] [] ?_
  refine aR 7 ?_
  refine aE ?_
  refine awp_block ?_
  refine awp_seq ?_
  refine awp_region ?_
  refine aR 4 ?_
  refine aE ?_
  refine cE hF (fun h15 hF => ?_) fun h15 hF => ?_
  · refine awp_true (by kernel_rfl) h15 ?_
    refine awp_skip ?_
    exact oO hF [] [] rfl
  · refine awp_false (by kernel_rfl) h15 ?_
    refine awp_seq ?_
    refine awp_region ?_
    refine aR 2 ?_
    refine aS (does_eqS (op := .eql) (xs := [.int .i64 vr1_5.X, .int .i64 vr1_5.Y]) (ys := [.int .i64 vr13.X, .int .i64 vr13.Y]) (b := (decide (vr1_5.X = vr13.X) && (decide (vr1_5.Y = vr13.Y) && true))) (c := (decide (vr1_5.X = vr13.X) && (decide (vr1_5.Y = vr13.Y) && true))) rfl (.inl ⟨rfl, rfl⟩) (by kernel_rfl) (by kernel_rfl) (by kernel_rfl) (by kernel_rfl) (by kernel_rfl) (by kernel_rfl)) ?_
    refine aR 1 ?_
    refine aE ?_
    refine cE hF (fun h16 hF => ?_) fun h16 hF => ?_
    · refine awp_true (by kernel_rfl) h16 ?_
      refine awp_seq ?_
      refine awp_to (st' := fleetref2_CornersFault_x5_I qx vx2 vr9 vr1_5 vx6 vr13 vr1_7) (oT [(2, 8002), (3, 9002)] []) ?_
      refine bE hF fun vx8_1 h20 hF => ?_
      refine awp_sub (fleetref2_CornersFault_x5_ok qx vx2 vr9 vr1_5 vx6 vr13 vr1_7 h20) ?_
      refine cE hF (fun h21 hF => ?_) fun h21 hF => ?_
      · refine awp_true (by kernel_rfl) h21 ?_
        refine awp_seq ?_
        refine awp_region ?_
        refine aR 1 ?_
        refine aE ?_
        refine awp_ret ?_
        exact oO hF [] [] rfl
      · refine awp_false (by kernel_rfl) h21 ?_
        refine awp_skip ?_
        exact oO hF [] [] rfl
    · refine awp_false (by kernel_rfl) h16 ?_
      refine awp_seq ?_
      refine awp_region ?_
      refine aR 2 ?_
      refine aS (does_eqS (op := .eql) (xs := [.int .i64 vr1_7.X, .int .i64 vr1_7.Y]) (ys := [.int .i64 vr9.X, .int .i64 vr9.Y]) (b := (decide (vr1_7.X = vr9.X) && (decide (vr1_7.Y = vr9.Y) && true))) (c := (decide (vr1_7.X = vr9.X) && (decide (vr1_7.Y = vr9.Y) && true))) rfl (.inl ⟨rfl, rfl⟩) (by kernel_rfl) (by kernel_rfl) (by kernel_rfl) (by kernel_rfl) (by kernel_rfl) (by kernel_rfl)) ?_
      refine aR 1 ?_
      refine aE ?_
      refine cE hF (fun h22 hF => ?_) fun h22 hF => ?_
      · refine awp_true (by kernel_rfl) h22 ?_
        refine awp_skip ?_
        exact oO hF [] [] rfl
      · refine awp_false (by kernel_rfl) h22 ?_
        refine awp_seq ?_
        refine bE hF fun vr4_4 h23 hF => ?_
        refine awp_region ?_
        refine aR 4 ?_
        refine aC (fleetref2_touches_ok h23) [] [] [] ?_
        refine aR 1 ?_
        refine aE ?_
        refine cE hF (fun h24 hF => ?_) fun h24 hF => ?_
        · refine awp_true (by kernel_rfl) h24 ?_
          refine awp_seq ?_
          refine awp_region ?_
          refine aR 1 ?_
          refine aE ?_
          refine awp_ret ?_
          exact oO hF [] [] rfl
        · refine awp_false (by kernel_rfl) h24 ?_
          refine awp_skip ?_
          exact oO hF [] [] rfl

def fleetref2_CornersFault_x3_k : Unit ⊕ Unit → AEx
  | .inl _ => .exit 5
  | .inr _ => .ret

def fleetref2_CornersFault_x3_S (qx : List api_Spot) (vx2 : Int) (vr9 : api_Spot) (vr1_5 : api_Spot) : Unit ⊕ Unit → St
  | .inl _ => Mem.st ⟨[], []⟩ (tl [(0, .v (.one (.d (.lst (List.map api_Spot.enc qx))))), (39, .v (.one (.d (.int .i64 (qx.length : Int))))), (40, .v (.one (.d (.int .i64 vx2))))]) 0
  | .inr _ => Mem.st ⟨[], []⟩ (tl [(2, .v (.one (.d (.int .i64 13))))]) 0

def fleetref2_CornersFault_x3_H (qx : List api_Spot) (vx2 : Int) (vr9 : api_Spot) (vr1_5 : api_Spot) : Int → St
  | vx6 => Mem.st ⟨[], [(0, [.d (.int .i64 vr9.X), .d (.int .i64 vr9.Y)]), (1, [.d (.int .i64 vr1_5.X), .d (.int .i64 vr1_5.Y)])]⟩ (tl [(0, .v (.one (.d (.lst (List.map api_Spot.enc qx))))), (6, .v (.one (.d (.int .i64 vx2)))), (7, .v (.one (.box 0 0))), (8, .v (.one (.box 1 0))), (39, .v (.one (.d (.int .i64 (qx.length : Int))))), (40, .v (.one (.d (.int .i64 vx2)))), (50, .v (.one (.d (.int .i64 (qx.length : Int))))), (51, .v (.one (.d (.int .i64 vx6))))]) 2

theorem fleetref2_CornersFault_x3_ok (qx : List api_Spot) (vx2 : Int) (vr9 : api_Spot) (vr1_5 : api_Spot) (vx6 : Int) (r : (Int) ⊕ (Unit ⊕ Unit)) (hF : fleetref2_CornersFault_x3 qx vx2 vr9 vr1_5 vx6 = some r) : Awp prog 0 90 (cL (cL (cR (cR (cR (cL (cL (cR (cR (cL (cL (cR (cL (cR (cR (cR (cB f33))))))))))))))))) (Out 0 (kk fleetref2_CornersFault_x3_k) (SS (fleetref2_CornersFault_x3_H qx vx2 vr9 vr1_5) (fleetref2_CornersFault_x3_S qx vx2 vr9 vr1_5)) r) (fleetref2_CornersFault_x3_H qx vx2 vr9 vr1_5 vx6) := by
  unfold fleetref2_CornersFault_x3 at hF
  refine awp_seq ?_
  refine awp_region ?_
  refine aR 1 ?_
  refine aE ?_
  refine awp_seq ?_
  refine cE hF (fun h13 hF => ?_) fun h13 hF => ?_
  · refine awp_true (by kernel_rfl) h13 ?_
    refine awp_skip ?_
    refine awp_seq ?_
    refine awp_to (st' := fleetref2_CornersFault_x4_I qx vx2 vr9 vr1_5 vx6) (oT [] []) ?_
    refine bE hF fun x h25 hF => ?_
    rcases x with _ | _
    · refine awp_sub (fleetref2_CornersFault_x4_ok qx vx2 vr9 vr1_5 vx6 h25) ?_
      refine awp_region ?_
      refine aR 2 ?_
      refine aE ?_
      exact oO hF [] [] rfl
    · refine awp_sub (fleetref2_CornersFault_x4_ok qx vx2 vr9 vr1_5 vx6 h25) ?_
      exact oO hF [] [] rfl
  · refine awp_false (by kernel_rfl) h13 ?_
    refine awp_exit ?_
    exact oO hF [] [] rfl

def fleetref2_CornersFault_x2_k : Unit ⊕ Unit → AEx
  | .inl _ => .exit 3
  | .inr _ => .ret

def fleetref2_CornersFault_x2_S (qx : List api_Spot) : Unit ⊕ Unit → St
  | .inl _ => Mem.st ⟨[], []⟩ (tl []) 0
  | .inr _ => Mem.st ⟨[], []⟩ (tl [(2, .v (.one (.d (.int .i64 13))))]) 0

def fleetref2_CornersFault_x2_H (qx : List api_Spot) : Int → St
  | vx2 => Mem.st ⟨[], []⟩ (tl [(0, .v (.one (.d (.lst (List.map api_Spot.enc qx))))), (39, .v (.one (.d (.int .i64 (qx.length : Int))))), (40, .v (.one (.d (.int .i64 vx2))))]) 0

theorem fleetref2_CornersFault_x2_ok (qx : List api_Spot) (vx2 : Int) (r : (Int) ⊕ (Unit ⊕ Unit)) (hF : fleetref2_CornersFault_x2 qx vx2 = some r) : Awp prog 0 90 (cL (cL (cR (cL (cR (cR (cR (cB f33)))))))) (Out 0 (kk fleetref2_CornersFault_x2_k) (SS (fleetref2_CornersFault_x2_H qx) (fleetref2_CornersFault_x2_S qx)) r) (fleetref2_CornersFault_x2_H qx vx2) := by
  unfold fleetref2_CornersFault_x2 at hF
  refine awp_seq ?_
  refine awp_region ?_
  refine aR 1 ?_
  refine aE ?_
  refine awp_seq ?_
  refine cE hF (fun h11 hF => ?_) fun h11 hF => ?_
  · refine awp_true (by kernel_rfl) h11 ?_
    refine awp_skip ?_
    refine awp_seq ?_
    refine awp_block ?_
    refine awp_seq ?_
    refine awp_region ?_
    refine aR 2 ?_
    refine aE ?_
    refine awp_seq ?_
    refine bE hF fun x h12 hF => ?_
    obtain ⟨vr9, vr1_5⟩ := x
    refine awp_region ?_
    refine aR 2 ?_
    refine aC (fleetref2_edge_ok h12) [] [] [] ?_
    refine aR 7 ?_
    refine aE ?_
    refine awp_seq ?_
    refine awp_region ?_
    refine aR 1 ?_
    refine aL api_Spot.enc qx ?_
    refine aR 1 ?_
    refine aE ?_
    refine awp_block ?_
    refine awp_to (st' := fleetref2_CornersFault_x3_H qx vx2 vr9 vr1_5 0) (oT [(0, 9000), (1, 10000)] []) ?_
    refine bE hF fun x h26 hF => ?_
    rcases x with _ | _
    · refine awp_sub (awp_loop' (fleetref2_CornersFault_x3_H qx vx2 vr9 vr1_5) fleetref2_CornersFault_x3_k (fleetref2_CornersFault_x3_S qx vx2 vr9 vr1_5) (by intro x; rcases x with x | x <;> exact fun h => nomatch h) h26 (fleetref2_CornersFault_x3_ok qx vx2 vr9 vr1_5)) ?_
      refine awp_region ?_
      refine aR 2 ?_
      refine aE ?_
      exact oO hF [] [] rfl
    · refine awp_sub (awp_loop' (fleetref2_CornersFault_x3_H qx vx2 vr9 vr1_5) fleetref2_CornersFault_x3_k (fleetref2_CornersFault_x3_S qx vx2 vr9 vr1_5) (by intro x; rcases x with x | x <;> exact fun h => nomatch h) h26 (fleetref2_CornersFault_x3_ok qx vx2 vr9 vr1_5)) ?_
      exact oO hF [] [] rfl
  · refine awp_false (by kernel_rfl) h11 ?_
    refine awp_exit ?_
    exact oO hF [] [] rfl

def fleetref2_CornersFault_R (qx : List api_Spot) (r : Int) : TV × Mem := (.v (.one (.d (.int .i64 r))), ⟨[], []⟩)

theorem fleetref2_CornersFault_ok {qx : List api_Spot} {r} (hF : fleetref2_CornersFault qx = some r) : Holds prog 33 [.v (.one (.d (.lst (List.map api_Spot.enc qx))))] ⟨[], []⟩ (Is (fleetref2_CornersFault_R qx r)) := by
  unfold fleetref2_CornersFault at hF
  refine holds_of_awp hΓ (fn := f33) (c := cB f33) (A := 0) (nx := 0) (by kernel_rfl) (by kernel_rfl) (by kernel_rfl) (by kernel_rfl) (by kernel_rfl) (by kernel_rfl) (lowc_of (by kernel_rfl)) ?_
  show Awp prog 0 90 (cB f33) _ _
  refine awp_seq ?_
  refine awp_region ?_
  refine aR 1 ?_
  refine aE ?_
  refine awp_seq ?_
  refine awp_block ?_
  refine awp_seq ?_
  refine awp_region ?_
  refine aR 1 ?_
  refine aL api_Spot.enc qx ?_
  refine aR 2 ?_
  refine aE ?_
  refine cE hF (fun h1 hF => ?_) fun h1 hF => ?_
  · refine awp_true (by kernel_rfl) h1 ?_
    refine awp_seq ?_
    refine awp_region ?_
    refine aR 1 ?_
    refine aE ?_
    refine awp_ret ?_
    exact oF hF [] []
  · refine awp_false (by kernel_rfl) h1 ?_
    refine awp_seq ?_
    refine awp_region ?_
    refine aR 1 ?_
    refine aL api_Spot.enc qx ?_
    refine aR 2 ?_
    refine aE ?_
    refine cE hF (fun h2 hF => ?_) fun h2 hF => ?_
    · refine awp_true (by kernel_rfl) h2 ?_
      refine awp_seq ?_
      refine awp_region ?_
      refine aR 1 ?_
      refine aE ?_
      refine awp_ret ?_
      exact oF hF [] []
    · refine awp_false (by kernel_rfl) h2 ?_
      refine awp_skip ?_
      refine awp_seq ?_
      refine awp_seq ?_
      refine awp_region ?_
      refine aR 1 ?_
      refine aL api_Spot.enc qx ?_
      refine aR 1 ?_
      refine aE ?_
      refine awp_block ?_
      refine awp_to (st' := fleetref2_CornersFault_x1_H qx 0) (oT [] []) ?_
      refine bE hF fun x h10 hF => ?_
      rcases x with _ | vx1_1
      · refine awp_sub (awp_loop' (fleetref2_CornersFault_x1_H qx) fleetref2_CornersFault_x1_k (fleetref2_CornersFault_x1_S qx) (by intro x; rcases x with x | x <;> exact fun h => nomatch h) h10 (fleetref2_CornersFault_x1_ok qx)) ?_
        refine awp_seq ?_
        refine awp_seq ?_
        refine awp_region ?_
        refine aR 1 ?_
        refine aL api_Spot.enc qx ?_
        refine aR 1 ?_
        refine aE ?_
        refine awp_block ?_
        refine awp_to (st' := fleetref2_CornersFault_x2_H qx 0) (oT [] []) ?_
        refine bE hF fun x h27 hF => ?_
        rcases x with _ | _
        · refine awp_sub (awp_loop' (fleetref2_CornersFault_x2_H qx) fleetref2_CornersFault_x2_k (fleetref2_CornersFault_x2_S qx) (by intro x; rcases x with x | x <;> exact fun h => nomatch h) h27 (fleetref2_CornersFault_x2_ok qx)) ?_
          refine awp_seq ?_
          refine awp_region ?_
          refine aR 1 ?_
          refine aE ?_
          refine awp_ret ?_
          exact oF hF [] []
        · refine awp_sub (awp_loop' (fleetref2_CornersFault_x2_H qx) fleetref2_CornersFault_x2_k (fleetref2_CornersFault_x2_S qx) (by intro x; rcases x with x | x <;> exact fun h => nomatch h) h27 (fleetref2_CornersFault_x2_ok qx)) ?_
          exact oF hF [] []
      · refine awp_sub (awp_loop' (fleetref2_CornersFault_x1_H qx) fleetref2_CornersFault_x1_k (fleetref2_CornersFault_x1_S qx) (by intro x; rcases x with x | x <;> exact fun h => nomatch h) h10 (fleetref2_CornersFault_x1_ok qx)) ?_
        exact oF hF [] []

/-! ### (*beaconfleet/fleetmake.Stream).RightFence -/
def fleetmake_Stream_RightFence_x2_k : (fleetmake_Stream × (List api_Spot)) → AEx
  | _ => .exit 2

def fleetmake_Stream_RightFence_x2_S (vx : Int) (vr5 : Int) : (fleetmake_Stream × (List api_Spot)) → St
  | (vs9, vx10) => Mem.st ⟨[(3, ⟨35, 2, List.map api_Spot.enc ([api_Spot.mk 0 0, api_Spot.mk 10 0, api_Spot.mk 10 10, api_Spot.mk 0 10] : List api_Spot)⟩), (4, ⟨35, 2, List.map api_Spot.enc vx10⟩)], [(0, [.d (.lst (List.map (encI .i64) vs9.L)), .d (.int .i64 vs9.at_)]), (1, [.d (.str ([] : List UInt8)), .nil]), (2, [.d (.str ([102] : List UInt8)), .own 3 none])]⟩ (tl [(0, .v (.one (.box 0 0))), (2, .v (.one (.box 1 0))), (3, .v (.one (.box 2 0))), (4, .v (.one (.own 4 none))), (12, .v (.one (.d (.int .i64 vx))))]) 5

def fleetmake_Stream_RightFence_x2_H (vx : Int) (vr5 : Int) : fleetmake_Stream × (List api_Spot) × Int → St
  | (vs8, vx8, vx9) => Mem.st ⟨[(3, ⟨35, 2, List.map api_Spot.enc ([api_Spot.mk 0 0, api_Spot.mk 10 0, api_Spot.mk 10 10, api_Spot.mk 0 10] : List api_Spot)⟩), (4, ⟨35, 2, List.map api_Spot.enc vx8⟩)], [(0, [.d (.lst (List.map (encI .i64) vs8.L)), .d (.int .i64 vs8.at_)]), (1, [.d (.str ([] : List UInt8)), .nil]), (2, [.d (.str ([102] : List UInt8)), .own 3 none])]⟩ (tl [(0, .v (.one (.box 0 0))), (2, .v (.one (.box 1 0))), (3, .v (.one (.box 2 0))), (4, .v (.one (.own 4 none))), (12, .v (.one (.d (.int .i64 vx)))), (15, .v (.one (.d (.int .i64 vr5)))), (16, .v (.one (.d (.int .i64 vx9))))]) 5

theorem fleetmake_Stream_RightFence_x2_ok (vx : Int) (vr5 : Int) (s : fleetmake_Stream × (List api_Spot) × Int) (r : (fleetmake_Stream × (List api_Spot) × Int) ⊕ ((fleetmake_Stream × (List api_Spot)))) (hF : fleetmake_Stream_RightFence_x2 vr5 s = some r) : Awp prog 1 82 (cL (cL (cR (cL (cR (cL (cL (cR (cR (cL (cL (cR (cL (cR (cR (cB f11)))))))))))))))) (Out 1 (kk fleetmake_Stream_RightFence_x2_k) (SS (fleetmake_Stream_RightFence_x2_H vx vr5) (fleetmake_Stream_RightFence_x2_S vx vr5)) r) (fleetmake_Stream_RightFence_x2_H vx vr5 s) := by
  obtain ⟨vs8, vx8, vx9⟩ := s
  unfold fleetmake_Stream_RightFence_x2 at hF
  refine awp_seq ?_
  refine awp_region ?_
  refine aR 1 ?_
  refine aE ?_
  refine awp_seq ?_
  refine cE hF (fun h3 hF => ?_) fun h3 hF => ?_
  · refine awp_true (by kernel_rfl) h3 ?_
    refine awp_skip ?_
    refine awp_seq ?_
    refine awp_block ?_
    refine bE hF fun vr2_3 h4 hF => ?_
    refine gE hF fun h5 hF => ?_
    refine awp_region ?_
    refine aR 2 ?_
    refine aC (fleetmake_Stream_Place_ok h4) [] [] [] ?_
    refine aR 1 ?_
    refine aX (x_app api_Spot.enc 4 h5) ?_
    refine aR 1 ?_
    refine aE ?_
    refine awp_region ?_
    refine aR 2 ?_
    refine aE ?_
    exact oO hF [(4, 5005)] [] rfl
  · refine awp_false (by kernel_rfl) h3 ?_
    refine awp_exit ?_
    exact oO hF [] [] rfl

def fleetmake_Stream_RightFence_x4_k : (fleetmake_Stream × (List api_Spot)) → AEx
  | _ => .exit 4

def fleetmake_Stream_RightFence_x4_S (vx : Int) (vx10_1 : List api_Spot) : (fleetmake_Stream × (List api_Spot)) → St
  | (vs11, vx13) => Mem.st ⟨[(3, ⟨35, 2, List.map api_Spot.enc ([api_Spot.mk 0 0, api_Spot.mk 10 0, api_Spot.mk 10 10, api_Spot.mk 0 10] : List api_Spot)⟩), (4, ⟨35, 2, List.map api_Spot.enc vx13⟩)], [(0, [.d (.lst (List.map (encI .i64) vs11.L)), .d (.int .i64 vs11.at_)]), (1, [.d (.str ([] : List UInt8)), .nil]), (2, [.d (.str ([102] : List UInt8)), .own 3 none])]⟩ (tl [(0, .v (.one (.box 0 0))), (2, .v (.one (.box 1 0))), (3, .v (.one (.box 2 0))), (4, .v (.one (.own 4 none))), (12, .v (.one (.d (.int .i64 vx))))]) 5

def fleetmake_Stream_RightFence_x4_H (vx : Int) (vx10_1 : List api_Spot) : fleetmake_Stream × (List api_Spot) × Int → St
  | (vs10, vx11, vx12) => Mem.st ⟨[(3, ⟨35, 2, List.map api_Spot.enc ([api_Spot.mk 0 0, api_Spot.mk 10 0, api_Spot.mk 10 10, api_Spot.mk 0 10] : List api_Spot)⟩), (4, ⟨35, 2, List.map api_Spot.enc vx11⟩)], [(0, [.d (.lst (List.map (encI .i64) vs10.L)), .d (.int .i64 vs10.at_)]), (1, [.d (.str ([] : List UInt8)), .nil]), (2, [.d (.str ([102] : List UInt8)), .own 3 none])]⟩ (tl [(0, .v (.one (.box 0 0))), (2, .v (.one (.box 1 0))), (3, .v (.one (.box 2 0))), (4, .v (.one (.own 4 none))), (12, .v (.one (.d (.int .i64 vx)))), (27, .v (.one (.d (.int .i64 (vx10_1.length : Int))))), (28, .v (.one (.d (.int .i64 vx12))))]) 5

theorem fleetmake_Stream_RightFence_x4_ok (vx : Int) (vx10_1 : List api_Spot) (s : fleetmake_Stream × (List api_Spot) × Int) (r : (fleetmake_Stream × (List api_Spot) × Int) ⊕ ((fleetmake_Stream × (List api_Spot)))) (hF : fleetmake_Stream_RightFence_x4 vx10_1 s = some r) : Awp prog 1 82 (cL (cL (cR (cL (cR (cL (cR (cR (cL (cL (cR (cR (cL (cL (cR (cL (cR (cR (cB f11))))))))))))))))))) (Out 1 (kk fleetmake_Stream_RightFence_x4_k) (SS (fleetmake_Stream_RightFence_x4_H vx vx10_1) (fleetmake_Stream_RightFence_x4_S vx vx10_1)) r) (fleetmake_Stream_RightFence_x4_H vx vx10_1 s) := by
  obtain ⟨vs10, vx11, vx12⟩ := s
  unfold fleetmake_Stream_RightFence_x4 at hF
  refine awp_seq ?_
  refine awp_region ?_
  refine aR 1 ?_
  refine aE ?_
  refine awp_seq ?_
  refine cE hF (fun h9 hF => ?_) fun h9 hF => ?_
  · refine awp_true (by kernel_rfl) h9 ?_
    refine awp_skip ?_
    refine awp_seq ?_
    refine awp_block ?_
    refine awp_seq ?_
    refine awp_region ?_
    refine aR 2 ?_
    refine aE ?_
    refine bE hF fun vy3 h10 hF => ?_
    refine bE hF fun vr8 h11 hF => ?_
    refine aDw [4] ?_
    refine dR 2 ?_
    refine dI api_Spot.enc 4 h10 rfl ?_
    refine dR 1 ?_
    refine dX (x_ldE api_Spot.enc h10) ?_
    refine dR 2 ?_
    refine dC (fleetmake_Stream_Pick_o1_ok h11) [(1, 9005)] [] [] ?_
    refine dR 1 ?_
    refine dI api_Spot.enc 4 h10 rfl ?_
    refine dR 1 ?_
    refine dW api_Spot.enc (api_Spot.mk (IntKind.wrap .i64 (vy3.X * vr8)) vy3.Y) h10 rfl ?_
    refine dE ?_
    refine awp_region ?_
    refine aR 2 ?_
    refine aE ?_
    exact oO hF [] [] rfl
  · refine awp_false (by kernel_rfl) h9 ?_
    refine awp_exit ?_
    exact oO hF [] [] rfl

def fleetmake_Stream_RightFence_x3_k : (fleetmake_Stream × (List api_Spot)) → AEx
  | _ => .normal

def fleetmake_Stream_RightFence_x3_S (vx : Int) (vs9_1 : fleetmake_Stream) (vx10_1 : List api_Spot) : (fleetmake_Stream × (List api_Spot)) → St
  | (vs12, vx14) => Mem.st ⟨[(3, ⟨35, 2, List.map api_Spot.enc ([api_Spot.mk 0 0, api_Spot.mk 10 0, api_Spot.mk 10 10, api_Spot.mk 0 10] : List api_Spot)⟩), (4, ⟨35, 2, List.map api_Spot.enc vx14⟩)], [(0, [.d (.lst (List.map (encI .i64) vs12.L)), .d (.int .i64 vs12.at_)]), (1, [.d (.str ([] : List UInt8)), .nil]), (2, [.d (.str ([102] : List UInt8)), .own 3 none])]⟩ (tl [(0, .v (.one (.box 0 0))), (2, .v (.one (.box 1 0))), (3, .v (.one (.box 2 0))), (4, .v (.one (.own 4 none))), (12, .v (.one (.d (.int .i64 vx))))]) 5

def fleetmake_Stream_RightFence_x3_I (vx : Int) (vs9_1 : fleetmake_Stream) (vx10_1 : List api_Spot) : St := Mem.st ⟨[(3, ⟨35, 2, List.map api_Spot.enc ([api_Spot.mk 0 0, api_Spot.mk 10 0, api_Spot.mk 10 10, api_Spot.mk 0 10] : List api_Spot)⟩), (4, ⟨35, 2, List.map api_Spot.enc vx10_1⟩)], [(0, [.d (.lst (List.map (encI .i64) vs9_1.L)), .d (.int .i64 vs9_1.at_)]), (1, [.d (.str ([] : List UInt8)), .nil]), (2, [.d (.str ([102] : List UInt8)), .own 3 none])]⟩ (tl [(0, .v (.one (.box 0 0))), (2, .v (.one (.box 1 0))), (3, .v (.one (.box 2 0))), (4, .v (.one (.own 4 none))), (12, .v (.one (.d (.int .i64 vx))))]) 5

theorem fleetmake_Stream_RightFence_x3_ok (vx : Int) (vs9_1 : fleetmake_Stream) (vx10_1 : List api_Spot) {r} (hF : fleetmake_Stream_RightFence_x3 vs9_1 vx10_1 = some r) : Awp prog 1 82 (cL (cR (cR (cL (cL (cR (cR (cL (cL (cR (cL (cR (cR (cB f11)))))))))))))) (Out 1 fleetmake_Stream_RightFence_x3_k (fleetmake_Stream_RightFence_x3_S vx vs9_1 vx10_1) r) (fleetmake_Stream_RightFence_x3_I vx vs9_1 vx10_1) := by
  unfold fleetmake_Stream_RightFence_x3 at hF
  refine awp_seq ?_
  refine bE hF fun vr6 h7 hF => ?_
  refine awp_region ?_
  refine aR 1 ?_
  refine aC (fleetmake_Stream_Flip_ok h7) [] [] [] ?_
  refine aE ?_
  refine cE hF (fun h8 hF => ?_) fun h8 hF => ?_
  · refine awp_true (by kernel_rfl) h8 ?_
    refine awp_seq ?_
    refine awp_region ?_
    refine aR 1 ?_
    refine aL api_Spot.enc vx10_1 ?_
    refine aR 1 ?_
    refine aE ?_
    refine awp_block ?_
    refine awp_to (st' := fleetmake_Stream_RightFence_x4_H vx vx10_1 (fleetmake_Stream.mk vs9_1.L (IntKind.wrap .i64 (vs9_1.at_ + 1)), vx10_1, 0)) (oT [] []) ?_
    refine bE hF fun x h12 hF => ?_
    obtain ⟨vs11_1, vx13_1⟩ := x
    refine awp_sub (awp_loop' (fleetmake_Stream_RightFence_x4_H vx vx10_1) fleetmake_Stream_RightFence_x4_k (fleetmake_Stream_RightFence_x4_S vx vx10_1) (by intro x; exact fun h => nomatch h) h12 (fleetmake_Stream_RightFence_x4_ok vx vx10_1)) ?_
    exact oO hF [] [] rfl
  · refine awp_false (by kernel_rfl) h8 ?_
    refine awp_skip ?_
    exact oO hF [] [] rfl

def fleetmake_Stream_RightFence_x1_k : fleetmake_Stream ⊕ (fleetmake_Stream × (List api_Spot)) → AEx
  | .inl _ => .exit 0
  | .inr _ => .ret

def fleetmake_Stream_RightFence_x1_S : fleetmake_Stream ⊕ (fleetmake_Stream × (List api_Spot)) → St
  | .inl vs13 => Mem.st ⟨[(3, ⟨35, 2, List.map api_Spot.enc ([api_Spot.mk 0 0, api_Spot.mk 10 0, api_Spot.mk 10 10, api_Spot.mk 0 10] : List api_Spot)⟩)], [(0, [.d (.lst (List.map (encI .i64) vs13.L)), .d (.int .i64 vs13.at_)]), (1, [.d (.str ([] : List UInt8)), .nil]), (2, [.d (.str ([102] : List UInt8)), .own 3 none])]⟩ (tl [(0, .v (.one (.box 0 0))), (2, .v (.one (.box 1 0))), (3, .v (.one (.box 2 0)))]) 4
  | .inr (vs14, vx15) => Mem.st ⟨[(2, ⟨35, 2, List.map api_Spot.enc vx15⟩)], [(0, [.d (.lst (List.map (encI .i64) vs14.L)), .d (.int .i64 vs14.at_)]), (1, [.d (.str ([102] : List UInt8)), .own 2 none])]⟩ (tl [(2, .v (.one (.box 1 0)))]) 3

def fleetmake_Stream_RightFence_x1_H : fleetmake_Stream × Int → St
  | (vs, vx) => Mem.st ⟨[(3, ⟨35, 2, List.map api_Spot.enc ([api_Spot.mk 0 0, api_Spot.mk 10 0, api_Spot.mk 10 10, api_Spot.mk 0 10] : List api_Spot)⟩)], [(0, [.d (.lst (List.map (encI .i64) vs.L)), .d (.int .i64 vs.at_)]), (1, [.d (.str ([] : List UInt8)), .nil]), (2, [.d (.str ([102] : List UInt8)), .own 3 none])]⟩ (tl [(0, .v (.one (.box 0 0))), (2, .v (.one (.box 1 0))), (3, .v (.one (.box 2 0))), (12, .v (.one (.d (.int .i64 vx))))]) 4

theorem fleetmake_Stream_RightFence_x1_ok (s : fleetmake_Stream × Int) (r : (fleetmake_Stream × Int) ⊕ (fleetmake_Stream ⊕ (fleetmake_Stream × (List api_Spot)))) (hF : fleetmake_Stream_RightFence_x1  s = some r) : Awp prog 1 82 (cL (cL (cR (cL (cR (cR (cB f11))))))) (Out 1 (kk fleetmake_Stream_RightFence_x1_k) (SS (fleetmake_Stream_RightFence_x1_H ) (fleetmake_Stream_RightFence_x1_S )) r) (fleetmake_Stream_RightFence_x1_H  s) := by
  obtain ⟨vs, vx⟩ := s
  unfold fleetmake_Stream_RightFence_x1 at hF
  refine awp_seq ?_
  refine awp_region ?_
  refine aR 1 ?_
  refine aE ?_
  refine awp_seq ?_
  refine cE hF (fun h1 hF => ?_) fun h1 hF => ?_
  · refine awp_true (by kernel_rfl) h1 ?_
    refine awp_skip ?_
    refine awp_seq ?_
    refine awp_block ?_
    refine awp_seq ?_
    refine awp_region ?_
    refine aR 1 ?_
    refine aE ?_
    refine awp_seq ?_
    refine awp_seq ?_
    refine bE hF fun x h2 hF => ?_
    obtain ⟨vs7, vr5⟩ := x
    refine awp_region ?_
    refine aR 1 ?_
    refine aC (fleetmake_Stream_Range_ok h2) [] [] [] ?_
    refine aR 1 ?_
    refine aE ?_
    refine awp_block ?_
    refine awp_to (st' := fleetmake_Stream_RightFence_x2_H vx vr5 (vs7, [], 0)) (oT [] [4]) ?_
    refine bE hF fun x h6 hF => ?_
    obtain ⟨vs9_1, vx10_1⟩ := x
    refine awp_sub (awp_loop' (fleetmake_Stream_RightFence_x2_H vx vr5) fleetmake_Stream_RightFence_x2_k (fleetmake_Stream_RightFence_x2_S vx vr5) (by intro x; exact fun h => nomatch h) h6 (fleetmake_Stream_RightFence_x2_ok vx vr5)) ?_
    refine awp_seq ?_
    refine awp_to (st' := fleetmake_Stream_RightFence_x3_I vx vs9_1 vx10_1) (oT [] []) ?_
    refine bE hF fun x h13 hF => ?_
    obtain ⟨vs12_1, vx14_1⟩ := x
    refine awp_sub (fleetmake_Stream_RightFence_x3_ok vx vs9_1 vx10_1 h13) ?_
    refine awp_seq ?_
    refine bE hF fun vr16_1 h14 hF => ?_
    refine awp_region ?_
    refine aR 1 ?_
    refine aC (fleetref2_CornersFault_ok h14) [] [] [4] ?_
    refine aR 1 ?_
    refine aE ?_
    refine cE hF (fun h15 hF => ?_) fun h15 hF => ?_
    · refine awp_true (by kernel_rfl) h15 ?_
      refine awp_seq ?_
      refine awp_region ?_
      refine aR 3 ?_
      refine aE ?_
      refine awp_seq ?_
      refine awp_region ?_
      refine aR 2 ?_
      refine aE ?_
      refine awp_ret ?_
      exact oO hF [(2, 4)] [] rfl
    · refine awp_false (by kernel_rfl) h15 ?_
      refine awp_skip ?_
      refine awp_region ?_
      refine aR 2 ?_
      refine aE ?_
      exact oO hF [] [] rfl
  · refine awp_false (by kernel_rfl) h1 ?_
    refine awp_exit ?_
    exact oO hF [] [] rfl

def fleetmake_Stream_RightFence_x5_k : (List api_Spot) → AEx
  | _ => .normal

def fleetmake_Stream_RightFence_x5_S (vs13_1 : fleetmake_Stream) : (List api_Spot) → St
  | vx16 => Mem.st ⟨[(3, ⟨35, 2, List.map api_Spot.enc vx16⟩)], [(0, [.d (.lst (List.map (encI .i64) vs13_1.L)), .d (.int .i64 (IntKind.wrap .i64 (vs13_1.at_ + 1)))]), (1, [.d (.str ([] : List UInt8)), .nil]), (2, [.d (.str ([102] : List UInt8)), .own 3 none])]⟩ (tl [(2, .v (.one (.box 1 0))), (3, .v (.one (.box 2 0)))]) 4

def fleetmake_Stream_RightFence_x5_I (vs13_1 : fleetmake_Stream) : St := Mem.st ⟨[(3, ⟨35, 2, List.map api_Spot.enc ([api_Spot.mk 0 0, api_Spot.mk 10 0, api_Spot.mk 10 10, api_Spot.mk 0 10] : List api_Spot)⟩)], [(0, [.d (.lst (List.map (encI .i64) vs13_1.L)), .d (.int .i64 vs13_1.at_)]), (1, [.d (.str ([] : List UInt8)), .nil]), (2, [.d (.str ([102] : List UInt8)), .own 3 none])]⟩ (tl [(0, .v (.one (.box 0 0))), (2, .v (.one (.box 1 0))), (3, .v (.one (.box 2 0)))]) 4

theorem fleetmake_Stream_RightFence_x5_ok (vs13_1 : fleetmake_Stream) {r} (hF : fleetmake_Stream_RightFence_x5 vs13_1 = some r) : Awp prog 1 82 (cL (cR (cR (cR (cB f11))))) (Out 1 fleetmake_Stream_RightFence_x5_k (fleetmake_Stream_RightFence_x5_S vs13_1) r) (fleetmake_Stream_RightFence_x5_I vs13_1) := by
  unfold fleetmake_Stream_RightFence_x5 at hF
  refine awp_seq ?_
  refine bE hF fun vr3_1 h17 hF => ?_
  refine awp_region ?_
  refine aR 1 ?_
  refine aC (fleetmake_Stream_Next_ok h17) [] [] [] ?_
  refine aE ?_
  refine awp_block ?_
  refine awp_seq ?_
  refine awp_region ?_
  refine aR 2 ?_
  refine aE ?_
  refine cE hF (fun h18 hF => ?_) fun h18 hF => ?_
  · refine awp_true (by kernel_rfl) h18 ?_
    refine awp_region ?_
    refine aR 8 ?_
    refine aE ?_
    exact oO hF [(3, 9004)] [] rfl
  · refine awp_false (by kernel_rfl) h18 ?_
    refine awp_seq ?_
    refine awp_region ?_
    refine aR 2 ?_
    refine aE ?_
    refine cE hF (fun h19 hF => ?_) fun h19 hF => ?_
    · refine awp_true (by kernel_rfl) h19 ?_
      refine awp_region ?_
      refine aR 7 ?_
      refine aE ?_
      exact oO hF [(3, 10004)] [] rfl
    · refine awp_false (by kernel_rfl) h19 ?_
      refine awp_seq ?_
      refine awp_region ?_
      refine aR 2 ?_
      refine aE ?_
      refine cE hF (fun h20 hF => ?_) fun h20 hF => ?_
      · refine awp_true (by kernel_rfl) h20 ?_
        refine awp_region ?_
        refine aR 11 ?_
        refine aE ?_
        exact oO hF [(3, 16004)] [] rfl
      · refine awp_false (by kernel_rfl) h20 ?_
        refine awp_skip ?_
        exact oO hF [] [] rfl

def fleetmake_Stream_RightFence_R (qx : fleetmake_Stream) (r : fleetmake_Stream × (List api_Spot)) : TV × Mem := (.v (.agg [.d (.str ([102] : List UInt8)), .own 1 none]), ⟨[(1, ⟨35, 2, List.map api_Spot.enc r.2⟩)], [(0, [.d (.lst (List.map (encI .i64) r.1.L)), .d (.int .i64 r.1.at_)])]⟩)

theorem fleetmake_Stream_RightFence_ok {qx : fleetmake_Stream} {r} (hF : fleetmake_Stream_RightFence qx = some r) : Holds prog 11 [.v (.one (.box 0 0))] ⟨[], [(0, [.d (.lst (List.map (encI .i64) qx.L)), .d (.int .i64 qx.at_)])]⟩ (Is (fleetmake_Stream_RightFence_R qx r)) := by
  unfold fleetmake_Stream_RightFence at hF
  refine holds_of_awp hΓ (fn := f11) (c := cB f11) (A := 1) (nx := 1) (by kernel_rfl) (by kernel_rfl) (by kernel_rfl) (by kernel_rfl) (by kernel_rfl) (by kernel_rfl) (lowc_of (by kernel_rfl)) ?_
  show Awp prog 1 82 (cB f11) _ _
  refine awp_seq ?_
  refine awp_region ?_
  refine aR 1 ?_
  refine aE ?_
  refine awp_seq ?_
  refine awp_region ?_
  refine aR 8 ?_
  refine aE ?_
  refine awp_seq ?_
  refine awp_seq ?_
  refine awp_region ?_
  refine aR 1 ?_
  refine aE ?_
  refine awp_block ?_
  refine awp_to (st' := fleetmake_Stream_RightFence_x1_H  (qx, 0)) (oT [(2, 7001), (3, 5001)] []) ?_
  refine bE hF fun x h16 hF => ?_
  rcases x with vs13_1 | ⟨vs14_1, vx15_1⟩
  · refine awp_sub (awp_loop' (fleetmake_Stream_RightFence_x1_H ) fleetmake_Stream_RightFence_x1_k (fleetmake_Stream_RightFence_x1_S ) (by intro x; rcases x with x | x <;> exact fun h => nomatch h) h16 (fleetmake_Stream_RightFence_x1_ok )) ?_
    refine awp_seq ?_
    refine awp_to (st' := fleetmake_Stream_RightFence_x5_I vs13_1) (oT [] []) ?_
    refine bE hF fun vx16_1 h21 hF => ?_
    refine awp_sub (fleetmake_Stream_RightFence_x5_ok vs13_1 h21) ?_
    refine awp_seq ?_
    refine awp_region ?_
    refine aR 2 ?_
    refine aE ?_
    refine awp_ret ?_
    exact oF hF [(1, 3)] []
  · refine awp_sub (awp_loop' (fleetmake_Stream_RightFence_x1_H ) fleetmake_Stream_RightFence_x1_k (fleetmake_Stream_RightFence_x1_S ) (by intro x; rcases x with x | x <;> exact fun h => nomatch h) h16 (fleetmake_Stream_RightFence_x1_ok )) ?_
    exact oF hF [(1, 2)] []

/-! ### beaconfleet/place.side -/
def place_side_R (qa : api_Spot) (qb : api_Spot) (qs : api_Spot) (r : Unit) : TV × Mem := (.v (.one (.d (.int .i64 (IntKind.wrap .i64 ((IntKind.wrap .i64 ((IntKind.wrap .i64 (qb.X - qa.X)) * (IntKind.wrap .i64 (qs.Y - qa.Y)))) - (IntKind.wrap .i64 ((IntKind.wrap .i64 (qb.Y - qa.Y)) * (IntKind.wrap .i64 (qs.X - qa.X))))))))), ⟨[], []⟩)

theorem place_side_ok {qa : api_Spot} {qb : api_Spot} {qs : api_Spot} {r} (hF : place_side qa qb qs = some r) : Holds prog 73 [.v (.agg [.d (.int .i64 qa.X), .d (.int .i64 qa.Y)]), .v (.agg [.d (.int .i64 qb.X), .d (.int .i64 qb.Y)]), .v (.agg [.d (.int .i64 qs.X), .d (.int .i64 qs.Y)])] ⟨[], []⟩ (Is (place_side_R qa qb qs r)) := by
  unfold place_side at hF
  refine holds_of_awp hΓ (fn := f73) (c := cB f73) (A := 0) (nx := 0) (by kernel_rfl) (by kernel_rfl) (by kernel_rfl) (by kernel_rfl) (by kernel_rfl) (by kernel_rfl) (lowc_of (by kernel_rfl)) ?_
  show Awp prog 0 30 (cB f73) _ _
  refine awp_seq ?_
  refine awp_region ?_
  refine aR 4 ?_
  refine aE ?_
  refine awp_seq ?_
  refine awp_region ?_
  refine aR 24 ?_
  refine aE ?_
  refine awp_ret ?_
  exact oF hF [] []

/-! ### beaconfleet/place.on -/
def place_on_x1_k : Bool → AEx
  | _ => .normal

def place_on_x1_S (qa : api_Spot) (qb : api_Spot) (qs : api_Spot) : Bool → St
  | vx => Mem.st ⟨[], []⟩ (tl [(6, .v (.one (.d (.bool vx))))]) 0

def place_on_x1_I (qa : api_Spot) (qb : api_Spot) (qs : api_Spot) : St := Mem.st ⟨[], [(0, [.d (.int .i64 qa.X), .d (.int .i64 qa.Y)]), (1, [.d (.int .i64 qb.X), .d (.int .i64 qb.Y)]), (2, [.d (.int .i64 qs.X), .d (.int .i64 qs.Y)])]⟩ (tl [(3, .v (.one (.box 0 0))), (4, .v (.one (.box 1 0))), (5, .v (.one (.box 2 0)))]) 3

theorem place_on_x1_ok (qa : api_Spot) (qb : api_Spot) (qs : api_Spot) {r} (hF : place_on_x1 qa qb qs = some r) : Awp prog 0 52 (cL (cR (cB f71))) (Out 0 place_on_x1_k (place_on_x1_S qa qb qs) r) (place_on_x1_I qa qb qs) := by
  unfold place_on_x1 at hF
  refine bE hF fun _ h1 hF => ?_
  refine cE hF (fun h2 hF => ?_) fun h2 hF => ?_
  · refine cE hF (fun h3 hF => ?_) fun h3 hF => ?_
    · refine cE hF (fun h4 hF => ?_) fun h4 hF => ?_
      · refine cE hF (fun h5 hF => ?_) fun h5 hF => ?_
        · refine awp_region ?_
          refine aR 3 ?_
          refine aC (place_side_ok h1) [] [] [] ?_
          refine aB h2 ?_
          refine aR 8 ?_
          refine aB h3 ?_
          refine aR 9 ?_
          refine aB h4 ?_
          refine aR 9 ?_
          refine aB h5 ?_
          refine aR 12 ?_
          refine aE ?_
          exact oO hF [] [] rfl
        · refine awp_region ?_
          refine aR 3 ?_
          refine aC (place_side_ok h1) [] [] [] ?_
          refine aB h2 ?_
          refine aR 8 ?_
          refine aB h3 ?_
          refine aR 9 ?_
          refine aB h4 ?_
          refine aR 9 ?_
          refine aB h5 ?_
          refine aR 12 ?_
          refine aE ?_
          exact oO hF [] [] rfl
      · refine awp_region ?_
        refine aR 3 ?_
        refine aC (place_side_ok h1) [] [] [] ?_
        refine aB h2 ?_
        refine aR 8 ?_
        refine aB h3 ?_
        refine aR 9 ?_
        refine aB h4 ?_
        refine aR 22 ?_
        refine aE ?_
        exact oO hF [] [] rfl
    · refine awp_region ?_
      refine aR 3 ?_
      refine aC (place_side_ok h1) [] [] [] ?_
      refine aB h2 ?_
      refine aR 8 ?_
      refine aB h3 ?_
      refine aR 32 ?_
      refine aE ?_
      exact oO hF [] [] rfl
  · refine awp_region ?_
    refine aR 3 ?_
    refine aC (place_side_ok h1) [] [] [] ?_
    refine aB h2 ?_
    refine aR 41 ?_
    refine aE ?_
    exact oO hF [] [] rfl

def place_on_R (qa : api_Spot) (qb : api_Spot) (qs : api_Spot) (r : Bool) : TV × Mem := (.v (.one (.d (.bool r))), ⟨[], []⟩)

theorem place_on_ok {qa : api_Spot} {qb : api_Spot} {qs : api_Spot} {r} (hF : place_on qa qb qs = some r) : Holds prog 71 [.v (.agg [.d (.int .i64 qa.X), .d (.int .i64 qa.Y)]), .v (.agg [.d (.int .i64 qb.X), .d (.int .i64 qb.Y)]), .v (.agg [.d (.int .i64 qs.X), .d (.int .i64 qs.Y)])] ⟨[], []⟩ (Is (place_on_R qa qb qs r)) := by
  unfold place_on at hF
  refine holds_of_awp hΓ (fn := f71) (c := cB f71) (A := 0) (nx := 0) (by kernel_rfl) (by kernel_rfl) (by kernel_rfl) (by kernel_rfl) (by kernel_rfl) (by kernel_rfl) (lowc_of (by kernel_rfl)) ?_
  show Awp prog 0 52 (cB f71) _ _
  refine awp_seq ?_
  refine awp_region ?_
  refine aR 4 ?_
  refine aE ?_
  refine awp_seq ?_
  refine awp_to (st' := place_on_x1_I qa qb qs) (oT [(1, 1000), (2, 2000)] []) ?_
  refine bE hF fun vx1 h6 hF => ?_
  refine awp_sub (place_on_x1_ok qa qb qs h6) ?_
  refine awp_ret ?_
  exact oF hF [] []

/-! ### beaconfleet/place.meets -/
def place_meets_x1_k : Bool → AEx
  | _ => .normal

def place_meets_x1_S (qx : api_Spot) (qx1 : api_Spot) (qx2 : api_Spot) (qx3 : api_Spot) : Bool → St
  | vx => Mem.st ⟨[], [(0, [.d (.int .i64 qx.X), .d (.int .i64 qx.Y)]), (1, [.d (.int .i64 qx1.X), .d (.int .i64 qx1.Y)]), (2, [.d (.int .i64 qx2.X), .d (.int .i64 qx2.Y)]), (3, [.d (.int .i64 qx3.X), .d (.int .i64 qx3.Y)])]⟩ (tl [(4, .v (.one (.box 0 0))), (5, .v (.one (.box 1 0))), (6, .v (.one (.box 2 0))), (7, .v (.one (.box 3 0))), (34, .v (.one (.d (.bool vx))))]) 4

def place_meets_x1_I (qx : api_Spot) (qx1 : api_Spot) (qx2 : api_Spot) (qx3 : api_Spot) : St := Mem.st ⟨[], [(0, [.d (.int .i64 qx.X), .d (.int .i64 qx.Y)]), (1, [.d (.int .i64 qx1.X), .d (.int .i64 qx1.Y)]), (2, [.d (.int .i64 qx2.X), .d (.int .i64 qx2.Y)]), (3, [.d (.int .i64 qx3.X), .d (.int .i64 qx3.Y)])]⟩ (tl [(4, .v (.one (.box 0 0))), (5, .v (.one (.box 1 0))), (6, .v (.one (.box 2 0))), (7, .v (.one (.box 3 0)))]) 4

theorem place_meets_x1_ok (qx : api_Spot) (qx1 : api_Spot) (qx2 : api_Spot) (qx3 : api_Spot) {r} (hF : place_meets_x1 qx qx1 qx2 qx3 = some r) : Awp prog 0 65 (cL (cL (cR (cB f69)))) (Out 0 place_meets_x1_k (place_meets_x1_S qx qx1 qx2 qx3) r) (place_meets_x1_I qx qx1 qx2 qx3) := by
  unfold place_meets_x1 at hF
  refine bE hF fun vr h1 hF => ?_
  refine cE hF (fun h2 hF => ?_) fun h2 hF => ?_
  · refine awp_region ?_
    refine aR 3 ?_
    refine aCb (place_on_ok h1) [] [] [] h2 ?_
    refine aR 18 ?_
    refine aE ?_
    exact oO hF [] [] rfl
  · refine bE hF fun vr1 h3 hF => ?_
    refine cE hF (fun h4 hF => ?_) fun h4 hF => ?_
    · refine awp_region ?_
      refine aR 3 ?_
      refine aCb (place_on_ok h1) [] [] [] h2 ?_
      refine aR 4 ?_
      refine aCb (place_on_ok h3) [] [] [] h4 ?_
      refine aR 13 ?_
      refine aE ?_
      exact oO hF [] [] rfl
    · refine bE hF fun vr2 h5 hF => ?_
      refine cE hF (fun h6 hF => ?_) fun h6 hF => ?_
      · refine awp_region ?_
        refine aR 3 ?_
        refine aCb (place_on_ok h1) [] [] [] h2 ?_
        refine aR 4 ?_
        refine aCb (place_on_ok h3) [] [] [] h4 ?_
        refine aR 5 ?_
        refine aCb (place_on_ok h5) [] [] [] h6 ?_
        refine aR 7 ?_
        refine aE ?_
        exact oO hF [] [] rfl
      · refine bE hF fun vr3 h7 hF => ?_
        refine awp_region ?_
        refine aR 3 ?_
        refine aCb (place_on_ok h1) [] [] [] h2 ?_
        refine aR 4 ?_
        refine aCb (place_on_ok h3) [] [] [] h4 ?_
        refine aR 5 ?_
        refine aCb (place_on_ok h5) [] [] [] h6 ?_
        refine aR 5 ?_
        refine aC (place_on_ok h7) [] [] [] ?_
        refine aR 1 ?_
        refine aE ?_
        exact oO hF [] [] rfl

def place_meets_x2_k : Bool → AEx
  | _ => .normal

def place_meets_x2_S (vr4 : Int) (vr5 : Int) (vr6 : Int) (vr7 : Int) : Bool → St
  | vx2 => Mem.st ⟨[], []⟩ (tl [(8, .v (.one (.d (.bool vx2))))]) 0

def place_meets_x2_I (vr4 : Int) (vr5 : Int) (vr6 : Int) (vr7 : Int) : St := Mem.st ⟨[], []⟩ (tl [(9, .v (.one (.d (.int .i64 vr4)))), (10, .v (.one (.d (.int .i64 vr5)))), (11, .v (.one (.d (.int .i64 vr6)))), (12, .v (.one (.d (.int .i64 vr7))))]) 0

theorem place_meets_x2_ok (vr4 : Int) (vr5 : Int) (vr6 : Int) (vr7 : Int) {r} (hF : place_meets_x2 vr4 vr5 vr6 vr7 = some r) : Awp prog 0 65 (cL (cR (cR (cR (cB f69))))) (Out 0 place_meets_x2_k (place_meets_x2_S vr4 vr5 vr6 vr7) r) (place_meets_x2_I vr4 vr5 vr6 vr7) := by
  unfold place_meets_x2 at hF
  refine cE hF (fun h18 hF => ?_) fun h18 hF => ?_
  · refine awp_region ?_
    refine aR 3 ?_
    refine aB h18 ?_
    refine aR 7 ?_
    refine aE ?_
    exact oO hF [] [] rfl
  · refine awp_region ?_
    refine aR 3 ?_
    refine aB h18 ?_
    refine aR 7 ?_
    refine aE ?_
    exact oO hF [] [] rfl

def place_meets_R (qx : api_Spot) (qx1 : api_Spot) (qx2 : api_Spot) (qx3 : api_Spot) (r : Bool) : TV × Mem := (.v (.one (.d (.bool r))), ⟨[], []⟩)

theorem place_meets_ok {qx : api_Spot} {qx1 : api_Spot} {qx2 : api_Spot} {qx3 : api_Spot} {r} (hF : place_meets qx qx1 qx2 qx3 = some r) : Holds prog 69 [.v (.agg [.d (.int .i64 qx.X), .d (.int .i64 qx.Y)]), .v (.agg [.d (.int .i64 qx1.X), .d (.int .i64 qx1.Y)]), .v (.agg [.d (.int .i64 qx2.X), .d (.int .i64 qx2.Y)]), .v (.agg [.d (.int .i64 qx3.X), .d (.int .i64 qx3.Y)])] ⟨[], []⟩ (Is (place_meets_R qx qx1 qx2 qx3 r)) := by
  unfold place_meets at hF
  refine holds_of_awp hΓ (fn := f69) (c := cB f69) (A := 0) (nx := 0) (by kernel_rfl) (by kernel_rfl) (by kernel_rfl) (by kernel_rfl) (by kernel_rfl) (by kernel_rfl) (lowc_of (by kernel_rfl)) ?_
  show Awp prog 0 65 (cB f69) _ _
  refine awp_seq ?_
  refine awp_region ?_
  refine aR 5 ?_
  refine aE ?_
  refine awp_seq ?_
  refine awp_seq ?_
  refine awp_to (st' := place_meets_x1_I qx qx1 qx2 qx3) (oT [(1, 1000), (2, 2000), (3, 3000)] []) ?_
  refine bE hF fun vx1 h8 hF => ?_
  refine awp_sub (place_meets_x1_ok qx qx1 qx2 qx3 h8) ?_
  refine cE hF (fun h9 hF => ?_) fun h9 hF => ?_
  · refine awp_true (by kernel_rfl) h9 ?_
    refine awp_seq ?_
    refine awp_region ?_
    refine aR 1 ?_
    refine aE ?_
    refine awp_ret ?_
    exact oF hF [] []
  · refine awp_false (by kernel_rfl) h9 ?_
    refine awp_skip ?_
    refine awp_seq ?_
    refine bE hF fun _ h10 hF => ?_
    refine bE hF fun vr4 h11 hF => ?_
    refine bE hF fun _ h12 hF => ?_
    refine bE hF fun vr5 h13 hF => ?_
    refine bE hF fun _ h14 hF => ?_
    refine bE hF fun vr6 h15 hF => ?_
    refine bE hF fun _ h16 hF => ?_
    refine bE hF fun vr7 h17 hF => ?_
    refine aD ?_
    refine dR 3 ?_
    refine dC (place_side_ok h10) [] [] [] ?_
    refine dC (cmp_Compare_int_ok h11) [] [] [] ?_
    refine dR 3 ?_
    refine dC (place_side_ok h12) [] [] [] ?_
    refine dC (cmp_Compare_int_ok h13) [] [] [] ?_
    refine dR 3 ?_
    refine dC (place_side_ok h14) [] [] [] ?_
    refine dC (cmp_Compare_int_ok h15) [] [] [] ?_
    refine dR 3 ?_
    refine dC (place_side_ok h16) [] [] [] ?_
    refine dC (cmp_Compare_int_ok h17) [] [] [] ?_
    refine dR 4 ?_
    refine dE ?_
    refine awp_seq ?_
    refine awp_to (st' := place_meets_x2_I vr4 vr5 vr6 vr7) (oT [] []) ?_
    refine bE hF fun vx2_1 h19 hF => ?_
    refine awp_sub (place_meets_x2_ok vr4 vr5 vr6 vr7 h19) ?_
    refine awp_ret ?_
    exact oF hF [] []

/-! ### beaconfleet/place.crossed -/
def place_crossed_x3_k : Bool → AEx
  | _ => .normal

def place_crossed_x3_S (qx : List api_Spot) (vx : Int) (vy6 : api_Spot) (vy7 : api_Spot) (vx8 : Int) (vy10 : api_Spot) (vy11 : api_Spot) : Bool → St
  | vx12 => Mem.st ⟨[], [(0, [.d (.int .i64 vy6.X), .d (.int .i64 vy6.Y)]), (1, [.d (.int .i64 vy7.X), .d (.int .i64 vy7.Y)]), (2, [.d (.int .i64 vy10.X), .d (.int .i64 vy10.Y)]), (3, [.d (.int .i64 vy11.X), .d (.int .i64 vy11.Y)])]⟩ (tl [(0, .v (.one (.d (.lst (List.map api_Spot.enc qx))))), (3, .v (.one (.d (.int .i64 (qx.length : Int))))), (4, .v (.one (.d (.int .i64 vx)))), (5, .v (.one (.box 0 0))), (6, .v (.one (.box 1 0))), (7, .v (.one (.d (.int .i64 vx8)))), (8, .v (.one (.box 2 0))), (9, .v (.one (.box 3 0))), (10, .v (.one (.d (.bool (decide (vx8 = (IntKind.wrap .i64 (vx + 1)))))))), (11, .v (.one (.d (.bool (decide (((IntKind.wrap .i64 (vx8 + 1)).tmod (qx.length : Int)) = vx)))))), (14, .v (.one (.d (.lst (List.map api_Spot.enc qx))))), (15, .v (.one (.d (.int .i64 (qx.length : Int))))), (16, .v (.one (.d (.int .i64 vx)))), (56, .v (.one (.d (.bool vx12))))]) 4

def place_crossed_x3_I (qx : List api_Spot) (vx : Int) (vy6 : api_Spot) (vy7 : api_Spot) (vx8 : Int) (vy10 : api_Spot) (vy11 : api_Spot) : St := Mem.st ⟨[], [(0, [.d (.int .i64 vy6.X), .d (.int .i64 vy6.Y)]), (1, [.d (.int .i64 vy7.X), .d (.int .i64 vy7.Y)]), (2, [.d (.int .i64 vy10.X), .d (.int .i64 vy10.Y)]), (3, [.d (.int .i64 vy11.X), .d (.int .i64 vy11.Y)])]⟩ (tl [(0, .v (.one (.d (.lst (List.map api_Spot.enc qx))))), (3, .v (.one (.d (.int .i64 (qx.length : Int))))), (4, .v (.one (.d (.int .i64 vx)))), (5, .v (.one (.box 0 0))), (6, .v (.one (.box 1 0))), (7, .v (.one (.d (.int .i64 vx8)))), (8, .v (.one (.box 2 0))), (9, .v (.one (.box 3 0))), (10, .v (.one (.d (.bool (decide (vx8 = (IntKind.wrap .i64 (vx + 1)))))))), (11, .v (.one (.d (.bool (decide (((IntKind.wrap .i64 (vx8 + 1)).tmod (qx.length : Int)) = vx)))))), (14, .v (.one (.d (.lst (List.map api_Spot.enc qx))))), (15, .v (.one (.d (.int .i64 (qx.length : Int))))), (16, .v (.one (.d (.int .i64 vx))))]) 4

theorem place_crossed_x3_ok (qx : List api_Spot) (vx : Int) (vy6 : api_Spot) (vy7 : api_Spot) (vx8 : Int) (vy10 : api_Spot) (vy11 : api_Spot) {r} (hF : place_crossed_x3 qx vx vy6 vy7 vx8 vy10 vy11 = some r) : Awp prog 0 99 (cL (cL (cR (cR (cL (cL (cR (cL (cL (cR (cR (cR (cL (cL (cR (cR (cL (cL (cR (cL (cR (cR (cB f65))))))))))))))))))))))) (Out 0 place_crossed_x3_k (place_crossed_x3_S qx vx vy6 vy7 vx8 vy10 vy11) r) (place_crossed_x3_I qx vx vy6 vy7 vx8 vy10 vy11) := by
  unfold place_crossed_x3 at hF
  refine cE hF (fun h9 hF => ?_) fun h9 hF => ?_
  · refine cE hF (fun h10 hF => ?_) fun h10 hF => ?_
    · refine bE hF fun vr8_3 h11 hF => ?_
      refine awp_region ?_
      refine aR 1 ?_
      refine aB h9 ?_
      refine aR 2 ?_
      refine aB h10 ?_
      refine aR 6 ?_
      refine aC (place_meets_ok h11) [] [] [] ?_
      refine aR 2 ?_
      refine aE ?_
      exact oO hF [] [] rfl
    · refine awp_region ?_
      refine aR 1 ?_
      refine aB h9 ?_
      refine aR 2 ?_
      refine aB h10 ?_
      refine aR 9 ?_
      refine aE ?_
      exact oO hF [] [] rfl
  · refine awp_region ?_
    refine aR 1 ?_
    refine aB h9 ?_
    refine aR 12 ?_
    refine aE ?_
    exact oO hF [] [] rfl

def place_crossed_x4_k : Bool → AEx
  | _ => .normal

def place_crossed_x4_S (qx : List api_Spot) (vx : Int) (vy6 : api_Spot) (vy7 : api_Spot) (vx8 : Int) (vy10 : api_Spot) (vy11 : api_Spot) : Bool → St
  | vx13 => Mem.st ⟨[], [(0, [.d (.int .i64 vy6.X), .d (.int .i64 vy6.Y)]), (1, [.d (.int .i64 vy7.X), .d (.int .i64 vy7.Y)]), (2, [.d (.int .i64 vy10.X), .d (.int .i64 vy10.Y)]), (3, [.d (.int .i64 vy11.X), .d (.int .i64 vy11.Y)])]⟩ (tl [(0, .v (.one (.d (.lst (List.map api_Spot.enc qx))))), (3, .v (.one (.d (.int .i64 (qx.length : Int))))), (4, .v (.one (.d (.int .i64 vx)))), (5, .v (.one (.box 0 0))), (6, .v (.one (.box 1 0))), (7, .v (.one (.d (.int .i64 vx8)))), (8, .v (.one (.box 2 0))), (9, .v (.one (.box 3 0))), (11, .v (.one (.d (.bool (decide (((IntKind.wrap .i64 (vx8 + 1)).tmod (qx.length : Int)) = vx)))))), (14, .v (.one (.d (.lst (List.map api_Spot.enc qx))))), (15, .v (.one (.d (.int .i64 (qx.length : Int))))), (16, .v (.one (.d (.int .i64 vx)))), (70, .v (.one (.d (.bool vx13))))]) 4

def place_crossed_x4_I (qx : List api_Spot) (vx : Int) (vy6 : api_Spot) (vy7 : api_Spot) (vx8 : Int) (vy10 : api_Spot) (vy11 : api_Spot) : St := Mem.st ⟨[], [(0, [.d (.int .i64 vy6.X), .d (.int .i64 vy6.Y)]), (1, [.d (.int .i64 vy7.X), .d (.int .i64 vy7.Y)]), (2, [.d (.int .i64 vy10.X), .d (.int .i64 vy10.Y)]), (3, [.d (.int .i64 vy11.X), .d (.int .i64 vy11.Y)])]⟩ (tl [(0, .v (.one (.d (.lst (List.map api_Spot.enc qx))))), (3, .v (.one (.d (.int .i64 (qx.length : Int))))), (4, .v (.one (.d (.int .i64 vx)))), (5, .v (.one (.box 0 0))), (6, .v (.one (.box 1 0))), (7, .v (.one (.d (.int .i64 vx8)))), (8, .v (.one (.box 2 0))), (9, .v (.one (.box 3 0))), (10, .v (.one (.d (.bool (decide (vx8 = (IntKind.wrap .i64 (vx + 1)))))))), (11, .v (.one (.d (.bool (decide (((IntKind.wrap .i64 (vx8 + 1)).tmod (qx.length : Int)) = vx)))))), (14, .v (.one (.d (.lst (List.map api_Spot.enc qx))))), (15, .v (.one (.d (.int .i64 (qx.length : Int))))), (16, .v (.one (.d (.int .i64 vx))))]) 4

theorem place_crossed_x4_ok (qx : List api_Spot) (vx : Int) (vy6 : api_Spot) (vy7 : api_Spot) (vx8 : Int) (vy10 : api_Spot) (vy11 : api_Spot) {r} (hF : place_crossed_x4 vx vy6 vy7 vx8 vy10 vy11 = some r) : Awp prog 0 99 (cL (cR (cR (cL (cR (cR (cL (cL (cR (cL (cL (cR (cR (cR (cL (cL (cR (cR (cL (cL (cR (cL (cR (cR (cB f65))))))))))))))))))))))))) (Out 0 place_crossed_x4_k (place_crossed_x4_S qx vx vy6 vy7 vx8 vy10 vy11) r) (place_crossed_x4_I qx vx vy6 vy7 vx8 vy10 vy11) := by
  unfold place_crossed_x4 at hF
  refine cE hF (fun h14 hF => ?_) fun h14 hF => ?_
  · refine bE hF fun vr13 h15 hF => ?_
    refine cE hF (fun h16 hF => ?_) fun h16 hF => ?_
    · refine awp_region ?_
      refine aB h14 ?_
      refine aR 4 ?_
      refine aCb (place_on_ok h15) [] [] [] h16 ?_
      refine aR 8 ?_
      refine aE ?_
      exact oO hF [] [] rfl
    · refine bE hF fun vr14 h17 hF => ?_
      refine awp_region ?_
      refine aB h14 ?_
      refine aR 4 ?_
      refine aCb (place_on_ok h15) [] [] [] h16 ?_
      refine aR 4 ?_
      refine aC (place_on_ok h17) [] [] [] ?_
      refine aR 3 ?_
      refine aE ?_
      exact oO hF [] [] rfl
  · refine awp_region ?_
    refine aB h14 ?_
    refine aR 13 ?_
    refine aE ?_
    exact oO hF [] [] rfl

def place_crossed_x5_k : Bool → AEx
  | _ => .normal

def place_crossed_x5_S (qx : List api_Spot) (vx : Int) (vy6 : api_Spot) (vy7 : api_Spot) (vx8 : Int) (vy10 : api_Spot) (vy11 : api_Spot) : Bool → St
  | vx14 => Mem.st ⟨[], [(0, [.d (.int .i64 vy6.X), .d (.int .i64 vy6.Y)]), (1, [.d (.int .i64 vy7.X), .d (.int .i64 vy7.Y)])]⟩ (tl [(0, .v (.one (.d (.lst (List.map api_Spot.enc qx))))), (3, .v (.one (.d (.int .i64 (qx.length : Int))))), (4, .v (.one (.d (.int .i64 vx)))), (5, .v (.one (.box 0 0))), (6, .v (.one (.box 1 0))), (7, .v (.one (.d (.int .i64 vx8)))), (14, .v (.one (.d (.lst (List.map api_Spot.enc qx))))), (15, .v (.one (.d (.int .i64 (qx.length : Int))))), (16, .v (.one (.d (.int .i64 vx)))), (84, .v (.one (.d (.bool vx14))))]) 2

def place_crossed_x5_I (qx : List api_Spot) (vx : Int) (vy6 : api_Spot) (vy7 : api_Spot) (vx8 : Int) (vy10 : api_Spot) (vy11 : api_Spot) : St := Mem.st ⟨[], [(0, [.d (.int .i64 vy6.X), .d (.int .i64 vy6.Y)]), (1, [.d (.int .i64 vy7.X), .d (.int .i64 vy7.Y)]), (2, [.d (.int .i64 vy10.X), .d (.int .i64 vy10.Y)]), (3, [.d (.int .i64 vy11.X), .d (.int .i64 vy11.Y)])]⟩ (tl [(0, .v (.one (.d (.lst (List.map api_Spot.enc qx))))), (3, .v (.one (.d (.int .i64 (qx.length : Int))))), (4, .v (.one (.d (.int .i64 vx)))), (5, .v (.one (.box 0 0))), (6, .v (.one (.box 1 0))), (7, .v (.one (.d (.int .i64 vx8)))), (8, .v (.one (.box 2 0))), (9, .v (.one (.box 3 0))), (11, .v (.one (.d (.bool (decide (((IntKind.wrap .i64 (vx8 + 1)).tmod (qx.length : Int)) = vx)))))), (14, .v (.one (.d (.lst (List.map api_Spot.enc qx))))), (15, .v (.one (.d (.int .i64 (qx.length : Int))))), (16, .v (.one (.d (.int .i64 vx))))]) 4

theorem place_crossed_x5_ok (qx : List api_Spot) (vx : Int) (vy6 : api_Spot) (vy7 : api_Spot) (vx8 : Int) (vy10 : api_Spot) (vy11 : api_Spot) {r} (hF : place_crossed_x5 qx vx vy6 vy7 vx8 vy10 vy11 = some r) : Awp prog 0 99 (cL (cR (cR (cR (cR (cL (cR (cR (cL (cL (cR (cL (cL (cR (cR (cR (cL (cL (cR (cR (cL (cL (cR (cL (cR (cR (cB f65))))))))))))))))))))))))))) (Out 0 place_crossed_x5_k (place_crossed_x5_S qx vx vy6 vy7 vx8 vy10 vy11) r) (place_crossed_x5_I qx vx vy6 vy7 vx8 vy10 vy11) := by
  unfold place_crossed_x5 at hF
  refine cE hF (fun h20 hF => ?_) fun h20 hF => ?_
  · refine bE hF fun vr15 h21 hF => ?_
    refine cE hF (fun h22 hF => ?_) fun h22 hF => ?_
    · refine awp_region ?_
      refine aB h20 ?_
      refine aR 4 ?_
      refine aCb (place_on_ok h21) [] [] [] h22 ?_
      refine aR 8 ?_
      refine aE ?_
      exact oO hF [] [] rfl
    · refine bE hF fun vr16 h23 hF => ?_
      refine awp_region ?_
      refine aB h20 ?_
      refine aR 4 ?_
      refine aCb (place_on_ok h21) [] [] [] h22 ?_
      refine aR 4 ?_
      refine aC (place_on_ok h23) [] [] [] ?_
      refine aR 3 ?_
      refine aE ?_
      exact oO hF [] [] rfl
  · refine awp_region ?_
    refine aB h20 ?_
    refine aR 13 ?_
    refine aE ?_
    exact oO hF [] [] rfl

def place_crossed_x2_k : Unit ⊕ Unit → AEx
  | .inl _ => .exit 2
  | .inr _ => .ret

def place_crossed_x2_S (qx : List api_Spot) (vx : Int) (vy6 : api_Spot) (vy7 : api_Spot) : Unit ⊕ Unit → St
  | .inl _ => Mem.st ⟨[], []⟩ (tl [(0, .v (.one (.d (.lst (List.map api_Spot.enc qx))))), (3, .v (.one (.d (.int .i64 (qx.length : Int))))), (14, .v (.one (.d (.lst (List.map api_Spot.enc qx))))), (15, .v (.one (.d (.int .i64 (qx.length : Int))))), (16, .v (.one (.d (.int .i64 vx))))]) 0
  | .inr _ => Mem.st ⟨[], []⟩ (tl [(2, .v (.one (.d (.bool true))))]) 0

def place_crossed_x2_H (qx : List api_Spot) (vx : Int) (vy6 : api_Spot) (vy7 : api_Spot) : Int → St
  | vx8 => Mem.st ⟨[], [(0, [.d (.int .i64 vy6.X), .d (.int .i64 vy6.Y)]), (1, [.d (.int .i64 vy7.X), .d (.int .i64 vy7.Y)])]⟩ (tl [(0, .v (.one (.d (.lst (List.map api_Spot.enc qx))))), (3, .v (.one (.d (.int .i64 (qx.length : Int))))), (4, .v (.one (.d (.int .i64 vx)))), (5, .v (.one (.box 0 0))), (6, .v (.one (.box 1 0))), (7, .v (.one (.d (.int .i64 vx8)))), (14, .v (.one (.d (.lst (List.map api_Spot.enc qx))))), (15, .v (.one (.d (.int .i64 (qx.length : Int))))), (16, .v (.one (.d (.int .i64 vx))))]) 2

theorem place_crossed_x2_ok (qx : List api_Spot) (vx : Int) (vy6 : api_Spot) (vy7 : api_Spot) (vx8 : Int) (r : (Int) ⊕ (Unit ⊕ Unit)) (hF : place_crossed_x2 qx vx vy6 vy7 vx8 = some r) : Awp prog 0 99 (cL (cL (cR (cR (cR (cL (cL (cR (cR (cL (cL (cR (cL (cR (cR (cB f65)))))))))))))))) (Out 0 (kk place_crossed_x2_k) (SS (place_crossed_x2_H qx vx vy6 vy7) (place_crossed_x2_S qx vx vy6 vy7)) r) (place_crossed_x2_H qx vx vy6 vy7 vx8) := by
  unfold place_crossed_x2 at hF
  refine awp_seq ?_
  refine awp_seq ?_
  refine awp_region ?_
  refine aR 3 ?_
  refine aE ?_
  refine cE hF (fun h5 hF => ?_) fun h5 hF => ?_
  · refine awp_true (by kernel_rfl) h5 ?_
    refine awp_skip ?_
    refine awp_seq ?_
    refine awp_block ?_
    refine awp_seq ?_
    refine bE hF fun vy10 h6 hF => ?_
    refine gE hF fun h7 hF => ?_
    refine bE hF fun vy11 h8 hF => ?_
    refine aD ?_
    refine dR 2 ?_
    refine dX (x_idx api_Spot.enc h6) ?_
    refine dR 5 ?_
    refine dX (x_rem h7) ?_
    refine dX (x_idx api_Spot.enc h8) ?_
    refine dR 5 ?_
    refine dE ?_
    refine awp_seq ?_
    refine aD ?_
    refine dR 7 ?_
    refine dX (x_rem h7) ?_
    refine dR 4 ?_
    refine dE ?_
    refine awp_block ?_
    refine awp_seq ?_
    refine awp_to (st' := place_crossed_x3_I qx vx vy6 vy7 vx8 vy10 vy11) (oT [(2, 14002), (3, 15002)] []) ?_
    refine bE hF fun vx12_1 h12 hF => ?_
    refine awp_sub (place_crossed_x3_ok qx vx vy6 vy7 vx8 vy10 vy11 h12) ?_
    refine cE hF (fun h13 hF => ?_) fun h13 hF => ?_
    · refine awp_true (by kernel_rfl) h13 ?_
      refine awp_seq ?_
      refine awp_region ?_
      refine aR 1 ?_
      refine aE ?_
      refine awp_ret ?_
      exact oO hF [] [] rfl
    · refine awp_false (by kernel_rfl) h13 ?_
      refine awp_seq ?_
      refine awp_to (st' := place_crossed_x4_I qx vx vy6 vy7 vx8 vy10 vy11) (oT [] []) ?_
      refine bE hF fun vx13_1 h18 hF => ?_
      refine awp_sub (place_crossed_x4_ok qx vx vy6 vy7 vx8 vy10 vy11 h18) ?_
      refine cE hF (fun h19 hF => ?_) fun h19 hF => ?_
      · refine awp_true (by kernel_rfl) h19 ?_
        refine awp_seq ?_
        refine awp_region ?_
        refine aR 1 ?_
        refine aE ?_
        refine awp_ret ?_
        exact oO hF [] [] rfl
      · refine awp_false (by kernel_rfl) h19 ?_
        refine awp_seq ?_
        refine awp_to (st' := place_crossed_x5_I qx vx vy6 vy7 vx8 vy10 vy11) (oT [] []) ?_
        refine bE hF fun vx14_1 h24 hF => ?_
        refine awp_sub (place_crossed_x5_ok qx vx vy6 vy7 vx8 vy10 vy11 h24) ?_
        refine cE hF (fun h25 hF => ?_) fun h25 hF => ?_
        · refine awp_true (by kernel_rfl) h25 ?_
          refine awp_seq ?_
          refine awp_region ?_
          refine aR 1 ?_
          refine aE ?_
          refine awp_ret ?_
          exact oO hF [] [] rfl
        · refine awp_false (by kernel_rfl) h25 ?_
          refine awp_skip ?_
          refine awp_region ?_
          refine aR 3 ?_
          refine aE ?_
          exact oO hF [] [] rfl
  · refine awp_false (by kernel_rfl) h5 ?_
    refine awp_exit ?_
    exact oO hF [] [] rfl

def place_crossed_x1_k : Unit ⊕ Unit → AEx
  | .inl _ => .exit 0
  | .inr _ => .ret

def place_crossed_x1_S (qx : List api_Spot) : Unit ⊕ Unit → St
  | .inl _ => Mem.st ⟨[], []⟩ (tl []) 0
  | .inr _ => Mem.st ⟨[], []⟩ (tl [(2, .v (.one (.d (.bool true))))]) 0

def place_crossed_x1_H (qx : List api_Spot) : Int → St
  | vx => Mem.st ⟨[], []⟩ (tl [(0, .v (.one (.d (.lst (List.map api_Spot.enc qx))))), (3, .v (.one (.d (.int .i64 (qx.length : Int))))), (14, .v (.one (.d (.lst (List.map api_Spot.enc qx))))), (15, .v (.one (.d (.int .i64 (qx.length : Int))))), (16, .v (.one (.d (.int .i64 vx))))]) 0

theorem place_crossed_x1_ok (qx : List api_Spot) (vx : Int) (r : (Int) ⊕ (Unit ⊕ Unit)) (hF : place_crossed_x1 qx vx = some r) : Awp prog 0 99 (cL (cL (cR (cL (cR (cR (cB f65))))))) (Out 0 (kk place_crossed_x1_k) (SS (place_crossed_x1_H qx) (place_crossed_x1_S qx)) r) (place_crossed_x1_H qx vx) := by
  unfold place_crossed_x1 at hF
  refine awp_seq ?_
  refine awp_region ?_
  refine aR 1 ?_
  refine aE ?_
  refine awp_seq ?_
  refine cE hF (fun h1 hF => ?_) fun h1 hF => ?_
  · refine awp_true (by kernel_rfl) h1 ?_
    refine awp_skip ?_
    refine awp_seq ?_
    refine awp_block ?_
    refine awp_seq ?_
    refine bE hF fun vy6 h2 hF => ?_
    refine awp_region ?_
    refine aR 1 ?_
    refine aX (x_idx api_Spot.enc h2) ?_
    refine aR 4 ?_
    refine aE ?_
    refine awp_seq ?_
    refine gE hF fun h3 hF => ?_
    refine bE hF fun vy7 h4 hF => ?_
    refine awp_region ?_
    refine aR 4 ?_
    refine aX (x_rem h3) ?_
    refine aX (x_idx api_Spot.enc h4) ?_
    refine aR 3 ?_
    refine aE ?_
    refine awp_seq ?_
    refine awp_region ?_
    refine aR 3 ?_
    refine aE ?_
    refine awp_block ?_
    refine awp_to (st' := place_crossed_x2_H qx vx vy6 vy7 (IntKind.wrap .i64 (vx + 1))) (oT [(0, 4000), (1, 14000)] []) ?_
    refine bE hF fun x h26 hF => ?_
    rcases x with _ | _
    · refine awp_sub (awp_loop' (place_crossed_x2_H qx vx vy6 vy7) place_crossed_x2_k (place_crossed_x2_S qx vx vy6 vy7) (by intro x; rcases x with x | x <;> exact fun h => nomatch h) h26 (place_crossed_x2_ok qx vx vy6 vy7)) ?_
      refine awp_region ?_
      refine aR 2 ?_
      refine aE ?_
      exact oO hF [] [] rfl
    · refine awp_sub (awp_loop' (place_crossed_x2_H qx vx vy6 vy7) place_crossed_x2_k (place_crossed_x2_S qx vx vy6 vy7) (by intro x; rcases x with x | x <;> exact fun h => nomatch h) h26 (place_crossed_x2_ok qx vx vy6 vy7)) ?_
      exact oO hF [] [] rfl
  · refine awp_false (by kernel_rfl) h1 ?_
    refine awp_exit ?_
    exact oO hF [] [] rfl

def place_crossed_R (qx : List api_Spot) (r : Bool) : TV × Mem := (.v (.one (.d (.bool r))), ⟨[], []⟩)

theorem place_crossed_ok {qx : List api_Spot} {r} (hF : place_crossed qx = some r) : Holds prog 65 [.v (.one (.d (.lst (List.map api_Spot.enc qx))))] ⟨[], []⟩ (Is (place_crossed_R qx r)) := by
  unfold place_crossed at hF
  refine holds_of_awp hΓ (fn := f65) (c := cB f65) (A := 0) (nx := 0) (by kernel_rfl) (by kernel_rfl) (by kernel_rfl) (by kernel_rfl) (by kernel_rfl) (by kernel_rfl) (lowc_of (by kernel_rfl)) ?_
  show Awp prog 0 99 (cB f65) _ _
  refine awp_seq ?_
  refine awp_region ?_
  refine aR 1 ?_
  refine aE ?_
  refine awp_seq ?_
  refine awp_region ?_
  refine aR 1 ?_
  refine aL api_Spot.enc qx ?_
  refine aR 1 ?_
  refine aE ?_
  refine awp_seq ?_
  refine awp_seq ?_
  refine awp_region ?_
  refine aR 1 ?_
  refine aL api_Spot.enc qx ?_
  refine aR 1 ?_
  refine aE ?_
  refine awp_block ?_
  refine awp_to (st' := place_crossed_x1_H qx 0) (oT [] []) ?_
  refine bE hF fun x h27 hF => ?_
  rcases x with _ | _
  · refine awp_sub (awp_loop' (place_crossed_x1_H qx) place_crossed_x1_k (place_crossed_x1_S qx) (by intro x; rcases x with x | x <;> exact fun h => nomatch h) h27 (place_crossed_x1_ok qx)) ?_
    refine awp_seq ?_
    refine awp_region ?_
    refine aR 1 ?_
    refine aE ?_
    refine awp_ret ?_
    exact oF hF [] []
  · refine awp_sub (awp_loop' (place_crossed_x1_H qx) place_crossed_x1_k (place_crossed_x1_S qx) (by intro x; rcases x with x | x <;> exact fun h => nomatch h) h27 (place_crossed_x1_ok qx)) ?_
    exact oF hF [] []

end Go.Eng
