/-
The code of the Go functions that the law CellsNest reaches does what the plain functions say, part 2.
-/
import Derived.Test.YtgjgjnfglkdgaaaGreatDoorGenP1

namespace Go.Eng

open Go Go.Proofs.Tryz

set_option linter.unusedVariables false

set_option maxRecDepth 20000

set_option maxHeartbeats 0

/-! ### internal/strconv.underscoreOK -/
def z975 : Bool → AEx
  | _ => .normal

def z974 (qx : List UInt8) : Bool → St
  | vx => Mem.st ⟨[], []⟩ (tl [(0, .v (.one (.d (.str qx)))), (3, .v (.one (.d (.int .i32 94)))), (4, .v (.one (.d (.int .i64 0)))), (18, .v (.one (.d (.bool vx))))]) 0

def z973 (qx : List UInt8) : St := Mem.st ⟨[], []⟩ (tl [(0, .v (.one (.d (.str qx)))), (3, .v (.one (.d (.int .i32 94)))), (4, .v (.one (.d (.int .i64 0))))]) 0

theorem z976 (qx : List UInt8) {r} (hF : z972 qx = some r) : Awp prog 0 94 (cL (cL (cR (cR (cR (cB f187)))))) (Out 0 z975 (z974 qx) r) (z973 qx) := by
  unfold z972 at hF
  refine cE hF (fun h1 hF => ?_) fun h1 hF => ?_
  · refine bE hF fun vc h2 hF => ?_
    refine cE hF (fun h3 hF => ?_) fun h3 hF => ?_
    · refine awp_region ?_
      refine aR 2 ?_
      refine aB h1 ?_
      refine aR 2 ?_
      refine aX (x_idxS h2) ?_
      refine aB h3 ?_
      refine aR 6 ?_
      refine aE ?_
      exact oO hF [] [] rfl
    · refine awp_region ?_
      refine aR 2 ?_
      refine aB h1 ?_
      refine aR 2 ?_
      refine aX (x_idxS h2) ?_
      refine aB h3 ?_
      refine aR 2 ?_
      refine aX (x_idxS h2) ?_
      refine aR 3 ?_
      refine aE ?_
      exact oO hF [] [] rfl
  · refine awp_region ?_
    refine aR 2 ?_
    refine aB h1 ?_
    refine aR 10 ?_
    refine aE ?_
    exact oO hF [] [] rfl

def z970 : (List UInt8) → AEx
  | _ => .normal

def z969 (qx : List UInt8) : (List UInt8) → St
  | vx2 => Mem.st ⟨[], []⟩ (tl [(0, .v (.one (.d (.str vx2)))), (3, .v (.one (.d (.int .i32 94)))), (4, .v (.one (.d (.int .i64 0))))]) 0

def z968 (qx : List UInt8) : St := Mem.st ⟨[], []⟩ (tl [(0, .v (.one (.d (.str qx)))), (3, .v (.one (.d (.int .i32 94)))), (4, .v (.one (.d (.int .i64 0))))]) 0

theorem z971 (qx : List UInt8) {r} (hF : z967 qx = some r) : Awp prog 0 94 (cL (cR (cR (cR (cB f187))))) (Out 0 z970 (z969 qx) r) (z968 qx) := by
  unfold z967 at hF
  refine awp_seq ?_
  refine awp_to (st' := z973 qx) (oT [] []) ?_
  refine bE hF fun vx1 h4 hF => ?_
  refine awp_sub (z976 qx h4) ?_
  refine cE hF (fun h5 hF => ?_) fun h5 hF => ?_
  · refine awp_true (by kernel_rfl) h5 ?_
    refine bE hF fun vs h6 hF => ?_
    refine awp_region ?_
    refine aR 1 ?_
    refine aX (x_sliceS h6) ?_
    refine aR 1 ?_
    refine aE ?_
    exact oO hF [] [] rfl
  · refine awp_false (by kernel_rfl) h5 ?_
    refine awp_skip ?_
    exact oO hF [] [] rfl

def z985 : Bool → AEx
  | _ => .normal

def z984 (vx2_1 : List UInt8) : Bool → St
  | vx3 => Mem.st ⟨[], []⟩ (tl [(0, .v (.one (.d (.str vx2_1)))), (3, .v (.one (.d (.int .i32 94)))), (4, .v (.one (.d (.int .i64 0)))), (5, .v (.one (.d (.bool false)))), (46, .v (.one (.d (.bool vx3))))]) 0

def z983 (vx2_1 : List UInt8) : St := Mem.st ⟨[], []⟩ (tl [(0, .v (.one (.d (.str vx2_1)))), (3, .v (.one (.d (.int .i32 94)))), (4, .v (.one (.d (.int .i64 0)))), (5, .v (.one (.d (.bool false))))]) 0

theorem z986 (vx2_1 : List UInt8) {r} (hF : z982 vx2_1 = some r) : Awp prog 0 94 (cL (cL (cR (cR (cR (cR (cR (cB f187)))))))) (Out 0 z985 (z984 vx2_1) r) (z983 vx2_1) := by
  unfold z982 at hF
  refine cE hF (fun h8 hF => ?_) fun h8 hF => ?_
  · refine bE hF fun vc1 h9 hF => ?_
    refine cE hF (fun h10 hF => ?_) fun h10 hF => ?_
    · refine bE hF fun vc2 h11 hF => ?_
      refine bE hF fun _ h12 hF => ?_
      refine cE hF (fun h13 hF => ?_) fun h13 hF => ?_
      · refine awp_region ?_
        refine aR 2 ?_
        refine aB h8 ?_
        refine aR 2 ?_
        refine aX (x_idxS h9) ?_
        refine aB h10 ?_
        refine aR 3 ?_
        refine aX (x_idxS h11) ?_
        refine aC (z963 h12) [] [] [] ?_
        refine aB h13 ?_
        refine aR 13 ?_
        refine aE ?_
        exact oO hF [] [] rfl
      · refine cE hF (fun h14 hF => ?_) fun h14 hF => ?_
        · refine awp_region ?_
          refine aR 2 ?_
          refine aB h8 ?_
          refine aR 2 ?_
          refine aX (x_idxS h9) ?_
          refine aB h10 ?_
          refine aR 3 ?_
          refine aX (x_idxS h11) ?_
          refine aC (z963 h12) [] [] [] ?_
          refine aB h13 ?_
          refine aR 2 ?_
          refine aX (x_idxS h11) ?_
          refine aC (z963 h12) [] [] [] ?_
          refine aB h14 ?_
          refine aR 8 ?_
          refine aE ?_
          exact oO hF [] [] rfl
        · refine awp_region ?_
          refine aR 2 ?_
          refine aB h8 ?_
          refine aR 2 ?_
          refine aX (x_idxS h9) ?_
          refine aB h10 ?_
          refine aR 3 ?_
          refine aX (x_idxS h11) ?_
          refine aC (z963 h12) [] [] [] ?_
          refine aB h13 ?_
          refine aR 2 ?_
          refine aX (x_idxS h11) ?_
          refine aC (z963 h12) [] [] [] ?_
          refine aB h14 ?_
          refine aR 3 ?_
          refine aX (x_idxS h11) ?_
          refine aC (z963 h12) [] [] [] ?_
          refine aR 3 ?_
          refine aE ?_
          exact oO hF [] [] rfl
    · refine awp_region ?_
      refine aR 2 ?_
      refine aB h8 ?_
      refine aR 2 ?_
      refine aX (x_idxS h9) ?_
      refine aB h10 ?_
      refine aR 19 ?_
      refine aE ?_
      exact oO hF [] [] rfl
  · refine awp_region ?_
    refine aR 2 ?_
    refine aB h8 ?_
    refine aR 23 ?_
    refine aE ?_
    exact oO hF [] [] rfl

def z980 : (Int × Int × Bool) → AEx
  | _ => .normal

def z979 (vx2_1 : List UInt8) : (Int × Int × Bool) → St
  | (vx4, vx5, vx6) => Mem.st ⟨[], []⟩ (tl [(0, .v (.one (.d (.str vx2_1)))), (3, .v (.one (.d (.int .i32 vx4)))), (4, .v (.one (.d (.int .i64 vx5)))), (5, .v (.one (.d (.bool vx6))))]) 0

def z978 (vx2_1 : List UInt8) : St := Mem.st ⟨[], []⟩ (tl [(0, .v (.one (.d (.str vx2_1)))), (3, .v (.one (.d (.int .i32 94)))), (4, .v (.one (.d (.int .i64 0)))), (5, .v (.one (.d (.bool false))))]) 0

theorem z981 (vx2_1 : List UInt8) {r} (hF : z977 vx2_1 = some r) : Awp prog 0 94 (cL (cR (cR (cR (cR (cR (cB f187))))))) (Out 0 z980 (z979 vx2_1) r) (z978 vx2_1) := by
  unfold z977 at hF
  refine awp_seq ?_
  refine awp_to (st' := z983 vx2_1) (oT [] []) ?_
  refine bE hF fun vx3_1 h15 hF => ?_
  refine awp_sub (z986 vx2_1 h15) ?_
  refine cE hF (fun h16 hF => ?_) fun h16 hF => ?_
  · refine awp_true (by kernel_rfl) h16 ?_
    refine awp_seq ?_
    refine awp_region ?_
    refine aR 1 ?_
    refine aE ?_
    refine awp_seq ?_
    refine awp_region ?_
    refine aR 1 ?_
    refine aE ?_
    refine bE hF fun vc3 h17 hF => ?_
    refine bE hF fun _ h18 hF => ?_
    refine awp_region ?_
    refine aR 1 ?_
    refine aX (x_idxS h17) ?_
    refine aC (z963 h18) [] [] [] ?_
    refine aR 2 ?_
    refine aE ?_
    exact oO hF [] [] rfl
  · refine awp_false (by kernel_rfl) h16 ?_
    refine awp_skip ?_
    exact oO hF [] [] rfl

def z1000 : Bool → AEx
  | _ => .normal

def z999 (vx2_1 : List UInt8) (vx6_1 : Bool) (vx7 : Int) (vx8 : Int) : Bool → St
  | vx11 => Mem.st ⟨[], []⟩ (tl [(0, .v (.one (.d (.str vx2_1)))), (3, .v (.one (.d (.int .i32 vx7)))), (4, .v (.one (.d (.int .i64 vx8)))), (5, .v (.one (.d (.bool vx6_1)))), (83, .v (.one (.d (.bool vx11))))]) 0

def z998 (vx2_1 : List UInt8) (vx6_1 : Bool) (vx7 : Int) (vx8 : Int) : St := Mem.st ⟨[], []⟩ (tl [(0, .v (.one (.d (.str vx2_1)))), (3, .v (.one (.d (.int .i32 vx7)))), (4, .v (.one (.d (.int .i64 vx8)))), (5, .v (.one (.d (.bool vx6_1))))]) 0

theorem z1001 (vx2_1 : List UInt8) (vx6_1 : Bool) (vx7 : Int) (vx8 : Int) {r} (hF : z997 vx2_1 vx6_1 vx8 = some r) : Awp prog 0 94 (cL (cL (cL (cL (cR (cL (cL (cL (cR (cR (cR (cR (cR (cR (cB f187))))))))))))))) (Out 0 z1000 (z999 vx2_1 vx6_1 vx7 vx8) r) (z998 vx2_1 vx6_1 vx7 vx8) := by
  unfold z997 at hF
  refine bE hF fun vc6 h21 hF => ?_
  refine cE hF (fun h22 hF => ?_) fun h22 hF => ?_
  · refine cE hF (fun h23 hF => ?_) fun h23 hF => ?_
    · refine awp_region ?_
      refine aR 2 ?_
      refine aX (x_idxS h21) ?_
      refine aB h22 ?_
      refine aR 3 ?_
      refine aX (x_idxS h21) ?_
      refine aB h23 ?_
      refine aR 18 ?_
      refine aE ?_
      exact oO hF [] [] rfl
    · refine cE hF (fun h24 hF => ?_) fun h24 hF => ?_
      · refine bE hF fun _ h25 hF => ?_
        refine cE hF (fun h26 hF => ?_) fun h26 hF => ?_
        · refine awp_region ?_
          refine aR 2 ?_
          refine aX (x_idxS h21) ?_
          refine aB h22 ?_
          refine aR 3 ?_
          refine aX (x_idxS h21) ?_
          refine aB h23 ?_
          refine aR 2 ?_
          refine aB h24 ?_
          refine aR 3 ?_
          refine aX (x_idxS h21) ?_
          refine aC (z963 h25) [] [] [] ?_
          refine aB h26 ?_
          refine aR 4 ?_
          refine aX (x_idxS h21) ?_
          refine aC (z963 h25) [] [] [] ?_
          refine aR 3 ?_
          refine aE ?_
          exact oO hF [] [] rfl
        · refine awp_region ?_
          refine aR 2 ?_
          refine aX (x_idxS h21) ?_
          refine aB h22 ?_
          refine aR 3 ?_
          refine aX (x_idxS h21) ?_
          refine aB h23 ?_
          refine aR 2 ?_
          refine aB h24 ?_
          refine aR 3 ?_
          refine aX (x_idxS h21) ?_
          refine aC (z963 h25) [] [] [] ?_
          refine aB h26 ?_
          refine aR 9 ?_
          refine aE ?_
          exact oO hF [] [] rfl
      · refine awp_region ?_
        refine aR 2 ?_
        refine aX (x_idxS h21) ?_
        refine aB h22 ?_
        refine aR 3 ?_
        refine aX (x_idxS h21) ?_
        refine aB h23 ?_
        refine aR 2 ?_
        refine aB h24 ?_
        refine aR 15 ?_
        refine aE ?_
        exact oO hF [] [] rfl
  · refine cE hF (fun h27 hF => ?_) fun h27 hF => ?_
    · refine bE hF fun _ h28 hF => ?_
      refine cE hF (fun h29 hF => ?_) fun h29 hF => ?_
      · refine awp_region ?_
        refine aR 2 ?_
        refine aX (x_idxS h21) ?_
        refine aB h22 ?_
        refine aR 7 ?_
        refine aB h27 ?_
        refine aR 3 ?_
        refine aX (x_idxS h21) ?_
        refine aC (z963 h28) [] [] [] ?_
        refine aB h29 ?_
        refine aR 4 ?_
        refine aX (x_idxS h21) ?_
        refine aC (z963 h28) [] [] [] ?_
        refine aR 3 ?_
        refine aE ?_
        exact oO hF [] [] rfl
      · refine awp_region ?_
        refine aR 2 ?_
        refine aX (x_idxS h21) ?_
        refine aB h22 ?_
        refine aR 7 ?_
        refine aB h27 ?_
        refine aR 3 ?_
        refine aX (x_idxS h21) ?_
        refine aC (z963 h28) [] [] [] ?_
        refine aB h29 ?_
        refine aR 9 ?_
        refine aE ?_
        exact oO hF [] [] rfl
    · refine awp_region ?_
      refine aR 2 ?_
      refine aX (x_idxS h21) ?_
      refine aB h22 ?_
      refine aR 7 ?_
      refine aB h27 ?_
      refine aR 15 ?_
      refine aE ?_
      exact oO hF [] [] rfl

def z995 : Int ⊕ Unit → AEx
  | .inl _ => .normal
  | .inr _ => .ret

def z994 (vx2_1 : List UInt8) (vx6_1 : Bool) (vx7 : Int) (vx8 : Int) : Int ⊕ Unit → St
  | .inl vx12 => Mem.st ⟨[], []⟩ (tl [(0, .v (.one (.d (.str vx2_1)))), (3, .v (.one (.d (.int .i32 vx12)))), (4, .v (.one (.d (.int .i64 vx8)))), (5, .v (.one (.d (.bool vx6_1))))]) 0
  | .inr _ => Mem.st ⟨[], []⟩ (tl [(2, .v (.one (.d (.bool false))))]) 0

def z993 (vx2_1 : List UInt8) (vx6_1 : Bool) (vx7 : Int) (vx8 : Int) : St := Mem.st ⟨[], []⟩ (tl [(0, .v (.one (.d (.str vx2_1)))), (3, .v (.one (.d (.int .i32 vx7)))), (4, .v (.one (.d (.int .i64 vx8)))), (5, .v (.one (.d (.bool vx6_1))))]) 0

theorem z996 (vx2_1 : List UInt8) (vx6_1 : Bool) (vx7 : Int) (vx8 : Int) {r} (hF : z992 vx2_1 vx6_1 vx7 vx8 = some r) : Awp prog 0 94 (cL (cR (cL (cL (cL (cR (cR (cR (cR (cR (cR (cB f187)))))))))))) (Out 0 z995 (z994 vx2_1 vx6_1 vx7 vx8) r) (z993 vx2_1 vx6_1 vx7 vx8) := by
  unfold z992 at hF
  refine awp_block ?_
  refine awp_seq ?_
  refine awp_seq ?_
  refine awp_to (st' := z998 vx2_1 vx6_1 vx7 vx8) (oT [] []) ?_
  refine bE hF fun vx11_1 h30 hF => ?_
  refine awp_sub (z1001 vx2_1 vx6_1 vx7 vx8 h30) ?_
  refine cE hF (fun h31 hF => ?_) fun h31 hF => ?_
  · refine awp_true (by kernel_rfl) h31 ?_
    refine awp_seq ?_
    refine awp_region ?_
    refine aR 1 ?_
    refine aE ?_
    refine awp_exit ?_
    exact oO hF [] [] rfl
  · refine awp_false (by kernel_rfl) h31 ?_
    refine awp_skip ?_
    refine awp_seq ?_
    refine awp_seq ?_
    refine bE hF fun vc7 h32 hF => ?_
    refine awp_region ?_
    refine aR 2 ?_
    refine aX (x_idxS h32) ?_
    refine aR 1 ?_
    refine aE ?_
    refine cE hF (fun h33 hF => ?_) fun h33 hF => ?_
    · refine awp_true (by kernel_rfl) h33 ?_
      refine awp_seq ?_
      refine awp_seq ?_
      refine awp_region ?_
      refine aR 2 ?_
      refine aE ?_
      refine cE hF (fun h34 hF => ?_) fun h34 hF => ?_
      · refine awp_true (by kernel_rfl) h34 ?_
        refine awp_seq ?_
        refine awp_region ?_
        refine aR 1 ?_
        refine aE ?_
        refine awp_ret ?_
        exact oO hF [] [] rfl
      · refine awp_false (by kernel_rfl) h34 ?_
        refine awp_skip ?_
        refine awp_seq ?_
        refine awp_region ?_
        refine aR 1 ?_
        refine aE ?_
        refine awp_exit ?_
        exact oO hF [] [] rfl
    · refine awp_false (by kernel_rfl) h33 ?_
      refine awp_skip ?_
      refine awp_seq ?_
      refine awp_seq ?_
      refine awp_region ?_
      refine aR 2 ?_
      refine aE ?_
      refine cE hF (fun h35 hF => ?_) fun h35 hF => ?_
      · refine awp_true (by kernel_rfl) h35 ?_
        refine awp_seq ?_
        refine awp_region ?_
        refine aR 1 ?_
        refine aE ?_
        refine awp_ret ?_
        exact oO hF [] [] rfl
      · refine awp_false (by kernel_rfl) h35 ?_
        refine awp_skip ?_
        refine awp_region ?_
        refine aR 1 ?_
        refine aE ?_
        exact oO hF [] [] rfl

def z990 : Int ⊕ Unit → AEx
  | .inl _ => .exit 0
  | .inr _ => .ret

def z989 (vx2_1 : List UInt8) (vx6_1 : Bool) : Int ⊕ Unit → St
  | .inl vx13 => Mem.st ⟨[], []⟩ (tl [(3, .v (.one (.d (.int .i32 vx13))))]) 0
  | .inr _ => Mem.st ⟨[], []⟩ (tl [(2, .v (.one (.d (.bool false))))]) 0

def z988 (vx2_1 : List UInt8) (vx6_1 : Bool) : Int × Int → St
  | (vx7, vx8) => Mem.st ⟨[], []⟩ (tl [(0, .v (.one (.d (.str vx2_1)))), (3, .v (.one (.d (.int .i32 vx7)))), (4, .v (.one (.d (.int .i64 vx8)))), (5, .v (.one (.d (.bool vx6_1))))]) 0

theorem z991 (vx2_1 : List UInt8) (vx6_1 : Bool) (s : Int × Int) (r : (Int × Int) ⊕ (Int ⊕ Unit)) (hF : z987 vx2_1 vx6_1 s = some r) : Awp prog 0 94 (cL (cL (cL (cR (cR (cR (cR (cR (cR (cB f187)))))))))) (Out 0 (kk z990) (SS (z988 vx2_1 vx6_1) (z989 vx2_1 vx6_1)) r) (z988 vx2_1 vx6_1 s) := by
  obtain ⟨vx7, vx8⟩ := s
  unfold z987 at hF
  refine awp_seq ?_
  refine awp_seq ?_
  refine awp_region ?_
  refine aR 4 ?_
  refine aE ?_
  refine cE hF (fun h20 hF => ?_) fun h20 hF => ?_
  · refine awp_true (by kernel_rfl) h20 ?_
    refine awp_skip ?_
    refine awp_seq ?_
    refine awp_to (st' := z993 vx2_1 vx6_1 vx7 vx8) (oT [] []) ?_
    refine bE hF fun x h36 hF => ?_
    rcases x with vx12_1 | _
    · refine awp_sub (z996 vx2_1 vx6_1 vx7 vx8 h36) ?_
      refine awp_region ?_
      refine aR 3 ?_
      refine aE ?_
      exact oO hF [] [] rfl
    · refine awp_sub (z996 vx2_1 vx6_1 vx7 vx8 h36) ?_
      exact oO hF [] [] rfl
  · refine awp_false (by kernel_rfl) h20 ?_
    refine awp_exit ?_
    exact oO hF [] [] rfl

def z965 (qx : List UInt8) (r : Bool) : TV × Mem := (.v (.one (.d (.bool r))), ⟨[], []⟩)

theorem z966 {qx : List UInt8} {r} (hF : z964 qx = some r) : Holds prog 187 [.v (.one (.d (.str qx)))] ⟨[], []⟩ (Is (z965 qx r)) := by
  unfold z964 at hF
  refine holds_of_awp hΓ (fn := f187) (c := cB f187) (A := 0) (nx := 0) (by kernel_rfl) (by kernel_rfl) (by kernel_rfl) (by kernel_rfl) (by kernel_rfl) (by kernel_rfl) (lowc_of (by kernel_rfl)) ?_
  show Awp prog 0 94 (cB f187) _ _
  refine awp_seq ?_
  refine awp_region ?_
  refine aR 1 ?_
  refine aE ?_
  refine awp_seq ?_
  refine awp_region ?_
  refine aR 1 ?_
  refine aE ?_
  refine awp_seq ?_
  refine awp_region ?_
  refine aR 1 ?_
  refine aE ?_
  refine awp_seq ?_
  refine awp_to (st' := z968 qx) (oT [] []) ?_
  refine bE hF fun vx2_1 h7 hF => ?_
  refine awp_sub (z971 qx h7) ?_
  refine awp_seq ?_
  refine awp_region ?_
  refine aR 1 ?_
  refine aE ?_
  refine awp_seq ?_
  refine awp_to (st' := z978 vx2_1) (oT [] []) ?_
  refine bE hF fun x h19 hF => ?_
  obtain ⟨vx4_1, vx5_1, vx6_1⟩ := x
  refine awp_sub (z981 vx2_1 h19) ?_
  refine awp_seq ?_
  refine awp_block ?_
  refine awp_to (st' := z988 vx2_1 vx6_1 (vx4_1, vx5_1)) (oT [] []) ?_
  refine bE hF fun x h37 hF => ?_
  rcases x with vx13_1 | _
  · refine awp_sub (awp_loop' (z988 vx2_1 vx6_1) z990 (z989 vx2_1 vx6_1) (by intro x; rcases x with x | x <;> exact fun h => nomatch h) h37 (z991 vx2_1 vx6_1)) ?_
    refine awp_seq ?_
    refine awp_region ?_
    refine aR 3 ?_
    refine aE ?_
    refine awp_ret ?_
    exact oF hF [] []
  · refine awp_sub (awp_loop' (z988 vx2_1 vx6_1) z990 (z989 vx2_1 vx6_1) (by intro x; rcases x with x | x <;> exact fun h => nomatch h) h37 (z991 vx2_1 vx6_1)) ?_
    exact oF hF [] []

/-! ### internal/strconv.ParseUint -/
def z924 : Bool → AEx
  | _ => .normal

def z923 (qx : List UInt8) (qx1 : Int) (qx2 : Int) : Bool → St
  | vx => Mem.st ⟨[], []⟩ (tl [(0, .v (.one (.d (.str qx)))), (1, .v (.one (.d (.int .i64 qx1)))), (2, .v (.one (.d (.int .i64 qx2)))), (8, .v (.one (.d (.bool (decide (qx1 = 0)))))), (9, .v (.one (.d (.str qx)))), (25, .v (.one (.d (.bool vx))))]) 0

def z922 (qx : List UInt8) (qx1 : Int) (qx2 : Int) : St := Mem.st ⟨[], []⟩ (tl [(0, .v (.one (.d (.str qx)))), (1, .v (.one (.d (.int .i64 qx1)))), (2, .v (.one (.d (.int .i64 qx2)))), (8, .v (.one (.d (.bool (decide (qx1 = 0)))))), (9, .v (.one (.d (.str qx))))]) 0

theorem z925 (qx : List UInt8) (qx1 : Int) (qx2 : Int) {r} (hF : z921 qx1 = some r) : Awp prog 0 172 (cL (cL (cL (cR (cR (cR (cR (cB f179)))))))) (Out 0 z924 (z923 qx qx1 qx2) r) (z922 qx qx1 qx2) := by
  unfold z921 at hF
  refine cE hF (fun h3 hF => ?_) fun h3 hF => ?_
  · refine awp_region ?_
    refine aR 1 ?_
    refine aB h3 ?_
    refine aR 5 ?_
    refine aE ?_
    exact oO hF [] [] rfl
  · refine awp_region ?_
    refine aR 1 ?_
    refine aB h3 ?_
    refine aR 5 ?_
    refine aE ?_
    exact oO hF [] [] rfl

def z929 : Bool → AEx
  | _ => .normal

def z928 (qx : List UInt8) (qx1 : Int) (qx2 : Int) : Bool → St
  | vx2 => Mem.st ⟨[], []⟩ (tl [(0, .v (.one (.d (.str qx)))), (2, .v (.one (.d (.int .i64 qx2)))), (8, .v (.one (.d (.bool (decide (qx1 = 0)))))), (9, .v (.one (.d (.str qx)))), (40, .v (.one (.d (.bool vx2))))]) 0

def z927 (qx : List UInt8) (qx1 : Int) (qx2 : Int) : St := Mem.st ⟨[], []⟩ (tl [(0, .v (.one (.d (.str qx)))), (2, .v (.one (.d (.int .i64 qx2)))), (8, .v (.one (.d (.bool (decide (qx1 = 0)))))), (9, .v (.one (.d (.str qx))))]) 0

theorem z930 (qx : List UInt8) (qx1 : Int) (qx2 : Int) {r} (hF : z926 qx = some r) : Awp prog 0 172 (cL (cL (cL (cR (cR (cL (cR (cR (cR (cL (cL (cR (cR (cR (cR (cB f179)))))))))))))))) (Out 0 z929 (z928 qx qx1 qx2) r) (z927 qx qx1 qx2) := by
  unfold z926 at hF
  refine cE hF (fun h9 hF => ?_) fun h9 hF => ?_
  · refine bE hF fun vc1 h10 hF => ?_
    refine bE hF fun _ h11 hF => ?_
    refine awp_region ?_
    refine aR 2 ?_
    refine aB h9 ?_
    refine aR 2 ?_
    refine aX (x_idxS h10) ?_
    refine aC (z963 h11) [] [] [] ?_
    refine aR 3 ?_
    refine aE ?_
    exact oO hF [] [] rfl
  · refine awp_region ?_
    refine aR 2 ?_
    refine aB h9 ?_
    refine aR 7 ?_
    refine aE ?_
    exact oO hF [] [] rfl

def z934 : Bool → AEx
  | _ => .normal

def z933 (qx : List UInt8) (qx1 : Int) (qx2 : Int) : Bool → St
  | vx3 => Mem.st ⟨[], []⟩ (tl [(0, .v (.one (.d (.str qx)))), (2, .v (.one (.d (.int .i64 qx2)))), (8, .v (.one (.d (.bool (decide (qx1 = 0)))))), (9, .v (.one (.d (.str qx)))), (52, .v (.one (.d (.bool vx3))))]) 0

def z932 (qx : List UInt8) (qx1 : Int) (qx2 : Int) : St := Mem.st ⟨[], []⟩ (tl [(0, .v (.one (.d (.str qx)))), (2, .v (.one (.d (.int .i64 qx2)))), (8, .v (.one (.d (.bool (decide (qx1 = 0)))))), (9, .v (.one (.d (.str qx))))]) 0

theorem z935 (qx : List UInt8) (qx1 : Int) (qx2 : Int) {r} (hF : z931 qx = some r) : Awp prog 0 172 (cL (cR (cR (cL (cL (cR (cR (cL (cR (cR (cR (cL (cL (cR (cR (cR (cR (cB f179)))))))))))))))))) (Out 0 z934 (z933 qx qx1 qx2) r) (z932 qx qx1 qx2) := by
  unfold z931 at hF
  refine cE hF (fun h15 hF => ?_) fun h15 hF => ?_
  · refine bE hF fun vc2 h16 hF => ?_
    refine bE hF fun _ h17 hF => ?_
    refine awp_region ?_
    refine aR 2 ?_
    refine aB h15 ?_
    refine aR 2 ?_
    refine aX (x_idxS h16) ?_
    refine aC (z963 h17) [] [] [] ?_
    refine aR 3 ?_
    refine aE ?_
    exact oO hF [] [] rfl
  · refine awp_region ?_
    refine aR 2 ?_
    refine aB h15 ?_
    refine aR 7 ?_
    refine aE ?_
    exact oO hF [] [] rfl

def z939 : Bool → AEx
  | _ => .normal

def z938 (qx : List UInt8) (qx1 : Int) (qx2 : Int) : Bool → St
  | vx4 => Mem.st ⟨[], []⟩ (tl [(0, .v (.one (.d (.str qx)))), (2, .v (.one (.d (.int .i64 qx2)))), (8, .v (.one (.d (.bool (decide (qx1 = 0)))))), (9, .v (.one (.d (.str qx)))), (64, .v (.one (.d (.bool vx4))))]) 0

def z937 (qx : List UInt8) (qx1 : Int) (qx2 : Int) : St := Mem.st ⟨[], []⟩ (tl [(0, .v (.one (.d (.str qx)))), (2, .v (.one (.d (.int .i64 qx2)))), (8, .v (.one (.d (.bool (decide (qx1 = 0)))))), (9, .v (.one (.d (.str qx))))]) 0

theorem z940 (qx : List UInt8) (qx1 : Int) (qx2 : Int) {r} (hF : z936 qx = some r) : Awp prog 0 172 (cL (cR (cR (cR (cR (cL (cL (cR (cR (cL (cR (cR (cR (cL (cL (cR (cR (cR (cR (cB f179)))))))))))))))))))) (Out 0 z939 (z938 qx qx1 qx2) r) (z937 qx qx1 qx2) := by
  unfold z936 at hF
  refine cE hF (fun h21 hF => ?_) fun h21 hF => ?_
  · refine bE hF fun vc3 h22 hF => ?_
    refine bE hF fun _ h23 hF => ?_
    refine awp_region ?_
    refine aR 2 ?_
    refine aB h21 ?_
    refine aR 2 ?_
    refine aX (x_idxS h22) ?_
    refine aC (z963 h23) [] [] [] ?_
    refine aR 3 ?_
    refine aE ?_
    exact oO hF [] [] rfl
  · refine awp_region ?_
    refine aR 2 ?_
    refine aB h21 ?_
    refine aR 7 ?_
    refine aE ?_
    exact oO hF [] [] rfl

def z919 : ((List UInt8) × Int) → AEx
  | _ => .normal

def z918 (qx : List UInt8) (qx1 : Int) (qx2 : Int) : ((List UInt8) × Int) → St
  | (vx5, vx6) => Mem.st ⟨[], []⟩ (tl [(0, .v (.one (.d (.str vx5)))), (1, .v (.one (.d (.int .i64 vx6)))), (2, .v (.one (.d (.int .i64 qx2)))), (8, .v (.one (.d (.bool (decide (qx1 = 0)))))), (9, .v (.one (.d (.str qx))))]) 0

def z917 (qx : List UInt8) (qx1 : Int) (qx2 : Int) : St := Mem.st ⟨[], []⟩ (tl [(0, .v (.one (.d (.str qx)))), (1, .v (.one (.d (.int .i64 qx1)))), (2, .v (.one (.d (.int .i64 qx2)))), (8, .v (.one (.d (.bool (decide (qx1 = 0)))))), (9, .v (.one (.d (.str qx))))]) 0

theorem z920 (qx : List UInt8) (qx1 : Int) (qx2 : Int) {r} (hF : z881 qx qx1 = some r) : Awp prog 0 172 (cL (cR (cR (cR (cR (cB f179)))))) (Out 0 z919 (z918 qx qx1 qx2) r) (z917 qx qx1 qx2) := by
  unfold z881 at hF
  refine awp_block ?_
  refine awp_seq ?_
  refine awp_to (st' := z922 qx qx1 qx2) (oT [] []) ?_
  refine bE hF fun vx1 h4 hF => ?_
  refine awp_sub (z925 qx qx1 qx2 h4) ?_
  refine cE hF (fun h5 hF => ?_) fun h5 hF => ?_
  · refine awp_true (by kernel_rfl) h5 ?_
    refine awp_skip ?_
    exact oO hF [] [] rfl
  · refine awp_false (by kernel_rfl) h5 ?_
    refine awp_seq ?_
    refine awp_region ?_
    refine aR 3 ?_
    refine aE ?_
    refine cE hF (fun h6 hF => ?_) fun h6 hF => ?_
    · refine awp_true (by kernel_rfl) h6 ?_
      refine awp_seq ?_
      refine awp_region ?_
      refine aR 1 ?_
      refine aE ?_
      refine awp_seq ?_
      refine bE hF fun vc h7 hF => ?_
      refine awp_region ?_
      refine aR 1 ?_
      refine aX (x_idxS h7) ?_
      refine aR 1 ?_
      refine aE ?_
      refine cE hF (fun h8 hF => ?_) fun h8 hF => ?_
      · refine awp_true (by kernel_rfl) h8 ?_
        refine awp_block ?_
        refine awp_seq ?_
        refine awp_to (st' := z927 qx qx1 qx2) (oT [] []) ?_
        refine bE hF fun vx2_1 h12 hF => ?_
        refine awp_sub (z930 qx qx1 qx2 h12) ?_
        refine cE hF (fun h13 hF => ?_) fun h13 hF => ?_
        · refine awp_true (by kernel_rfl) h13 ?_
          refine awp_seq ?_
          refine awp_region ?_
          refine aR 1 ?_
          refine aE ?_
          refine bE hF fun vs h14 hF => ?_
          refine awp_region ?_
          refine aR 1 ?_
          refine aX (x_sliceS h14) ?_
          refine aR 1 ?_
          refine aE ?_
          exact oO hF [] [] rfl
        · refine awp_false (by kernel_rfl) h13 ?_
          refine awp_seq ?_
          refine awp_to (st' := z932 qx qx1 qx2) (oT [] []) ?_
          refine bE hF fun vx3_1 h18 hF => ?_
          refine awp_sub (z935 qx qx1 qx2 h18) ?_
          refine cE hF (fun h19 hF => ?_) fun h19 hF => ?_
          · refine awp_true (by kernel_rfl) h19 ?_
            refine awp_seq ?_
            refine awp_region ?_
            refine aR 1 ?_
            refine aE ?_
            refine bE hF fun vs1 h20 hF => ?_
            refine awp_region ?_
            refine aR 1 ?_
            refine aX (x_sliceS h20) ?_
            refine aR 1 ?_
            refine aE ?_
            exact oO hF [] [] rfl
          · refine awp_false (by kernel_rfl) h19 ?_
            refine awp_seq ?_
            refine awp_to (st' := z937 qx qx1 qx2) (oT [] []) ?_
            refine bE hF fun vx4_1 h24 hF => ?_
            refine awp_sub (z940 qx qx1 qx2 h24) ?_
            refine cE hF (fun h25 hF => ?_) fun h25 hF => ?_
            · refine awp_true (by kernel_rfl) h25 ?_
              refine awp_seq ?_
              refine awp_region ?_
              refine aR 1 ?_
              refine aE ?_
              refine bE hF fun vs2 h26 hF => ?_
              refine awp_region ?_
              refine aR 1 ?_
              refine aX (x_sliceS h26) ?_
              refine aR 1 ?_
              refine aE ?_
              exact oO hF [] [] rfl
            · refine awp_false (by kernel_rfl) h25 ?_
              refine awp_seq ?_
              refine awp_region ?_
              refine aR 1 ?_
              refine aE ?_
              refine bE hF fun vs3 h27 hF => ?_
              refine awp_region ?_
              refine aR 1 ?_
              refine aX (x_sliceS h27) ?_
              refine aR 1 ?_
              refine aE ?_
              exact oO hF [] [] rfl
      · refine awp_false (by kernel_rfl) h8 ?_
        refine awp_skip ?_
        exact oO hF [] [] rfl
    · refine awp_false (by kernel_rfl) h6 ?_
      refine awp_seq ?_
      exact nE hF

def z949 : Bool → AEx
  | _ => .normal

def z948 (qx : List UInt8) (qx1 : Int) (qx2 : Int) (vx5_1 : List UInt8) (vx6_1 : Int) : Bool → St
  | vx7 => Mem.st ⟨[], []⟩ (tl [(0, .v (.one (.d (.str vx5_1)))), (1, .v (.one (.d (.int .i64 vx6_1)))), (2, .v (.one (.d (.int .i64 qx2)))), (8, .v (.one (.d (.bool (decide (qx1 = 0)))))), (9, .v (.one (.d (.str qx)))), (83, .v (.one (.d (.bool vx7))))]) 0

def z947 (qx : List UInt8) (qx1 : Int) (qx2 : Int) (vx5_1 : List UInt8) (vx6_1 : Int) : St := Mem.st ⟨[], []⟩ (tl [(0, .v (.one (.d (.str vx5_1)))), (1, .v (.one (.d (.int .i64 vx6_1)))), (2, .v (.one (.d (.int .i64 qx2)))), (8, .v (.one (.d (.bool (decide (qx1 = 0)))))), (9, .v (.one (.d (.str qx))))]) 0

theorem z950 (qx : List UInt8) (qx1 : Int) (qx2 : Int) (vx5_1 : List UInt8) (vx6_1 : Int) {r} (hF : z946 qx2 = some r) : Awp prog 0 172 (cL (cR (cR (cL (cR (cR (cR (cR (cR (cB f179)))))))))) (Out 0 z949 (z948 qx qx1 qx2 vx5_1 vx6_1) r) (z947 qx qx1 qx2 vx5_1 vx6_1) := by
  unfold z946 at hF
  refine cE hF (fun h31 hF => ?_) fun h31 hF => ?_
  · refine awp_region ?_
    refine aR 1 ?_
    refine aB h31 ?_
    refine aR 4 ?_
    refine aE ?_
    exact oO hF [] [] rfl
  · refine awp_region ?_
    refine aR 1 ?_
    refine aB h31 ?_
    refine aR 4 ?_
    refine aE ?_
    exact oO hF [] [] rfl

def z944 : Int → AEx
  | _ => .normal

def z943 (qx : List UInt8) (qx1 : Int) (qx2 : Int) (vx5_1 : List UInt8) (vx6_1 : Int) : Int → St
  | vx8 => Mem.st ⟨[], []⟩ (tl [(0, .v (.one (.d (.str vx5_1)))), (1, .v (.one (.d (.int .i64 vx6_1)))), (2, .v (.one (.d (.int .i64 vx8)))), (8, .v (.one (.d (.bool (decide (qx1 = 0)))))), (9, .v (.one (.d (.str qx))))]) 0

def z942 (qx : List UInt8) (qx1 : Int) (qx2 : Int) (vx5_1 : List UInt8) (vx6_1 : Int) : St := Mem.st ⟨[], []⟩ (tl [(0, .v (.one (.d (.str vx5_1)))), (1, .v (.one (.d (.int .i64 vx6_1)))), (2, .v (.one (.d (.int .i64 qx2)))), (8, .v (.one (.d (.bool (decide (qx1 = 0)))))), (9, .v (.one (.d (.str qx))))]) 0

theorem z945 (qx : List UInt8) (qx1 : Int) (qx2 : Int) (vx5_1 : List UInt8) (vx6_1 : Int) {r} (hF : z941 qx2 = some r) : Awp prog 0 172 (cL (cR (cR (cR (cR (cR (cB f179))))))) (Out 0 z944 (z943 qx qx1 qx2 vx5_1 vx6_1) r) (z942 qx qx1 qx2 vx5_1 vx6_1) := by
  unfold z941 at hF
  refine awp_seq ?_
  refine awp_region ?_
  refine aR 2 ?_
  refine aE ?_
  refine cE hF (fun h30 hF => ?_) fun h30 hF => ?_
  · refine awp_true (by kernel_rfl) h30 ?_
    refine awp_region ?_
    refine aR 1 ?_
    refine aE ?_
    exact oO hF [] [] rfl
  · refine awp_false (by kernel_rfl) h30 ?_
    refine awp_seq ?_
    refine awp_to (st' := z947 qx qx1 qx2 vx5_1 vx6_1) (oT [] []) ?_
    refine bE hF fun vx7_1 h32 hF => ?_
    refine awp_sub (z950 qx qx1 qx2 vx5_1 vx6_1 h32) ?_
    refine cE hF (fun h33 hF => ?_) fun h33 hF => ?_
    · refine awp_true (by kernel_rfl) h33 ?_
      refine awp_seq ?_
      exact nE hF
    · refine awp_false (by kernel_rfl) h33 ?_
      refine awp_skip ?_
      exact oO hF [] [] rfl

def z954 : Int → AEx
  | _ => .normal

def z953 (qx : List UInt8) (qx1 : Int) (vx5_1 : List UInt8) (vx6_1 : Int) (vx8_1 : Int) : Int → St
  | vx9 => Mem.st ⟨[], []⟩ (tl [(0, .v (.one (.d (.str vx5_1)))), (1, .v (.one (.d (.int .i64 vx6_1)))), (2, .v (.one (.d (.int .i64 vx8_1)))), (8, .v (.one (.d (.bool (decide (qx1 = 0)))))), (9, .v (.one (.d (.str qx)))), (10, .v (.one (.d (.int .u64 vx9))))]) 0

def z952 (qx : List UInt8) (qx1 : Int) (vx5_1 : List UInt8) (vx6_1 : Int) (vx8_1 : Int) : St := Mem.st ⟨[], []⟩ (tl [(0, .v (.one (.d (.str vx5_1)))), (1, .v (.one (.d (.int .i64 vx6_1)))), (2, .v (.one (.d (.int .i64 vx8_1)))), (8, .v (.one (.d (.bool (decide (qx1 = 0)))))), (9, .v (.one (.d (.str qx))))]) 0

theorem z955 (qx : List UInt8) (qx1 : Int) (vx5_1 : List UInt8) (vx6_1 : Int) (vx8_1 : Int) {r} (hF : z951 vx6_1 = some r) : Awp prog 0 172 (cL (cR (cR (cR (cR (cR (cR (cR (cB f179))))))))) (Out 0 z954 (z953 qx qx1 vx5_1 vx6_1 vx8_1) r) (z952 qx qx1 vx5_1 vx6_1 vx8_1) := by
  unfold z951 at hF
  refine awp_seq ?_
  refine awp_region ?_
  refine aR 1 ?_
  refine aE ?_
  refine awp_block ?_
  refine awp_seq ?_
  refine awp_region ?_
  refine aR 2 ?_
  refine aE ?_
  refine cE hF (fun h36 hF => ?_) fun h36 hF => ?_
  · refine awp_true (by kernel_rfl) h36 ?_
    refine awp_region ?_
    refine aR 1 ?_
    refine aE ?_
    exact oO hF [] [] rfl
  · refine awp_false (by kernel_rfl) h36 ?_
    refine awp_seq ?_
    refine awp_region ?_
    refine aR 2 ?_
    refine aE ?_
    refine cE hF (fun h37 hF => ?_) fun h37 hF => ?_
    · refine awp_true (by kernel_rfl) h37 ?_
      refine awp_region ?_
      refine aR 1 ?_
      refine aE ?_
      exact oO hF [] [] rfl
    · refine awp_false (by kernel_rfl) h37 ?_
      refine gE hF fun h38 hF => ?_
      refine awp_region ?_
      refine aR 2 ?_
      refine aX (x_quo h38) ?_
      refine aR 2 ?_
      refine aE ?_
      exact oO hF [] [] rfl

def z895 : Bool → AEx
  | _ => .normal

def z894 (qx : List UInt8) (qx1 : Int) (vx5_1 : List UInt8) (vx6_1 : Int) (vx8_1 : Int) (vx9_1 : Int) (vx10 : Bool) (vx11 : Int) (vx12 : Int) (vy1 : Int) : Bool → St
  | vx20 => Mem.st ⟨[], []⟩ (tl [(1, .v (.one (.d (.int .i64 vx6_1)))), (8, .v (.one (.d (.bool (decide (qx1 = 0)))))), (9, .v (.one (.d (.str qx)))), (10, .v (.one (.d (.int .u64 vx9_1)))), (11, .v (.one (.d (.int .u64 (IntKind.wrap .u64 ((ishl .u64 1 (IntKind.wrap .u64 (vx8_1))) - 1)))))), (12, .v (.one (.d (.bool vx10)))), (13, .v (.one (.d (.int .u64 vx11)))), (15, .v (.one (.d (.int .u8 vy1)))), (99, .v (.one (.d (.lst (List.map (encI .u8) (bytesD vx5_1)))))), (100, .v (.one (.d (.int .i64 ((bytesD vx5_1).length : Int))))), (101, .v (.one (.d (.int .i64 vx12)))), (106, .v (.one (.d (.bool vx20))))]) 0

def z893 (qx : List UInt8) (qx1 : Int) (vx5_1 : List UInt8) (vx6_1 : Int) (vx8_1 : Int) (vx9_1 : Int) (vx10 : Bool) (vx11 : Int) (vx12 : Int) (vy1 : Int) : St := Mem.st ⟨[], []⟩ (tl [(1, .v (.one (.d (.int .i64 vx6_1)))), (8, .v (.one (.d (.bool (decide (qx1 = 0)))))), (9, .v (.one (.d (.str qx)))), (10, .v (.one (.d (.int .u64 vx9_1)))), (11, .v (.one (.d (.int .u64 (IntKind.wrap .u64 ((ishl .u64 1 (IntKind.wrap .u64 (vx8_1))) - 1)))))), (12, .v (.one (.d (.bool vx10)))), (13, .v (.one (.d (.int .u64 vx11)))), (15, .v (.one (.d (.int .u8 vy1)))), (99, .v (.one (.d (.lst (List.map (encI .u8) (bytesD vx5_1)))))), (100, .v (.one (.d (.int .i64 ((bytesD vx5_1).length : Int))))), (101, .v (.one (.d (.int .i64 vx12))))]) 0

theorem z896 (qx : List UInt8) (qx1 : Int) (vx5_1 : List UInt8) (vx6_1 : Int) (vx8_1 : Int) (vx9_1 : Int) (vx10 : Bool) (vx11 : Int) (vx12 : Int) (vy1 : Int) {r} (hF : z892 qx1 vy1 = some r) : Awp prog 0 172 (cL (cL (cL (cR (cR (cL (cL (cR (cR (cL (cL (cR (cL (cR (cR (cR (cR (cR (cR (cR (cR (cR (cR (cR (cB f179))))))))))))))))))))))))) (Out 0 z895 (z894 qx qx1 vx5_1 vx6_1 vx8_1 vx9_1 vx10 vx11 vx12 vy1) r) (z893 qx qx1 vx5_1 vx6_1 vx8_1 vx9_1 vx10 vx11 vx12 vy1) := by
  unfold z892 at hF
  refine cE hF (fun h43 hF => ?_) fun h43 hF => ?_
  · refine awp_region ?_
    refine aR 1 ?_
    refine aB h43 ?_
    refine aR 4 ?_
    refine aE ?_
    exact oO hF [] [] rfl
  · refine awp_region ?_
    refine aR 1 ?_
    refine aB h43 ?_
    refine aR 4 ?_
    refine aE ?_
    exact oO hF [] [] rfl

def z900 : Bool → AEx
  | _ => .normal

def z899 (qx : List UInt8) (qx1 : Int) (vx5_1 : List UInt8) (vx6_1 : Int) (vx8_1 : Int) (vx9_1 : Int) (vx10 : Bool) (vx11 : Int) (vx12 : Int) (vy1 : Int) : Bool → St
  | vx21 => Mem.st ⟨[], []⟩ (tl [(1, .v (.one (.d (.int .i64 vx6_1)))), (8, .v (.one (.d (.bool (decide (qx1 = 0)))))), (9, .v (.one (.d (.str qx)))), (10, .v (.one (.d (.int .u64 vx9_1)))), (11, .v (.one (.d (.int .u64 (IntKind.wrap .u64 ((ishl .u64 1 (IntKind.wrap .u64 (vx8_1))) - 1)))))), (12, .v (.one (.d (.bool vx10)))), (13, .v (.one (.d (.int .u64 vx11)))), (15, .v (.one (.d (.int .u8 vy1)))), (99, .v (.one (.d (.lst (List.map (encI .u8) (bytesD vx5_1)))))), (100, .v (.one (.d (.int .i64 ((bytesD vx5_1).length : Int))))), (101, .v (.one (.d (.int .i64 vx12)))), (112, .v (.one (.d (.bool vx21))))]) 0

def z898 (qx : List UInt8) (qx1 : Int) (vx5_1 : List UInt8) (vx6_1 : Int) (vx8_1 : Int) (vx9_1 : Int) (vx10 : Bool) (vx11 : Int) (vx12 : Int) (vy1 : Int) : St := Mem.st ⟨[], []⟩ (tl [(1, .v (.one (.d (.int .i64 vx6_1)))), (8, .v (.one (.d (.bool (decide (qx1 = 0)))))), (9, .v (.one (.d (.str qx)))), (10, .v (.one (.d (.int .u64 vx9_1)))), (11, .v (.one (.d (.int .u64 (IntKind.wrap .u64 ((ishl .u64 1 (IntKind.wrap .u64 (vx8_1))) - 1)))))), (12, .v (.one (.d (.bool vx10)))), (13, .v (.one (.d (.int .u64 vx11)))), (15, .v (.one (.d (.int .u8 vy1)))), (99, .v (.one (.d (.lst (List.map (encI .u8) (bytesD vx5_1)))))), (100, .v (.one (.d (.int .i64 ((bytesD vx5_1).length : Int))))), (101, .v (.one (.d (.int .i64 vx12))))]) 0

theorem z901 (qx : List UInt8) (qx1 : Int) (vx5_1 : List UInt8) (vx6_1 : Int) (vx8_1 : Int) (vx9_1 : Int) (vx10 : Bool) (vx11 : Int) (vx12 : Int) (vy1 : Int) {r} (hF : z897 vy1 = some r) : Awp prog 0 172 (cL (cR (cR (cL (cL (cR (cR (cL (cL (cR (cR (cL (cL (cR (cL (cR (cR (cR (cR (cR (cR (cR (cR (cR (cR (cR (cB f179))))))))))))))))))))))))))) (Out 0 z900 (z899 qx qx1 vx5_1 vx6_1 vx8_1 vx9_1 vx10 vx11 vx12 vy1) r) (z898 qx qx1 vx5_1 vx6_1 vx8_1 vx9_1 vx10 vx11 vx12 vy1) := by
  unfold z897 at hF
  refine cE hF (fun h46 hF => ?_) fun h46 hF => ?_
  · refine awp_region ?_
    refine aR 1 ?_
    refine aB h46 ?_
    refine aR 5 ?_
    refine aE ?_
    exact oO hF [] [] rfl
  · refine awp_region ?_
    refine aR 1 ?_
    refine aB h46 ?_
    refine aR 5 ?_
    refine aE ?_
    exact oO hF [] [] rfl

def z905 : Bool → AEx
  | _ => .normal

def z904 (qx : List UInt8) (qx1 : Int) (vx5_1 : List UInt8) (vx6_1 : Int) (vx8_1 : Int) (vx9_1 : Int) (vx10 : Bool) (vx11 : Int) (vx12 : Int) (vy1 : Int) : Bool → St
  | vx22 => Mem.st ⟨[], []⟩ (tl [(1, .v (.one (.d (.int .i64 vx6_1)))), (8, .v (.one (.d (.bool (decide (qx1 = 0)))))), (9, .v (.one (.d (.str qx)))), (10, .v (.one (.d (.int .u64 vx9_1)))), (11, .v (.one (.d (.int .u64 (IntKind.wrap .u64 ((ishl .u64 1 (IntKind.wrap .u64 (vx8_1))) - 1)))))), (12, .v (.one (.d (.bool vx10)))), (13, .v (.one (.d (.int .u64 vx11)))), (15, .v (.one (.d (.int .u8 vy1)))), (99, .v (.one (.d (.lst (List.map (encI .u8) (bytesD vx5_1)))))), (100, .v (.one (.d (.int .i64 ((bytesD vx5_1).length : Int))))), (101, .v (.one (.d (.int .i64 vx12)))), (121, .v (.one (.d (.bool vx22))))]) 0

def z903 (qx : List UInt8) (qx1 : Int) (vx5_1 : List UInt8) (vx6_1 : Int) (vx8_1 : Int) (vx9_1 : Int) (vx10 : Bool) (vx11 : Int) (vx12 : Int) (vy1 : Int) : St := Mem.st ⟨[], []⟩ (tl [(1, .v (.one (.d (.int .i64 vx6_1)))), (8, .v (.one (.d (.bool (decide (qx1 = 0)))))), (9, .v (.one (.d (.str qx)))), (10, .v (.one (.d (.int .u64 vx9_1)))), (11, .v (.one (.d (.int .u64 (IntKind.wrap .u64 ((ishl .u64 1 (IntKind.wrap .u64 (vx8_1))) - 1)))))), (12, .v (.one (.d (.bool vx10)))), (13, .v (.one (.d (.int .u64 vx11)))), (15, .v (.one (.d (.int .u8 vy1)))), (99, .v (.one (.d (.lst (List.map (encI .u8) (bytesD vx5_1)))))), (100, .v (.one (.d (.int .i64 ((bytesD vx5_1).length : Int))))), (101, .v (.one (.d (.int .i64 vx12))))]) 0

theorem z906 (qx : List UInt8) (qx1 : Int) (vx5_1 : List UInt8) (vx6_1 : Int) (vx8_1 : Int) (vx9_1 : Int) (vx10 : Bool) (vx11 : Int) (vx12 : Int) (vy1 : Int) {r} (hF : z902 vy1 = some r) : Awp prog 0 172 (cL (cR (cR (cR (cR (cL (cL (cR (cR (cL (cL (cR (cR (cL (cL (cR (cL (cR (cR (cR (cR (cR (cR (cR (cR (cR (cR (cR (cB f179))))))))))))))))))))))))))))) (Out 0 z905 (z904 qx qx1 vx5_1 vx6_1 vx8_1 vx9_1 vx10 vx11 vx12 vy1) r) (z903 qx qx1 vx5_1 vx6_1 vx8_1 vx9_1 vx10 vx11 vx12 vy1) := by
  unfold z902 at hF
  refine bE hF fun _ h49 hF => ?_
  refine cE hF (fun h50 hF => ?_) fun h50 hF => ?_
  · refine awp_region ?_
    refine aR 1 ?_
    refine aC (z963 h49) [] [] [] ?_
    refine aB h50 ?_
    refine aR 2 ?_
    refine aC (z963 h49) [] [] [] ?_
    refine aR 3 ?_
    refine aE ?_
    exact oO hF [] [] rfl
  · refine awp_region ?_
    refine aR 1 ?_
    refine aC (z963 h49) [] [] [] ?_
    refine aB h50 ?_
    refine aR 6 ?_
    refine aE ?_
    exact oO hF [] [] rfl

def z890 : Int ⊕ Unit → AEx
  | .inl _ => .normal
  | .inr _ => .exit 4

def z889 (qx : List UInt8) (qx1 : Int) (vx5_1 : List UInt8) (vx6_1 : Int) (vx8_1 : Int) (vx9_1 : Int) (vx10 : Bool) (vx11 : Int) (vx12 : Int) (vy1 : Int) : Int ⊕ Unit → St
  | .inl vx23 => Mem.st ⟨[], []⟩ (tl [(1, .v (.one (.d (.int .i64 vx6_1)))), (8, .v (.one (.d (.bool (decide (qx1 = 0)))))), (9, .v (.one (.d (.str qx)))), (10, .v (.one (.d (.int .u64 vx9_1)))), (11, .v (.one (.d (.int .u64 (IntKind.wrap .u64 ((ishl .u64 1 (IntKind.wrap .u64 (vx8_1))) - 1)))))), (12, .v (.one (.d (.bool vx10)))), (13, .v (.one (.d (.int .u64 vx11)))), (16, .v (.one (.d (.int .u8 vx23)))), (99, .v (.one (.d (.lst (List.map (encI .u8) (bytesD vx5_1)))))), (100, .v (.one (.d (.int .i64 ((bytesD vx5_1).length : Int))))), (101, .v (.one (.d (.int .i64 vx12))))]) 0
  | .inr _ => Mem.st ⟨[], []⟩ (tl [(1, .v (.one (.d (.int .i64 vx6_1)))), (8, .v (.one (.d (.bool (decide (qx1 = 0)))))), (9, .v (.one (.d (.str qx)))), (10, .v (.one (.d (.int .u64 vx9_1)))), (11, .v (.one (.d (.int .u64 (IntKind.wrap .u64 ((ishl .u64 1 (IntKind.wrap .u64 (vx8_1))) - 1)))))), (12, .v (.one (.d (.bool true)))), (13, .v (.one (.d (.int .u64 vx11)))), (99, .v (.one (.d (.lst (List.map (encI .u8) (bytesD vx5_1)))))), (100, .v (.one (.d (.int .i64 ((bytesD vx5_1).length : Int))))), (101, .v (.one (.d (.int .i64 vx12))))]) 0

def z888 (qx : List UInt8) (qx1 : Int) (vx5_1 : List UInt8) (vx6_1 : Int) (vx8_1 : Int) (vx9_1 : Int) (vx10 : Bool) (vx11 : Int) (vx12 : Int) (vy1 : Int) : St := Mem.st ⟨[], []⟩ (tl [(1, .v (.one (.d (.int .i64 vx6_1)))), (8, .v (.one (.d (.bool (decide (qx1 = 0)))))), (9, .v (.one (.d (.str qx)))), (10, .v (.one (.d (.int .u64 vx9_1)))), (11, .v (.one (.d (.int .u64 (IntKind.wrap .u64 ((ishl .u64 1 (IntKind.wrap .u64 (vx8_1))) - 1)))))), (12, .v (.one (.d (.bool vx10)))), (13, .v (.one (.d (.int .u64 vx11)))), (15, .v (.one (.d (.int .u8 vy1)))), (99, .v (.one (.d (.lst (List.map (encI .u8) (bytesD vx5_1)))))), (100, .v (.one (.d (.int .i64 ((bytesD vx5_1).length : Int))))), (101, .v (.one (.d (.int .i64 vx12))))]) 0

theorem z891 (qx : List UInt8) (qx1 : Int) (vx5_1 : List UInt8) (vx6_1 : Int) (vx8_1 : Int) (vx9_1 : Int) (vx10 : Bool) (vx11 : Int) (vx12 : Int) (vy1 : Int) {r} (hF : z887 qx1 vy1 = some r) : Awp prog 0 172 (cL (cR (cR (cL (cL (cR (cR (cL (cL (cR (cL (cR (cR (cR (cR (cR (cR (cR (cR (cR (cR (cR (cB f179))))))))))))))))))))))) (Out 0 z890 (z889 qx qx1 vx5_1 vx6_1 vx8_1 vx9_1 vx10 vx11 vx12 vy1) r) (z888 qx qx1 vx5_1 vx6_1 vx8_1 vx9_1 vx10 vx11 vx12 vy1) := by
  unfold z887 at hF
  refine awp_block ?_
  refine awp_seq ?_
  refine awp_to (st' := z893 qx qx1 vx5_1 vx6_1 vx8_1 vx9_1 vx10 vx11 vx12 vy1) (oT [] []) ?_
  refine bE hF fun vx20_1 h44 hF => ?_
  refine awp_sub (z896 qx qx1 vx5_1 vx6_1 vx8_1 vx9_1 vx10 vx11 vx12 vy1 h44) ?_
  refine cE hF (fun h45 hF => ?_) fun h45 hF => ?_
  · refine awp_true (by kernel_rfl) h45 ?_
    refine awp_seq ?_
    refine awp_region ?_
    refine aR 1 ?_
    refine aE ?_
    refine awp_exit ?_
    exact oO hF [] [] rfl
  · refine awp_false (by kernel_rfl) h45 ?_
    refine awp_seq ?_
    refine awp_to (st' := z898 qx qx1 vx5_1 vx6_1 vx8_1 vx9_1 vx10 vx11 vx12 vy1) (oT [] []) ?_
    refine bE hF fun vx21_1 h47 hF => ?_
    refine awp_sub (z901 qx qx1 vx5_1 vx6_1 vx8_1 vx9_1 vx10 vx11 vx12 vy1 h47) ?_
    refine cE hF (fun h48 hF => ?_) fun h48 hF => ?_
    · refine awp_true (by kernel_rfl) h48 ?_
      refine awp_region ?_
      refine aR 3 ?_
      refine aE ?_
      exact oO hF [] [] rfl
    · refine awp_false (by kernel_rfl) h48 ?_
      refine awp_seq ?_
      refine awp_to (st' := z903 qx qx1 vx5_1 vx6_1 vx8_1 vx9_1 vx10 vx11 vx12 vy1) (oT [] []) ?_
      refine bE hF fun vx22_1 h51 hF => ?_
      refine awp_sub (z906 qx qx1 vx5_1 vx6_1 vx8_1 vx9_1 vx10 vx11 vx12 vy1 h51) ?_
      refine cE hF (fun h52 hF => ?_) fun h52 hF => ?_
      · refine awp_true (by kernel_rfl) h52 ?_
        refine bE hF fun _ h53 hF => ?_
        refine awp_region ?_
        refine aR 1 ?_
        refine aC (z963 h53) [] [] [] ?_
        refine aR 3 ?_
        refine aE ?_
        exact oO hF [] [] rfl
      · refine awp_false (by kernel_rfl) h52 ?_
        refine awp_seq ?_
        exact nE hF

def z910 : Bool → AEx
  | _ => .normal

def z909 (qx : List UInt8) (qx1 : Int) (vx5_1 : List UInt8) (vx6_1 : Int) (vx8_1 : Int) (vx9_1 : Int) (vx10 : Bool) (vx11 : Int) (vx12 : Int) (vx23_1 : Int) : Bool → St
  | vx24 => Mem.st ⟨[], []⟩ (tl [(1, .v (.one (.d (.int .i64 vx6_1)))), (8, .v (.one (.d (.bool (decide (qx1 = 0)))))), (9, .v (.one (.d (.str qx)))), (10, .v (.one (.d (.int .u64 vx9_1)))), (11, .v (.one (.d (.int .u64 (IntKind.wrap .u64 ((ishl .u64 1 (IntKind.wrap .u64 (vx8_1))) - 1)))))), (12, .v (.one (.d (.bool vx10)))), (17, .v (.one (.d (.int .u64 (IntKind.wrap .u64 ((IntKind.wrap .u64 (vx11 * (IntKind.wrap .u64 (vx6_1)))) + (IntKind.wrap .u64 (vx23_1)))))))), (99, .v (.one (.d (.lst (List.map (encI .u8) (bytesD vx5_1)))))), (100, .v (.one (.d (.int .i64 ((bytesD vx5_1).length : Int))))), (101, .v (.one (.d (.int .i64 vx12)))), (159, .v (.one (.d (.bool vx24))))]) 0

def z908 (qx : List UInt8) (qx1 : Int) (vx5_1 : List UInt8) (vx6_1 : Int) (vx8_1 : Int) (vx9_1 : Int) (vx10 : Bool) (vx11 : Int) (vx12 : Int) (vx23_1 : Int) : St := Mem.st ⟨[], []⟩ (tl [(1, .v (.one (.d (.int .i64 vx6_1)))), (8, .v (.one (.d (.bool (decide (qx1 = 0)))))), (9, .v (.one (.d (.str qx)))), (10, .v (.one (.d (.int .u64 vx9_1)))), (11, .v (.one (.d (.int .u64 (IntKind.wrap .u64 ((ishl .u64 1 (IntKind.wrap .u64 (vx8_1))) - 1)))))), (12, .v (.one (.d (.bool vx10)))), (13, .v (.one (.d (.int .u64 (IntKind.wrap .u64 (vx11 * (IntKind.wrap .u64 (vx6_1)))))))), (17, .v (.one (.d (.int .u64 (IntKind.wrap .u64 ((IntKind.wrap .u64 (vx11 * (IntKind.wrap .u64 (vx6_1)))) + (IntKind.wrap .u64 (vx23_1)))))))), (99, .v (.one (.d (.lst (List.map (encI .u8) (bytesD vx5_1)))))), (100, .v (.one (.d (.int .i64 ((bytesD vx5_1).length : Int))))), (101, .v (.one (.d (.int .i64 vx12))))]) 0

theorem z911 (qx : List UInt8) (qx1 : Int) (vx5_1 : List UInt8) (vx6_1 : Int) (vx8_1 : Int) (vx9_1 : Int) (vx10 : Bool) (vx11 : Int) (vx12 : Int) (vx23_1 : Int) {r} (hF : z907 vx6_1 vx8_1 vx11 vx23_1 = some r) : Awp prog 0 172 (cL (cL (cR (cR (cR (cR (cR (cR (cR (cL (cL (cR (cR (cL (cL (cR (cL (cR (cR (cR (cR (cR (cR (cR (cR (cR (cR (cR (cB f179))))))))))))))))))))))))))))) (Out 0 z910 (z909 qx qx1 vx5_1 vx6_1 vx8_1 vx9_1 vx10 vx11 vx12 vx23_1) r) (z908 qx qx1 vx5_1 vx6_1 vx8_1 vx9_1 vx10 vx11 vx12 vx23_1) := by
  unfold z907 at hF
  refine cE hF (fun h60 hF => ?_) fun h60 hF => ?_
  · refine awp_region ?_
    refine aR 2 ?_
    refine aB h60 ?_
    refine aR 5 ?_
    refine aE ?_
    exact oO hF [] [] rfl
  · refine awp_region ?_
    refine aR 2 ?_
    refine aB h60 ?_
    refine aR 5 ?_
    refine aE ?_
    exact oO hF [] [] rfl

def z885 : (Bool × Int) → AEx
  | _ => .normal

def z884 (qx : List UInt8) (qx1 : Int) (vx5_1 : List UInt8) (vx6_1 : Int) (vx8_1 : Int) (vx9_1 : Int) (vx10 : Bool) (vx11 : Int) (vx12 : Int) : (Bool × Int) → St
  | (vx25, vx26) => Mem.st ⟨[], []⟩ (tl [(1, .v (.one (.d (.int .i64 vx6_1)))), (8, .v (.one (.d (.bool (decide (qx1 = 0)))))), (9, .v (.one (.d (.str qx)))), (10, .v (.one (.d (.int .u64 vx9_1)))), (11, .v (.one (.d (.int .u64 (IntKind.wrap .u64 ((ishl .u64 1 (IntKind.wrap .u64 (vx8_1))) - 1)))))), (12, .v (.one (.d (.bool vx25)))), (13, .v (.one (.d (.int .u64 vx26)))), (99, .v (.one (.d (.lst (List.map (encI .u8) (bytesD vx5_1)))))), (100, .v (.one (.d (.int .i64 ((bytesD vx5_1).length : Int))))), (101, .v (.one (.d (.int .i64 vx12))))]) 0

def z883 (qx : List UInt8) (qx1 : Int) (vx5_1 : List UInt8) (vx6_1 : Int) (vx8_1 : Int) (vx9_1 : Int) (vx10 : Bool) (vx11 : Int) (vx12 : Int) : St := Mem.st ⟨[], []⟩ (tl [(1, .v (.one (.d (.int .i64 vx6_1)))), (8, .v (.one (.d (.bool (decide (qx1 = 0)))))), (9, .v (.one (.d (.str qx)))), (10, .v (.one (.d (.int .u64 vx9_1)))), (11, .v (.one (.d (.int .u64 (IntKind.wrap .u64 ((ishl .u64 1 (IntKind.wrap .u64 (vx8_1))) - 1)))))), (12, .v (.one (.d (.bool vx10)))), (13, .v (.one (.d (.int .u64 vx11)))), (99, .v (.one (.d (.lst (List.map (encI .u8) (bytesD vx5_1)))))), (100, .v (.one (.d (.int .i64 ((bytesD vx5_1).length : Int))))), (101, .v (.one (.d (.int .i64 vx12))))]) 0

theorem z886 (qx : List UInt8) (qx1 : Int) (vx5_1 : List UInt8) (vx6_1 : Int) (vx8_1 : Int) (vx9_1 : Int) (vx10 : Bool) (vx11 : Int) (vx12 : Int) {r} (hF : z882 qx1 vx5_1 vx6_1 vx8_1 vx9_1 vx10 vx11 vx12 = some r) : Awp prog 0 172 (cL (cR (cR (cL (cL (cR (cL (cR (cR (cR (cR (cR (cR (cR (cR (cR (cR (cR (cB f179))))))))))))))))))) (Out 0 z885 (z884 qx qx1 vx5_1 vx6_1 vx8_1 vx9_1 vx10 vx11 vx12) r) (z883 qx qx1 vx5_1 vx6_1 vx8_1 vx9_1 vx10 vx11 vx12) := by
  unfold z882 at hF
  refine awp_block ?_
  refine awp_seq ?_
  refine bE hF fun vy1 h42 hF => ?_
  refine awp_region ?_
  refine aX (x_idx (encI .u8) h42) ?_
  refine aR 2 ?_
  refine aE ?_
  refine awp_seq ?_
  refine awp_region ?_
  refine aR 1 ?_
  refine aE ?_
  refine awp_seq ?_
  refine awp_to (st' := z888 qx qx1 vx5_1 vx6_1 vx8_1 vx9_1 vx10 vx11 vx12 vy1) (oT [] []) ?_
  refine bE hF fun x h55 hF => ?_
  rcases x with vx23_1 | _
  · refine awp_sub (z891 qx qx1 vx5_1 vx6_1 vx8_1 vx9_1 vx10 vx11 vx12 vy1 h55) ?_
    refine awp_seq ?_
    refine awp_seq ?_
    refine awp_region ?_
    refine aR 4 ?_
    refine aE ?_
    refine cE hF (fun h56 hF => ?_) fun h56 hF => ?_
    · refine awp_true (by kernel_rfl) h56 ?_
      refine awp_seq ?_
      exact nE hF
    · refine awp_false (by kernel_rfl) h56 ?_
      refine awp_skip ?_
      refine awp_seq ?_
      refine awp_seq ?_
      refine awp_region ?_
      refine aR 3 ?_
      refine aE ?_
      refine cE hF (fun h58 hF => ?_) fun h58 hF => ?_
      · refine awp_true (by kernel_rfl) h58 ?_
        refine awp_seq ?_
        exact nE hF
      · refine awp_false (by kernel_rfl) h58 ?_
        refine awp_skip ?_
        refine awp_seq ?_
        refine awp_region ?_
        refine aR 5 ?_
        refine aE ?_
        refine awp_seq ?_
        refine awp_region ?_
        refine aR 5 ?_
        refine aE ?_
        refine awp_seq ?_
        refine awp_seq ?_
        refine awp_to (st' := z908 qx qx1 vx5_1 vx6_1 vx8_1 vx9_1 vx10 vx11 vx12 vx23_1) (oT [] []) ?_
        refine bE hF fun vx24_1 h61 hF => ?_
        refine awp_sub (z911 qx qx1 vx5_1 vx6_1 vx8_1 vx9_1 vx10 vx11 vx12 vx23_1 h61) ?_
        refine cE hF (fun h62 hF => ?_) fun h62 hF => ?_
        · refine awp_true (by kernel_rfl) h62 ?_
          refine awp_seq ?_
          exact nE hF
        · refine awp_false (by kernel_rfl) h62 ?_
          refine awp_skip ?_
          refine awp_region ?_
          refine aR 2 ?_
          refine aE ?_
          exact oO hF [] [] rfl
  · refine awp_sub (z891 qx qx1 vx5_1 vx6_1 vx8_1 vx9_1 vx10 vx11 vx12 vy1 h55) ?_
    exact oO hF [] [] rfl

def z959 : (Bool × Int) → AEx
  | _ => .exit 3

def z958 (qx : List UInt8) (qx1 : Int) (vx5_1 : List UInt8) (vx6_1 : Int) (vx8_1 : Int) (vx9_1 : Int) : (Bool × Int) → St
  | (vx27, vx28) => Mem.st ⟨[], []⟩ (tl [(9, .v (.one (.d (.str qx)))), (12, .v (.one (.d (.bool vx27)))), (13, .v (.one (.d (.int .u64 vx28))))]) 0

def z957 (qx : List UInt8) (qx1 : Int) (vx5_1 : List UInt8) (vx6_1 : Int) (vx8_1 : Int) (vx9_1 : Int) : Bool × Int × Int → St
  | (vx10, vx11, vx12) => Mem.st ⟨[], []⟩ (tl [(1, .v (.one (.d (.int .i64 vx6_1)))), (8, .v (.one (.d (.bool (decide (qx1 = 0)))))), (9, .v (.one (.d (.str qx)))), (10, .v (.one (.d (.int .u64 vx9_1)))), (11, .v (.one (.d (.int .u64 (IntKind.wrap .u64 ((ishl .u64 1 (IntKind.wrap .u64 (vx8_1))) - 1)))))), (12, .v (.one (.d (.bool vx10)))), (13, .v (.one (.d (.int .u64 vx11)))), (99, .v (.one (.d (.lst (List.map (encI .u8) (bytesD vx5_1)))))), (100, .v (.one (.d (.int .i64 ((bytesD vx5_1).length : Int))))), (101, .v (.one (.d (.int .i64 vx12))))]) 0

theorem z960 (qx : List UInt8) (qx1 : Int) (vx5_1 : List UInt8) (vx6_1 : Int) (vx8_1 : Int) (vx9_1 : Int) (s : Bool × Int × Int) (r : (Bool × Int × Int) ⊕ ((Bool × Int))) (hF : z956 qx1 vx5_1 vx6_1 vx8_1 vx9_1 s = some r) : Awp prog 0 172 (cL (cL (cR (cL (cR (cR (cR (cR (cR (cR (cR (cR (cR (cR (cR (cB f179)))))))))))))))) (Out 0 (kk z959) (SS (z957 qx qx1 vx5_1 vx6_1 vx8_1 vx9_1) (z958 qx qx1 vx5_1 vx6_1 vx8_1 vx9_1)) r) (z957 qx qx1 vx5_1 vx6_1 vx8_1 vx9_1 s) := by
  obtain ⟨vx10, vx11, vx12⟩ := s
  unfold z956 at hF
  refine awp_seq ?_
  refine awp_region ?_
  refine aR 1 ?_
  refine aE ?_
  refine awp_seq ?_
  refine cE hF (fun h41 hF => ?_) fun h41 hF => ?_
  · refine awp_true (by kernel_rfl) h41 ?_
    refine awp_skip ?_
    refine awp_seq ?_
    refine awp_to (st' := z883 qx qx1 vx5_1 vx6_1 vx8_1 vx9_1 vx10 vx11 vx12) (oT [] []) ?_
    refine bE hF fun x h64 hF => ?_
    obtain ⟨vx25_1, vx26_1⟩ := x
    refine awp_sub (z886 qx qx1 vx5_1 vx6_1 vx8_1 vx9_1 vx10 vx11 vx12 h64) ?_
    refine awp_region ?_
    refine aR 2 ?_
    refine aE ?_
    exact oO hF [] [] rfl
  · refine awp_false (by kernel_rfl) h41 ?_
    refine awp_exit ?_
    exact oO hF [] [] rfl

def z915 : Bool → AEx
  | _ => .normal

def z914 (qx : List UInt8) (vx27_1 : Bool) (vx28_1 : Int) : Bool → St
  | vx29 => Mem.st ⟨[], []⟩ (tl [(13, .v (.one (.d (.int .u64 vx28_1)))), (169, .v (.one (.d (.bool vx29))))]) 0

def z913 (qx : List UInt8) (vx27_1 : Bool) (vx28_1 : Int) : St := Mem.st ⟨[], []⟩ (tl [(9, .v (.one (.d (.str qx)))), (12, .v (.one (.d (.bool vx27_1)))), (13, .v (.one (.d (.int .u64 vx28_1))))]) 0

theorem z916 (qx : List UInt8) (vx27_1 : Bool) (vx28_1 : Int) {r} (hF : z912 qx vx27_1 = some r) : Awp prog 0 172 (cL (cL (cR (cR (cR (cR (cR (cR (cR (cR (cR (cR (cR (cR (cB f179))))))))))))))) (Out 0 z915 (z914 qx vx27_1 vx28_1) r) (z913 qx vx27_1 vx28_1) := by
  unfold z912 at hF
  refine cE hF (fun h66 hF => ?_) fun h66 hF => ?_
  · refine bE hF fun vr h67 hF => ?_
    refine awp_region ?_
    refine aB h66 ?_
    refine aR 2 ?_
    refine aC (z966 h67) [] [] [] ?_
    refine aR 2 ?_
    refine aE ?_
    exact oO hF [] [] rfl
  · refine awp_region ?_
    refine aB h66 ?_
    refine aR 5 ?_
    refine aE ?_
    exact oO hF [] [] rfl

def z879 (qx : List UInt8) (qx1 : Int) (qx2 : Int) (r : Int) : TV × Mem := (.tup [.one (.d (.int .u64 r)), .one (.nili)], ⟨[], []⟩)

theorem z880 {qx : List UInt8} {qx1 : Int} {qx2 : Int} {r} (hF : z878 qx qx1 qx2 = some r) : Holds prog 179 [.v (.one (.d (.str qx))), .v (.one (.d (.int .i64 qx1))), .v (.one (.d (.int .i64 qx2)))] ⟨[], []⟩ (Is (z879 qx qx1 qx2 r)) := by
  unfold z878 at hF
  refine holds_of_awp hΓ (fn := f179) (c := cB f179) (A := 0) (nx := 0) (by kernel_rfl) (by kernel_rfl) (by kernel_rfl) (by kernel_rfl) (by kernel_rfl) (by kernel_rfl) (lowc_of (by kernel_rfl)) ?_
  show Awp prog 0 172 (cB f179) _ _
  refine awp_seq ?_
  refine awp_region ?_
  refine aR 2 ?_
  refine aE ?_
  refine awp_seq ?_
  refine awp_seq ?_
  refine awp_region ?_
  refine aR 2 ?_
  refine aE ?_
  refine cE hF (fun h1 hF => ?_) fun h1 hF => ?_
  · refine awp_true (by kernel_rfl) h1 ?_
    refine awp_seq ?_
    exact nE hF
  · refine awp_false (by kernel_rfl) h1 ?_
    refine awp_skip ?_
    refine awp_seq ?_
    refine awp_region ?_
    refine aR 3 ?_
    refine aE ?_
    refine awp_seq ?_
    refine awp_region ?_
    refine aR 2 ?_
    refine aE ?_
    refine awp_seq ?_
    refine awp_to (st' := z917 qx qx1 qx2) (oT [] []) ?_
    refine bE hF fun x h29 hF => ?_
    obtain ⟨vx5_1, vx6_1⟩ := x
    refine awp_sub (z920 qx qx1 qx2 h29) ?_
    refine awp_seq ?_
    refine awp_to (st' := z942 qx qx1 qx2 vx5_1 vx6_1) (oT [] []) ?_
    refine bE hF fun vx8_1 h35 hF => ?_
    refine awp_sub (z945 qx qx1 qx2 vx5_1 vx6_1 h35) ?_
    refine awp_seq ?_
    refine awp_region ?_
    refine aR 1 ?_
    refine aE ?_
    refine awp_seq ?_
    refine awp_to (st' := z952 qx qx1 vx5_1 vx6_1 vx8_1) (oT [] []) ?_
    refine bE hF fun vx9_1 h39 hF => ?_
    refine awp_sub (z955 qx qx1 vx5_1 vx6_1 vx8_1 h39) ?_
    refine awp_seq ?_
    refine gE hF fun h40 hF => ?_
    refine awp_region ?_
    refine aR 2 ?_
    refine aX (x_shl h40) ?_
    refine aR 2 ?_
    refine aE ?_
    refine awp_seq ?_
    refine awp_region ?_
    refine aR 1 ?_
    refine aE ?_
    refine awp_seq ?_
    refine awp_region ?_
    refine aR 1 ?_
    refine aE ?_
    refine awp_seq ?_
    refine awp_seq ?_
    refine awp_region ?_
    refine aR 1 ?_
    refine aBs (s := vx5_1) rfl ?_
    refine aL (encI .u8) (bytesD vx5_1) ?_
    refine aR 1 ?_
    refine aE ?_
    refine awp_block ?_
    refine awp_to (st' := z957 qx qx1 vx5_1 vx6_1 vx8_1 vx9_1 (false, 0, 0)) (oT [] []) ?_
    refine bE hF fun x h65 hF => ?_
    obtain ⟨vx27_1, vx28_1⟩ := x
    refine awp_sub (awp_loop' (z957 qx qx1 vx5_1 vx6_1 vx8_1 vx9_1) z959 (z958 qx qx1 vx5_1 vx6_1 vx8_1 vx9_1) (by intro x; exact fun h => nomatch h) h65 (z960 qx qx1 vx5_1 vx6_1 vx8_1 vx9_1)) ?_
    refine awp_seq ?_
    refine awp_seq ?_
    refine awp_to (st' := z913 qx vx27_1 vx28_1) (oT [] []) ?_
    refine bE hF fun vx29_1 h68 hF => ?_
    refine awp_sub (z916 qx vx27_1 vx28_1 h68) ?_
    refine cE hF (fun h69 hF => ?_) fun h69 hF => ?_
    · refine awp_true (by kernel_rfl) h69 ?_
      refine awp_seq ?_
      exact nE hF
    · refine awp_false (by kernel_rfl) h69 ?_
      refine awp_skip ?_
      refine awp_seq ?_
      refine awp_region ?_
      refine aR 3 ?_
      refine aE ?_
      refine awp_ret ?_
      exact oF hF [] []

/-! ### internal/strconv.ParseInt -/
def z856 : ((List UInt8) × Bool) → AEx
  | _ => .normal

def z855 (qx : List UInt8) (qx1 : Int) (qx2 : Int) : ((List UInt8) × Bool) → St
  | (vx, vx1) => Mem.st ⟨[], []⟩ (tl [(0, .v (.one (.d (.str vx)))), (1, .v (.one (.d (.int .i64 qx1)))), (2, .v (.one (.d (.int .i64 qx2)))), (8, .v (.one (.d (.bool vx1))))]) 0

def z854 (qx : List UInt8) (qx1 : Int) (qx2 : Int) : St := Mem.st ⟨[], []⟩ (tl [(0, .v (.one (.d (.str qx)))), (1, .v (.one (.d (.int .i64 qx1)))), (2, .v (.one (.d (.int .i64 qx2)))), (8, .v (.one (.d (.bool false))))]) 0

theorem z857 (qx : List UInt8) (qx1 : Int) (qx2 : Int) {r} (hF : z853 qx = some r) : Awp prog 0 73 (cL (cR (cR (cR (cB f167))))) (Out 0 z856 (z855 qx qx1 qx2) r) (z854 qx qx1 qx2) := by
  unfold z853 at hF
  refine awp_seq ?_
  refine bE hF fun vc h3 hF => ?_
  refine awp_region ?_
  refine aR 1 ?_
  refine aX (x_idxS h3) ?_
  refine aE ?_
  refine awp_block ?_
  refine awp_seq ?_
  refine awp_region ?_
  refine aR 2 ?_
  refine aE ?_
  refine cE hF (fun h4 hF => ?_) fun h4 hF => ?_
  · refine awp_true (by kernel_rfl) h4 ?_
    refine bE hF fun vs h5 hF => ?_
    refine awp_region ?_
    refine aR 1 ?_
    refine aX (x_sliceS h5) ?_
    refine aR 1 ?_
    refine aE ?_
    exact oO hF [] [] rfl
  · refine awp_false (by kernel_rfl) h4 ?_
    refine awp_seq ?_
    refine awp_region ?_
    refine aR 2 ?_
    refine aE ?_
    refine cE hF (fun h6 hF => ?_) fun h6 hF => ?_
    · refine awp_true (by kernel_rfl) h6 ?_
      refine awp_seq ?_
      refine bE hF fun vs1 h7 hF => ?_
      refine awp_region ?_
      refine aR 1 ?_
      refine aX (x_sliceS h7) ?_
      refine aR 1 ?_
      refine aE ?_
      refine awp_region ?_
      refine aR 1 ?_
      refine aE ?_
      exact oO hF [] [] rfl
    · refine awp_false (by kernel_rfl) h6 ?_
      refine awp_skip ?_
      exact oO hF [] [] rfl

def z861 : Int → AEx
  | _ => .normal

def z860 (qx2 : Int) (vx1_1 : Bool) (vr1 : Int) : Int → St
  | vx3 => Mem.st ⟨[], []⟩ (tl [(2, .v (.one (.d (.int .i64 vx3)))), (8, .v (.one (.d (.bool vx1_1)))), (9, .v (.one (.d (.int .u64 vr1))))]) 0

def z859 (qx2 : Int) (vx1_1 : Bool) (vr1 : Int) : St := Mem.st ⟨[], []⟩ (tl [(2, .v (.one (.d (.int .i64 qx2)))), (8, .v (.one (.d (.bool vx1_1)))), (9, .v (.one (.d (.int .u64 vr1))))]) 0

theorem z862 (qx2 : Int) (vx1_1 : Bool) (vr1 : Int) {r} (hF : z858 qx2 = some r) : Awp prog 0 73 (cL (cR (cR (cR (cR (cR (cR (cR (cB f167))))))))) (Out 0 z861 (z860 qx2 vx1_1 vr1) r) (z859 qx2 vx1_1 vr1) := by
  unfold z858 at hF
  refine awp_seq ?_
  refine awp_region ?_
  refine aR 2 ?_
  refine aE ?_
  refine cE hF (fun h10 hF => ?_) fun h10 hF => ?_
  · refine awp_true (by kernel_rfl) h10 ?_
    refine awp_region ?_
    refine aR 1 ?_
    refine aE ?_
    exact oO hF [] [] rfl
  · refine awp_false (by kernel_rfl) h10 ?_
    refine awp_skip ?_
    exact oO hF [] [] rfl

def z866 : Bool → AEx
  | _ => .normal

def z865 (vx1_1 : Bool) (vr1 : Int) (vx3_1 : Int) : Bool → St
  | vx4 => Mem.st ⟨[], []⟩ (tl [(8, .v (.one (.d (.bool vx1_1)))), (9, .v (.one (.d (.int .u64 vr1)))), (10, .v (.one (.d (.int .u64 (ishl .u64 1 (IntKind.wrap .u64 (IntKind.wrap .i64 (vx3_1 - 1)))))))), (52, .v (.one (.d (.bool vx4))))]) 0

def z864 (vx1_1 : Bool) (vr1 : Int) (vx3_1 : Int) : St := Mem.st ⟨[], []⟩ (tl [(8, .v (.one (.d (.bool vx1_1)))), (9, .v (.one (.d (.int .u64 vr1)))), (10, .v (.one (.d (.int .u64 (ishl .u64 1 (IntKind.wrap .u64 (IntKind.wrap .i64 (vx3_1 - 1))))))))]) 0

theorem z867 (vx1_1 : Bool) (vr1 : Int) (vx3_1 : Int) {r} (hF : z863 vx1_1 vr1 vx3_1 = some r) : Awp prog 0 73 (cL (cL (cR (cR (cR (cR (cR (cR (cR (cR (cR (cB f167)))))))))))) (Out 0 z866 (z865 vx1_1 vr1 vx3_1) r) (z864 vx1_1 vr1 vx3_1) := by
  unfold z863 at hF
  refine cE hF (fun h13 hF => ?_) fun h13 hF => ?_
  · refine awp_region ?_
    refine aR 1 ?_
    refine aB h13 ?_
    refine aR 5 ?_
    refine aE ?_
    exact oO hF [] [] rfl
  · refine awp_region ?_
    refine aR 1 ?_
    refine aB h13 ?_
    refine aR 5 ?_
    refine aE ?_
    exact oO hF [] [] rfl

def z871 : Bool → AEx
  | _ => .normal

def z870 (vx1_1 : Bool) (vr1 : Int) (vx3_1 : Int) : Bool → St
  | vx5 => Mem.st ⟨[], []⟩ (tl [(8, .v (.one (.d (.bool vx1_1)))), (9, .v (.one (.d (.int .u64 vr1)))), (10, .v (.one (.d (.int .u64 (ishl .u64 1 (IntKind.wrap .u64 (IntKind.wrap .i64 (vx3_1 - 1)))))))), (62, .v (.one (.d (.bool vx5))))]) 0

def z869 (vx1_1 : Bool) (vr1 : Int) (vx3_1 : Int) : St := Mem.st ⟨[], []⟩ (tl [(8, .v (.one (.d (.bool vx1_1)))), (9, .v (.one (.d (.int .u64 vr1)))), (10, .v (.one (.d (.int .u64 (ishl .u64 1 (IntKind.wrap .u64 (IntKind.wrap .i64 (vx3_1 - 1))))))))]) 0

theorem z872 (vx1_1 : Bool) (vr1 : Int) (vx3_1 : Int) {r} (hF : z868 vx1_1 vr1 vx3_1 = some r) : Awp prog 0 73 (cL (cL (cR (cR (cR (cR (cR (cR (cR (cR (cR (cR (cB f167))))))))))))) (Out 0 z871 (z870 vx1_1 vr1 vx3_1) r) (z869 vx1_1 vr1 vx3_1) := by
  unfold z868 at hF
  refine cE hF (fun h17 hF => ?_) fun h17 hF => ?_
  · refine awp_region ?_
    refine aB h17 ?_
    refine aR 5 ?_
    refine aE ?_
    exact oO hF [] [] rfl
  · refine awp_region ?_
    refine aB h17 ?_
    refine aR 5 ?_
    refine aE ?_
    exact oO hF [] [] rfl

def z876 : Int → AEx
  | _ => .normal

def z875 (vx1_1 : Bool) (vr1 : Int) : Int → St
  | vx6 => Mem.st ⟨[], []⟩ (tl [(11, .v (.one (.d (.int .i64 vx6))))]) 0

def z874 (vx1_1 : Bool) (vr1 : Int) : St := Mem.st ⟨[], []⟩ (tl [(8, .v (.one (.d (.bool vx1_1)))), (11, .v (.one (.d (.int .i64 (IntKind.wrap .i64 (vr1))))))]) 0

theorem z877 (vx1_1 : Bool) (vr1 : Int) {r} (hF : z873 vx1_1 vr1 = some r) : Awp prog 0 73 (cL (cR (cR (cR (cR (cR (cR (cR (cR (cR (cR (cR (cR (cB f167)))))))))))))) (Out 0 z876 (z875 vx1_1 vr1) r) (z874 vx1_1 vr1) := by
  unfold z873 at hF
  refine awp_seq ?_
  refine awp_region ?_
  refine aR 1 ?_
  refine aE ?_
  refine cE hF (fun h21 hF => ?_) fun h21 hF => ?_
  · refine awp_true (by kernel_rfl) h21 ?_
    refine awp_region ?_
    refine aR 3 ?_
    refine aE ?_
    exact oO hF [] [] rfl
  · refine awp_false (by kernel_rfl) h21 ?_
    refine awp_skip ?_
    exact oO hF [] [] rfl

def z851 (qx : List UInt8) (qx1 : Int) (qx2 : Int) (r : Int) : TV × Mem := (.tup [.one (.d (.int .i64 r)), .one (.nili)], ⟨[], []⟩)

theorem z852 {qx : List UInt8} {qx1 : Int} {qx2 : Int} {r} (hF : z850 qx qx1 qx2 = some r) : Holds prog 167 [.v (.one (.d (.str qx))), .v (.one (.d (.int .i64 qx1))), .v (.one (.d (.int .i64 qx2)))] ⟨[], []⟩ (Is (z851 qx qx1 qx2 r)) := by
  unfold z850 at hF
  refine holds_of_awp hΓ (fn := f167) (c := cB f167) (A := 0) (nx := 0) (by kernel_rfl) (by kernel_rfl) (by kernel_rfl) (by kernel_rfl) (by kernel_rfl) (by kernel_rfl) (lowc_of (by kernel_rfl)) ?_
  show Awp prog 0 73 (cB f167) _ _
  refine awp_seq ?_
  refine awp_region ?_
  refine aR 2 ?_
  refine aE ?_
  refine awp_seq ?_
  refine awp_seq ?_
  refine awp_region ?_
  refine aR 2 ?_
  refine aE ?_
  refine cE hF (fun h1 hF => ?_) fun h1 hF => ?_
  · refine awp_true (by kernel_rfl) h1 ?_
    refine awp_seq ?_
    exact nE hF
  · refine awp_false (by kernel_rfl) h1 ?_
    refine awp_skip ?_
    refine awp_seq ?_
    refine awp_region ?_
    refine aR 1 ?_
    refine aE ?_
    refine awp_seq ?_
    refine awp_to (st' := z854 qx qx1 qx2) (oT [] []) ?_
    refine bE hF fun x h8 hF => ?_
    obtain ⟨vx2, vx1_1⟩ := x
    refine awp_sub (z857 qx qx1 qx2 h8) ?_
    refine awp_seq ?_
    refine awp_region ?_
    refine aR 1 ?_
    refine aE ?_
    refine awp_seq ?_
    refine bE hF fun vr1 h9 hF => ?_
    refine awp_region ?_
    refine aR 3 ?_
    refine aC (z880 h9) [] [] [] ?_
    refine aR 5 ?_
    refine aE ?_
    refine awp_seq ?_
    refine awp_seq ?_
    refine awp_region ?_
    refine aR 1 ?_
    refine aS (does_nilI (op := .neq) (c := false) rfl (.inr ⟨rfl, rfl⟩) (by kernel_rfl) (by kernel_rfl)) ?_
    refine aR 5 ?_
    refine aE ?_
    refine awp_false (by kernel_rfl) rfl ?_
    refine awp_skip ?_
    refine awp_seq ?_
    refine awp_to (st' := z859 qx2 vx1_1 vr1) (oT [] []) ?_
    refine bE hF fun vx3_1 h11 hF => ?_
    refine awp_sub (z862 qx2 vx1_1 vr1 h11) ?_
    refine awp_seq ?_
    refine gE hF fun h12 hF => ?_
    refine awp_region ?_
    refine aR 3 ?_
    refine aX (x_shl h12) ?_
    refine aR 1 ?_
    refine aE ?_
    refine awp_seq ?_
    refine awp_seq ?_
    refine awp_to (st' := z864 vx1_1 vr1 vx3_1) (oT [] []) ?_
    refine bE hF fun vx4_1 h14 hF => ?_
    refine awp_sub (z867 vx1_1 vr1 vx3_1 h14) ?_
    refine cE hF (fun h15 hF => ?_) fun h15 hF => ?_
    · refine awp_true (by kernel_rfl) h15 ?_
      refine awp_seq ?_
      exact nE hF
    · refine awp_false (by kernel_rfl) h15 ?_
      refine awp_skip ?_
      refine awp_seq ?_
      refine awp_seq ?_
      refine awp_to (st' := z869 vx1_1 vr1 vx3_1) (oT [] []) ?_
      refine bE hF fun vx5_1 h18 hF => ?_
      refine awp_sub (z872 vx1_1 vr1 vx3_1 h18) ?_
      refine cE hF (fun h19 hF => ?_) fun h19 hF => ?_
      · refine awp_true (by kernel_rfl) h19 ?_
        refine awp_seq ?_
        exact nE hF
      · refine awp_false (by kernel_rfl) h19 ?_
        refine awp_skip ?_
        refine awp_seq ?_
        refine awp_region ?_
        refine aR 3 ?_
        refine aE ?_
        refine awp_seq ?_
        refine awp_to (st' := z874 vx1_1 vr1) (oT [] []) ?_
        refine bE hF fun vx6_1 h22 hF => ?_
        refine awp_sub (z877 vx1_1 vr1 h22) ?_
        refine awp_seq ?_
        refine awp_region ?_
        refine aR 3 ?_
        refine aE ?_
        refine awp_ret ?_
        exact oF hF [] []

/-! ### internal/strconv.Atoi -/
def z826 : Bool → AEx
  | _ => .normal

def z825 (qx : List UInt8) : Bool → St
  | vx => Mem.st ⟨[], []⟩ (tl [(0, .v (.one (.d (.str qx)))), (30, .v (.one (.d (.bool vx))))]) 0

def z824 (qx : List UInt8) : St := Mem.st ⟨[], []⟩ (tl [(0, .v (.one (.d (.str qx)))), (4, .v (.one (.d (.int .i64 (qx.length : Int)))))]) 0

theorem z827 (qx : List UInt8) {r} (hF : z823 qx = some r) : Awp prog 0 77 (cL (cL (cR (cR (cB f141))))) (Out 0 z826 (z825 qx) r) (z824 qx) := by
  unfold z823 at hF
  refine cE hF (fun h1 hF => ?_) fun h1 hF => ?_
  · refine awp_region ?_
    refine aR 11 ?_
    refine aB h1 ?_
    refine aR 6 ?_
    refine aE ?_
    exact oO hF [] [] rfl
  · refine awp_region ?_
    refine aR 11 ?_
    refine aB h1 ?_
    refine aR 6 ?_
    refine aE ?_
    exact oO hF [] [] rfl

def z836 : Bool → AEx
  | _ => .normal

def z835 (qx : List UInt8) : Bool → St
  | vx2 => Mem.st ⟨[], []⟩ (tl [(0, .v (.one (.d (.str qx)))), (5, .v (.one (.d (.str qx)))), (39, .v (.one (.d (.bool vx2))))]) 0

def z834 (qx : List UInt8) : St := Mem.st ⟨[], []⟩ (tl [(0, .v (.one (.d (.str qx)))), (5, .v (.one (.d (.str qx))))]) 0

theorem z837 (qx : List UInt8) {r} (hF : z833 qx = some r) : Awp prog 0 77 (cL (cL (cR (cL (cR (cL (cR (cR (cB f141))))))))) (Out 0 z836 (z835 qx) r) (z834 qx) := by
  unfold z833 at hF
  refine bE hF fun vc h4 hF => ?_
  refine cE hF (fun h5 hF => ?_) fun h5 hF => ?_
  · refine awp_region ?_
    refine aR 1 ?_
    refine aX (x_idxS h4) ?_
    refine aB h5 ?_
    refine aR 5 ?_
    refine aE ?_
    exact oO hF [] [] rfl
  · refine awp_region ?_
    refine aR 1 ?_
    refine aX (x_idxS h4) ?_
    refine aB h5 ?_
    refine aR 2 ?_
    refine aX (x_idxS h4) ?_
    refine aR 2 ?_
    refine aE ?_
    exact oO hF [] [] rfl

def z831 : (List UInt8) → AEx
  | _ => .normal

def z830 (qx : List UInt8) : (List UInt8) → St
  | vx3 => Mem.st ⟨[], []⟩ (tl [(0, .v (.one (.d (.str vx3)))), (5, .v (.one (.d (.str qx))))]) 0

def z829 (qx : List UInt8) : St := Mem.st ⟨[], []⟩ (tl [(0, .v (.one (.d (.str qx)))), (5, .v (.one (.d (.str qx))))]) 0

theorem z832 (qx : List UInt8) {r} (hF : z828 qx = some r) : Awp prog 0 77 (cL (cR (cL (cR (cL (cR (cR (cB f141)))))))) (Out 0 z831 (z830 qx) r) (z829 qx) := by
  unfold z828 at hF
  refine awp_seq ?_
  refine awp_to (st' := z834 qx) (oT [] []) ?_
  refine bE hF fun vx2_1 h6 hF => ?_
  refine awp_sub (z837 qx h6) ?_
  refine cE hF (fun h7 hF => ?_) fun h7 hF => ?_
  · refine awp_true (by kernel_rfl) h7 ?_
    refine awp_seq ?_
    refine bE hF fun vs h8 hF => ?_
    refine awp_region ?_
    refine aR 1 ?_
    refine aX (x_sliceS h8) ?_
    refine aR 1 ?_
    refine aE ?_
    refine awp_seq ?_
    refine awp_region ?_
    refine aR 3 ?_
    refine aE ?_
    refine cE hF (fun h9 hF => ?_) fun h9 hF => ?_
    · refine awp_true (by kernel_rfl) h9 ?_
      refine awp_seq ?_
      exact nE hF
    · refine awp_false (by kernel_rfl) h9 ?_
      refine awp_skip ?_
      exact oO hF [] [] rfl
  · refine awp_false (by kernel_rfl) h7 ?_
    refine awp_skip ?_
    exact oO hF [] [] rfl

def z841 : Int → AEx
  | _ => .exit 0

def z840 (qx : List UInt8) (vx3_1 : List UInt8) : Int → St
  | vx6 => Mem.st ⟨[], []⟩ (tl [(5, .v (.one (.d (.str qx)))), (6, .v (.one (.d (.int .i64 vx6))))]) 0

def z839 (qx : List UInt8) (vx3_1 : List UInt8) : Int × Int → St
  | (vx4, vx5) => Mem.st ⟨[], []⟩ (tl [(5, .v (.one (.d (.str qx)))), (6, .v (.one (.d (.int .i64 vx4)))), (47, .v (.one (.d (.lst (List.map (encI .u8) (bytesD vx3_1)))))), (48, .v (.one (.d (.int .i64 ((bytesD vx3_1).length : Int))))), (49, .v (.one (.d (.int .i64 vx5))))]) 0

theorem z842 (qx : List UInt8) (vx3_1 : List UInt8) (s : Int × Int) (r : (Int × Int) ⊕ (Int)) (hF : z838 vx3_1 s = some r) : Awp prog 0 77 (cL (cL (cR (cL (cR (cR (cR (cL (cR (cL (cR (cR (cB f141))))))))))))) (Out 0 (kk z841) (SS (z839 qx vx3_1) (z840 qx vx3_1)) r) (z839 qx vx3_1 s) := by
  obtain ⟨vx4, vx5⟩ := s
  unfold z838 at hF
  refine awp_seq ?_
  refine awp_region ?_
  refine aR 1 ?_
  refine aE ?_
  refine awp_seq ?_
  refine cE hF (fun h12 hF => ?_) fun h12 hF => ?_
  · refine awp_true (by kernel_rfl) h12 ?_
    refine awp_skip ?_
    refine awp_seq ?_
    refine awp_block ?_
    refine awp_seq ?_
    refine bE hF fun vy1 h13 hF => ?_
    refine awp_region ?_
    refine aX (x_idx (encI .u8) h13) ?_
    refine aR 2 ?_
    refine aE ?_
    refine awp_seq ?_
    refine awp_region ?_
    refine aR 3 ?_
    refine aE ?_
    refine awp_seq ?_
    refine awp_seq ?_
    refine awp_region ?_
    refine aR 2 ?_
    refine aE ?_
    refine cE hF (fun h14 hF => ?_) fun h14 hF => ?_
    · refine awp_true (by kernel_rfl) h14 ?_
      refine awp_seq ?_
      exact nE hF
    · refine awp_false (by kernel_rfl) h14 ?_
      refine awp_skip ?_
      refine awp_region ?_
      refine aR 6 ?_
      refine aE ?_
      refine awp_region ?_
      refine aR 2 ?_
      refine aE ?_
      exact oO hF [] [] rfl
  · refine awp_false (by kernel_rfl) h12 ?_
    refine awp_exit ?_
    exact oO hF [] [] rfl

def z846 : Int → AEx
  | _ => .normal

def z845 (qx : List UInt8) (vx6_1 : Int) : Int → St
  | vx7 => Mem.st ⟨[], []⟩ (tl [(6, .v (.one (.d (.int .i64 vx7))))]) 0

def z844 (qx : List UInt8) (vx6_1 : Int) : St := Mem.st ⟨[], []⟩ (tl [(5, .v (.one (.d (.str qx)))), (6, .v (.one (.d (.int .i64 vx6_1))))]) 0

theorem z847 (qx : List UInt8) (vx6_1 : Int) {r} (hF : z843 qx vx6_1 = some r) : Awp prog 0 77 (cL (cR (cR (cR (cR (cL (cR (cL (cR (cR (cB f141))))))))))) (Out 0 z846 (z845 qx vx6_1) r) (z844 qx vx6_1) := by
  unfold z843 at hF
  refine awp_seq ?_
  refine bE hF fun vc1 h17 hF => ?_
  refine awp_region ?_
  refine aR 1 ?_
  refine aX (x_idxS h17) ?_
  refine aR 1 ?_
  refine aE ?_
  refine cE hF (fun h18 hF => ?_) fun h18 hF => ?_
  · refine awp_true (by kernel_rfl) h18 ?_
    refine awp_region ?_
    refine aR 3 ?_
    refine aE ?_
    exact oO hF [] [] rfl
  · refine awp_false (by kernel_rfl) h18 ?_
    refine awp_skip ?_
    exact oO hF [] [] rfl

def z821 (qx : List UInt8) (r : Int) : TV × Mem := (.tup [.one (.d (.int .i64 r)), .one (.nili)], ⟨[], []⟩)

theorem z822 {qx : List UInt8} {r} (hF : z820 qx = some r) : Holds prog 141 [.v (.one (.d (.str qx)))] ⟨[], []⟩ (Is (z821 qx r)) := by
  unfold z820 at hF
  refine holds_of_awp hΓ (fn := f141) (c := cB f141) (A := 0) (nx := 0) (by kernel_rfl) (by kernel_rfl) (by kernel_rfl) (by kernel_rfl) (by kernel_rfl) (by kernel_rfl) (lowc_of (by kernel_rfl)) ?_
  show Awp prog 0 77 (cB f141) _ _
  refine awp_seq ?_
  refine awp_region ?_
  refine aR 2 ?_
  refine aE ?_
  refine awp_seq ?_
  refine awp_region ?_
  refine aR 3 ?_
  refine aE ?_
  refine awp_seq ?_
  refine awp_seq ?_
  refine awp_to (st' := z824 qx) (oT [] []) ?_
  refine bE hF fun vx1 h2 hF => ?_
  refine awp_sub (z827 qx h2) ?_
  refine cE hF (fun h3 hF => ?_) fun h3 hF => ?_
  · refine awp_true (by kernel_rfl) h3 ?_
    refine awp_seq ?_
    refine awp_region ?_
    refine aR 2 ?_
    refine aE ?_
    refine awp_seq ?_
    refine awp_to (st' := z829 qx) (oT [] []) ?_
    refine bE hF fun vx3_1 h11 hF => ?_
    refine awp_sub (z832 qx h11) ?_
    refine awp_seq ?_
    refine awp_region ?_
    refine aR 1 ?_
    refine aE ?_
    refine awp_seq ?_
    refine awp_seq ?_
    refine awp_region ?_
    refine aR 1 ?_
    refine aBs (s := vx3_1) rfl ?_
    refine aL (encI .u8) (bytesD vx3_1) ?_
    refine aR 1 ?_
    refine aE ?_
    refine awp_block ?_
    refine awp_to (st' := z839 qx vx3_1 (0, 0)) (oT [] []) ?_
    refine bE hF fun vx6_1 h16 hF => ?_
    refine awp_sub (awp_loop' (z839 qx vx3_1) z841 (z840 qx vx3_1) (by intro x; exact fun h => nomatch h) h16 (z842 qx vx3_1)) ?_
    refine awp_seq ?_
    refine awp_to (st' := z844 qx vx6_1) (oT [] []) ?_
    refine bE hF fun vx7_1 h19 hF => ?_
    refine awp_sub (z847 qx vx6_1 h19) ?_
    refine awp_seq ?_
    refine awp_region ?_
    refine aR 3 ?_
    refine aE ?_
    refine awp_ret ?_
    exact oF hF [] []
  · refine awp_false (by kernel_rfl) h3 ?_
    refine awp_skip ?_
    refine awp_seq ?_
    refine bE hF fun vr h20 hF => ?_
    refine awp_region ?_
    refine aR 1 ?_
    refine aC (z852 h20) [] [] [] ?_
    refine aR 5 ?_
    refine aE ?_
    refine awp_seq ?_
    refine awp_region ?_
    refine aR 4 ?_
    refine aE ?_
    refine awp_ret ?_
    exact oF hF [] []

/-! ### strconv.Atoi -/
def z848 (qs : List UInt8) (r : Int) : TV × Mem := (.tup [.one (.d (.int .i64 r)), .one (.nili)], ⟨[], []⟩)

theorem z849 {qs : List UInt8} {r} (hF : z819 qs = some r) : Holds prog 117 [.v (.one (.d (.str qs)))] ⟨[], []⟩ (Is (z848 qs r)) := by
  unfold z819 at hF
  refine holds_of_awp hΓ (fn := f117) (c := cB f117) (A := 0) (nx := 0) (by kernel_rfl) (by kernel_rfl) (by kernel_rfl) (by kernel_rfl) (by kernel_rfl) (by kernel_rfl) (lowc_of (by kernel_rfl)) ?_
  show Awp prog 0 18 (cB f117) _ _
  refine awp_seq ?_
  refine awp_region ?_
  refine aR 2 ?_
  refine aE ?_
  refine awp_seq ?_
  refine bE hF fun vr1 h1 hF => ?_
  refine awp_region ?_
  refine aR 1 ?_
  refine aC (z822 h1) [] [] [] ?_
  refine aR 5 ?_
  refine aE ?_
  refine awp_seq ?_
  refine awp_seq ?_
  refine awp_region ?_
  refine aR 1 ?_
  refine aS (does_nilI (op := .neq) (c := false) rfl (.inr ⟨rfl, rfl⟩) (by kernel_rfl) (by kernel_rfl)) ?_
  refine aE ?_
  refine awp_false (by kernel_rfl) rfl ?_
  refine awp_skip ?_
  refine awp_seq ?_
  refine awp_region ?_
  refine aR 3 ?_
  refine aE ?_
  refine awp_ret ?_
  exact oF hF [] []

/-! ### beaconfleet/base.Number -/
def z56 : Bool → AEx
  | _ => .normal

def z55 (qs : List UInt8) (qdigits : Int) (vr : List UInt8) : Bool → St
  | vx => Mem.st ⟨[], []⟩ (tl [(0, .v (.one (.d (.str qs)))), (6, .v (.one (.d (.str vr)))), (36, .v (.one (.d (.bool vx))))]) 0

def z54 (qs : List UInt8) (qdigits : Int) (vr : List UInt8) : St := Mem.st ⟨[], []⟩ (tl [(0, .v (.one (.d (.str qs)))), (1, .v (.one (.d (.int .i64 qdigits)))), (6, .v (.one (.d (.str vr))))]) 0

theorem z57 (qs : List UInt8) (qdigits : Int) (vr : List UInt8) {r} (hF : z52 qs qdigits vr = some r) : Awp prog 0 61 (cL (cL (cR (cR (cB f91))))) (Out 0 z56 (z55 qs qdigits vr) r) (z54 qs qdigits vr) := by
  unfold z52 at hF
  refine cE hF (fun h2 hF => ?_) fun h2 hF => ?_
  · refine awp_region ?_
    refine aR 1 ?_
    refine aB h2 ?_
    refine aR 23 ?_
    refine aE ?_
    exact oO hF [] [] rfl
  · refine cE hF (fun h3 hF => ?_) fun h3 hF => ?_
    · refine awp_region ?_
      refine aR 1 ?_
      refine aB h2 ?_
      refine aR 4 ?_
      refine aB h3 ?_
      refine aR 18 ?_
      refine aE ?_
      exact oO hF [] [] rfl
    · refine bE hF fun vc h4 hF => ?_
      refine cE hF (fun h5 hF => ?_) fun h5 hF => ?_
      · refine cE hF (fun h6 hF => ?_) fun h6 hF => ?_
        · refine awp_region ?_
          refine aR 1 ?_
          refine aB h2 ?_
          refine aR 4 ?_
          refine aB h3 ?_
          refine aR 3 ?_
          refine aX (x_idxS h4) ?_
          refine aB h5 ?_
          refine aR 3 ?_
          refine aB h6 ?_
          refine aR 9 ?_
          refine aE ?_
          exact oO hF [] [] rfl
        · refine awp_region ?_
          refine aR 1 ?_
          refine aB h2 ?_
          refine aR 4 ?_
          refine aB h3 ?_
          refine aR 3 ?_
          refine aX (x_idxS h4) ?_
          refine aB h5 ?_
          refine aR 3 ?_
          refine aB h6 ?_
          refine aR 9 ?_
          refine aE ?_
          exact oO hF [] [] rfl
      · refine awp_region ?_
        refine aR 1 ?_
        refine aB h2 ?_
        refine aR 4 ?_
        refine aB h3 ?_
        refine aR 3 ?_
        refine aX (x_idxS h4) ?_
        refine aB h5 ?_
        refine aR 13 ?_
        refine aE ?_
        exact oO hF [] [] rfl

def z66 : Bool → AEx
  | _ => .normal

def z65 (qs : List UInt8) (vr : List UInt8) (vx2 : Int) : Bool → St
  | vx4 => Mem.st ⟨[], []⟩ (tl [(0, .v (.one (.d (.str qs)))), (6, .v (.one (.d (.str vr)))), (38, .v (.one (.d (.int .i64 (vr.length : Int))))), (39, .v (.one (.d (.int .i64 vx2)))), (51, .v (.one (.d (.bool vx4))))]) 0

def z64 (qs : List UInt8) (vr : List UInt8) (vx2 : Int) : St := Mem.st ⟨[], []⟩ (tl [(0, .v (.one (.d (.str qs)))), (6, .v (.one (.d (.str vr)))), (7, .v (.one (.d (.int .i64 vx2)))), (38, .v (.one (.d (.int .i64 (vr.length : Int))))), (39, .v (.one (.d (.int .i64 vx2))))]) 0

theorem z67 (qs : List UInt8) (vr : List UInt8) (vx2 : Int) {r} (hF : z63 vr vx2 = some r) : Awp prog 0 61 (cL (cR (cL (cL (cR (cR (cL (cL (cR (cL (cR (cR (cR (cB f91)))))))))))))) (Out 0 z66 (z65 qs vr vx2) r) (z64 qs vr vx2) := by
  unfold z63 at hF
  refine bE hF fun vc2 h10 hF => ?_
  refine cE hF (fun h11 hF => ?_) fun h11 hF => ?_
  · refine awp_region ?_
    refine aR 2 ?_
    refine aX (x_idxS h10) ?_
    refine aB h11 ?_
    refine aR 6 ?_
    refine aE ?_
    exact oO hF [] [] rfl
  · refine awp_region ?_
    refine aR 2 ?_
    refine aX (x_idxS h10) ?_
    refine aB h11 ?_
    refine aR 3 ?_
    refine aX (x_idxS h10) ?_
    refine aR 2 ?_
    refine aE ?_
    exact oO hF [] [] rfl

def z61 : Unit ⊕ Unit → AEx
  | .inl _ => .exit 0
  | .inr _ => .ret

def z60 (qs : List UInt8) (vr : List UInt8) : Unit ⊕ Unit → St
  | .inl _ => Mem.st ⟨[], []⟩ (tl [(0, .v (.one (.d (.str qs))))]) 0
  | .inr _ => Mem.st ⟨[], []⟩ (tl [(4, .v (.one (.d (.int .i64 0)))), (5, .v (.one (.d (.bool false))))]) 0

def z59 (qs : List UInt8) (vr : List UInt8) : Int → St
  | vx2 => Mem.st ⟨[], []⟩ (tl [(0, .v (.one (.d (.str qs)))), (6, .v (.one (.d (.str vr)))), (38, .v (.one (.d (.int .i64 (vr.length : Int))))), (39, .v (.one (.d (.int .i64 vx2))))]) 0

theorem z62 (qs : List UInt8) (vr : List UInt8) (vx2 : Int) (r : (Int) ⊕ (Unit ⊕ Unit)) (hF : z58 vr vx2 = some r) : Awp prog 0 61 (cL (cL (cR (cL (cR (cR (cR (cB f91)))))))) (Out 0 (kk z61) (SS (z59 qs vr) (z60 qs vr)) r) (z59 qs vr vx2) := by
  unfold z58 at hF
  refine awp_seq ?_
  refine awp_region ?_
  refine aR 1 ?_
  refine aE ?_
  refine awp_seq ?_
  refine cE hF (fun h9 hF => ?_) fun h9 hF => ?_
  · refine awp_true (by kernel_rfl) h9 ?_
    refine awp_skip ?_
    refine awp_seq ?_
    refine awp_block ?_
    refine awp_seq ?_
    refine awp_region ?_
    refine aR 2 ?_
    refine aE ?_
    refine awp_seq ?_
    refine awp_to (st' := z64 qs vr vx2) (oT [] []) ?_
    refine bE hF fun vx4_1 h12 hF => ?_
    refine awp_sub (z67 qs vr vx2 h12) ?_
    refine cE hF (fun h13 hF => ?_) fun h13 hF => ?_
    · refine awp_true (by kernel_rfl) h13 ?_
      refine awp_seq ?_
      refine awp_region ?_
      refine aR 2 ?_
      refine aE ?_
      refine awp_ret ?_
      exact oO hF [] [] rfl
    · refine awp_false (by kernel_rfl) h13 ?_
      refine awp_skip ?_
      refine awp_region ?_
      refine aR 2 ?_
      refine aE ?_
      exact oO hF [] [] rfl
  · refine awp_false (by kernel_rfl) h9 ?_
    refine awp_exit ?_
    exact oO hF [] [] rfl

def z49 (qs : List UInt8) (qdigits : Int) (r : Int × Bool) : TV × Mem := (.tup [.one (.d (.int .i64 r.1)), .one (.d (.bool r.2))], ⟨[], []⟩)

theorem z50 {qs : List UInt8} {qdigits : Int} {r} (hF : z48 qs qdigits = some r) : Holds prog 91 [.v (.one (.d (.str qs))), .v (.one (.d (.int .i64 qdigits)))] ⟨[], []⟩ (Is (z49 qs qdigits r)) := by
  unfold z48 at hF
  refine holds_of_awp hΓ (fn := f91) (c := cB f91) (A := 0) (nx := 0) (by kernel_rfl) (by kernel_rfl) (by kernel_rfl) (by kernel_rfl) (by kernel_rfl) (by kernel_rfl) (lowc_of (by kernel_rfl)) ?_
  show Awp prog 0 61 (cB f91) _ _
  refine awp_seq ?_
  refine awp_region ?_
  refine aR 2 ?_
  refine aE ?_
  refine awp_seq ?_
  refine bE hF fun vr h1 hF => ?_
  refine awp_region ?_
  refine aR 1 ?_
  refine aC (z1025 h1) [] [] [] ?_
  refine aR 1 ?_
  refine aE ?_
  refine awp_seq ?_
  refine awp_seq ?_
  refine awp_to (st' := z54 qs qdigits vr) (oT [] []) ?_
  refine bE hF fun vx1 h7 hF => ?_
  refine awp_sub (z57 qs qdigits vr h7) ?_
  refine cE hF (fun h8 hF => ?_) fun h8 hF => ?_
  · refine awp_true (by kernel_rfl) h8 ?_
    refine awp_seq ?_
    refine awp_region ?_
    refine aR 2 ?_
    refine aE ?_
    refine awp_ret ?_
    exact oF hF [] []
  · refine awp_false (by kernel_rfl) h8 ?_
    refine awp_skip ?_
    refine awp_seq ?_
    refine awp_seq ?_
    refine awp_region ?_
    refine aR 3 ?_
    refine aE ?_
    refine awp_block ?_
    refine awp_to (st' := z59 qs vr 0) (oT [] []) ?_
    refine bE hF fun x h14 hF => ?_
    rcases x with _ | _
    · refine awp_sub (awp_loop' (z59 qs vr) z61 (z60 qs vr) (by intro x; rcases x with x | x <;> exact fun h => nomatch h) h14 (z62 qs vr)) ?_
      refine awp_seq ?_
      refine bE hF fun vr1 h15 hF => ?_
      refine awp_region ?_
      refine aR 1 ?_
      refine aC (z849 h15) [] [] [] ?_
      refine aR 5 ?_
      refine aE ?_
      refine awp_seq ?_
      refine aD ?_
      refine dR 2 ?_
      refine dS (U := []) (stable_nilI (op := .eql) (c := true) rfl (.inl ⟨rfl, rfl⟩) (by kernel_rfl) (by kernel_rfl)) ?_
      refine dR 2 ?_
      refine dE ?_
      refine awp_ret ?_
      exact oF hF [] []
    · refine awp_sub (awp_loop' (z59 qs vr) z61 (z60 qs vr) (by intro x; rcases x with x | x <;> exact fun h => nomatch h) h14 (z62 qs vr)) ?_
      exact oF hF [] []

/-! ### beaconfleet/base.Numbers -/
def z74 : (List Int) ⊕ Unit → AEx
  | .inl _ => .exit 0
  | .inr _ => .ret

def z73 (qwords : List (List UInt8)) (qdigits : Int) : (List Int) ⊕ Unit → St
  | .inl vout1 => Mem.st ⟨[(1, ⟨3, 1, List.map (encI .i64) vout1⟩)], []⟩ (tl [(6, .v (.one (.own 1 none)))]) 2
  | .inr _ => Mem.st ⟨[], []⟩ (tl [(4, .v (.one (.nil))), (5, .v (.one (.d (.bool false))))]) 1

def z72 (qwords : List (List UInt8)) (qdigits : Int) : (List Int) × Int → St
  | (vout, vx) => Mem.st ⟨[(1, ⟨3, 1, List.map (encI .i64) vout⟩)], []⟩ (tl [(1, .v (.one (.d (.int .i64 qdigits)))), (6, .v (.one (.own 1 none))), (11, .v (.one (.d (.lst (List.map encS qwords))))), (12, .v (.one (.d (.int .i64 (qwords.length : Int))))), (13, .v (.one (.d (.int .i64 vx))))]) 2

theorem z75 (qwords : List (List UInt8)) (qdigits : Int) (s : (List Int) × Int) (r : ((List Int) × Int) ⊕ ((List Int) ⊕ Unit)) (hF : z71 qwords qdigits s = some r) : Awp prog 1 31 (cL (cL (cR (cL (cR (cR (cB f56))))))) (Out 1 (kk z74) (SS (z72 qwords qdigits) (z73 qwords qdigits)) r) (z72 qwords qdigits s) := by
  obtain ⟨vout, vx⟩ := s
  unfold z71 at hF
  refine awp_seq ?_
  refine awp_region ?_
  refine aR 1 ?_
  refine aE ?_
  refine awp_seq ?_
  refine cE hF (fun h1 hF => ?_) fun h1 hF => ?_
  · refine awp_true (by kernel_rfl) h1 ?_
    refine awp_skip ?_
    refine awp_seq ?_
    refine awp_block ?_
    refine awp_seq ?_
    refine bE hF fun vy1 h2 hF => ?_
    refine awp_region ?_
    refine aX (x_idx encS h2) ?_
    refine aR 2 ?_
    refine aE ?_
    refine awp_seq ?_
    refine bE hF fun x h3 hF => ?_
    obtain ⟨vr2_1, vr3_1⟩ := x
    refine awp_region ?_
    refine aR 2 ?_
    refine aC (z50 h3) [] [] [] ?_
    refine aR 5 ?_
    refine aE ?_
    refine awp_seq ?_
    refine awp_seq ?_
    refine awp_region ?_
    refine aR 2 ?_
    refine aE ?_
    refine cE hF (fun h4 hF => ?_) fun h4 hF => ?_
    · refine awp_true (by kernel_rfl) h4 ?_
      refine awp_seq ?_
      refine awp_region ?_
      refine aR 2 ?_
      refine aE ?_
      refine awp_ret ?_
      exact oO hF [] [] rfl
    · refine awp_false (by kernel_rfl) h4 ?_
      refine awp_skip ?_
      refine gE hF fun h5 hF => ?_
      refine awp_region ?_
      refine aR 3 ?_
      refine aX (x_app (encI .i64) 1 h5) ?_
      refine aR 1 ?_
      refine aE ?_
      refine awp_region ?_
      refine aR 2 ?_
      refine aE ?_
      exact oO hF [(1, 17002)] [] rfl
  · refine awp_false (by kernel_rfl) h1 ?_
    refine awp_exit ?_
    exact oO hF [] [] rfl

def z69 (qwords : List (List UInt8)) (qdigits : Int) (r : (List Int) × Bool) : TV × Mem := (.tup [.one (.own 1 none), .one (.d (.bool r.2))], ⟨[(1, ⟨3, 1, List.map (encI .i64) r.1⟩)], []⟩)

theorem z70 {qwords : List (List UInt8)} {qdigits : Int} {r} (hF : z68 qwords qdigits = some r) : Holds prog 56 [.v (.one (.own 0 none)), .v (.one (.d (.int .i64 qdigits)))] ⟨[(0, ⟨9, 1, List.map encS qwords⟩)], []⟩ (Is (z69 qwords qdigits r)) := by
  unfold z68 at hF
  refine holds_of_awp hΓ (fn := f56) (c := cB f56) (A := 1) (nx := 1) (by kernel_rfl) (by kernel_rfl) (by kernel_rfl) (by kernel_rfl) (by kernel_rfl) (by kernel_rfl) (lowc_of (by kernel_rfl)) ?_
  show Awp prog 1 31 (cB f56) _ _
  refine awp_seq ?_
  refine awp_region ?_
  refine aR 2 ?_
  refine aE ?_
  refine awp_to (oT (m := ⟨[], []⟩) (ts := [(0, .v (.one (.d (.lst (List.map encS qwords))))), (1, .v (.one (.d (.int .i64 qdigits))))]) (nx := 1) [] []) ?_
  refine awp_seq ?_
  refine awp_region ?_
  refine aR 1 ?_
  refine aE ?_
  refine awp_seq ?_
  refine awp_seq ?_
  refine awp_region ?_
  refine aR 1 ?_
  refine aL encS qwords ?_
  refine aR 1 ?_
  refine aE ?_
  refine awp_block ?_
  refine awp_to (st' := z72 qwords qdigits ([], 0)) (oT [] [1]) ?_
  refine bE hF fun x h6 hF => ?_
  rcases x with vout1_1 | _
  · refine awp_sub (awp_loop' (z72 qwords qdigits) z74 (z73 qwords qdigits) (by intro x; rcases x with x | x <;> exact fun h => nomatch h) h6 (z75 qwords qdigits)) ?_
    refine awp_seq ?_
    refine awp_region ?_
    refine aR 3 ?_
    refine aE ?_
    refine awp_ret ?_
    exact oF hF [] []
  · refine awp_sub (awp_loop' (z72 qwords qdigits) z74 (z73 qwords qdigits) (by intro x; rcases x with x | x <;> exact fun h => nomatch h) h6 (z75 qwords qdigits)) ?_
    exact oF hF [] [1]

/-! ### beaconfleet/base.Version -/
def z102 : Bool → AEx
  | _ => .normal

def z101 (qv : api_Version) : Bool → St
  | vx => Mem.st ⟨[], []⟩ (tl [(2, .v (.one (.d (.bool vx))))]) 0

def z100 (qv : api_Version) : St := Mem.st ⟨[], [(0, [.d (.int .i64 qv.Major), .d (.int .i64 qv.Minor), .d (.int .i64 qv.Patch)])]⟩ (tl [(1, .v (.one (.box 0 0)))]) 1

theorem z103 (qv : api_Version) {r} (hF : z99 qv = some r) : Awp prog 0 19 (cL (cR (cB f58))) (Out 0 z102 (z101 qv) r) (z100 qv) := by
  unfold z99 at hF
  refine bE hF fun vr h1 hF => ?_
  refine cE hF (fun h2 hF => ?_) fun h2 hF => ?_
  · refine bE hF fun vr1 h3 hF => ?_
    refine cE hF (fun h4 hF => ?_) fun h4 hF => ?_
    · refine bE hF fun vr2 h5 hF => ?_
      refine awp_region ?_
      refine aR 2 ?_
      refine aC (z77 h1) [] [] [] ?_
      refine aB h2 ?_
      refine aR 3 ?_
      refine aC (z77 h3) [] [] [] ?_
      refine aB h4 ?_
      refine aR 4 ?_
      refine aC (z77 h5) [] [] [] ?_
      refine aR 3 ?_
      refine aE ?_
      exact oO hF [] [] rfl
    · refine awp_region ?_
      refine aR 2 ?_
      refine aC (z77 h1) [] [] [] ?_
      refine aB h2 ?_
      refine aR 3 ?_
      refine aC (z77 h3) [] [] [] ?_
      refine aB h4 ?_
      refine aR 8 ?_
      refine aE ?_
      exact oO hF [] [] rfl
  · refine awp_region ?_
    refine aR 2 ?_
    refine aC (z77 h1) [] [] [] ?_
    refine aB h2 ?_
    refine aR 13 ?_
    refine aE ?_
    exact oO hF [] [] rfl

def z97 (qv : api_Version) (r : Bool) : TV × Mem := (.v (.one (.d (.bool r))), ⟨[], []⟩)

theorem z98 {qv : api_Version} {r} (hF : z96 qv = some r) : Holds prog 58 [.v (.agg [.d (.int .i64 qv.Major), .d (.int .i64 qv.Minor), .d (.int .i64 qv.Patch)])] ⟨[], []⟩ (Is (z97 qv r)) := by
  unfold z96 at hF
  refine holds_of_awp hΓ (fn := f58) (c := cB f58) (A := 0) (nx := 0) (by kernel_rfl) (by kernel_rfl) (by kernel_rfl) (by kernel_rfl) (by kernel_rfl) (by kernel_rfl) (lowc_of (by kernel_rfl)) ?_
  show Awp prog 0 19 (cB f58) _ _
  refine awp_seq ?_
  refine awp_region ?_
  refine aR 2 ?_
  refine aE ?_
  refine awp_seq ?_
  refine awp_to (st' := z100 qv) (oT [] []) ?_
  refine bE hF fun vx1 h6 hF => ?_
  refine awp_sub (z103 qv h6) ?_
  refine awp_ret ?_
  exact oF hF [] []

/-! ### beaconfleet/campaign.ParseVersion -/
def z140 : Bool → AEx
  | _ => .normal

def z137 (vr1 : List Int) (vr1_1 : Bool) : Bool → St
  | vx => Mem.st ⟨[], [(0, [.d (.int .i64 0), .d (.int .i64 0), .d (.int .i64 0)])]⟩ (tl [(2, .v (.one (.box 0 0))), (4, .v (.one (.d (.lst (List.map (encI .i64) vr1))))), (19, .v (.one (.d (.bool vx))))]) 1

def z136 (vr1 : List Int) (vr1_1 : Bool) : St := Mem.st ⟨[], [(0, [.d (.int .i64 0), .d (.int .i64 0), .d (.int .i64 0)])]⟩ (tl [(2, .v (.one (.box 0 0))), (4, .v (.one (.d (.lst (List.map (encI .i64) vr1))))), (5, .v (.one (.d (.bool vr1_1))))]) 1

theorem z141 (vr1 : List Int) (vr1_1 : Bool) {r} (hF : z135 vr1 vr1_1 = some r) : Awp prog 0 36 (cL (cL (cR (cR (cB f30))))) (Out 0 z140 (z137 vr1 vr1_1) r) (z136 vr1 vr1_1) := by
  unfold z135 at hF
  refine cE hF (fun h3 hF => ?_) fun h3 hF => ?_
  · refine awp_region ?_
    refine aR 1 ?_
    refine aB h3 ?_
    refine aR 5 ?_
    refine aE ?_
    exact oO hF [] [] rfl
  · refine awp_region ?_
    refine aR 1 ?_
    refine aB h3 ?_
    refine aR 2 ?_
    refine aL (encI .i64) vr1 ?_
    refine aR 2 ?_
    refine aE ?_
    exact oO hF [] [] rfl

def z133 (qs : List UInt8) (r : api_Version × Int) : TV × Mem := (.tup [.agg [.d (.int .i64 r.1.Major), .d (.int .i64 r.1.Minor), .d (.int .i64 r.1.Patch)], .one (.d (.int .i64 r.2))], ⟨[], []⟩)

theorem z134 {qs : List UInt8} {r} (hF : z132 qs = some r) : Holds prog 30 [.v (.one (.d (.str qs)))] ⟨[], []⟩ (Is (z133 qs r)) := by
  unfold z132 at hF
  refine holds_of_awp hΓ (fn := f30) (c := cB f30) (A := 0) (nx := 0) (by kernel_rfl) (by kernel_rfl) (by kernel_rfl) (by kernel_rfl) (by kernel_rfl) (by kernel_rfl) (lowc_of (by kernel_rfl)) ?_
  show Awp prog 0 36 (cB f30) _ _
  refine awp_seq ?_
  refine awp_region ?_
  refine aR 2 ?_
  refine aE ?_
  refine awp_seq ?_
  refine bE hF fun vr h1 hF => ?_
  refine bE hF fun x h2 hF => ?_
  obtain ⟨vr1, vr1_1⟩ := x
  refine awp_region ?_
  refine aR 1 ?_
  refine aC (z1021 h1) [] [] [] ?_
  refine aC (z70 h2) [(0, 3000)] [] [] ?_
  refine aR 5 ?_
  refine aE ?_
  refine awp_to (oT (m := ⟨[], [(0, [.d (.int .i64 0), .d (.int .i64 0), .d (.int .i64 0)])]⟩) (ts := [(2, .v (.one (.box 0 0))), (4, .v (.one (.d (.lst (List.map (encI .i64) vr1))))), (5, .v (.one (.d (.bool vr1_1))))]) (nx := 1) [] []) ?_
  refine awp_seq ?_
  refine awp_seq ?_
  refine awp_to (st' := z136 vr1 vr1_1) (oT [] []) ?_
  refine bE hF fun vx1 h4 hF => ?_
  refine awp_sub (z141 vr1 vr1_1 h4) ?_
  refine cE hF (fun h5 hF => ?_) fun h5 hF => ?_
  · refine awp_true (by kernel_rfl) h5 ?_
    refine awp_seq ?_
    refine awp_region ?_
    refine aR 3 ?_
    refine aE ?_
    refine awp_ret ?_
    exact oF hF [] []
  · refine awp_false (by kernel_rfl) h5 ?_
    refine awp_skip ?_
    refine awp_seq ?_
    refine bE hF fun vy h6 hF => ?_
    refine bE hF fun vy1 h7 hF => ?_
    refine bE hF fun vy2 h8 hF => ?_
    refine aD ?_
    refine dR 1 ?_
    refine dX (x_idx (encI .i64) h6) ?_
    refine dR 2 ?_
    refine dX (x_idx (encI .i64) h7) ?_
    refine dR 2 ?_
    refine dX (x_idx (encI .i64) h8) ?_
    refine dR 4 ?_
    refine dE ?_
    refine awp_seq ?_
    refine awp_seq ?_
    refine bE hF fun vr3 h9 hF => ?_
    refine awp_region ?_
    refine aR 1 ?_
    refine aC (z98 h9) [] [] [] ?_
    refine aR 1 ?_
    refine aE ?_
    refine cE hF (fun h10 hF => ?_) fun h10 hF => ?_
    · refine awp_true (by kernel_rfl) h10 ?_
      refine awp_seq ?_
      refine awp_region ?_
      refine aR 3 ?_
      refine aE ?_
      refine awp_ret ?_
      exact oF hF [] []
    · refine awp_false (by kernel_rfl) h10 ?_
      refine awp_skip ?_
      refine awp_seq ?_
      refine awp_region ?_
      refine aR 3 ?_
      refine aE ?_
      refine awp_ret ?_
      exact oF hF [] []

/-! ### beaconfleet/place.Cell -/
def z386 : Bool → AEx
  | _ => .normal

def z385 (qs : api_Spot) (qlevel : Int) : Bool → St
  | vx => Mem.st ⟨[], [(0, [.d (.int .i64 qs.X), .d (.int .i64 qs.Y)])]⟩ (tl [(1, .v (.one (.d (.int .i64 qlevel)))), (2, .v (.one (.box 0 0))), (16, .v (.one (.d (.bool vx))))]) 1

def z384 (qs : api_Spot) (qlevel : Int) : St := Mem.st ⟨[], [(0, [.d (.int .i64 qs.X), .d (.int .i64 qs.Y)])]⟩ (tl [(1, .v (.one (.d (.int .i64 qlevel)))), (2, .v (.one (.box 0 0)))]) 1

theorem z387 (qs : api_Spot) (qlevel : Int) {r} (hF : z383 qs qlevel = some r) : Awp prog 0 47 (cL (cL (cR (cB f13)))) (Out 0 z386 (z385 qs qlevel) r) (z384 qs qlevel) := by
  unfold z383 at hF
  refine bE hF fun vr2 h1 hF => ?_
  refine cE hF (fun h2 hF => ?_) fun h2 hF => ?_
  · refine awp_region ?_
    refine aR 1 ?_
    refine aC (z507 h1) [] [] [] ?_
    refine aB h2 ?_
    refine aR 4 ?_
    refine aE ?_
    exact oO hF [] [] rfl
  · refine bE hF fun vr h3 hF => ?_
    refine awp_region ?_
    refine aR 1 ?_
    refine aC (z507 h1) [] [] [] ?_
    refine aB h2 ?_
    refine aR 2 ?_
    refine aC (z77 h3) [] [] [] ?_
    refine aR 1 ?_
    refine aE ?_
    exact oO hF [] [] rfl

def z391 : (List Int) → AEx
  | _ => .exit 0

def z390 (qs : api_Spot) (qlevel : Int) : (List Int) → St
  | vout1 => Mem.st ⟨[(0, ⟨5, 1, List.map (encI .u8) vout1⟩)], []⟩ (tl [(6, .v (.one (.own 0 none)))]) 1

def z389 (qs : api_Spot) (qlevel : Int) : (List Int) × Int × Int → St
  | (vout, vlong, vx2) => Mem.st ⟨[(0, ⟨5, 1, List.map (encI .u8) vout⟩)], []⟩ (tl [(6, .v (.one (.own 0 none))), (7, .v (.one (.d (.int .i64 (IntKind.wrap .i64 (qs.X - (-16384))))))), (8, .v (.one (.d (.int .i64 (IntKind.wrap .i64 (qs.Y - (-16384))))))), (9, .v (.one (.d (.int .i64 vlong)))), (23, .v (.one (.d (.int .i64 qlevel)))), (24, .v (.one (.d (.int .i64 vx2))))]) 1

theorem z392 (qs : api_Spot) (qlevel : Int) (s : (List Int) × Int × Int) (r : ((List Int) × Int × Int) ⊕ ((List Int))) (hF : z388 qs qlevel s = some r) : Awp prog 0 47 (cL (cL (cR (cL (cR (cR (cR (cR (cB f13))))))))) (Out 0 (kk z391) (SS (z389 qs qlevel) (z390 qs qlevel)) r) (z389 qs qlevel s) := by
  obtain ⟨vout, vlong, vx2⟩ := s
  unfold z388 at hF
  refine awp_seq ?_
  refine awp_region ?_
  refine aR 1 ?_
  refine aE ?_
  refine awp_seq ?_
  refine cE hF (fun h6 hF => ?_) fun h6 hF => ?_
  · refine awp_true (by kernel_rfl) h6 ?_
    refine awp_skip ?_
    refine awp_seq ?_
    refine awp_block ?_
    refine awp_seq ?_
    refine awp_region ?_
    refine aR 3 ?_
    refine aE ?_
    refine gE hF fun h7 hF => ?_
    refine gE hF fun h8 hF => ?_
    refine aD ?_
    refine dR 3 ?_
    refine dX (x_quo h7) ?_
    refine dR 5 ?_
    refine dX (x_quo h7) ?_
    refine dR 5 ?_
    refine dX (x_app (encI .u8) 0 h8) ?_
    refine dR 1 ?_
    refine dE ?_
    refine awp_region ?_
    refine aR 2 ?_
    refine aE ?_
    exact oO hF [(0, 19001)] [] rfl
  · refine awp_false (by kernel_rfl) h6 ?_
    refine awp_exit ?_
    exact oO hF [] [] rfl

def z381 (qs : api_Spot) (qlevel : Int) (r : (List UInt8) × Int) : TV × Mem := (.tup [.one (.d (.str r.1)), .one (.d (.int .i64 r.2))], ⟨[], []⟩)

theorem z382 {qs : api_Spot} {qlevel : Int} {r} (hF : z372 qs qlevel = some r) : Holds prog 13 [.v (.agg [.d (.int .i64 qs.X), .d (.int .i64 qs.Y)]), .v (.one (.d (.int .i64 qlevel)))] ⟨[], []⟩ (Is (z381 qs qlevel r)) := by
  unfold z372 at hF
  refine holds_of_awp hΓ (fn := f13) (c := cB f13) (A := 0) (nx := 0) (by kernel_rfl) (by kernel_rfl) (by kernel_rfl) (by kernel_rfl) (by kernel_rfl) (by kernel_rfl) (lowc_of (by kernel_rfl)) ?_
  show Awp prog 0 47 (cB f13) _ _
  refine awp_seq ?_
  refine awp_region ?_
  refine aR 3 ?_
  refine aE ?_
  refine awp_seq ?_
  refine awp_seq ?_
  refine awp_to (st' := z384 qs qlevel) (oT [] []) ?_
  refine bE hF fun vx1 h4 hF => ?_
  refine awp_sub (z387 qs qlevel h4) ?_
  refine cE hF (fun h5 hF => ?_) fun h5 hF => ?_
  · refine awp_true (by kernel_rfl) h5 ?_
    refine awp_seq ?_
    refine awp_region ?_
    refine aR 2 ?_
    refine aE ?_
    refine awp_ret ?_
    exact oF hF [] []
  · refine awp_false (by kernel_rfl) h5 ?_
    refine awp_skip ?_
    refine awp_seq ?_
    refine awp_region ?_
    refine aR 1 ?_
    refine aE ?_
    refine awp_seq ?_
    refine aD ?_
    refine dR 9 ?_
    refine dE ?_
    refine awp_seq ?_
    refine awp_seq ?_
    refine awp_region ?_
    refine aR 2 ?_
    refine aE ?_
    refine awp_block ?_
    refine awp_to (st' := z389 qs qlevel ([], 32768, 0)) (oT [] [0]) ?_
    refine bE hF fun vout1_1 h9 hF => ?_
    refine awp_sub (awp_loop' (z389 qs qlevel) z391 (z390 qs qlevel) (by intro x; exact fun h => nomatch h) h9 (z392 qs qlevel)) ?_
    refine awp_seq ?_
    refine awp_region ?_
    refine aR 1 ?_
    refine aSt (xs := vout1_1) rfl rfl ?_
    refine aR 2 ?_
    refine aE ?_
    refine awp_ret ?_
    exact oF hF [] []

/-! ### slices.Equal[[]byte,byte] -/
def z719 : Unit ⊕ Unit → AEx
  | .inl _ => .exit 0
  | .inr _ => .ret

def z718 (qs1 : List Int) (qs2 : List Int) : Unit ⊕ Unit → St
  | .inl _ => Mem.st ⟨[], []⟩ (tl []) 0
  | .inr _ => Mem.st ⟨[], []⟩ (tl [(4, .v (.one (.d (.bool false))))]) 0

def z717 (qs1 : List Int) (qs2 : List Int) : Int → St
  | vx => Mem.st ⟨[], []⟩ (tl [(0, .v (.one (.d (.lst (List.map (encI .u8) qs1))))), (1, .v (.one (.d (.lst (List.map (encI .u8) qs2))))), (12, .v (.one (.d (.int .i64 (qs1.length : Int))))), (13, .v (.one (.d (.int .i64 vx))))]) 0

theorem z720 (qs1 : List Int) (qs2 : List Int) (vx : Int) (r : (Int) ⊕ (Unit ⊕ Unit)) (hF : z716 qs1 qs2 vx = some r) : Awp prog 0 26 (cL (cL (cR (cL (cR (cR (cB f31))))))) (Out 0 (kk z719) (SS (z717 qs1 qs2) (z718 qs1 qs2)) r) (z717 qs1 qs2 vx) := by
  unfold z716 at hF
  refine awp_seq ?_
  refine awp_region ?_
  refine aR 1 ?_
  refine aE ?_
  refine awp_seq ?_
  refine cE hF (fun h2 hF => ?_) fun h2 hF => ?_
  · refine awp_true (by kernel_rfl) h2 ?_
    refine awp_skip ?_
    refine awp_seq ?_
    refine awp_block ?_
    refine awp_seq ?_
    refine awp_region ?_
    refine aR 2 ?_
    refine aE ?_
    refine awp_seq ?_
    refine bE hF fun vy2 h3 hF => ?_
    refine bE hF fun vy3 h4 hF => ?_
    refine aD ?_
    refine dR 2 ?_
    refine dX (x_idx (encI .u8) h3) ?_
    refine dR 3 ?_
    refine dX (x_idx (encI .u8) h4) ?_
    refine dR 2 ?_
    refine dE ?_
    refine cE hF (fun h5 hF => ?_) fun h5 hF => ?_
    · refine awp_true (by kernel_rfl) h5 ?_
      refine awp_seq ?_
      refine awp_region ?_
      refine aR 1 ?_
      refine aE ?_
      refine awp_ret ?_
      exact oO hF [] [] rfl
    · refine awp_false (by kernel_rfl) h5 ?_
      refine awp_skip ?_
      refine awp_region ?_
      refine aR 2 ?_
      refine aE ?_
      exact oO hF [] [] rfl
  · refine awp_false (by kernel_rfl) h2 ?_
    refine awp_exit ?_
    exact oO hF [] [] rfl

def z714 (qs1 : List Int) (qs2 : List Int) (r : Bool) : TV × Mem := (.v (.one (.d (.bool r))), ⟨[], []⟩)

theorem z715 {qs1 : List Int} {qs2 : List Int} {r} (hF : z713 qs1 qs2 = some r) : Holds prog 31 [.v (.one (.d (.lst (List.map (encI .u8) qs1)))), .v (.one (.d (.lst (List.map (encI .u8) qs2))))] ⟨[], []⟩ (Is (z714 qs1 qs2 r)) := by
  unfold z713 at hF
  refine holds_of_awp hΓ (fn := f31) (c := cB f31) (A := 0) (nx := 0) (by kernel_rfl) (by kernel_rfl) (by kernel_rfl) (by kernel_rfl) (by kernel_rfl) (by kernel_rfl) (lowc_of (by kernel_rfl)) ?_
  show Awp prog 0 26 (cB f31) _ _
  refine awp_seq ?_
  refine awp_region ?_
  refine aR 1 ?_
  refine aE ?_
  refine awp_seq ?_
  refine awp_seq ?_
  refine awp_region ?_
  refine aR 1 ?_
  refine aL (encI .u8) qs1 ?_
  refine aR 1 ?_
  refine aL (encI .u8) qs2 ?_
  refine aR 1 ?_
  refine aE ?_
  refine cE hF (fun h1 hF => ?_) fun h1 hF => ?_
  · refine awp_true (by kernel_rfl) h1 ?_
    refine awp_seq ?_
    refine awp_region ?_
    refine aR 1 ?_
    refine aE ?_
    refine awp_ret ?_
    exact oF hF [] []
  · refine awp_false (by kernel_rfl) h1 ?_
    refine awp_skip ?_
    refine awp_seq ?_
    refine awp_seq ?_
    refine awp_region ?_
    refine aR 1 ?_
    refine aL (encI .u8) qs1 ?_
    refine aR 1 ?_
    refine aE ?_
    refine awp_block ?_
    refine awp_to (st' := z717 qs1 qs2 0) (oT [] []) ?_
    refine bE hF fun x h6 hF => ?_
    rcases x with _ | _
    · refine awp_sub (awp_loop' (z717 qs1 qs2) z719 (z718 qs1 qs2) (by intro x; rcases x with x | x <;> exact fun h => nomatch h) h6 (z720 qs1 qs2)) ?_
      refine awp_seq ?_
      refine awp_region ?_
      refine aR 1 ?_
      refine aE ?_
      refine awp_ret ?_
      exact oF hF [] []
    · refine awp_sub (awp_loop' (z717 qs1 qs2) z719 (z718 qs1 qs2) (by intro x; rcases x with x | x <;> exact fun h => nomatch h) h6 (z720 qs1 qs2)) ?_
      exact oF hF [] []

/-! ### slices.Index[[]string,string] -/
def z751 : Unit ⊕ Int → AEx
  | .inl _ => .exit 0
  | .inr _ => .ret

def z750 (qs : List (List UInt8)) (qv : List UInt8) : Unit ⊕ Int → St
  | .inl _ => Mem.st ⟨[], []⟩ (tl []) 0
  | .inr vx1 => Mem.st ⟨[], []⟩ (tl [(4, .v (.one (.d (.int .i64 vx1))))]) 0

def z749 (qs : List (List UInt8)) (qv : List UInt8) : Int → St
  | vx => Mem.st ⟨[], []⟩ (tl [(0, .v (.one (.d (.lst (List.map encS qs))))), (1, .v (.one (.d (.str qv)))), (7, .v (.one (.d (.int .i64 (qs.length : Int))))), (8, .v (.one (.d (.int .i64 vx))))]) 0

theorem z752 (qs : List (List UInt8)) (qv : List UInt8) (vx : Int) (r : (Int) ⊕ (Unit ⊕ Int)) (hF : z748 qs qv vx = some r) : Awp prog 0 19 (cL (cL (cR (cL (cR (cB f33)))))) (Out 0 (kk z751) (SS (z749 qs qv) (z750 qs qv)) r) (z749 qs qv vx) := by
  unfold z748 at hF
  refine awp_seq ?_
  refine awp_region ?_
  refine aR 1 ?_
  refine aE ?_
  refine awp_seq ?_
  refine cE hF (fun h1 hF => ?_) fun h1 hF => ?_
  · refine awp_true (by kernel_rfl) h1 ?_
    refine awp_skip ?_
    refine awp_seq ?_
    refine awp_block ?_
    refine awp_seq ?_
    refine awp_region ?_
    refine aR 2 ?_
    refine aE ?_
    refine awp_seq ?_
    refine bE hF fun vy1 h2 hF => ?_
    refine awp_region ?_
    refine aR 3 ?_
    refine aX (x_idx encS h2) ?_
    refine aR 2 ?_
    refine aE ?_
    refine cE hF (fun h3 hF => ?_) fun h3 hF => ?_
    · refine awp_true (by kernel_rfl) h3 ?_
      refine awp_seq ?_
      refine awp_region ?_
      refine aR 2 ?_
      refine aE ?_
      refine awp_ret ?_
      exact oO hF [] [] rfl
    · refine awp_false (by kernel_rfl) h3 ?_
      refine awp_skip ?_
      refine awp_region ?_
      refine aR 2 ?_
      refine aE ?_
      exact oO hF [] [] rfl
  · refine awp_false (by kernel_rfl) h1 ?_
    refine awp_exit ?_
    exact oO hF [] [] rfl

def z746 (qs : List (List UInt8)) (qv : List UInt8) (r : Int) : TV × Mem := (.v (.one (.d (.int .i64 r))), ⟨[], []⟩)

theorem z747 {qs : List (List UInt8)} {qv : List UInt8} {r} (hF : z745 qs qv = some r) : Holds prog 33 [.v (.one (.d (.lst (List.map encS qs)))), .v (.one (.d (.str qv)))] ⟨[], []⟩ (Is (z746 qs qv r)) := by
  unfold z745 at hF
  refine holds_of_awp hΓ (fn := f33) (c := cB f33) (A := 0) (nx := 0) (by kernel_rfl) (by kernel_rfl) (by kernel_rfl) (by kernel_rfl) (by kernel_rfl) (by kernel_rfl) (lowc_of (by kernel_rfl)) ?_
  show Awp prog 0 19 (cB f33) _ _
  refine awp_seq ?_
  refine awp_region ?_
  refine aR 1 ?_
  refine aE ?_
  refine awp_seq ?_
  refine awp_seq ?_
  refine awp_region ?_
  refine aR 1 ?_
  refine aL encS qs ?_
  refine aR 1 ?_
  refine aE ?_
  refine awp_block ?_
  refine awp_to (st' := z749 qs qv 0) (oT [] []) ?_
  refine bE hF fun x h4 hF => ?_
  rcases x with _ | vx1_1
  · refine awp_sub (awp_loop' (z749 qs qv) z751 (z750 qs qv) (by intro x; rcases x with x | x <;> exact fun h => nomatch h) h4 (z752 qs qv)) ?_
    refine awp_seq ?_
    refine awp_region ?_
    refine aR 1 ?_
    refine aE ?_
    refine awp_ret ?_
    exact oF hF [] []
  · refine awp_sub (awp_loop' (z749 qs qv) z751 (z750 qs qv) (by intro x; rcases x with x | x <;> exact fun h => nomatch h) h4 (z752 qs qv)) ?_
    exact oF hF [] []

/-! ### slices.Contains[[]string,string] -/
def z711 (qs : List (List UInt8)) (qv : List UInt8) (r : Bool) : TV × Mem := (.v (.one (.d (.bool r))), ⟨[], []⟩)

theorem z712 {qs : List (List UInt8)} {qv : List UInt8} {r} (hF : z710 qs qv = some r) : Holds prog 12 [.v (.one (.d (.lst (List.map encS qs)))), .v (.one (.d (.str qv)))] ⟨[], []⟩ (Is (z711 qs qv r)) := by
  unfold z710 at hF
  refine holds_of_awp hΓ (fn := f12) (c := cB f12) (A := 0) (nx := 0) (by kernel_rfl) (by kernel_rfl) (by kernel_rfl) (by kernel_rfl) (by kernel_rfl) (by kernel_rfl) (lowc_of (by kernel_rfl)) ?_
  show Awp prog 0 9 (cB f12) _ _
  refine awp_seq ?_
  refine awp_region ?_
  refine aR 1 ?_
  refine aE ?_
  refine awp_seq ?_
  refine bE hF fun vr h1 hF => ?_
  refine awp_region ?_
  refine aR 2 ?_
  refine aC (z747 h1) [] [] [] ?_
  refine aR 2 ?_
  refine aE ?_
  refine awp_ret ?_
  exact oF hF [] []

/-! ### strings.trimRightByte -/
def z1110 : Bool → AEx
  | _ => .normal

def z1109 (qc : Int) (vs : List UInt8) : Bool → St
  | vx2 => Mem.st ⟨[], []⟩ (tl [(0, .v (.one (.d (.str vs)))), (1, .v (.one (.d (.int .u8 qc)))), (16, .v (.one (.d (.bool vx2))))]) 0

def z1108 (qc : Int) (vs : List UInt8) : St := Mem.st ⟨[], []⟩ (tl [(0, .v (.one (.d (.str vs)))), (1, .v (.one (.d (.int .u8 qc))))]) 0

theorem z1111 (qc : Int) (vs : List UInt8) {r} (hF : z1107 qc vs = some r) : Awp prog 0 23 (cL (cL (cL (cL (cL (cR (cB f60))))))) (Out 0 z1110 (z1109 qc vs) r) (z1108 qc vs) := by
  unfold z1107 at hF
  refine cE hF (fun h1 hF => ?_) fun h1 hF => ?_
  · refine bE hF fun vc1 h2 hF => ?_
    refine awp_region ?_
    refine aR 2 ?_
    refine aB h1 ?_
    refine aR 5 ?_
    refine aX (x_idxS h2) ?_
    refine aR 3 ?_
    refine aE ?_
    exact oO hF [] [] rfl
  · refine awp_region ?_
    refine aR 2 ?_
    refine aB h1 ?_
    refine aR 9 ?_
    refine aE ?_
    exact oO hF [] [] rfl

def z1105 : (List UInt8) → AEx
  | _ => .exit 0

def z1104 (qc : Int) : (List UInt8) → St
  | vs3 => Mem.st ⟨[], []⟩ (tl [(0, .v (.one (.d (.str vs3))))]) 0

def z1103 (qc : Int) : (List UInt8) → St
  | vs => Mem.st ⟨[], []⟩ (tl [(0, .v (.one (.d (.str vs)))), (1, .v (.one (.d (.int .u8 qc))))]) 0

theorem z1106 (qc : Int) (vs : (List UInt8)) (r : ((List UInt8)) ⊕ ((List UInt8))) (hF : z1102 qc vs = some r) : Awp prog 0 23 (cL (cL (cL (cR (cB f60))))) (Out 0 (kk z1105) (SS (z1103 qc) (z1104 qc)) r) (z1103 qc vs) := by
  unfold z1102 at hF
  refine awp_seq ?_
  refine awp_seq ?_
  refine awp_to (st' := z1108 qc vs) (oT [] []) ?_
  refine bE hF fun vx2_1 h3 hF => ?_
  refine awp_sub (z1111 qc vs h3) ?_
  refine cE hF (fun h4 hF => ?_) fun h4 hF => ?_
  · refine awp_true (by kernel_rfl) h4 ?_
    refine awp_skip ?_
    refine awp_block ?_
    refine bE hF fun vs2 h5 hF => ?_
    refine awp_region ?_
    refine aR 4 ?_
    refine aX (x_sliceS h5) ?_
    refine aR 1 ?_
    refine aE ?_
    exact oO hF [] [] rfl
  · refine awp_false (by kernel_rfl) h4 ?_
    refine awp_exit ?_
    exact oO hF [] [] rfl

def z1100 (qs : List UInt8) (qc : Int) (r : (List UInt8)) : TV × Mem := (.v (.one (.d (.str r))), ⟨[], []⟩)

theorem z1101 {qs : List UInt8} {qc : Int} {r} (hF : z1099 qs qc = some r) : Holds prog 60 [.v (.one (.d (.str qs))), .v (.one (.d (.int .u8 qc)))] ⟨[], []⟩ (Is (z1100 qs qc r)) := by
  unfold z1099 at hF
  refine holds_of_awp hΓ (fn := f60) (c := cB f60) (A := 0) (nx := 0) (by kernel_rfl) (by kernel_rfl) (by kernel_rfl) (by kernel_rfl) (by kernel_rfl) (by kernel_rfl) (lowc_of (by kernel_rfl)) ?_
  show Awp prog 0 23 (cB f60) _ _
  refine awp_seq ?_
  refine awp_region ?_
  refine aR 1 ?_
  refine aE ?_
  refine awp_seq ?_
  refine awp_block ?_
  refine awp_to (st' := z1103 qc qs) (oT [] []) ?_
  refine bE hF fun vs3_1 h6 hF => ?_
  refine awp_sub (awp_loop' (z1103 qc) z1105 (z1104 qc) (by intro x; exact fun h => nomatch h) h6 (z1106 qc)) ?_
  refine awp_seq ?_
  refine awp_region ?_
  refine aR 2 ?_
  refine aE ?_
  refine awp_ret ?_
  exact oF hF [] []

/-! ### strings.trimLeftByte -/
def z1081 : Bool → AEx
  | _ => .normal

def z1080 (qc : Int) (vs : List UInt8) : Bool → St
  | vx2 => Mem.st ⟨[], []⟩ (tl [(0, .v (.one (.d (.str vs)))), (1, .v (.one (.d (.int .u8 qc)))), (13, .v (.one (.d (.bool vx2))))]) 0

def z1079 (qc : Int) (vs : List UInt8) : St := Mem.st ⟨[], []⟩ (tl [(0, .v (.one (.d (.str vs)))), (1, .v (.one (.d (.int .u8 qc))))]) 0

theorem z1082 (qc : Int) (vs : List UInt8) {r} (hF : z1078 qc vs = some r) : Awp prog 0 17 (cL (cL (cL (cL (cL (cR (cB f59))))))) (Out 0 z1081 (z1080 qc vs) r) (z1079 qc vs) := by
  unfold z1078 at hF
  refine cE hF (fun h1 hF => ?_) fun h1 hF => ?_
  · refine bE hF fun vc1 h2 hF => ?_
    refine awp_region ?_
    refine aR 2 ?_
    refine aB h1 ?_
    refine aR 2 ?_
    refine aX (x_idxS h2) ?_
    refine aR 3 ?_
    refine aE ?_
    exact oO hF [] [] rfl
  · refine awp_region ?_
    refine aR 2 ?_
    refine aB h1 ?_
    refine aR 6 ?_
    refine aE ?_
    exact oO hF [] [] rfl

def z1076 : (List UInt8) → AEx
  | _ => .exit 0

def z1075 (qc : Int) : (List UInt8) → St
  | vs3 => Mem.st ⟨[], []⟩ (tl [(0, .v (.one (.d (.str vs3))))]) 0

def z1074 (qc : Int) : (List UInt8) → St
  | vs => Mem.st ⟨[], []⟩ (tl [(0, .v (.one (.d (.str vs)))), (1, .v (.one (.d (.int .u8 qc))))]) 0

theorem z1077 (qc : Int) (vs : (List UInt8)) (r : ((List UInt8)) ⊕ ((List UInt8))) (hF : z1073 qc vs = some r) : Awp prog 0 17 (cL (cL (cL (cR (cB f59))))) (Out 0 (kk z1076) (SS (z1074 qc) (z1075 qc)) r) (z1074 qc vs) := by
  unfold z1073 at hF
  refine awp_seq ?_
  refine awp_seq ?_
  refine awp_to (st' := z1079 qc vs) (oT [] []) ?_
  refine bE hF fun vx2_1 h3 hF => ?_
  refine awp_sub (z1082 qc vs h3) ?_
  refine cE hF (fun h4 hF => ?_) fun h4 hF => ?_
  · refine awp_true (by kernel_rfl) h4 ?_
    refine awp_skip ?_
    refine awp_block ?_
    refine bE hF fun vs2 h5 hF => ?_
    refine awp_region ?_
    refine aR 1 ?_
    refine aX (x_sliceS h5) ?_
    refine aR 1 ?_
    refine aE ?_
    exact oO hF [] [] rfl
  · refine awp_false (by kernel_rfl) h4 ?_
    refine awp_exit ?_
    exact oO hF [] [] rfl

def z1071 (qs : List UInt8) (qc : Int) (r : (List UInt8)) : TV × Mem := (.v (.one (.d (.str r))), ⟨[], []⟩)

theorem z1072 {qs : List UInt8} {qc : Int} {r} (hF : z1070 qs qc = some r) : Holds prog 59 [.v (.one (.d (.str qs))), .v (.one (.d (.int .u8 qc)))] ⟨[], []⟩ (Is (z1071 qs qc r)) := by
  unfold z1070 at hF
  refine holds_of_awp hΓ (fn := f59) (c := cB f59) (A := 0) (nx := 0) (by kernel_rfl) (by kernel_rfl) (by kernel_rfl) (by kernel_rfl) (by kernel_rfl) (by kernel_rfl) (lowc_of (by kernel_rfl)) ?_
  show Awp prog 0 17 (cB f59) _ _
  refine awp_seq ?_
  refine awp_region ?_
  refine aR 1 ?_
  refine aE ?_
  refine awp_seq ?_
  refine awp_block ?_
  refine awp_to (st' := z1074 qc qs) (oT [] []) ?_
  refine bE hF fun vs3_1 h6 hF => ?_
  refine awp_sub (awp_loop' (z1074 qc) z1076 (z1075 qc) (by intro x; exact fun h => nomatch h) h6 (z1077 qc)) ?_
  refine awp_seq ?_
  refine awp_region ?_
  refine aR 2 ?_
  refine aE ?_
  refine awp_ret ?_
  exact oF hF [] []

/-! ### strings.makeASCIISet -/
def z1060 : Unit ⊕ Unit → AEx
  | .inl _ => .exit 0
  | .inr _ => .ret

def z1059 (qchars : List UInt8) : Unit ⊕ Unit → St
  | .inl _ => Mem.st ⟨[], [(0, [.d (.bool false), .d (.bool false), .d (.bool false), .d (.bool false), .d (.bool false), .d (.bool false), .d (.bool false), .d (.bool false), .d (.bool false), .d (.bool false), .d (.bool false), .d (.bool false), .d (.bool false), .d (.bool false), .d (.bool false), .d (.bool false), .d (.bool false), .d (.bool false), .d (.bool false), .d (.bool false), .d (.bool false), .d (.bool false), .d (.bool false), .d (.bool false), .d (.bool false), .d (.bool false), .d (.bool false), .d (.bool false), .d (.bool false), .d (.bool false), .d (.bool false), .d (.bool false), .d (.bool false), .d (.bool false), .d (.bool false), .d (.bool false), .d (.bool false), .d (.bool false), .d (.bool false), .d (.bool false), .d (.bool false), .d (.bool false), .d (.bool false), .d (.bool false), .d (.bool false), .d (.bool false), .d (.bool false), .d (.bool false), .d (.bool false), .d (.bool false), .d (.bool false), .d (.bool false), .d (.bool false), .d (.bool false), .d (.bool false), .d (.bool false), .d (.bool false), .d (.bool false), .d (.bool false), .d (.bool false), .d (.bool false), .d (.bool false), .d (.bool false), .d (.bool false), .d (.bool false), .d (.bool false), .d (.bool false), .d (.bool false), .d (.bool false), .d (.bool false), .d (.bool false), .d (.bool false), .d (.bool false), .d (.bool false), .d (.bool false), .d (.bool false), .d (.bool false), .d (.bool false), .d (.bool false), .d (.bool false), .d (.bool false), .d (.bool false), .d (.bool false), .d (.bool false), .d (.bool false), .d (.bool false), .d (.bool false), .d (.bool false), .d (.bool false), .d (.bool false), .d (.bool false), .d (.bool false), .d (.bool false), .d (.bool false), .d (.bool false), .d (.bool false), .d (.bool false), .d (.bool false), .d (.bool false), .d (.bool false), .d (.bool false), .d (.bool false), .d (.bool false), .d (.bool false), .d (.bool false), .d (.bool false), .d (.bool false), .d (.bool false), .d (.bool false), .d (.bool false), .d (.bool false), .d (.bool false), .d (.bool false), .d (.bool false), .d (.bool false), .d (.bool false), .d (.bool false), .d (.bool false), .d (.bool false), .d (.bool false), .d (.bool false), .d (.bool false), .d (.bool false), .d (.bool false), .d (.bool false), .d (.bool false), .d (.bool false), .d (.bool false), .d (.bool false), .d (.bool false), .d (.bool false), .d (.bool false), .d (.bool false), .d (.bool false), .d (.bool false), .d (.bool false), .d (.bool false), .d (.bool false), .d (.bool false), .d (.bool false), .d (.bool false), .d (.bool false), .d (.bool false), .d (.bool false), .d (.bool false), .d (.bool false), .d (.bool false), .d (.bool false), .d (.bool false), .d (.bool false), .d (.bool false), .d (.bool false), .d (.bool false), .d (.bool false), .d (.bool false), .d (.bool false), .d (.bool false), .d (.bool false), .d (.bool false), .d (.bool false), .d (.bool false), .d (.bool false), .d (.bool false), .d (.bool false), .d (.bool false), .d (.bool false), .d (.bool false), .d (.bool false), .d (.bool false), .d (.bool false), .d (.bool false), .d (.bool false), .d (.bool false), .d (.bool false), .d (.bool false), .d (.bool false), .d (.bool false), .d (.bool false), .d (.bool false), .d (.bool false), .d (.bool false), .d (.bool false), .d (.bool false), .d (.bool false), .d (.bool false), .d (.bool false), .d (.bool false), .d (.bool false), .d (.bool false), .d (.bool false), .d (.bool false), .d (.bool false), .d (.bool false), .d (.bool false), .d (.bool false), .d (.bool false), .d (.bool false), .d (.bool false), .d (.bool false), .d (.bool false), .d (.bool false), .d (.bool false), .d (.bool false), .d (.bool false), .d (.bool false), .d (.bool false), .d (.bool false), .d (.bool false), .d (.bool false), .d (.bool false), .d (.bool false), .d (.bool false), .d (.bool false), .d (.bool false), .d (.bool false), .d (.bool false), .d (.bool false), .d (.bool false), .d (.bool false), .d (.bool false), .d (.bool false), .d (.bool false), .d (.bool false), .d (.bool false), .d (.bool false), .d (.bool false), .d (.bool false), .d (.bool false), .d (.bool false), .d (.bool false), .d (.bool false), .d (.bool false), .d (.bool false), .d (.bool false), .d (.bool false), .d (.bool false), .d (.bool false), .d (.bool false), .d (.bool false), .d (.bool false), .d (.bool false), .d (.bool false), .d (.bool false), .d (.bool false), .d (.bool false), .d (.bool false), .d (.bool false), .d (.bool false), .d (.bool false), .d (.bool false), .d (.bool false), .d (.bool false), .d (.bool false), .d (.bool false), .d (.bool false), .d (.bool false)])]⟩ (tl [(2, .v (.one (.box 0 0)))]) 1
  | .inr _ => Mem.st ⟨[], [(0, [.d (.bool false), .d (.bool false), .d (.bool false), .d (.bool false), .d (.bool false), .d (.bool false), .d (.bool false), .d (.bool false), .d (.bool false), .d (.bool false), .d (.bool false), .d (.bool false), .d (.bool false), .d (.bool false), .d (.bool false), .d (.bool false), .d (.bool false), .d (.bool false), .d (.bool false), .d (.bool false), .d (.bool false), .d (.bool false), .d (.bool false), .d (.bool false), .d (.bool false), .d (.bool false), .d (.bool false), .d (.bool false), .d (.bool false), .d (.bool false), .d (.bool false), .d (.bool false), .d (.bool false), .d (.bool false), .d (.bool false), .d (.bool false), .d (.bool false), .d (.bool false), .d (.bool false), .d (.bool false), .d (.bool false), .d (.bool false), .d (.bool false), .d (.bool false), .d (.bool false), .d (.bool false), .d (.bool false), .d (.bool false), .d (.bool false), .d (.bool false), .d (.bool false), .d (.bool false), .d (.bool false), .d (.bool false), .d (.bool false), .d (.bool false), .d (.bool false), .d (.bool false), .d (.bool false), .d (.bool false), .d (.bool false), .d (.bool false), .d (.bool false), .d (.bool false), .d (.bool false), .d (.bool false), .d (.bool false), .d (.bool false), .d (.bool false), .d (.bool false), .d (.bool false), .d (.bool false), .d (.bool false), .d (.bool false), .d (.bool false), .d (.bool false), .d (.bool false), .d (.bool false), .d (.bool false), .d (.bool false), .d (.bool false), .d (.bool false), .d (.bool false), .d (.bool false), .d (.bool false), .d (.bool false), .d (.bool false), .d (.bool false), .d (.bool false), .d (.bool false), .d (.bool false), .d (.bool false), .d (.bool false), .d (.bool false), .d (.bool false), .d (.bool false), .d (.bool false), .d (.bool false), .d (.bool false), .d (.bool false), .d (.bool false), .d (.bool false), .d (.bool false), .d (.bool false), .d (.bool false), .d (.bool false), .d (.bool false), .d (.bool false), .d (.bool false), .d (.bool false), .d (.bool false), .d (.bool false), .d (.bool false), .d (.bool false), .d (.bool false), .d (.bool false), .d (.bool false), .d (.bool false), .d (.bool false), .d (.bool false), .d (.bool false), .d (.bool false), .d (.bool false), .d (.bool false), .d (.bool false), .d (.bool false), .d (.bool false), .d (.bool false), .d (.bool false), .d (.bool false), .d (.bool false), .d (.bool false), .d (.bool false), .d (.bool false), .d (.bool false), .d (.bool false), .d (.bool false), .d (.bool false), .d (.bool false), .d (.bool false), .d (.bool false), .d (.bool false), .d (.bool false), .d (.bool false), .d (.bool false), .d (.bool false), .d (.bool false), .d (.bool false), .d (.bool false), .d (.bool false), .d (.bool false), .d (.bool false), .d (.bool false), .d (.bool false), .d (.bool false), .d (.bool false), .d (.bool false), .d (.bool false), .d (.bool false), .d (.bool false), .d (.bool false), .d (.bool false), .d (.bool false), .d (.bool false), .d (.bool false), .d (.bool false), .d (.bool false), .d (.bool false), .d (.bool false), .d (.bool false), .d (.bool false), .d (.bool false), .d (.bool false), .d (.bool false), .d (.bool false), .d (.bool false), .d (.bool false), .d (.bool false), .d (.bool false), .d (.bool false), .d (.bool false), .d (.bool false), .d (.bool false), .d (.bool false), .d (.bool false), .d (.bool false), .d (.bool false), .d (.bool false), .d (.bool false), .d (.bool false), .d (.bool false), .d (.bool false), .d (.bool false), .d (.bool false), .d (.bool false), .d (.bool false), .d (.bool false), .d (.bool false), .d (.bool false), .d (.bool false), .d (.bool false), .d (.bool false), .d (.bool false), .d (.bool false), .d (.bool false), .d (.bool false), .d (.bool false), .d (.bool false), .d (.bool false), .d (.bool false), .d (.bool false), .d (.bool false), .d (.bool false), .d (.bool false), .d (.bool false), .d (.bool false), .d (.bool false), .d (.bool false), .d (.bool false), .d (.bool false), .d (.bool false), .d (.bool false), .d (.bool false), .d (.bool false), .d (.bool false), .d (.bool false), .d (.bool false), .d (.bool false), .d (.bool false), .d (.bool false), .d (.bool false), .d (.bool false), .d (.bool false), .d (.bool false), .d (.bool false), .d (.bool false), .d (.bool false), .d (.bool false), .d (.bool false), .d (.bool false), .d (.bool false), .d (.bool false), .d (.bool false), .d (.bool false), .d (.bool false), .d (.bool false), .d (.bool false), .d (.bool false), .d (.bool false), .d (.bool false), .d (.bool false), .d (.bool false), .d (.bool false), .d (.bool false), .d (.bool false), .d (.bool false)])]⟩ (tl [(2, .v (.one (.box 0 0))), (3, .v (.one (.d (.bool false))))]) 1

def z1058 (qchars : List UInt8) : Unit → St
  | _ => Mem.st ⟨[], [(0, [.d (.bool false), .d (.bool false), .d (.bool false), .d (.bool false), .d (.bool false), .d (.bool false), .d (.bool false), .d (.bool false), .d (.bool false), .d (.bool false), .d (.bool false), .d (.bool false), .d (.bool false), .d (.bool false), .d (.bool false), .d (.bool false), .d (.bool false), .d (.bool false), .d (.bool false), .d (.bool false), .d (.bool false), .d (.bool false), .d (.bool false), .d (.bool false), .d (.bool false), .d (.bool false), .d (.bool false), .d (.bool false), .d (.bool false), .d (.bool false), .d (.bool false), .d (.bool false), .d (.bool false), .d (.bool false), .d (.bool false), .d (.bool false), .d (.bool false), .d (.bool false), .d (.bool false), .d (.bool false), .d (.bool false), .d (.bool false), .d (.bool false), .d (.bool false), .d (.bool false), .d (.bool false), .d (.bool false), .d (.bool false), .d (.bool false), .d (.bool false), .d (.bool false), .d (.bool false), .d (.bool false), .d (.bool false), .d (.bool false), .d (.bool false), .d (.bool false), .d (.bool false), .d (.bool false), .d (.bool false), .d (.bool false), .d (.bool false), .d (.bool false), .d (.bool false), .d (.bool false), .d (.bool false), .d (.bool false), .d (.bool false), .d (.bool false), .d (.bool false), .d (.bool false), .d (.bool false), .d (.bool false), .d (.bool false), .d (.bool false), .d (.bool false), .d (.bool false), .d (.bool false), .d (.bool false), .d (.bool false), .d (.bool false), .d (.bool false), .d (.bool false), .d (.bool false), .d (.bool false), .d (.bool false), .d (.bool false), .d (.bool false), .d (.bool false), .d (.bool false), .d (.bool false), .d (.bool false), .d (.bool false), .d (.bool false), .d (.bool false), .d (.bool false), .d (.bool false), .d (.bool false), .d (.bool false), .d (.bool false), .d (.bool false), .d (.bool false), .d (.bool false), .d (.bool false), .d (.bool false), .d (.bool false), .d (.bool false), .d (.bool false), .d (.bool false), .d (.bool false), .d (.bool false), .d (.bool false), .d (.bool false), .d (.bool false), .d (.bool false), .d (.bool false), .d (.bool false), .d (.bool false), .d (.bool false), .d (.bool false), .d (.bool false), .d (.bool false), .d (.bool false), .d (.bool false), .d (.bool false), .d (.bool false), .d (.bool false), .d (.bool false), .d (.bool false), .d (.bool false), .d (.bool false), .d (.bool false), .d (.bool false), .d (.bool false), .d (.bool false), .d (.bool false), .d (.bool false), .d (.bool false), .d (.bool false), .d (.bool false), .d (.bool false), .d (.bool false), .d (.bool false), .d (.bool false), .d (.bool false), .d (.bool false), .d (.bool false), .d (.bool false), .d (.bool false), .d (.bool false), .d (.bool false), .d (.bool false), .d (.bool false), .d (.bool false), .d (.bool false), .d (.bool false), .d (.bool false), .d (.bool false), .d (.bool false), .d (.bool false), .d (.bool false), .d (.bool false), .d (.bool false), .d (.bool false), .d (.bool false), .d (.bool false), .d (.bool false), .d (.bool false), .d (.bool false), .d (.bool false), .d (.bool false), .d (.bool false), .d (.bool false), .d (.bool false), .d (.bool false), .d (.bool false), .d (.bool false), .d (.bool false), .d (.bool false), .d (.bool false), .d (.bool false), .d (.bool false), .d (.bool false), .d (.bool false), .d (.bool false), .d (.bool false), .d (.bool false), .d (.bool false), .d (.bool false), .d (.bool false), .d (.bool false), .d (.bool false), .d (.bool false), .d (.bool false), .d (.bool false), .d (.bool false), .d (.bool false), .d (.bool false), .d (.bool false), .d (.bool false), .d (.bool false), .d (.bool false), .d (.bool false), .d (.bool false), .d (.bool false), .d (.bool false), .d (.bool false), .d (.bool false), .d (.bool false), .d (.bool false), .d (.bool false), .d (.bool false), .d (.bool false), .d (.bool false), .d (.bool false), .d (.bool false), .d (.bool false), .d (.bool false), .d (.bool false), .d (.bool false), .d (.bool false), .d (.bool false), .d (.bool false), .d (.bool false), .d (.bool false), .d (.bool false), .d (.bool false), .d (.bool false), .d (.bool false), .d (.bool false), .d (.bool false), .d (.bool false), .d (.bool false), .d (.bool false), .d (.bool false), .d (.bool false), .d (.bool false), .d (.bool false), .d (.bool false), .d (.bool false), .d (.bool false), .d (.bool false), .d (.bool false), .d (.bool false), .d (.bool false), .d (.bool false), .d (.bool false), .d (.bool false), .d (.bool false), .d (.bool false), .d (.bool false), .d (.bool false), .d (.bool false), .d (.bool false), .d (.bool false), .d (.bool false)])]⟩ (tl [(0, .v (.one (.d (.str qchars)))), (2, .v (.one (.box 0 0))), (4, .v (.one (.d (.int .i64 0))))]) 1

theorem z1061 (qchars : List UInt8) (s : Unit) (r : (Unit) ⊕ (Unit ⊕ Unit)) (hF : z1057 qchars s = some r) : Awp prog 0 21 (cL (cL (cR (cL (cR (cB f61)))))) (Out 0 (kk z1060) (SS (z1058 qchars) (z1059 qchars)) r) (z1058 qchars s) := by
  unfold z1057 at hF
  refine awp_seq ?_
  refine awp_seq ?_
  refine awp_region ?_
  refine aR 4 ?_
  refine aE ?_
  refine cE hF (fun h1 hF => ?_) fun h1 hF => ?_
  · refine awp_true (by kernel_rfl) h1 ?_
    refine awp_skip ?_
    refine awp_seq ?_
    refine awp_block ?_
    refine awp_seq ?_
    refine bE hF fun vc1 h2 hF => ?_
    refine awp_region ?_
    refine aR 2 ?_
    refine aX (x_idxS h2) ?_
    refine aR 1 ?_
    refine aE ?_
    refine awp_seq ?_
    refine awp_seq ?_
    refine awp_region ?_
    refine aR 2 ?_
    refine aE ?_
    refine cE hF (fun h3 hF => ?_) fun h3 hF => ?_
    · refine awp_true (by kernel_rfl) h3 ?_
      refine awp_seq ?_
      refine awp_region ?_
      refine aR 3 ?_
      refine aE ?_
      refine awp_ret ?_
      exact oO hF [] [] rfl
    · refine awp_false (by kernel_rfl) h3 ?_
      refine awp_skip ?_
      exact nE hF
  · refine awp_false (by kernel_rfl) h1 ?_
    refine awp_exit ?_
    exact oO hF [] [] rfl

def z1055 (qchars : List UInt8) (r : Bool) : TV × Mem := (.tup [.agg [.d (.bool false), .d (.bool false), .d (.bool false), .d (.bool false), .d (.bool false), .d (.bool false), .d (.bool false), .d (.bool false), .d (.bool false), .d (.bool false), .d (.bool false), .d (.bool false), .d (.bool false), .d (.bool false), .d (.bool false), .d (.bool false), .d (.bool false), .d (.bool false), .d (.bool false), .d (.bool false), .d (.bool false), .d (.bool false), .d (.bool false), .d (.bool false), .d (.bool false), .d (.bool false), .d (.bool false), .d (.bool false), .d (.bool false), .d (.bool false), .d (.bool false), .d (.bool false), .d (.bool false), .d (.bool false), .d (.bool false), .d (.bool false), .d (.bool false), .d (.bool false), .d (.bool false), .d (.bool false), .d (.bool false), .d (.bool false), .d (.bool false), .d (.bool false), .d (.bool false), .d (.bool false), .d (.bool false), .d (.bool false), .d (.bool false), .d (.bool false), .d (.bool false), .d (.bool false), .d (.bool false), .d (.bool false), .d (.bool false), .d (.bool false), .d (.bool false), .d (.bool false), .d (.bool false), .d (.bool false), .d (.bool false), .d (.bool false), .d (.bool false), .d (.bool false), .d (.bool false), .d (.bool false), .d (.bool false), .d (.bool false), .d (.bool false), .d (.bool false), .d (.bool false), .d (.bool false), .d (.bool false), .d (.bool false), .d (.bool false), .d (.bool false), .d (.bool false), .d (.bool false), .d (.bool false), .d (.bool false), .d (.bool false), .d (.bool false), .d (.bool false), .d (.bool false), .d (.bool false), .d (.bool false), .d (.bool false), .d (.bool false), .d (.bool false), .d (.bool false), .d (.bool false), .d (.bool false), .d (.bool false), .d (.bool false), .d (.bool false), .d (.bool false), .d (.bool false), .d (.bool false), .d (.bool false), .d (.bool false), .d (.bool false), .d (.bool false), .d (.bool false), .d (.bool false), .d (.bool false), .d (.bool false), .d (.bool false), .d (.bool false), .d (.bool false), .d (.bool false), .d (.bool false), .d (.bool false), .d (.bool false), .d (.bool false), .d (.bool false), .d (.bool false), .d (.bool false), .d (.bool false), .d (.bool false), .d (.bool false), .d (.bool false), .d (.bool false), .d (.bool false), .d (.bool false), .d (.bool false), .d (.bool false), .d (.bool false), .d (.bool false), .d (.bool false), .d (.bool false), .d (.bool false), .d (.bool false), .d (.bool false), .d (.bool false), .d (.bool false), .d (.bool false), .d (.bool false), .d (.bool false), .d (.bool false), .d (.bool false), .d (.bool false), .d (.bool false), .d (.bool false), .d (.bool false), .d (.bool false), .d (.bool false), .d (.bool false), .d (.bool false), .d (.bool false), .d (.bool false), .d (.bool false), .d (.bool false), .d (.bool false), .d (.bool false), .d (.bool false), .d (.bool false), .d (.bool false), .d (.bool false), .d (.bool false), .d (.bool false), .d (.bool false), .d (.bool false), .d (.bool false), .d (.bool false), .d (.bool false), .d (.bool false), .d (.bool false), .d (.bool false), .d (.bool false), .d (.bool false), .d (.bool false), .d (.bool false), .d (.bool false), .d (.bool false), .d (.bool false), .d (.bool false), .d (.bool false), .d (.bool false), .d (.bool false), .d (.bool false), .d (.bool false), .d (.bool false), .d (.bool false), .d (.bool false), .d (.bool false), .d (.bool false), .d (.bool false), .d (.bool false), .d (.bool false), .d (.bool false), .d (.bool false), .d (.bool false), .d (.bool false), .d (.bool false), .d (.bool false), .d (.bool false), .d (.bool false), .d (.bool false), .d (.bool false), .d (.bool false), .d (.bool false), .d (.bool false), .d (.bool false), .d (.bool false), .d (.bool false), .d (.bool false), .d (.bool false), .d (.bool false), .d (.bool false), .d (.bool false), .d (.bool false), .d (.bool false), .d (.bool false), .d (.bool false), .d (.bool false), .d (.bool false), .d (.bool false), .d (.bool false), .d (.bool false), .d (.bool false), .d (.bool false), .d (.bool false), .d (.bool false), .d (.bool false), .d (.bool false), .d (.bool false), .d (.bool false), .d (.bool false), .d (.bool false), .d (.bool false), .d (.bool false), .d (.bool false), .d (.bool false), .d (.bool false), .d (.bool false), .d (.bool false), .d (.bool false), .d (.bool false), .d (.bool false), .d (.bool false), .d (.bool false), .d (.bool false), .d (.bool false), .d (.bool false), .d (.bool false), .d (.bool false), .d (.bool false), .d (.bool false), .d (.bool false), .d (.bool false), .d (.bool false), .d (.bool false), .d (.bool false), .d (.bool false), .d (.bool false), .d (.bool false)], .one (.d (.bool r))], ⟨[], []⟩)

theorem z1056 {qchars : List UInt8} {r} (hF : z1054 qchars = some r) : Holds prog 61 [.v (.one (.d (.str qchars)))] ⟨[], []⟩ (Is (z1055 qchars r)) := by
  unfold z1054 at hF
  refine holds_of_awp hΓ (fn := f61) (c := cB f61) (A := 0) (nx := 0) (by kernel_rfl) (by kernel_rfl) (by kernel_rfl) (by kernel_rfl) (by kernel_rfl) (by kernel_rfl) (lowc_of (by kernel_rfl)) ?_
  show Awp prog 0 21 (cB f61) _ _
  refine awp_seq ?_
  refine awp_region ?_
  refine aR 2 ?_
  refine aE ?_
  refine awp_seq ?_
  refine awp_seq ?_
  refine awp_region ?_
  refine aR 1 ?_
  refine aE ?_
  refine awp_block ?_
  refine awp_to (st' := z1058 qchars ()) (oT [] []) ?_
  refine bE hF fun x h4 hF => ?_
  rcases x with _ | _
  · refine awp_sub (awp_loop' (z1058 qchars) z1060 (z1059 qchars) (by intro x; rcases x with x | x <;> exact fun h => nomatch h) h4 (z1061 qchars)) ?_
    refine awp_seq ?_
    refine awp_region ?_
    refine aR 3 ?_
    refine aE ?_
    refine awp_ret ?_
    exact oF hF [] []
  · refine awp_sub (awp_loop' (z1058 qchars) z1060 (z1059 qchars) (by intro x; rcases x with x | x <;> exact fun h => nomatch h) h4 (z1061 qchars)) ?_
    exact oF hF [] []

/-! ### strings.trimRightASCII -/
def z1097 : Unit → AEx
  | _ => .exit 0

def z1096 (qs : List UInt8) (qas : Bool) : Unit → St
  | _ => Mem.st ⟨[], [(0, [.d (.bool qas), .d (.bool qas), .d (.bool qas), .d (.bool qas), .d (.bool qas), .d (.bool qas), .d (.bool qas), .d (.bool qas), .d (.bool qas), .d (.bool qas), .d (.bool qas), .d (.bool qas), .d (.bool qas), .d (.bool qas), .d (.bool qas), .d (.bool qas), .d (.bool qas), .d (.bool qas), .d (.bool qas), .d (.bool qas), .d (.bool qas), .d (.bool qas), .d (.bool qas), .d (.bool qas), .d (.bool qas), .d (.bool qas), .d (.bool qas), .d (.bool qas), .d (.bool qas), .d (.bool qas), .d (.bool qas), .d (.bool qas), .d (.bool qas), .d (.bool qas), .d (.bool qas), .d (.bool qas), .d (.bool qas), .d (.bool qas), .d (.bool qas), .d (.bool qas), .d (.bool qas), .d (.bool qas), .d (.bool qas), .d (.bool qas), .d (.bool qas), .d (.bool qas), .d (.bool qas), .d (.bool qas), .d (.bool qas), .d (.bool qas), .d (.bool qas), .d (.bool qas), .d (.bool qas), .d (.bool qas), .d (.bool qas), .d (.bool qas), .d (.bool qas), .d (.bool qas), .d (.bool qas), .d (.bool qas), .d (.bool qas), .d (.bool qas), .d (.bool qas), .d (.bool qas), .d (.bool qas), .d (.bool qas), .d (.bool qas), .d (.bool qas), .d (.bool qas), .d (.bool qas), .d (.bool qas), .d (.bool qas), .d (.bool qas), .d (.bool qas), .d (.bool qas), .d (.bool qas), .d (.bool qas), .d (.bool qas), .d (.bool qas), .d (.bool qas), .d (.bool qas), .d (.bool qas), .d (.bool qas), .d (.bool qas), .d (.bool qas), .d (.bool qas), .d (.bool qas), .d (.bool qas), .d (.bool qas), .d (.bool qas), .d (.bool qas), .d (.bool qas), .d (.bool qas), .d (.bool qas), .d (.bool qas), .d (.bool qas), .d (.bool qas), .d (.bool qas), .d (.bool qas), .d (.bool qas), .d (.bool qas), .d (.bool qas), .d (.bool qas), .d (.bool qas), .d (.bool qas), .d (.bool qas), .d (.bool qas), .d (.bool qas), .d (.bool qas), .d (.bool qas), .d (.bool qas), .d (.bool qas), .d (.bool qas), .d (.bool qas), .d (.bool qas), .d (.bool qas), .d (.bool qas), .d (.bool qas), .d (.bool qas), .d (.bool qas), .d (.bool qas), .d (.bool qas), .d (.bool qas), .d (.bool qas), .d (.bool qas), .d (.bool qas), .d (.bool qas), .d (.bool qas), .d (.bool qas), .d (.bool qas), .d (.bool qas), .d (.bool qas), .d (.bool qas), .d (.bool qas), .d (.bool qas), .d (.bool qas), .d (.bool qas), .d (.bool qas), .d (.bool qas), .d (.bool qas), .d (.bool qas), .d (.bool qas), .d (.bool qas), .d (.bool qas), .d (.bool qas), .d (.bool qas), .d (.bool qas), .d (.bool qas), .d (.bool qas), .d (.bool qas), .d (.bool qas), .d (.bool qas), .d (.bool qas), .d (.bool qas), .d (.bool qas), .d (.bool qas), .d (.bool qas), .d (.bool qas), .d (.bool qas), .d (.bool qas), .d (.bool qas), .d (.bool qas), .d (.bool qas), .d (.bool qas), .d (.bool qas), .d (.bool qas), .d (.bool qas), .d (.bool qas), .d (.bool qas), .d (.bool qas), .d (.bool qas), .d (.bool qas), .d (.bool qas), .d (.bool qas), .d (.bool qas), .d (.bool qas), .d (.bool qas), .d (.bool qas), .d (.bool qas), .d (.bool qas), .d (.bool qas), .d (.bool qas), .d (.bool qas), .d (.bool qas), .d (.bool qas), .d (.bool qas), .d (.bool qas), .d (.bool qas), .d (.bool qas), .d (.bool qas), .d (.bool qas), .d (.bool qas), .d (.bool qas), .d (.bool qas), .d (.bool qas), .d (.bool qas), .d (.bool qas), .d (.bool qas), .d (.bool qas), .d (.bool qas), .d (.bool qas), .d (.bool qas), .d (.bool qas), .d (.bool qas), .d (.bool qas), .d (.bool qas), .d (.bool qas), .d (.bool qas), .d (.bool qas), .d (.bool qas), .d (.bool qas), .d (.bool qas), .d (.bool qas), .d (.bool qas), .d (.bool qas), .d (.bool qas), .d (.bool qas), .d (.bool qas), .d (.bool qas), .d (.bool qas), .d (.bool qas), .d (.bool qas), .d (.bool qas), .d (.bool qas), .d (.bool qas), .d (.bool qas), .d (.bool qas), .d (.bool qas), .d (.bool qas), .d (.bool qas), .d (.bool qas), .d (.bool qas), .d (.bool qas), .d (.bool qas), .d (.bool qas), .d (.bool qas), .d (.bool qas), .d (.bool qas), .d (.bool qas), .d (.bool qas), .d (.bool qas), .d (.bool qas), .d (.bool qas), .d (.bool qas), .d (.bool qas), .d (.bool qas), .d (.bool qas), .d (.bool qas), .d (.bool qas), .d (.bool qas), .d (.bool qas), .d (.bool qas), .d (.bool qas), .d (.bool qas), .d (.bool qas), .d (.bool qas)])]⟩ (tl [(0, .v (.one (.d (.str qs))))]) 1

def z1095 (qs : List UInt8) (qas : Bool) : Unit → St
  | _ => Mem.st ⟨[], [(0, [.d (.bool qas), .d (.bool qas), .d (.bool qas), .d (.bool qas), .d (.bool qas), .d (.bool qas), .d (.bool qas), .d (.bool qas), .d (.bool qas), .d (.bool qas), .d (.bool qas), .d (.bool qas), .d (.bool qas), .d (.bool qas), .d (.bool qas), .d (.bool qas), .d (.bool qas), .d (.bool qas), .d (.bool qas), .d (.bool qas), .d (.bool qas), .d (.bool qas), .d (.bool qas), .d (.bool qas), .d (.bool qas), .d (.bool qas), .d (.bool qas), .d (.bool qas), .d (.bool qas), .d (.bool qas), .d (.bool qas), .d (.bool qas), .d (.bool qas), .d (.bool qas), .d (.bool qas), .d (.bool qas), .d (.bool qas), .d (.bool qas), .d (.bool qas), .d (.bool qas), .d (.bool qas), .d (.bool qas), .d (.bool qas), .d (.bool qas), .d (.bool qas), .d (.bool qas), .d (.bool qas), .d (.bool qas), .d (.bool qas), .d (.bool qas), .d (.bool qas), .d (.bool qas), .d (.bool qas), .d (.bool qas), .d (.bool qas), .d (.bool qas), .d (.bool qas), .d (.bool qas), .d (.bool qas), .d (.bool qas), .d (.bool qas), .d (.bool qas), .d (.bool qas), .d (.bool qas), .d (.bool qas), .d (.bool qas), .d (.bool qas), .d (.bool qas), .d (.bool qas), .d (.bool qas), .d (.bool qas), .d (.bool qas), .d (.bool qas), .d (.bool qas), .d (.bool qas), .d (.bool qas), .d (.bool qas), .d (.bool qas), .d (.bool qas), .d (.bool qas), .d (.bool qas), .d (.bool qas), .d (.bool qas), .d (.bool qas), .d (.bool qas), .d (.bool qas), .d (.bool qas), .d (.bool qas), .d (.bool qas), .d (.bool qas), .d (.bool qas), .d (.bool qas), .d (.bool qas), .d (.bool qas), .d (.bool qas), .d (.bool qas), .d (.bool qas), .d (.bool qas), .d (.bool qas), .d (.bool qas), .d (.bool qas), .d (.bool qas), .d (.bool qas), .d (.bool qas), .d (.bool qas), .d (.bool qas), .d (.bool qas), .d (.bool qas), .d (.bool qas), .d (.bool qas), .d (.bool qas), .d (.bool qas), .d (.bool qas), .d (.bool qas), .d (.bool qas), .d (.bool qas), .d (.bool qas), .d (.bool qas), .d (.bool qas), .d (.bool qas), .d (.bool qas), .d (.bool qas), .d (.bool qas), .d (.bool qas), .d (.bool qas), .d (.bool qas), .d (.bool qas), .d (.bool qas), .d (.bool qas), .d (.bool qas), .d (.bool qas), .d (.bool qas), .d (.bool qas), .d (.bool qas), .d (.bool qas), .d (.bool qas), .d (.bool qas), .d (.bool qas), .d (.bool qas), .d (.bool qas), .d (.bool qas), .d (.bool qas), .d (.bool qas), .d (.bool qas), .d (.bool qas), .d (.bool qas), .d (.bool qas), .d (.bool qas), .d (.bool qas), .d (.bool qas), .d (.bool qas), .d (.bool qas), .d (.bool qas), .d (.bool qas), .d (.bool qas), .d (.bool qas), .d (.bool qas), .d (.bool qas), .d (.bool qas), .d (.bool qas), .d (.bool qas), .d (.bool qas), .d (.bool qas), .d (.bool qas), .d (.bool qas), .d (.bool qas), .d (.bool qas), .d (.bool qas), .d (.bool qas), .d (.bool qas), .d (.bool qas), .d (.bool qas), .d (.bool qas), .d (.bool qas), .d (.bool qas), .d (.bool qas), .d (.bool qas), .d (.bool qas), .d (.bool qas), .d (.bool qas), .d (.bool qas), .d (.bool qas), .d (.bool qas), .d (.bool qas), .d (.bool qas), .d (.bool qas), .d (.bool qas), .d (.bool qas), .d (.bool qas), .d (.bool qas), .d (.bool qas), .d (.bool qas), .d (.bool qas), .d (.bool qas), .d (.bool qas), .d (.bool qas), .d (.bool qas), .d (.bool qas), .d (.bool qas), .d (.bool qas), .d (.bool qas), .d (.bool qas), .d (.bool qas), .d (.bool qas), .d (.bool qas), .d (.bool qas), .d (.bool qas), .d (.bool qas), .d (.bool qas), .d (.bool qas), .d (.bool qas), .d (.bool qas), .d (.bool qas), .d (.bool qas), .d (.bool qas), .d (.bool qas), .d (.bool qas), .d (.bool qas), .d (.bool qas), .d (.bool qas), .d (.bool qas), .d (.bool qas), .d (.bool qas), .d (.bool qas), .d (.bool qas), .d (.bool qas), .d (.bool qas), .d (.bool qas), .d (.bool qas), .d (.bool qas), .d (.bool qas), .d (.bool qas), .d (.bool qas), .d (.bool qas), .d (.bool qas), .d (.bool qas), .d (.bool qas), .d (.bool qas), .d (.bool qas), .d (.bool qas), .d (.bool qas), .d (.bool qas), .d (.bool qas), .d (.bool qas), .d (.bool qas), .d (.bool qas), .d (.bool qas), .d (.bool qas), .d (.bool qas), .d (.bool qas), .d (.bool qas), .d (.bool qas), .d (.bool qas), .d (.bool qas), .d (.bool qas), .d (.bool qas)])]⟩ (tl [(0, .v (.one (.d (.str qs)))), (1, .v (.one (.box 0 0)))]) 1

theorem z1098 (qs : List UInt8) (qas : Bool) (s : Unit) (r : (Unit) ⊕ (Unit)) (hF : z1094 qs s = some r) : Awp prog 1 22 (cL (cL (cL (cR (cB f63))))) (Out 1 (kk z1097) (SS (z1095 qs qas) (z1096 qs qas)) r) (z1095 qs qas s) := by
  unfold z1094 at hF
  refine awp_seq ?_
  refine awp_seq ?_
  refine awp_region ?_
  refine aR 3 ?_
  refine aE ?_
  refine cE hF (fun h1 hF => ?_) fun h1 hF => ?_
  · refine awp_true (by kernel_rfl) h1 ?_
    refine awp_skip ?_
    refine awp_block ?_
    refine awp_seq ?_
    refine awp_seq ?_
    refine bE hF fun vc1 h2 hF => ?_
    exact nE hF
  · refine awp_false (by kernel_rfl) h1 ?_
    refine awp_exit ?_
    exact oO hF [] [] rfl

def z1092 (qs : List UInt8) (qas : Bool) (r : Unit) : TV × Mem := (.v (.one (.d (.str qs))), ⟨[], [(0, [.d (.bool qas), .d (.bool qas), .d (.bool qas), .d (.bool qas), .d (.bool qas), .d (.bool qas), .d (.bool qas), .d (.bool qas), .d (.bool qas), .d (.bool qas), .d (.bool qas), .d (.bool qas), .d (.bool qas), .d (.bool qas), .d (.bool qas), .d (.bool qas), .d (.bool qas), .d (.bool qas), .d (.bool qas), .d (.bool qas), .d (.bool qas), .d (.bool qas), .d (.bool qas), .d (.bool qas), .d (.bool qas), .d (.bool qas), .d (.bool qas), .d (.bool qas), .d (.bool qas), .d (.bool qas), .d (.bool qas), .d (.bool qas), .d (.bool qas), .d (.bool qas), .d (.bool qas), .d (.bool qas), .d (.bool qas), .d (.bool qas), .d (.bool qas), .d (.bool qas), .d (.bool qas), .d (.bool qas), .d (.bool qas), .d (.bool qas), .d (.bool qas), .d (.bool qas), .d (.bool qas), .d (.bool qas), .d (.bool qas), .d (.bool qas), .d (.bool qas), .d (.bool qas), .d (.bool qas), .d (.bool qas), .d (.bool qas), .d (.bool qas), .d (.bool qas), .d (.bool qas), .d (.bool qas), .d (.bool qas), .d (.bool qas), .d (.bool qas), .d (.bool qas), .d (.bool qas), .d (.bool qas), .d (.bool qas), .d (.bool qas), .d (.bool qas), .d (.bool qas), .d (.bool qas), .d (.bool qas), .d (.bool qas), .d (.bool qas), .d (.bool qas), .d (.bool qas), .d (.bool qas), .d (.bool qas), .d (.bool qas), .d (.bool qas), .d (.bool qas), .d (.bool qas), .d (.bool qas), .d (.bool qas), .d (.bool qas), .d (.bool qas), .d (.bool qas), .d (.bool qas), .d (.bool qas), .d (.bool qas), .d (.bool qas), .d (.bool qas), .d (.bool qas), .d (.bool qas), .d (.bool qas), .d (.bool qas), .d (.bool qas), .d (.bool qas), .d (.bool qas), .d (.bool qas), .d (.bool qas), .d (.bool qas), .d (.bool qas), .d (.bool qas), .d (.bool qas), .d (.bool qas), .d (.bool qas), .d (.bool qas), .d (.bool qas), .d (.bool qas), .d (.bool qas), .d (.bool qas), .d (.bool qas), .d (.bool qas), .d (.bool qas), .d (.bool qas), .d (.bool qas), .d (.bool qas), .d (.bool qas), .d (.bool qas), .d (.bool qas), .d (.bool qas), .d (.bool qas), .d (.bool qas), .d (.bool qas), .d (.bool qas), .d (.bool qas), .d (.bool qas), .d (.bool qas), .d (.bool qas), .d (.bool qas), .d (.bool qas), .d (.bool qas), .d (.bool qas), .d (.bool qas), .d (.bool qas), .d (.bool qas), .d (.bool qas), .d (.bool qas), .d (.bool qas), .d (.bool qas), .d (.bool qas), .d (.bool qas), .d (.bool qas), .d (.bool qas), .d (.bool qas), .d (.bool qas), .d (.bool qas), .d (.bool qas), .d (.bool qas), .d (.bool qas), .d (.bool qas), .d (.bool qas), .d (.bool qas), .d (.bool qas), .d (.bool qas), .d (.bool qas), .d (.bool qas), .d (.bool qas), .d (.bool qas), .d (.bool qas), .d (.bool qas), .d (.bool qas), .d (.bool qas), .d (.bool qas), .d (.bool qas), .d (.bool qas), .d (.bool qas), .d (.bool qas), .d (.bool qas), .d (.bool qas), .d (.bool qas), .d (.bool qas), .d (.bool qas), .d (.bool qas), .d (.bool qas), .d (.bool qas), .d (.bool qas), .d (.bool qas), .d (.bool qas), .d (.bool qas), .d (.bool qas), .d (.bool qas), .d (.bool qas), .d (.bool qas), .d (.bool qas), .d (.bool qas), .d (.bool qas), .d (.bool qas), .d (.bool qas), .d (.bool qas), .d (.bool qas), .d (.bool qas), .d (.bool qas), .d (.bool qas), .d (.bool qas), .d (.bool qas), .d (.bool qas), .d (.bool qas), .d (.bool qas), .d (.bool qas), .d (.bool qas), .d (.bool qas), .d (.bool qas), .d (.bool qas), .d (.bool qas), .d (.bool qas), .d (.bool qas), .d (.bool qas), .d (.bool qas), .d (.bool qas), .d (.bool qas), .d (.bool qas), .d (.bool qas), .d (.bool qas), .d (.bool qas), .d (.bool qas), .d (.bool qas), .d (.bool qas), .d (.bool qas), .d (.bool qas), .d (.bool qas), .d (.bool qas), .d (.bool qas), .d (.bool qas), .d (.bool qas), .d (.bool qas), .d (.bool qas), .d (.bool qas), .d (.bool qas), .d (.bool qas), .d (.bool qas), .d (.bool qas), .d (.bool qas), .d (.bool qas), .d (.bool qas), .d (.bool qas), .d (.bool qas), .d (.bool qas), .d (.bool qas), .d (.bool qas), .d (.bool qas), .d (.bool qas), .d (.bool qas), .d (.bool qas), .d (.bool qas), .d (.bool qas), .d (.bool qas), .d (.bool qas), .d (.bool qas), .d (.bool qas), .d (.bool qas), .d (.bool qas), .d (.bool qas), .d (.bool qas), .d (.bool qas), .d (.bool qas)])]⟩)

theorem z1093 {qs : List UInt8} {qas : Bool} {r} (hF : z1091 qs qas = some r) : Holds prog 63 [.v (.one (.d (.str qs))), .v (.one (.box 0 0))] ⟨[], [(0, [.d (.bool qas), .d (.bool qas), .d (.bool qas), .d (.bool qas), .d (.bool qas), .d (.bool qas), .d (.bool qas), .d (.bool qas), .d (.bool qas), .d (.bool qas), .d (.bool qas), .d (.bool qas), .d (.bool qas), .d (.bool qas), .d (.bool qas), .d (.bool qas), .d (.bool qas), .d (.bool qas), .d (.bool qas), .d (.bool qas), .d (.bool qas), .d (.bool qas), .d (.bool qas), .d (.bool qas), .d (.bool qas), .d (.bool qas), .d (.bool qas), .d (.bool qas), .d (.bool qas), .d (.bool qas), .d (.bool qas), .d (.bool qas), .d (.bool qas), .d (.bool qas), .d (.bool qas), .d (.bool qas), .d (.bool qas), .d (.bool qas), .d (.bool qas), .d (.bool qas), .d (.bool qas), .d (.bool qas), .d (.bool qas), .d (.bool qas), .d (.bool qas), .d (.bool qas), .d (.bool qas), .d (.bool qas), .d (.bool qas), .d (.bool qas), .d (.bool qas), .d (.bool qas), .d (.bool qas), .d (.bool qas), .d (.bool qas), .d (.bool qas), .d (.bool qas), .d (.bool qas), .d (.bool qas), .d (.bool qas), .d (.bool qas), .d (.bool qas), .d (.bool qas), .d (.bool qas), .d (.bool qas), .d (.bool qas), .d (.bool qas), .d (.bool qas), .d (.bool qas), .d (.bool qas), .d (.bool qas), .d (.bool qas), .d (.bool qas), .d (.bool qas), .d (.bool qas), .d (.bool qas), .d (.bool qas), .d (.bool qas), .d (.bool qas), .d (.bool qas), .d (.bool qas), .d (.bool qas), .d (.bool qas), .d (.bool qas), .d (.bool qas), .d (.bool qas), .d (.bool qas), .d (.bool qas), .d (.bool qas), .d (.bool qas), .d (.bool qas), .d (.bool qas), .d (.bool qas), .d (.bool qas), .d (.bool qas), .d (.bool qas), .d (.bool qas), .d (.bool qas), .d (.bool qas), .d (.bool qas), .d (.bool qas), .d (.bool qas), .d (.bool qas), .d (.bool qas), .d (.bool qas), .d (.bool qas), .d (.bool qas), .d (.bool qas), .d (.bool qas), .d (.bool qas), .d (.bool qas), .d (.bool qas), .d (.bool qas), .d (.bool qas), .d (.bool qas), .d (.bool qas), .d (.bool qas), .d (.bool qas), .d (.bool qas), .d (.bool qas), .d (.bool qas), .d (.bool qas), .d (.bool qas), .d (.bool qas), .d (.bool qas), .d (.bool qas), .d (.bool qas), .d (.bool qas), .d (.bool qas), .d (.bool qas), .d (.bool qas), .d (.bool qas), .d (.bool qas), .d (.bool qas), .d (.bool qas), .d (.bool qas), .d (.bool qas), .d (.bool qas), .d (.bool qas), .d (.bool qas), .d (.bool qas), .d (.bool qas), .d (.bool qas), .d (.bool qas), .d (.bool qas), .d (.bool qas), .d (.bool qas), .d (.bool qas), .d (.bool qas), .d (.bool qas), .d (.bool qas), .d (.bool qas), .d (.bool qas), .d (.bool qas), .d (.bool qas), .d (.bool qas), .d (.bool qas), .d (.bool qas), .d (.bool qas), .d (.bool qas), .d (.bool qas), .d (.bool qas), .d (.bool qas), .d (.bool qas), .d (.bool qas), .d (.bool qas), .d (.bool qas), .d (.bool qas), .d (.bool qas), .d (.bool qas), .d (.bool qas), .d (.bool qas), .d (.bool qas), .d (.bool qas), .d (.bool qas), .d (.bool qas), .d (.bool qas), .d (.bool qas), .d (.bool qas), .d (.bool qas), .d (.bool qas), .d (.bool qas), .d (.bool qas), .d (.bool qas), .d (.bool qas), .d (.bool qas), .d (.bool qas), .d (.bool qas), .d (.bool qas), .d (.bool qas), .d (.bool qas), .d (.bool qas), .d (.bool qas), .d (.bool qas), .d (.bool qas), .d (.bool qas), .d (.bool qas), .d (.bool qas), .d (.bool qas), .d (.bool qas), .d (.bool qas), .d (.bool qas), .d (.bool qas), .d (.bool qas), .d (.bool qas), .d (.bool qas), .d (.bool qas), .d (.bool qas), .d (.bool qas), .d (.bool qas), .d (.bool qas), .d (.bool qas), .d (.bool qas), .d (.bool qas), .d (.bool qas), .d (.bool qas), .d (.bool qas), .d (.bool qas), .d (.bool qas), .d (.bool qas), .d (.bool qas), .d (.bool qas), .d (.bool qas), .d (.bool qas), .d (.bool qas), .d (.bool qas), .d (.bool qas), .d (.bool qas), .d (.bool qas), .d (.bool qas), .d (.bool qas), .d (.bool qas), .d (.bool qas), .d (.bool qas), .d (.bool qas), .d (.bool qas), .d (.bool qas), .d (.bool qas), .d (.bool qas), .d (.bool qas), .d (.bool qas), .d (.bool qas), .d (.bool qas), .d (.bool qas), .d (.bool qas), .d (.bool qas), .d (.bool qas), .d (.bool qas), .d (.bool qas), .d (.bool qas), .d (.bool qas), .d (.bool qas), .d (.bool qas), .d (.bool qas), .d (.bool qas), .d (.bool qas)])]⟩ (Is (z1092 qs qas r)) := by
  unfold z1091 at hF
  refine holds_of_awp hΓ (fn := f63) (c := cB f63) (A := 1) (nx := 1) (by kernel_rfl) (by kernel_rfl) (by kernel_rfl) (by kernel_rfl) (by kernel_rfl) (by kernel_rfl) (lowc_of (by kernel_rfl)) ?_
  show Awp prog 1 22 (cB f63) _ _
  refine awp_seq ?_
  refine awp_region ?_
  refine aR 1 ?_
  refine aE ?_
  refine awp_seq ?_
  refine awp_block ?_
  refine awp_to (st' := z1095 qs qas ()) (oT [] []) ?_
  refine bE hF fun _ h3 hF => ?_
  refine awp_sub (awp_loop' (z1095 qs qas) z1097 (z1096 qs qas) (by intro x; exact fun h => nomatch h) h3 (z1098 qs qas)) ?_
  refine awp_seq ?_
  refine awp_region ?_
  refine aR 2 ?_
  refine aE ?_
  refine awp_ret ?_
  exact oF hF [] []

/-! ### strings.trimLeftASCII -/
def z1068 : Unit → AEx
  | _ => .exit 0

def z1067 (qs : List UInt8) (qas : Bool) : Unit → St
  | _ => Mem.st ⟨[], [(0, [.d (.bool qas), .d (.bool qas), .d (.bool qas), .d (.bool qas), .d (.bool qas), .d (.bool qas), .d (.bool qas), .d (.bool qas), .d (.bool qas), .d (.bool qas), .d (.bool qas), .d (.bool qas), .d (.bool qas), .d (.bool qas), .d (.bool qas), .d (.bool qas), .d (.bool qas), .d (.bool qas), .d (.bool qas), .d (.bool qas), .d (.bool qas), .d (.bool qas), .d (.bool qas), .d (.bool qas), .d (.bool qas), .d (.bool qas), .d (.bool qas), .d (.bool qas), .d (.bool qas), .d (.bool qas), .d (.bool qas), .d (.bool qas), .d (.bool qas), .d (.bool qas), .d (.bool qas), .d (.bool qas), .d (.bool qas), .d (.bool qas), .d (.bool qas), .d (.bool qas), .d (.bool qas), .d (.bool qas), .d (.bool qas), .d (.bool qas), .d (.bool qas), .d (.bool qas), .d (.bool qas), .d (.bool qas), .d (.bool qas), .d (.bool qas), .d (.bool qas), .d (.bool qas), .d (.bool qas), .d (.bool qas), .d (.bool qas), .d (.bool qas), .d (.bool qas), .d (.bool qas), .d (.bool qas), .d (.bool qas), .d (.bool qas), .d (.bool qas), .d (.bool qas), .d (.bool qas), .d (.bool qas), .d (.bool qas), .d (.bool qas), .d (.bool qas), .d (.bool qas), .d (.bool qas), .d (.bool qas), .d (.bool qas), .d (.bool qas), .d (.bool qas), .d (.bool qas), .d (.bool qas), .d (.bool qas), .d (.bool qas), .d (.bool qas), .d (.bool qas), .d (.bool qas), .d (.bool qas), .d (.bool qas), .d (.bool qas), .d (.bool qas), .d (.bool qas), .d (.bool qas), .d (.bool qas), .d (.bool qas), .d (.bool qas), .d (.bool qas), .d (.bool qas), .d (.bool qas), .d (.bool qas), .d (.bool qas), .d (.bool qas), .d (.bool qas), .d (.bool qas), .d (.bool qas), .d (.bool qas), .d (.bool qas), .d (.bool qas), .d (.bool qas), .d (.bool qas), .d (.bool qas), .d (.bool qas), .d (.bool qas), .d (.bool qas), .d (.bool qas), .d (.bool qas), .d (.bool qas), .d (.bool qas), .d (.bool qas), .d (.bool qas), .d (.bool qas), .d (.bool qas), .d (.bool qas), .d (.bool qas), .d (.bool qas), .d (.bool qas), .d (.bool qas), .d (.bool qas), .d (.bool qas), .d (.bool qas), .d (.bool qas), .d (.bool qas), .d (.bool qas), .d (.bool qas), .d (.bool qas), .d (.bool qas), .d (.bool qas), .d (.bool qas), .d (.bool qas), .d (.bool qas), .d (.bool qas), .d (.bool qas), .d (.bool qas), .d (.bool qas), .d (.bool qas), .d (.bool qas), .d (.bool qas), .d (.bool qas), .d (.bool qas), .d (.bool qas), .d (.bool qas), .d (.bool qas), .d (.bool qas), .d (.bool qas), .d (.bool qas), .d (.bool qas), .d (.bool qas), .d (.bool qas), .d (.bool qas), .d (.bool qas), .d (.bool qas), .d (.bool qas), .d (.bool qas), .d (.bool qas), .d (.bool qas), .d (.bool qas), .d (.bool qas), .d (.bool qas), .d (.bool qas), .d (.bool qas), .d (.bool qas), .d (.bool qas), .d (.bool qas), .d (.bool qas), .d (.bool qas), .d (.bool qas), .d (.bool qas), .d (.bool qas), .d (.bool qas), .d (.bool qas), .d (.bool qas), .d (.bool qas), .d (.bool qas), .d (.bool qas), .d (.bool qas), .d (.bool qas), .d (.bool qas), .d (.bool qas), .d (.bool qas), .d (.bool qas), .d (.bool qas), .d (.bool qas), .d (.bool qas), .d (.bool qas), .d (.bool qas), .d (.bool qas), .d (.bool qas), .d (.bool qas), .d (.bool qas), .d (.bool qas), .d (.bool qas), .d (.bool qas), .d (.bool qas), .d (.bool qas), .d (.bool qas), .d (.bool qas), .d (.bool qas), .d (.bool qas), .d (.bool qas), .d (.bool qas), .d (.bool qas), .d (.bool qas), .d (.bool qas), .d (.bool qas), .d (.bool qas), .d (.bool qas), .d (.bool qas), .d (.bool qas), .d (.bool qas), .d (.bool qas), .d (.bool qas), .d (.bool qas), .d (.bool qas), .d (.bool qas), .d (.bool qas), .d (.bool qas), .d (.bool qas), .d (.bool qas), .d (.bool qas), .d (.bool qas), .d (.bool qas), .d (.bool qas), .d (.bool qas), .d (.bool qas), .d (.bool qas), .d (.bool qas), .d (.bool qas), .d (.bool qas), .d (.bool qas), .d (.bool qas), .d (.bool qas), .d (.bool qas), .d (.bool qas), .d (.bool qas), .d (.bool qas), .d (.bool qas), .d (.bool qas), .d (.bool qas), .d (.bool qas), .d (.bool qas), .d (.bool qas), .d (.bool qas), .d (.bool qas), .d (.bool qas), .d (.bool qas), .d (.bool qas), .d (.bool qas), .d (.bool qas), .d (.bool qas), .d (.bool qas), .d (.bool qas), .d (.bool qas)])]⟩ (tl [(0, .v (.one (.d (.str qs))))]) 1

def z1066 (qs : List UInt8) (qas : Bool) : Unit → St
  | _ => Mem.st ⟨[], [(0, [.d (.bool qas), .d (.bool qas), .d (.bool qas), .d (.bool qas), .d (.bool qas), .d (.bool qas), .d (.bool qas), .d (.bool qas), .d (.bool qas), .d (.bool qas), .d (.bool qas), .d (.bool qas), .d (.bool qas), .d (.bool qas), .d (.bool qas), .d (.bool qas), .d (.bool qas), .d (.bool qas), .d (.bool qas), .d (.bool qas), .d (.bool qas), .d (.bool qas), .d (.bool qas), .d (.bool qas), .d (.bool qas), .d (.bool qas), .d (.bool qas), .d (.bool qas), .d (.bool qas), .d (.bool qas), .d (.bool qas), .d (.bool qas), .d (.bool qas), .d (.bool qas), .d (.bool qas), .d (.bool qas), .d (.bool qas), .d (.bool qas), .d (.bool qas), .d (.bool qas), .d (.bool qas), .d (.bool qas), .d (.bool qas), .d (.bool qas), .d (.bool qas), .d (.bool qas), .d (.bool qas), .d (.bool qas), .d (.bool qas), .d (.bool qas), .d (.bool qas), .d (.bool qas), .d (.bool qas), .d (.bool qas), .d (.bool qas), .d (.bool qas), .d (.bool qas), .d (.bool qas), .d (.bool qas), .d (.bool qas), .d (.bool qas), .d (.bool qas), .d (.bool qas), .d (.bool qas), .d (.bool qas), .d (.bool qas), .d (.bool qas), .d (.bool qas), .d (.bool qas), .d (.bool qas), .d (.bool qas), .d (.bool qas), .d (.bool qas), .d (.bool qas), .d (.bool qas), .d (.bool qas), .d (.bool qas), .d (.bool qas), .d (.bool qas), .d (.bool qas), .d (.bool qas), .d (.bool qas), .d (.bool qas), .d (.bool qas), .d (.bool qas), .d (.bool qas), .d (.bool qas), .d (.bool qas), .d (.bool qas), .d (.bool qas), .d (.bool qas), .d (.bool qas), .d (.bool qas), .d (.bool qas), .d (.bool qas), .d (.bool qas), .d (.bool qas), .d (.bool qas), .d (.bool qas), .d (.bool qas), .d (.bool qas), .d (.bool qas), .d (.bool qas), .d (.bool qas), .d (.bool qas), .d (.bool qas), .d (.bool qas), .d (.bool qas), .d (.bool qas), .d (.bool qas), .d (.bool qas), .d (.bool qas), .d (.bool qas), .d (.bool qas), .d (.bool qas), .d (.bool qas), .d (.bool qas), .d (.bool qas), .d (.bool qas), .d (.bool qas), .d (.bool qas), .d (.bool qas), .d (.bool qas), .d (.bool qas), .d (.bool qas), .d (.bool qas), .d (.bool qas), .d (.bool qas), .d (.bool qas), .d (.bool qas), .d (.bool qas), .d (.bool qas), .d (.bool qas), .d (.bool qas), .d (.bool qas), .d (.bool qas), .d (.bool qas), .d (.bool qas), .d (.bool qas), .d (.bool qas), .d (.bool qas), .d (.bool qas), .d (.bool qas), .d (.bool qas), .d (.bool qas), .d (.bool qas), .d (.bool qas), .d (.bool qas), .d (.bool qas), .d (.bool qas), .d (.bool qas), .d (.bool qas), .d (.bool qas), .d (.bool qas), .d (.bool qas), .d (.bool qas), .d (.bool qas), .d (.bool qas), .d (.bool qas), .d (.bool qas), .d (.bool qas), .d (.bool qas), .d (.bool qas), .d (.bool qas), .d (.bool qas), .d (.bool qas), .d (.bool qas), .d (.bool qas), .d (.bool qas), .d (.bool qas), .d (.bool qas), .d (.bool qas), .d (.bool qas), .d (.bool qas), .d (.bool qas), .d (.bool qas), .d (.bool qas), .d (.bool qas), .d (.bool qas), .d (.bool qas), .d (.bool qas), .d (.bool qas), .d (.bool qas), .d (.bool qas), .d (.bool qas), .d (.bool qas), .d (.bool qas), .d (.bool qas), .d (.bool qas), .d (.bool qas), .d (.bool qas), .d (.bool qas), .d (.bool qas), .d (.bool qas), .d (.bool qas), .d (.bool qas), .d (.bool qas), .d (.bool qas), .d (.bool qas), .d (.bool qas), .d (.bool qas), .d (.bool qas), .d (.bool qas), .d (.bool qas), .d (.bool qas), .d (.bool qas), .d (.bool qas), .d (.bool qas), .d (.bool qas), .d (.bool qas), .d (.bool qas), .d (.bool qas), .d (.bool qas), .d (.bool qas), .d (.bool qas), .d (.bool qas), .d (.bool qas), .d (.bool qas), .d (.bool qas), .d (.bool qas), .d (.bool qas), .d (.bool qas), .d (.bool qas), .d (.bool qas), .d (.bool qas), .d (.bool qas), .d (.bool qas), .d (.bool qas), .d (.bool qas), .d (.bool qas), .d (.bool qas), .d (.bool qas), .d (.bool qas), .d (.bool qas), .d (.bool qas), .d (.bool qas), .d (.bool qas), .d (.bool qas), .d (.bool qas), .d (.bool qas), .d (.bool qas), .d (.bool qas), .d (.bool qas), .d (.bool qas), .d (.bool qas), .d (.bool qas), .d (.bool qas), .d (.bool qas), .d (.bool qas), .d (.bool qas), .d (.bool qas), .d (.bool qas), .d (.bool qas), .d (.bool qas), .d (.bool qas), .d (.bool qas)])]⟩ (tl [(0, .v (.one (.d (.str qs)))), (1, .v (.one (.box 0 0)))]) 1

theorem z1069 (qs : List UInt8) (qas : Bool) (s : Unit) (r : (Unit) ⊕ (Unit)) (hF : z1065 qs s = some r) : Awp prog 1 16 (cL (cL (cL (cR (cB f62))))) (Out 1 (kk z1068) (SS (z1066 qs qas) (z1067 qs qas)) r) (z1066 qs qas s) := by
  unfold z1065 at hF
  refine awp_seq ?_
  refine awp_seq ?_
  refine awp_region ?_
  refine aR 3 ?_
  refine aE ?_
  refine cE hF (fun h1 hF => ?_) fun h1 hF => ?_
  · refine awp_true (by kernel_rfl) h1 ?_
    refine awp_skip ?_
    refine awp_block ?_
    refine awp_seq ?_
    refine awp_seq ?_
    refine bE hF fun vc1 h2 hF => ?_
    exact nE hF
  · refine awp_false (by kernel_rfl) h1 ?_
    refine awp_exit ?_
    exact oO hF [] [] rfl

def z1063 (qs : List UInt8) (qas : Bool) (r : Unit) : TV × Mem := (.v (.one (.d (.str qs))), ⟨[], [(0, [.d (.bool qas), .d (.bool qas), .d (.bool qas), .d (.bool qas), .d (.bool qas), .d (.bool qas), .d (.bool qas), .d (.bool qas), .d (.bool qas), .d (.bool qas), .d (.bool qas), .d (.bool qas), .d (.bool qas), .d (.bool qas), .d (.bool qas), .d (.bool qas), .d (.bool qas), .d (.bool qas), .d (.bool qas), .d (.bool qas), .d (.bool qas), .d (.bool qas), .d (.bool qas), .d (.bool qas), .d (.bool qas), .d (.bool qas), .d (.bool qas), .d (.bool qas), .d (.bool qas), .d (.bool qas), .d (.bool qas), .d (.bool qas), .d (.bool qas), .d (.bool qas), .d (.bool qas), .d (.bool qas), .d (.bool qas), .d (.bool qas), .d (.bool qas), .d (.bool qas), .d (.bool qas), .d (.bool qas), .d (.bool qas), .d (.bool qas), .d (.bool qas), .d (.bool qas), .d (.bool qas), .d (.bool qas), .d (.bool qas), .d (.bool qas), .d (.bool qas), .d (.bool qas), .d (.bool qas), .d (.bool qas), .d (.bool qas), .d (.bool qas), .d (.bool qas), .d (.bool qas), .d (.bool qas), .d (.bool qas), .d (.bool qas), .d (.bool qas), .d (.bool qas), .d (.bool qas), .d (.bool qas), .d (.bool qas), .d (.bool qas), .d (.bool qas), .d (.bool qas), .d (.bool qas), .d (.bool qas), .d (.bool qas), .d (.bool qas), .d (.bool qas), .d (.bool qas), .d (.bool qas), .d (.bool qas), .d (.bool qas), .d (.bool qas), .d (.bool qas), .d (.bool qas), .d (.bool qas), .d (.bool qas), .d (.bool qas), .d (.bool qas), .d (.bool qas), .d (.bool qas), .d (.bool qas), .d (.bool qas), .d (.bool qas), .d (.bool qas), .d (.bool qas), .d (.bool qas), .d (.bool qas), .d (.bool qas), .d (.bool qas), .d (.bool qas), .d (.bool qas), .d (.bool qas), .d (.bool qas), .d (.bool qas), .d (.bool qas), .d (.bool qas), .d (.bool qas), .d (.bool qas), .d (.bool qas), .d (.bool qas), .d (.bool qas), .d (.bool qas), .d (.bool qas), .d (.bool qas), .d (.bool qas), .d (.bool qas), .d (.bool qas), .d (.bool qas), .d (.bool qas), .d (.bool qas), .d (.bool qas), .d (.bool qas), .d (.bool qas), .d (.bool qas), .d (.bool qas), .d (.bool qas), .d (.bool qas), .d (.bool qas), .d (.bool qas), .d (.bool qas), .d (.bool qas), .d (.bool qas), .d (.bool qas), .d (.bool qas), .d (.bool qas), .d (.bool qas), .d (.bool qas), .d (.bool qas), .d (.bool qas), .d (.bool qas), .d (.bool qas), .d (.bool qas), .d (.bool qas), .d (.bool qas), .d (.bool qas), .d (.bool qas), .d (.bool qas), .d (.bool qas), .d (.bool qas), .d (.bool qas), .d (.bool qas), .d (.bool qas), .d (.bool qas), .d (.bool qas), .d (.bool qas), .d (.bool qas), .d (.bool qas), .d (.bool qas), .d (.bool qas), .d (.bool qas), .d (.bool qas), .d (.bool qas), .d (.bool qas), .d (.bool qas), .d (.bool qas), .d (.bool qas), .d (.bool qas), .d (.bool qas), .d (.bool qas), .d (.bool qas), .d (.bool qas), .d (.bool qas), .d (.bool qas), .d (.bool qas), .d (.bool qas), .d (.bool qas), .d (.bool qas), .d (.bool qas), .d (.bool qas), .d (.bool qas), .d (.bool qas), .d (.bool qas), .d (.bool qas), .d (.bool qas), .d (.bool qas), .d (.bool qas), .d (.bool qas), .d (.bool qas), .d (.bool qas), .d (.bool qas), .d (.bool qas), .d (.bool qas), .d (.bool qas), .d (.bool qas), .d (.bool qas), .d (.bool qas), .d (.bool qas), .d (.bool qas), .d (.bool qas), .d (.bool qas), .d (.bool qas), .d (.bool qas), .d (.bool qas), .d (.bool qas), .d (.bool qas), .d (.bool qas), .d (.bool qas), .d (.bool qas), .d (.bool qas), .d (.bool qas), .d (.bool qas), .d (.bool qas), .d (.bool qas), .d (.bool qas), .d (.bool qas), .d (.bool qas), .d (.bool qas), .d (.bool qas), .d (.bool qas), .d (.bool qas), .d (.bool qas), .d (.bool qas), .d (.bool qas), .d (.bool qas), .d (.bool qas), .d (.bool qas), .d (.bool qas), .d (.bool qas), .d (.bool qas), .d (.bool qas), .d (.bool qas), .d (.bool qas), .d (.bool qas), .d (.bool qas), .d (.bool qas), .d (.bool qas), .d (.bool qas), .d (.bool qas), .d (.bool qas), .d (.bool qas), .d (.bool qas), .d (.bool qas), .d (.bool qas), .d (.bool qas), .d (.bool qas), .d (.bool qas), .d (.bool qas), .d (.bool qas), .d (.bool qas), .d (.bool qas), .d (.bool qas), .d (.bool qas), .d (.bool qas), .d (.bool qas), .d (.bool qas), .d (.bool qas), .d (.bool qas), .d (.bool qas), .d (.bool qas)])]⟩)

theorem z1064 {qs : List UInt8} {qas : Bool} {r} (hF : z1062 qs qas = some r) : Holds prog 62 [.v (.one (.d (.str qs))), .v (.one (.box 0 0))] ⟨[], [(0, [.d (.bool qas), .d (.bool qas), .d (.bool qas), .d (.bool qas), .d (.bool qas), .d (.bool qas), .d (.bool qas), .d (.bool qas), .d (.bool qas), .d (.bool qas), .d (.bool qas), .d (.bool qas), .d (.bool qas), .d (.bool qas), .d (.bool qas), .d (.bool qas), .d (.bool qas), .d (.bool qas), .d (.bool qas), .d (.bool qas), .d (.bool qas), .d (.bool qas), .d (.bool qas), .d (.bool qas), .d (.bool qas), .d (.bool qas), .d (.bool qas), .d (.bool qas), .d (.bool qas), .d (.bool qas), .d (.bool qas), .d (.bool qas), .d (.bool qas), .d (.bool qas), .d (.bool qas), .d (.bool qas), .d (.bool qas), .d (.bool qas), .d (.bool qas), .d (.bool qas), .d (.bool qas), .d (.bool qas), .d (.bool qas), .d (.bool qas), .d (.bool qas), .d (.bool qas), .d (.bool qas), .d (.bool qas), .d (.bool qas), .d (.bool qas), .d (.bool qas), .d (.bool qas), .d (.bool qas), .d (.bool qas), .d (.bool qas), .d (.bool qas), .d (.bool qas), .d (.bool qas), .d (.bool qas), .d (.bool qas), .d (.bool qas), .d (.bool qas), .d (.bool qas), .d (.bool qas), .d (.bool qas), .d (.bool qas), .d (.bool qas), .d (.bool qas), .d (.bool qas), .d (.bool qas), .d (.bool qas), .d (.bool qas), .d (.bool qas), .d (.bool qas), .d (.bool qas), .d (.bool qas), .d (.bool qas), .d (.bool qas), .d (.bool qas), .d (.bool qas), .d (.bool qas), .d (.bool qas), .d (.bool qas), .d (.bool qas), .d (.bool qas), .d (.bool qas), .d (.bool qas), .d (.bool qas), .d (.bool qas), .d (.bool qas), .d (.bool qas), .d (.bool qas), .d (.bool qas), .d (.bool qas), .d (.bool qas), .d (.bool qas), .d (.bool qas), .d (.bool qas), .d (.bool qas), .d (.bool qas), .d (.bool qas), .d (.bool qas), .d (.bool qas), .d (.bool qas), .d (.bool qas), .d (.bool qas), .d (.bool qas), .d (.bool qas), .d (.bool qas), .d (.bool qas), .d (.bool qas), .d (.bool qas), .d (.bool qas), .d (.bool qas), .d (.bool qas), .d (.bool qas), .d (.bool qas), .d (.bool qas), .d (.bool qas), .d (.bool qas), .d (.bool qas), .d (.bool qas), .d (.bool qas), .d (.bool qas), .d (.bool qas), .d (.bool qas), .d (.bool qas), .d (.bool qas), .d (.bool qas), .d (.bool qas), .d (.bool qas), .d (.bool qas), .d (.bool qas), .d (.bool qas), .d (.bool qas), .d (.bool qas), .d (.bool qas), .d (.bool qas), .d (.bool qas), .d (.bool qas), .d (.bool qas), .d (.bool qas), .d (.bool qas), .d (.bool qas), .d (.bool qas), .d (.bool qas), .d (.bool qas), .d (.bool qas), .d (.bool qas), .d (.bool qas), .d (.bool qas), .d (.bool qas), .d (.bool qas), .d (.bool qas), .d (.bool qas), .d (.bool qas), .d (.bool qas), .d (.bool qas), .d (.bool qas), .d (.bool qas), .d (.bool qas), .d (.bool qas), .d (.bool qas), .d (.bool qas), .d (.bool qas), .d (.bool qas), .d (.bool qas), .d (.bool qas), .d (.bool qas), .d (.bool qas), .d (.bool qas), .d (.bool qas), .d (.bool qas), .d (.bool qas), .d (.bool qas), .d (.bool qas), .d (.bool qas), .d (.bool qas), .d (.bool qas), .d (.bool qas), .d (.bool qas), .d (.bool qas), .d (.bool qas), .d (.bool qas), .d (.bool qas), .d (.bool qas), .d (.bool qas), .d (.bool qas), .d (.bool qas), .d (.bool qas), .d (.bool qas), .d (.bool qas), .d (.bool qas), .d (.bool qas), .d (.bool qas), .d (.bool qas), .d (.bool qas), .d (.bool qas), .d (.bool qas), .d (.bool qas), .d (.bool qas), .d (.bool qas), .d (.bool qas), .d (.bool qas), .d (.bool qas), .d (.bool qas), .d (.bool qas), .d (.bool qas), .d (.bool qas), .d (.bool qas), .d (.bool qas), .d (.bool qas), .d (.bool qas), .d (.bool qas), .d (.bool qas), .d (.bool qas), .d (.bool qas), .d (.bool qas), .d (.bool qas), .d (.bool qas), .d (.bool qas), .d (.bool qas), .d (.bool qas), .d (.bool qas), .d (.bool qas), .d (.bool qas), .d (.bool qas), .d (.bool qas), .d (.bool qas), .d (.bool qas), .d (.bool qas), .d (.bool qas), .d (.bool qas), .d (.bool qas), .d (.bool qas), .d (.bool qas), .d (.bool qas), .d (.bool qas), .d (.bool qas), .d (.bool qas), .d (.bool qas), .d (.bool qas), .d (.bool qas), .d (.bool qas), .d (.bool qas), .d (.bool qas), .d (.bool qas), .d (.bool qas), .d (.bool qas), .d (.bool qas), .d (.bool qas), .d (.bool qas), .d (.bool qas), .d (.bool qas), .d (.bool qas), .d (.bool qas)])]⟩ (Is (z1063 qs qas r)) := by
  unfold z1062 at hF
  refine holds_of_awp hΓ (fn := f62) (c := cB f62) (A := 1) (nx := 1) (by kernel_rfl) (by kernel_rfl) (by kernel_rfl) (by kernel_rfl) (by kernel_rfl) (by kernel_rfl) (lowc_of (by kernel_rfl)) ?_
  show Awp prog 1 16 (cB f62) _ _
  refine awp_seq ?_
  refine awp_region ?_
  refine aR 1 ?_
  refine aE ?_
  refine awp_seq ?_
  refine awp_block ?_
  refine awp_to (st' := z1066 qs qas ()) (oT [] []) ?_
  refine bE hF fun _ h3 hF => ?_
  refine awp_sub (awp_loop' (z1066 qs qas) z1068 (z1067 qs qas) (by intro x; exact fun h => nomatch h) h3 (z1069 qs qas)) ?_
  refine awp_seq ?_
  refine awp_region ?_
  refine aR 2 ?_
  refine aE ?_
  refine awp_ret ?_
  exact oF hF [] []

/-! ### unicode/utf8.RuneStart -/
def z1270 (qb : Int) (r : Unit) : TV × Mem := (.v (.one (.d (.bool (!decide ((ibits .and .u8 qb 192) = 128))))), ⟨[], []⟩)

theorem z1271 {qb : Int} {r} (hF : z1269 qb = some r) : Holds prog 123 [.v (.one (.d (.int .u8 qb)))] ⟨[], []⟩ (Is (z1270 qb r)) := by
  unfold z1269 at hF
  refine holds_of_awp hΓ (fn := f123) (c := cB f123) (A := 0) (nx := 0) (by kernel_rfl) (by kernel_rfl) (by kernel_rfl) (by kernel_rfl) (by kernel_rfl) (by kernel_rfl) (lowc_of (by kernel_rfl)) ?_
  show Awp prog 0 6 (cB f123) _ _
  refine awp_seq ?_
  refine awp_region ?_
  refine aR 1 ?_
  refine aE ?_
  refine awp_seq ?_
  refine awp_region ?_
  refine aR 4 ?_
  refine aE ?_
  refine awp_ret ?_
  exact oF hF [] []

/-! ### unicode/utf8.decodeRuneInStringSlow -/
def z1275 (qx : List UInt8) (r : Unit) : TV × Mem := (.tup [.one (.d (.int .i32 65533)), .one (.d (.int .i64 0))], ⟨[], []⟩)

theorem z1276 {qx : List UInt8} {r} (hF : z1274 qx = some r) : Holds prog 121 [.v (.one (.d (.str qx)))] ⟨[], []⟩ (Is (z1275 qx r)) := by
  unfold z1274 at hF
  refine holds_of_awp hΓ (fn := f121) (c := cB f121) (A := 0) (nx := 0) (by kernel_rfl) (by kernel_rfl) (by kernel_rfl) (by kernel_rfl) (by kernel_rfl) (by kernel_rfl) (lowc_of (by kernel_rfl)) ?_
  show Awp prog 0 117 (cB f121) _ _
  refine awp_seq ?_
  refine awp_region ?_
  refine aR 2 ?_
  refine aE ?_
  refine awp_seq ?_
  refine awp_region ?_
  refine aR 3 ?_
  refine aE ?_
  refine awp_seq ?_
  refine awp_seq ?_
  refine awp_region ?_
  refine aR 2 ?_
  refine aE ?_
  refine cE hF (fun h1 hF => ?_) fun h1 hF => ?_
  · refine awp_true (by kernel_rfl) h1 ?_
    refine awp_seq ?_
    refine awp_region ?_
    refine aR 2 ?_
    refine aE ?_
    refine awp_ret ?_
    exact oF hF [] []
  · refine awp_false (by kernel_rfl) h1 ?_
    refine awp_skip ?_
    refine awp_seq ?_
    refine bE hF fun vc h2 hF => ?_
    refine awp_region ?_
    refine aR 1 ?_
    refine aX (x_idxS h2) ?_
    refine aR 1 ?_
    refine aE ?_
    refine awp_seq ?_
    exact nE hF

/-! ### unicode/utf8.DecodeRuneInString -/
def z1267 : Bool → AEx
  | _ => .normal

def z1266 (qs : List UInt8) : Bool → St
  | vx => Mem.st ⟨[], []⟩ (tl [(0, .v (.one (.d (.str qs)))), (10, .v (.one (.d (.bool vx))))]) 0

def z1265 (qs : List UInt8) : St := Mem.st ⟨[], []⟩ (tl [(0, .v (.one (.d (.str qs))))]) 0

theorem z1268 (qs : List UInt8) {r} (hF : z1264 qs = some r) : Awp prog 0 19 (cL (cL (cR (cB f94)))) (Out 0 z1267 (z1266 qs) r) (z1265 qs) := by
  unfold z1264 at hF
  refine cE hF (fun h1 hF => ?_) fun h1 hF => ?_
  · refine bE hF fun vc h2 hF => ?_
    refine awp_region ?_
    refine aR 1 ?_
    refine aB h1 ?_
    refine aR 2 ?_
    refine aX (x_idxS h2) ?_
    refine aR 2 ?_
    refine aE ?_
    exact oO hF [] [] rfl
  · refine awp_region ?_
    refine aR 1 ?_
    refine aB h1 ?_
    refine aR 5 ?_
    refine aE ?_
    exact oO hF [] [] rfl

def z1262 (qs : List UInt8) (r : Int × Int) : TV × Mem := (.tup [.one (.d (.int .i32 r.1)), .one (.d (.int .i64 r.2))], ⟨[], []⟩)

theorem z1263 {qs : List UInt8} {r} (hF : z1261 qs = some r) : Holds prog 94 [.v (.one (.d (.str qs)))] ⟨[], []⟩ (Is (z1262 qs r)) := by
  unfold z1261 at hF
  refine holds_of_awp hΓ (fn := f94) (c := cB f94) (A := 0) (nx := 0) (by kernel_rfl) (by kernel_rfl) (by kernel_rfl) (by kernel_rfl) (by kernel_rfl) (by kernel_rfl) (lowc_of (by kernel_rfl)) ?_
  show Awp prog 0 19 (cB f94) _ _
  refine awp_seq ?_
  refine awp_region ?_
  refine aR 2 ?_
  refine aE ?_
  refine awp_seq ?_
  refine awp_seq ?_
  refine awp_to (st' := z1265 qs) (oT [] []) ?_
  refine bE hF fun vx1 h3 hF => ?_
  refine awp_sub (z1268 qs h3) ?_
  refine cE hF (fun h4 hF => ?_) fun h4 hF => ?_
  · refine awp_true (by kernel_rfl) h4 ?_
    refine awp_seq ?_
    refine bE hF fun vc1 h5 hF => ?_
    refine awp_region ?_
    refine aR 1 ?_
    refine aX (x_idxS h5) ?_
    refine aR 3 ?_
    refine aE ?_
    refine awp_ret ?_
    exact oF hF [] []
  · refine awp_false (by kernel_rfl) h4 ?_
    refine bE hF fun _ h6 hF => ?_
    refine awp_region ?_
    refine aR 1 ?_
    refine aC (z1276 h6) [] [] [] ?_
    refine aR 5 ?_
    refine aE ?_
    refine awp_ret ?_
    exact oF hF [] []

/-! ### unicode/utf8.DecodeLastRuneInString -/
def z1254 : Int → AEx
  | _ => .exit 0

def z1253 (qs : List UInt8) : Int → St
  | vstart1 => Mem.st ⟨[], []⟩ (tl [(0, .v (.one (.d (.str qs)))), (4, .v (.one (.d (.int .i64 (qs.length : Int))))), (5, .v (.one (.d (.int .i64 vstart1))))]) 0

def z1252 (qs : List UInt8) : Int → St
  | vstart => Mem.st ⟨[], []⟩ (tl [(0, .v (.one (.d (.str qs)))), (4, .v (.one (.d (.int .i64 (qs.length : Int))))), (5, .v (.one (.d (.int .i64 vstart)))), (6, .v (.one (.d (.int .i64 (imax (IntKind.wrap .i64 ((qs.length : Int) - 4)) 0)))))]) 0

theorem z1255 (qs : List UInt8) (vstart : Int) (r : (Int) ⊕ (Int)) (hF : z1251 qs vstart = some r) : Awp prog 0 51 (cL (cL (cR (cL (cR (cR (cR (cR (cR (cR (cR (cB f96)))))))))))) (Out 0 (kk z1254) (SS (z1252 qs) (z1253 qs)) r) (z1252 qs vstart) := by
  unfold z1251 at hF
  refine awp_seq ?_
  refine awp_seq ?_
  refine awp_region ?_
  refine aR 3 ?_
  refine aE ?_
  refine cE hF (fun h4 hF => ?_) fun h4 hF => ?_
  · refine awp_true (by kernel_rfl) h4 ?_
    refine awp_skip ?_
    refine awp_seq ?_
    refine awp_block ?_
    refine awp_seq ?_
    refine bE hF fun vc2 h5 hF => ?_
    refine bE hF fun _ h6 hF => ?_
    refine awp_region ?_
    refine aR 2 ?_
    refine aX (x_idxS h5) ?_
    refine aC (z1271 h6) [] [] [] ?_
    refine aE ?_
    refine cE hF (fun h7 hF => ?_) fun h7 hF => ?_
    · refine awp_true (by kernel_rfl) h7 ?_
      refine awp_exit ?_
      exact oO hF [] [] rfl
    · refine awp_false (by kernel_rfl) h7 ?_
      refine awp_skip ?_
      refine awp_region ?_
      refine aR 3 ?_
      refine aE ?_
      exact oO hF [] [] rfl
  · refine awp_false (by kernel_rfl) h4 ?_
    refine awp_exit ?_
    exact oO hF [] [] rfl

def z1259 : Int → AEx
  | _ => .normal

def z1258 (qs : List UInt8) (vstart1_1 : Int) : Int → St
  | vstart2 => Mem.st ⟨[], []⟩ (tl [(0, .v (.one (.d (.str qs)))), (4, .v (.one (.d (.int .i64 (qs.length : Int))))), (5, .v (.one (.d (.int .i64 vstart2))))]) 0

def z1257 (qs : List UInt8) (vstart1_1 : Int) : St := Mem.st ⟨[], []⟩ (tl [(0, .v (.one (.d (.str qs)))), (4, .v (.one (.d (.int .i64 (qs.length : Int))))), (5, .v (.one (.d (.int .i64 vstart1_1))))]) 0

theorem z1260 (qs : List UInt8) (vstart1_1 : Int) {r} (hF : z1256 vstart1_1 = some r) : Awp prog 0 51 (cL (cR (cR (cR (cR (cR (cR (cR (cR (cB f96)))))))))) (Out 0 z1259 (z1258 qs vstart1_1) r) (z1257 qs vstart1_1) := by
  unfold z1256 at hF
  refine awp_seq ?_
  refine awp_region ?_
  refine aR 2 ?_
  refine aE ?_
  refine cE hF (fun h9 hF => ?_) fun h9 hF => ?_
  · refine awp_true (by kernel_rfl) h9 ?_
    refine awp_region ?_
    refine aR 1 ?_
    refine aE ?_
    exact oO hF [] [] rfl
  · refine awp_false (by kernel_rfl) h9 ?_
    refine awp_skip ?_
    exact oO hF [] [] rfl

def z1249 (qs : List UInt8) (r : Int × Int) : TV × Mem := (.tup [.one (.d (.int .i32 r.1)), .one (.d (.int .i64 r.2))], ⟨[], []⟩)

theorem z1250 {qs : List UInt8} {r} (hF : z1248 qs = some r) : Holds prog 96 [.v (.one (.d (.str qs)))] ⟨[], []⟩ (Is (z1249 qs r)) := by
  unfold z1248 at hF
  refine holds_of_awp hΓ (fn := f96) (c := cB f96) (A := 0) (nx := 0) (by kernel_rfl) (by kernel_rfl) (by kernel_rfl) (by kernel_rfl) (by kernel_rfl) (by kernel_rfl) (lowc_of (by kernel_rfl)) ?_
  show Awp prog 0 51 (cB f96) _ _
  refine awp_seq ?_
  refine awp_region ?_
  refine aR 2 ?_
  refine aE ?_
  refine awp_seq ?_
  refine awp_region ?_
  refine aR 3 ?_
  refine aE ?_
  refine awp_seq ?_
  refine awp_seq ?_
  refine awp_region ?_
  refine aR 2 ?_
  refine aE ?_
  refine cE hF (fun h1 hF => ?_) fun h1 hF => ?_
  · refine awp_true (by kernel_rfl) h1 ?_
    refine awp_seq ?_
    refine awp_region ?_
    refine aR 2 ?_
    refine aE ?_
    refine awp_ret ?_
    exact oF hF [] []
  · refine awp_false (by kernel_rfl) h1 ?_
    refine awp_skip ?_
    refine awp_seq ?_
    refine awp_region ?_
    refine aR 3 ?_
    refine aE ?_
    refine awp_seq ?_
    refine bE hF fun vc h2 hF => ?_
    refine awp_region ?_
    refine aR 2 ?_
    refine aX (x_idxS h2) ?_
    refine aR 2 ?_
    refine aE ?_
    refine awp_seq ?_
    refine awp_seq ?_
    refine awp_region ?_
    refine aR 2 ?_
    refine aE ?_
    refine cE hF (fun h3 hF => ?_) fun h3 hF => ?_
    · refine awp_true (by kernel_rfl) h3 ?_
      refine awp_seq ?_
      refine awp_region ?_
      refine aR 3 ?_
      refine aE ?_
      refine awp_ret ?_
      exact oF hF [] []
    · refine awp_false (by kernel_rfl) h3 ?_
      refine awp_skip ?_
      refine awp_seq ?_
      refine awp_region ?_
      refine aR 4 ?_
      refine aE ?_
      refine awp_seq ?_
      refine awp_seq ?_
      refine awp_region ?_
      refine aR 3 ?_
      refine aE ?_
      refine awp_block ?_
      refine awp_to (st' := z1252 qs (IntKind.wrap .i64 ((IntKind.wrap .i64 ((qs.length : Int) - 1)) - 1))) (oT [] []) ?_
      refine bE hF fun vstart1_1 h8 hF => ?_
      refine awp_sub (awp_loop' (z1252 qs) z1254 (z1253 qs) (by intro x; exact fun h => nomatch h) h8 (z1255 qs)) ?_
      refine awp_seq ?_
      refine awp_to (st' := z1257 qs vstart1_1) (oT [] []) ?_
      refine bE hF fun vstart2_1 h10 hF => ?_
      refine awp_sub (z1260 qs vstart1_1 h10) ?_
      refine awp_seq ?_
      refine bE hF fun vs h11 hF => ?_
      refine bE hF fun x h12 hF => ?_
      obtain ⟨vr, vr1⟩ := x
      refine awp_region ?_
      refine aR 3 ?_
      refine aX (x_sliceS h11) ?_
      refine aC (z1263 h12) [] [] [] ?_
      refine aR 5 ?_
      refine aE ?_
      refine awp_seq ?_
      refine awp_seq ?_
      refine awp_region ?_
      refine aR 5 ?_
      refine aE ?_
      refine cE hF (fun h13 hF => ?_) fun h13 hF => ?_
      · refine awp_true (by kernel_rfl) h13 ?_
        refine awp_seq ?_
        refine awp_region ?_
        refine aR 2 ?_
        refine aE ?_
        refine awp_ret ?_
        exact oF hF [] []
      · refine awp_false (by kernel_rfl) h13 ?_
        refine awp_skip ?_
        refine awp_seq ?_
        refine awp_region ?_
        refine aR 4 ?_
        refine aE ?_
        refine awp_ret ?_
        exact oF hF [] []

/-! ### strings.trimRightUnicode -/
def z1123 : (Int × Int) → AEx
  | _ => .normal

def z1122 (qs : List UInt8) (qcutset : List UInt8) (vc1 : UInt8) : (Int × Int) → St
  | (vr4, vn2) => Mem.st ⟨[], []⟩ (tl [(0, .v (.one (.d (.str qs)))), (1, .v (.one (.d (.str qcutset)))), (5, .v (.one (.d (.int .i32 vr4)))), (6, .v (.one (.d (.int .i64 vn2))))]) 0

def z1121 (qs : List UInt8) (qcutset : List UInt8) (vc1 : UInt8) : St := Mem.st ⟨[], []⟩ (tl [(0, .v (.one (.d (.str qs)))), (1, .v (.one (.d (.str qcutset)))), (5, .v (.one (.d (.int .i32 (IntKind.wrap .i32 ((vc1.toNat : Int))))))), (6, .v (.one (.d (.int .i64 1))))]) 0

theorem z1124 (qs : List UInt8) (qcutset : List UInt8) (vc1 : UInt8) {r} (hF : z1120 qs vc1 = some r) : Awp prog 0 34 (cL (cR (cL (cR (cL (cL (cL (cR (cB f65))))))))) (Out 0 z1123 (z1122 qs qcutset vc1) r) (z1121 qs qcutset vc1) := by
  unfold z1120 at hF
  refine awp_seq ?_
  refine awp_region ?_
  refine aR 2 ?_
  refine aE ?_
  refine cE hF (fun h3 hF => ?_) fun h3 hF => ?_
  · refine awp_true (by kernel_rfl) h3 ?_
    refine bE hF fun x h4 hF => ?_
    obtain ⟨vr2_1, vr3_1⟩ := x
    refine awp_region ?_
    refine aR 1 ?_
    refine aC (z1250 h4) [] [] [] ?_
    refine aR 5 ?_
    refine aE ?_
    exact oO hF [] [] rfl
  · refine awp_false (by kernel_rfl) h3 ?_
    refine awp_skip ?_
    exact oO hF [] [] rfl

def z1118 : Unit → AEx
  | _ => .exit 0

def z1117 (qs : List UInt8) (qcutset : List UInt8) : Unit → St
  | _ => Mem.st ⟨[], []⟩ (tl [(0, .v (.one (.d (.str qs))))]) 0

def z1116 (qs : List UInt8) (qcutset : List UInt8) : Unit → St
  | _ => Mem.st ⟨[], []⟩ (tl [(0, .v (.one (.d (.str qs)))), (1, .v (.one (.d (.str qcutset))))]) 0

theorem z1119 (qs : List UInt8) (qcutset : List UInt8) (s : Unit) (r : (Unit) ⊕ (Unit)) (hF : z1115 qs s = some r) : Awp prog 0 34 (cL (cL (cL (cR (cB f65))))) (Out 0 (kk z1118) (SS (z1116 qs qcutset) (z1117 qs qcutset)) r) (z1116 qs qcutset s) := by
  unfold z1115 at hF
  refine awp_seq ?_
  refine awp_seq ?_
  refine awp_region ?_
  refine aR 3 ?_
  refine aE ?_
  refine cE hF (fun h1 hF => ?_) fun h1 hF => ?_
  · refine awp_true (by kernel_rfl) h1 ?_
    refine awp_skip ?_
    refine awp_block ?_
    refine awp_seq ?_
    refine bE hF fun vc1 h2 hF => ?_
    refine awp_region ?_
    refine aR 4 ?_
    refine aX (x_idxS h2) ?_
    refine aR 3 ?_
    refine aE ?_
    refine awp_seq ?_
    refine awp_to (st' := z1121 qs qcutset vc1) (oT [] []) ?_
    refine bE hF fun x h5 hF => ?_
    obtain ⟨vr4_1, vn2_1⟩ := x
    refine awp_sub (z1124 qs qcutset vc1 h5) ?_
    refine awp_seq ?_
    refine awp_seq ?_
    exact nE hF
  · refine awp_false (by kernel_rfl) h1 ?_
    refine awp_exit ?_
    exact oO hF [] [] rfl

def z1113 (qs : List UInt8) (qcutset : List UInt8) (r : Unit) : TV × Mem := (.v (.one (.d (.str qs))), ⟨[], []⟩)

theorem z1114 {qs : List UInt8} {qcutset : List UInt8} {r} (hF : z1112 qs qcutset = some r) : Holds prog 65 [.v (.one (.d (.str qs))), .v (.one (.d (.str qcutset)))] ⟨[], []⟩ (Is (z1113 qs qcutset r)) := by
  unfold z1112 at hF
  refine holds_of_awp hΓ (fn := f65) (c := cB f65) (A := 0) (nx := 0) (by kernel_rfl) (by kernel_rfl) (by kernel_rfl) (by kernel_rfl) (by kernel_rfl) (by kernel_rfl) (lowc_of (by kernel_rfl)) ?_
  show Awp prog 0 34 (cB f65) _ _
  refine awp_seq ?_
  refine awp_region ?_
  refine aR 1 ?_
  refine aE ?_
  refine awp_seq ?_
  refine awp_block ?_
  refine awp_to (st' := z1116 qs qcutset ()) (oT [] []) ?_
  refine bE hF fun _ h6 hF => ?_
  refine awp_sub (awp_loop' (z1116 qs qcutset) z1118 (z1117 qs qcutset) (by intro x; exact fun h => nomatch h) h6 (z1119 qs qcutset)) ?_
  refine awp_seq ?_
  refine awp_region ?_
  refine aR 2 ?_
  refine aE ?_
  refine awp_ret ?_
  exact oF hF [] []

/-! ### strings.trimLeftUnicode -/
def z1089 : Unit → AEx
  | _ => .exit 0

def z1088 (qs : List UInt8) (qcutset : List UInt8) : Unit → St
  | _ => Mem.st ⟨[], []⟩ (tl [(0, .v (.one (.d (.str qs))))]) 0

def z1087 (qs : List UInt8) (qcutset : List UInt8) : Unit → St
  | _ => Mem.st ⟨[], []⟩ (tl [(0, .v (.one (.d (.str qs)))), (1, .v (.one (.d (.str qcutset))))]) 0

theorem z1090 (qs : List UInt8) (qcutset : List UInt8) (s : Unit) (r : (Unit) ⊕ (Unit)) (hF : z1086 qs s = some r) : Awp prog 0 23 (cL (cL (cL (cR (cB f64))))) (Out 0 (kk z1089) (SS (z1087 qs qcutset) (z1088 qs qcutset)) r) (z1087 qs qcutset s) := by
  unfold z1086 at hF
  refine awp_seq ?_
  refine awp_seq ?_
  refine awp_region ?_
  refine aR 3 ?_
  refine aE ?_
  refine cE hF (fun h1 hF => ?_) fun h1 hF => ?_
  · refine awp_true (by kernel_rfl) h1 ?_
    refine awp_skip ?_
    refine awp_block ?_
    refine awp_seq ?_
    refine bE hF fun x h2 hF => ?_
    obtain ⟨vr2, vr1_1⟩ := x
    refine awp_region ?_
    refine aR 1 ?_
    refine aC (z1263 h2) [] [] [] ?_
    refine aR 5 ?_
    refine aE ?_
    refine awp_seq ?_
    refine awp_seq ?_
    exact nE hF
  · refine awp_false (by kernel_rfl) h1 ?_
    refine awp_exit ?_
    exact oO hF [] [] rfl

def z1084 (qs : List UInt8) (qcutset : List UInt8) (r : Unit) : TV × Mem := (.v (.one (.d (.str qs))), ⟨[], []⟩)

theorem z1085 {qs : List UInt8} {qcutset : List UInt8} {r} (hF : z1083 qs qcutset = some r) : Holds prog 64 [.v (.one (.d (.str qs))), .v (.one (.d (.str qcutset)))] ⟨[], []⟩ (Is (z1084 qs qcutset r)) := by
  unfold z1083 at hF
  refine holds_of_awp hΓ (fn := f64) (c := cB f64) (A := 0) (nx := 0) (by kernel_rfl) (by kernel_rfl) (by kernel_rfl) (by kernel_rfl) (by kernel_rfl) (by kernel_rfl) (lowc_of (by kernel_rfl)) ?_
  show Awp prog 0 23 (cB f64) _ _
  refine awp_seq ?_
  refine awp_region ?_
  refine aR 1 ?_
  refine aE ?_
  refine awp_seq ?_
  refine awp_block ?_
  refine awp_to (st' := z1087 qs qcutset ()) (oT [] []) ?_
  refine bE hF fun _ h3 hF => ?_
  refine awp_sub (awp_loop' (z1087 qs qcutset) z1089 (z1088 qs qcutset) (by intro x; exact fun h => nomatch h) h3 (z1090 qs qcutset)) ?_
  refine awp_seq ?_
  refine awp_region ?_
  refine aR 2 ?_
  refine aE ?_
  refine awp_ret ?_
  exact oF hF [] []

/-! ### strings.Trim -/
def z1034 : Bool → AEx
  | _ => .normal

def z1033 (qs : List UInt8) (qcutset : List UInt8) : Bool → St
  | vx => Mem.st ⟨[], []⟩ (tl [(0, .v (.one (.d (.str qs)))), (1, .v (.one (.d (.str qcutset)))), (12, .v (.one (.d (.bool vx))))]) 0

def z1032 (qs : List UInt8) (qcutset : List UInt8) : St := Mem.st ⟨[], []⟩ (tl [(0, .v (.one (.d (.str qs)))), (1, .v (.one (.d (.str qcutset))))]) 0

theorem z1035 (qs : List UInt8) (qcutset : List UInt8) {r} (hF : z1031 qs qcutset = some r) : Awp prog 0 43 (cL (cL (cR (cB f35)))) (Out 0 z1034 (z1033 qs qcutset) r) (z1032 qs qcutset) := by
  unfold z1031 at hF
  refine cE hF (fun h1 hF => ?_) fun h1 hF => ?_
  · refine awp_region ?_
    refine aR 1 ?_
    refine aB h1 ?_
    refine aR 4 ?_
    refine aE ?_
    exact oO hF [] [] rfl
  · refine awp_region ?_
    refine aR 1 ?_
    refine aB h1 ?_
    refine aR 4 ?_
    refine aE ?_
    exact oO hF [] [] rfl

def z1039 : Bool → AEx
  | _ => .normal

def z1038 (qs : List UInt8) (qcutset : List UInt8) : Bool → St
  | vx2 => Mem.st ⟨[], []⟩ (tl [(0, .v (.one (.d (.str qs)))), (1, .v (.one (.d (.str qcutset)))), (21, .v (.one (.d (.bool vx2))))]) 0

def z1037 (qs : List UInt8) (qcutset : List UInt8) : St := Mem.st ⟨[], []⟩ (tl [(0, .v (.one (.d (.str qs)))), (1, .v (.one (.d (.str qcutset))))]) 0

theorem z1040 (qs : List UInt8) (qcutset : List UInt8) {r} (hF : z1036 qcutset = some r) : Awp prog 0 43 (cL (cL (cR (cR (cB f35))))) (Out 0 z1039 (z1038 qs qcutset) r) (z1037 qs qcutset) := by
  unfold z1036 at hF
  refine cE hF (fun h4 hF => ?_) fun h4 hF => ?_
  · refine bE hF fun vc h5 hF => ?_
    refine awp_region ?_
    refine aR 2 ?_
    refine aB h4 ?_
    refine aR 2 ?_
    refine aX (x_idxS h5) ?_
    refine aR 2 ?_
    refine aE ?_
    exact oO hF [] [] rfl
  · refine awp_region ?_
    refine aR 2 ?_
    refine aB h4 ?_
    refine aR 5 ?_
    refine aE ?_
    exact oO hF [] [] rfl

def z1026 (qs : List UInt8) (qcutset : List UInt8) (r : (List UInt8)) : TV × Mem := (.v (.one (.d (.str r))), ⟨[], []⟩)

theorem z1030 {qs : List UInt8} {qcutset : List UInt8} {r} (hF : z1022 qs qcutset = some r) : Holds prog 35 [.v (.one (.d (.str qs))), .v (.one (.d (.str qcutset)))] ⟨[], []⟩ (Is (z1026 qs qcutset r)) := by
  unfold z1022 at hF
  refine holds_of_awp hΓ (fn := f35) (c := cB f35) (A := 0) (nx := 0) (by kernel_rfl) (by kernel_rfl) (by kernel_rfl) (by kernel_rfl) (by kernel_rfl) (by kernel_rfl) (lowc_of (by kernel_rfl)) ?_
  show Awp prog 0 43 (cB f35) _ _
  refine awp_seq ?_
  refine awp_region ?_
  refine aR 1 ?_
  refine aE ?_
  refine awp_seq ?_
  refine awp_seq ?_
  refine awp_to (st' := z1032 qs qcutset) (oT [] []) ?_
  refine bE hF fun vx1 h2 hF => ?_
  refine awp_sub (z1035 qs qcutset h2) ?_
  refine cE hF (fun h3 hF => ?_) fun h3 hF => ?_
  · refine awp_true (by kernel_rfl) h3 ?_
    refine awp_seq ?_
    refine awp_region ?_
    refine aR 2 ?_
    refine aE ?_
    refine awp_ret ?_
    exact oF hF [] []
  · refine awp_false (by kernel_rfl) h3 ?_
    refine awp_skip ?_
    refine awp_seq ?_
    refine awp_seq ?_
    refine awp_to (st' := z1037 qs qcutset) (oT [] []) ?_
    refine bE hF fun vx2_1 h6 hF => ?_
    refine awp_sub (z1040 qs qcutset h6) ?_
    refine cE hF (fun h7 hF => ?_) fun h7 hF => ?_
    · refine awp_true (by kernel_rfl) h7 ?_
      refine awp_seq ?_
      refine bE hF fun vc1 h8 hF => ?_
      refine bE hF fun vr h9 hF => ?_
      refine bE hF fun vr1 h10 hF => ?_
      refine aD ?_
      refine dR 2 ?_
      refine dX (x_idxS h8) ?_
      refine dC (z1101 h9) [] [] [] ?_
      refine dR 1 ?_
      refine dX (x_idxS h8) ?_
      refine dC (z1072 h10) [] [] [] ?_
      refine dR 1 ?_
      refine dE ?_
      refine awp_ret ?_
      exact oF hF [] []
    · refine awp_false (by kernel_rfl) h7 ?_
      refine awp_skip ?_
      refine awp_seq ?_
      refine awp_seq ?_
      refine bE hF fun vr2 h11 hF => ?_
      refine awp_region ?_
      refine aR 1 ?_
      refine aC (z1056 h11) [] [] [] ?_
      refine aR 6 ?_
      refine aE ?_
      refine awp_seq ?_
      refine awp_region ?_
      refine aR 1 ?_
      refine aE ?_
      refine cE hF (fun h12 hF => ?_) fun h12 hF => ?_
      · refine awp_true (by kernel_rfl) h12 ?_
        refine awp_seq ?_
        refine bE hF fun _ h13 hF => ?_
        refine bE hF fun _ h14 hF => ?_
        refine awp_region ?_
        refine aR 1 ?_
        refine aC (z1093 h13) [(0, 5000)] [] [] ?_
        refine aC (z1064 h14) [(0, 5000)] [] [] ?_
        refine aR 1 ?_
        refine aE ?_
        refine awp_ret ?_
        exact oF hF [] []
      · refine awp_false (by kernel_rfl) h12 ?_
        refine awp_skip ?_
        refine awp_seq ?_
        refine bE hF fun _ h15 hF => ?_
        refine bE hF fun _ h16 hF => ?_
        refine awp_region ?_
        refine aR 2 ?_
        refine aC (z1114 h15) [] [] [] ?_
        refine aR 1 ?_
        refine aC (z1085 h16) [] [] [] ?_
        refine aR 1 ?_
        refine aE ?_
        refine awp_ret ?_
        exact oF hF [] []

/-! ### strings.Trim -/
def z1028 (qs : List UInt8) (qcutset : List UInt8) (r : List UInt8) : TV × Mem := (.v (.one (.d (.str r))), ⟨[], []⟩)

theorem z1029 {qs : List UInt8} {qcutset : List UInt8} {r} (hF : z1027 qs qcutset = some r) : Holds prog 35 [.v (.one (.d (.str qs))), .v (.one (.d (.str qcutset)))] ⟨[], []⟩ (Is (z1028 qs qcutset r)) := by
  unfold z1027 at hF
  refine cE hF (fun h0 hF => ?_) fun h0 hF => ?_
  · exact z1030 hF
  refine gE hF fun h1 hF => ?_
  obtain rfl := Option.some.inj hF
  have h2 : (((2 ≤ qcutset.length ∧ 0 < qs.length) ∧ qs.length ≤ 9223372036854775807) ∧ qcutset.length < 4294967281) ∧ (qcutset.all fun b => decide (b.toNat < 128)) = true := by simpa using h1
  refine holds_lib (args := [.str qs, .str qcutset]) (tv := .c (.d (.str (Lib.trimS qs qcutset)))) ⟨_, cB Go.Proofs.Tryz.f35, Go.Proofs.Tryz.func35, by kernel_rfl, by kernel_rfl⟩ rfl rfl fun w ht => ?_
  refine (Go.Proofs.Any.strings_Trim_set Go.Proofs.Tryz.lays160 (fun _ => by kernel_rfl) (by kernel_rfl) ⟨qs.toArray⟩ ⟨qcutset.toArray⟩ w (by simpa [ByteArray.size] using h2.1.1.1.1) (by simpa [ByteArray.size] using h2.1.1.1.2) (by simpa [ByteArray.size] using h2.1.1.2) (by simpa [ByteArray.size] using h2.1.2) (fun j b hj => by simpa using List.all_eq_true.1 h2.2 b (List.mem_of_getElem? (by simpa using hj)))).mono ?_
  rintro e w' ⟨rfl, k, rfl⟩
  exact ⟨rfl, Go.below_drewN (((Go.RowKit.Below.refl _ _).alloc (Nat.le_refl _) _).alloc (by show w.heap.size ≤ (w.heap.push _).size; simp) _) _⟩

/-! ### beaconfleet/place.CellBox -/
def z379 : Bool → AEx
  | _ => .normal

def z378 (qkey : List UInt8) : Bool → St
  | vx => Mem.st ⟨[], [(0, [.d (.int .i64 0), .d (.int .i64 0)])]⟩ (tl [(0, .v (.one (.d (.str qkey)))), (2, .v (.one (.box 0 0))), (14, .v (.one (.d (.bool vx))))]) 1

def z377 (qkey : List UInt8) : St := Mem.st ⟨[], [(0, [.d (.int .i64 0), .d (.int .i64 0)])]⟩ (tl [(0, .v (.one (.d (.str qkey)))), (2, .v (.one (.box 0 0)))]) 1

theorem z380 (qkey : List UInt8) {r} (hF : z376 qkey = some r) : Awp prog 0 23 (cL (cL (cR (cB f14)))) (Out 0 z379 (z378 qkey) r) (z377 qkey) := by
  unfold z376 at hF
  refine cE hF (fun h1 hF => ?_) fun h1 hF => ?_
  · refine awp_region ?_
    refine aR 2 ?_
    refine aB h1 ?_
    refine aR 5 ?_
    refine aE ?_
    exact oO hF [] [] rfl
  · refine bE hF fun vr h2 hF => ?_
    refine awp_region ?_
    refine aR 2 ?_
    refine aB h1 ?_
    refine aR 2 ?_
    refine aC (z1029 h2) [] [] [] ?_
    refine aR 2 ?_
    refine aE ?_
    exact oO hF [] [] rfl

def z374 (qkey : List UInt8) (r : api_Spot × Int × Int) : TV × Mem := (.tup [.agg [.d (.int .i64 r.1.X), .d (.int .i64 r.1.Y)], .one (.d (.int .i64 r.2.1)), .one (.d (.int .i64 r.2.2))], ⟨[], []⟩)

theorem z375 {qkey : List UInt8} {r} (hF : z373 qkey = some r) : Holds prog 14 [.v (.one (.d (.str qkey)))] ⟨[], []⟩ (Is (z374 qkey r)) := by
  unfold z373 at hF
  refine holds_of_awp hΓ (fn := f14) (c := cB f14) (A := 0) (nx := 0) (by kernel_rfl) (by kernel_rfl) (by kernel_rfl) (by kernel_rfl) (by kernel_rfl) (by kernel_rfl) (lowc_of (by kernel_rfl)) ?_
  show Awp prog 0 23 (cB f14) _ _
  refine awp_seq ?_
  refine awp_region ?_
  refine aR 3 ?_
  refine aE ?_
  refine awp_seq ?_
  refine awp_seq ?_
  refine awp_to (st' := z377 qkey) (oT [] []) ?_
  refine bE hF fun vx1 h3 hF => ?_
  refine awp_sub (z380 qkey h3) ?_
  refine cE hF (fun h4 hF => ?_) fun h4 hF => ?_
  · refine awp_true (by kernel_rfl) h4 ?_
    refine awp_seq ?_
    refine awp_region ?_
    refine aR 4 ?_
    refine aE ?_
    refine awp_ret ?_
    exact oF hF [] []
  · refine awp_false (by kernel_rfl) h4 ?_
    refine awp_skip ?_
    refine awp_seq ?_
    refine bE hF fun x h5 hF => ?_
    obtain ⟨vr1, vr1_1⟩ := x
    refine awp_region ?_
    refine aR 1 ?_
    refine aC (z409 h5) [] [] [] ?_
    refine aR 6 ?_
    refine aE ?_
    refine awp_seq ?_
    refine awp_region ?_
    refine aR 5 ?_
    refine aE ?_
    refine awp_ret ?_
    exact oF hF [] []

/-! ### beaconfleet/fleetkeep2.errs -/
def z225 : Unit ⊕ Int → AEx
  | .inl _ => .exit 0
  | .inr _ => .ret

def z224 (ql : List Int) : Unit ⊕ Int → St
  | .inl _ => Mem.st ⟨[], []⟩ (tl []) 0
  | .inr vx1 => Mem.st ⟨[], []⟩ (tl [(2, .v (.one (.d (.int .i64 vx1))))]) 0

def z223 (ql : List Int) : Int → St
  | vx => Mem.st ⟨[], []⟩ (tl [(5, .v (.one (.d (.lst (List.map (encI .i64) ql))))), (6, .v (.one (.d (.int .i64 (ql.length : Int))))), (7, .v (.one (.d (.int .i64 vx))))]) 0

theorem z226 (ql : List Int) (vx : Int) (r : (Int) ⊕ (Unit ⊕ Int)) (hF : z222 ql vx = some r) : Awp prog 0 15 (cL (cL (cR (cL (cR (cB f15)))))) (Out 0 (kk z225) (SS (z223 ql) (z224 ql)) r) (z223 ql vx) := by
  unfold z222 at hF
  refine awp_seq ?_
  refine awp_region ?_
  refine aR 1 ?_
  refine aE ?_
  refine awp_seq ?_
  refine cE hF (fun h1 hF => ?_) fun h1 hF => ?_
  · refine awp_true (by kernel_rfl) h1 ?_
    refine awp_skip ?_
    refine awp_seq ?_
    refine awp_block ?_
    refine awp_seq ?_
    refine bE hF fun vy1 h2 hF => ?_
    refine awp_region ?_
    refine aX (x_idx (encI .i64) h2) ?_
    refine aR 2 ?_
    refine aE ?_
    refine awp_seq ?_
    refine awp_region ?_
    refine aR 2 ?_
    refine aE ?_
    refine cE hF (fun h3 hF => ?_) fun h3 hF => ?_
    · refine awp_true (by kernel_rfl) h3 ?_
      refine awp_seq ?_
      refine awp_region ?_
      refine aR 2 ?_
      refine aE ?_
      refine awp_ret ?_
      exact oO hF [] [] rfl
    · refine awp_false (by kernel_rfl) h3 ?_
      refine awp_skip ?_
      refine awp_region ?_
      refine aR 2 ?_
      refine aE ?_
      exact oO hF [] [] rfl
  · refine awp_false (by kernel_rfl) h1 ?_
    refine awp_exit ?_
    exact oO hF [] [] rfl

def z220 (ql : List Int) (r : Int) : TV × Mem := (.v (.one (.d (.int .i64 r))), ⟨[], []⟩)

theorem z221 {ql : List Int} {r} (hF : z219 ql = some r) : Holds prog 15 [.v (.one (.d (.lst (List.map (encI .i64) ql))))] ⟨[], []⟩ (Is (z220 ql r)) := by
  unfold z219 at hF
  refine holds_of_awp hΓ (fn := f15) (c := cB f15) (A := 0) (nx := 0) (by kernel_rfl) (by kernel_rfl) (by kernel_rfl) (by kernel_rfl) (by kernel_rfl) (by kernel_rfl) (lowc_of (by kernel_rfl)) ?_
  show Awp prog 0 15 (cB f15) _ _
  refine awp_seq ?_
  refine awp_region ?_
  refine aR 1 ?_
  refine aE ?_
  refine awp_seq ?_
  refine awp_seq ?_
  refine awp_region ?_
  refine aR 1 ?_
  refine aL (encI .i64) ql ?_
  refine aR 1 ?_
  refine aE ?_
  refine awp_block ?_
  refine awp_to (st' := z223 ql 0) (oT [] []) ?_
  refine bE hF fun x h4 hF => ?_
  rcases x with _ | vx1_1
  · refine awp_sub (awp_loop' (z223 ql) z225 (z224 ql) (by intro x; rcases x with x | x <;> exact fun h => nomatch h) h4 (z226 ql)) ?_
    refine awp_seq ?_
    refine awp_region ?_
    refine aR 1 ?_
    refine aE ?_
    refine awp_ret ?_
    exact oF hF [] []
  · refine awp_sub (awp_loop' (z223 ql) z225 (z224 ql) (by intro x; rcases x with x | x <;> exact fun h => nomatch h) h4 (z226 ql)) ?_
    exact oF hF [] []

/-! ### beaconfleet/place.spotFault -/
def z547 : Bool → AEx
  | _ => .normal

def z546 (qs : api_Spot) (vr3 : Int) : Bool → St
  | vx => Mem.st ⟨[], []⟩ (tl [(5, .v (.one (.d (.int .i64 vr3)))), (14, .v (.one (.d (.bool vx))))]) 0

def z545 (qs : api_Spot) (vr3 : Int) : St := Mem.st ⟨[], [(0, [.d (.int .i64 qs.X), .d (.int .i64 qs.Y)])]⟩ (tl [(3, .v (.one (.box 0 0))), (5, .v (.one (.d (.int .i64 vr3))))]) 1

theorem z548 (qs : api_Spot) (vr3 : Int) {r} (hF : z544 qs vr3 = some r) : Awp prog 0 16 (cL (cL (cR (cR (cB f37))))) (Out 0 z547 (z546 qs vr3) r) (z545 qs vr3) := by
  unfold z544 at hF
  refine cE hF (fun h2 hF => ?_) fun h2 hF => ?_
  · refine bE hF fun vr2 h3 hF => ?_
    refine awp_region ?_
    refine aR 1 ?_
    refine aB h2 ?_
    refine aR 2 ?_
    refine aC (z507 h3) [] [] [] ?_
    refine aR 2 ?_
    refine aE ?_
    exact oO hF [] [] rfl
  · refine awp_region ?_
    refine aR 1 ?_
    refine aB h2 ?_
    refine aR 5 ?_
    refine aE ?_
    exact oO hF [] [] rfl

def z542 : Int → AEx
  | _ => .normal

def z541 (qs : api_Spot) (vr3 : Int) : Int → St
  | ve => Mem.st ⟨[], []⟩ (tl [(5, .v (.one (.d (.int .i64 ve))))]) 0

def z540 (qs : api_Spot) (vr3 : Int) : St := Mem.st ⟨[], [(0, [.d (.int .i64 qs.X), .d (.int .i64 qs.Y)])]⟩ (tl [(3, .v (.one (.box 0 0))), (5, .v (.one (.d (.int .i64 vr3))))]) 1

theorem z543 (qs : api_Spot) (vr3 : Int) {r} (hF : z539 qs vr3 = some r) : Awp prog 0 16 (cL (cR (cR (cB f37)))) (Out 0 z542 (z541 qs vr3) r) (z540 qs vr3) := by
  unfold z539 at hF
  refine awp_seq ?_
  refine awp_to (st' := z545 qs vr3) (oT [] []) ?_
  refine bE hF fun vx1 h4 hF => ?_
  refine awp_sub (z548 qs vr3 h4) ?_
  refine cE hF (fun h5 hF => ?_) fun h5 hF => ?_
  · refine awp_true (by kernel_rfl) h5 ?_
    refine awp_region ?_
    refine aR 1 ?_
    refine aE ?_
    exact oO hF [] [] rfl
  · refine awp_false (by kernel_rfl) h5 ?_
    refine awp_skip ?_
    exact oO hF [] [] rfl

def z537 (qf : api_Fence) (qs : api_Spot) (r : Int) : TV × Mem := (.v (.one (.d (.int .i64 r))), ⟨[], []⟩)

theorem z538 {qf : api_Fence} {qs : api_Spot} {r} (hF : z536 qf qs = some r) : Holds prog 37 [.v (.agg [.d (.str qf.Key), .d (.lst (List.map api_Spot.enc qf.Corners))]), .v (.agg [.d (.int .i64 qs.X), .d (.int .i64 qs.Y)])] ⟨[], []⟩ (Is (z537 qf qs r)) := by
  unfold z536 at hF
  refine holds_of_awp hΓ (fn := f37) (c := cB f37) (A := 0) (nx := 0) (by kernel_rfl) (by kernel_rfl) (by kernel_rfl) (by kernel_rfl) (by kernel_rfl) (by kernel_rfl) (lowc_of (by kernel_rfl)) ?_
  show Awp prog 0 16 (cB f37) _ _
  refine awp_seq ?_
  refine awp_region ?_
  refine aR 3 ?_
  refine aE ?_
  refine awp_seq ?_
  refine bE hF fun vr3 h1 hF => ?_
  refine awp_region ?_
  refine aR 1 ?_
  refine aC (z398 h1) [] [] [] ?_
  refine aR 1 ?_
  refine aE ?_
  refine awp_seq ?_
  refine awp_to (st' := z540 qs vr3) (oT [(0, 1000)] []) ?_
  refine bE hF fun ve1 h6 hF => ?_
  refine awp_sub (z543 qs vr3 h6) ?_
  refine awp_seq ?_
  refine awp_region ?_
  refine aR 2 ?_
  refine aE ?_
  refine awp_ret ?_
  exact oF hF [] []

/-! ### beaconfleet/place.Where -/
def z405 (qf : api_Fence) (qs : api_Spot) (r : Int × Int) : TV × Mem := (.tup [.one (.d (.int .i64 r.1)), .one (.d (.int .i64 r.2))], ⟨[], []⟩)

theorem z406 {qf : api_Fence} {qs : api_Spot} {r} (hF : z404 qf qs = some r) : Holds prog 17 [.v (.agg [.d (.str qf.Key), .d (.lst (List.map api_Spot.enc qf.Corners))]), .v (.agg [.d (.int .i64 qs.X), .d (.int .i64 qs.Y)])] ⟨[], []⟩ (Is (z405 qf qs r)) := by
  unfold z404 at hF
  refine holds_of_awp hΓ (fn := f17) (c := cB f17) (A := 0) (nx := 0) (by kernel_rfl) (by kernel_rfl) (by kernel_rfl) (by kernel_rfl) (by kernel_rfl) (by kernel_rfl) (lowc_of (by kernel_rfl)) ?_
  show Awp prog 0 17 (cB f17) _ _
  refine awp_seq ?_
  refine awp_region ?_
  refine aR 4 ?_
  refine aE ?_
  refine awp_seq ?_
  refine awp_seq ?_
  refine bE hF fun vr h1 hF => ?_
  refine awp_region ?_
  refine aR 2 ?_
  refine aC (z538 h1) [] [] [] ?_
  refine aR 1 ?_
  refine aE ?_
  refine awp_seq ?_
  refine awp_region ?_
  refine aR 2 ?_
  refine aE ?_
  refine cE hF (fun h2 hF => ?_) fun h2 hF => ?_
  · refine awp_true (by kernel_rfl) h2 ?_
    refine awp_seq ?_
    refine awp_region ?_
    refine aR 3 ?_
    refine aE ?_
    refine awp_ret ?_
    exact oF hF [] []
  · refine awp_false (by kernel_rfl) h2 ?_
    refine awp_skip ?_
    refine awp_seq ?_
    refine bE hF fun vr1 h3 hF => ?_
    refine awp_region ?_
    refine aR 3 ?_
    refine aC (z586 h3) [] [] [] ?_
    refine aR 2 ?_
    refine aE ?_
    refine awp_ret ?_
    exact oF hF [] []

/-! ### beaconfleet/twin.CheckProps -/
def z1161 : Unit → AEx
  | _ => .exit 0

def z1160 : Unit → St
  | _ => Mem.st ⟨[], [(0, [.nil])]⟩ (tl [(1, .v (.one (.box 0 0)))]) 1

def z1159 : Unit → St
  | _ => Mem.st ⟨[], [(0, [.nil])]⟩ (tl [(1, .v (.one (.box 0 0))), (11, .v (.one (.nil))), (12, .v (.one (.d (.int .i64 0)))), (13, .v (.one (.d (.int .i64 0))))]) 1

theorem z1162 (s : Unit) (r : (Unit) ⊕ (Unit)) (hF : z1158  s = some r) : Awp prog 0 57 (cL (cL (cR (cL (cR (cR (cB f70))))))) (Out 0 (kk z1161) (SS (z1159 ) (z1160 )) r) (z1159  s) := by
  unfold z1158 at hF
  refine awp_seq ?_
  refine awp_region ?_
  refine aR 1 ?_
  refine aE ?_
  refine awp_seq ?_
  refine cE hF (fun h2 hF => ?_) fun h2 hF => ?_
  · refine awp_true (by kernel_rfl) h2 ?_
    refine awp_skip ?_
    refine awp_seq ?_
    refine awp_block ?_
    refine awp_seq ?_
    exact nE hF
  · refine awp_false (by kernel_rfl) h2 ?_
    refine awp_exit ?_
    exact oO hF [] [] rfl

def z1166 : Unit → AEx
  | _ => .exit 2

def z1165 : Unit → St
  | _ => Mem.st ⟨[], []⟩ (tl []) 0

def z1164 : Unit → St
  | _ => Mem.st ⟨[], [(0, [.nil])]⟩ (tl [(1, .v (.one (.box 0 0))), (46, .v (.one (.nil))), (47, .v (.one (.d (.int .i64 0)))), (48, .v (.one (.d (.int .i64 0))))]) 1

theorem z1167 (s : Unit) (r : (Unit) ⊕ (Unit)) (hF : z1163  s = some r) : Awp prog 0 57 (cL (cL (cR (cL (cR (cR (cR (cB f70)))))))) (Out 0 (kk z1166) (SS (z1164 ) (z1165 )) r) (z1164  s) := by
  unfold z1163 at hF
  refine awp_seq ?_
  refine awp_region ?_
  refine aR 1 ?_
  refine aE ?_
  refine awp_seq ?_
  refine cE hF (fun h5 hF => ?_) fun h5 hF => ?_
  · refine awp_true (by kernel_rfl) h5 ?_
    refine awp_skip ?_
    refine awp_seq ?_
    refine awp_block ?_
    refine awp_seq ?_
    exact nE hF
  · refine awp_false (by kernel_rfl) h5 ?_
    refine awp_exit ?_
    exact oO hF [] [] rfl

def z1156 (r : Int) : TV × Mem := (.v (.one (.d (.int .i64 r))), ⟨[], []⟩)

theorem z1157 {r} (hF : z1155 = some r) : Holds prog 70 [.v (.one (.nil))] ⟨[], []⟩ (Is (z1156  r)) := by
  unfold z1155 at hF
  refine holds_of_awp hΓ (fn := f70) (c := cB f70) (A := 0) (nx := 0) (by kernel_rfl) (by kernel_rfl) (by kernel_rfl) (by kernel_rfl) (by kernel_rfl) (by kernel_rfl) (lowc_of (by kernel_rfl)) ?_
  show Awp prog 0 57 (cB f70) _ _
  refine awp_seq ?_
  refine awp_region ?_
  refine aR 2 ?_
  refine aE ?_
  refine awp_seq ?_
  refine awp_seq ?_
  refine awp_region ?_
  refine aR 3 ?_
  refine aE ?_
  refine cE hF (fun h1 hF => ?_) fun h1 hF => ?_
  · refine awp_true (by kernel_rfl) h1 ?_
    refine awp_seq ?_
    refine awp_region ?_
    refine aR 1 ?_
    refine aE ?_
    refine awp_ret ?_
    exact oF hF [] []
  · refine awp_false (by kernel_rfl) h1 ?_
    refine awp_skip ?_
    refine awp_seq ?_
    refine awp_seq ?_
    refine awp_region ?_
    refine aR 3 ?_
    refine aE ?_
    refine awp_block ?_
    refine awp_to (st' := z1159  ()) (oT [] []) ?_
    refine bE hF fun _ h4 hF => ?_
    refine awp_sub (awp_loop' (z1159 ) z1161 (z1160 ) (by intro x; exact fun h => nomatch h) h4 (z1162 )) ?_
    refine awp_seq ?_
    refine awp_seq ?_
    refine awp_region ?_
    refine aR 3 ?_
    refine aE ?_
    refine awp_block ?_
    refine awp_to (st' := z1164  ()) (oT [] []) ?_
    refine bE hF fun _ h7 hF => ?_
    refine awp_sub (awp_loop' (z1164 ) z1166 (z1165 ) (by intro x; exact fun h => nomatch h) h7 (z1167 )) ?_
    refine awp_seq ?_
    refine awp_region ?_
    refine aR 1 ?_
    refine aE ?_
    refine awp_ret ?_
    exact oF hF [] []

/-! ### internal/stringslite.Cut -/
def z1126 (qs : List UInt8) (qsep : List UInt8) (r : (List UInt8) × (List UInt8) × Bool) : TV × Mem := (.tup [.one (.d (.str r.1)), .one (.d (.str r.2.1)), .one (.d (.bool r.2.2))], ⟨[], []⟩)

theorem z1127 {qs : List UInt8} {qsep : List UInt8} {r} (hF : z1125 qs qsep = some r) : Holds prog 174 [.v (.one (.d (.str qs))), .v (.one (.d (.str qsep)))] ⟨[], []⟩ (Is (z1126 qs qsep r)) := by
  unfold z1125 at hF
  refine holds_of_awp hΓ (fn := f174) (c := cB f174) (A := 0) (nx := 0) (by kernel_rfl) (by kernel_rfl) (by kernel_rfl) (by kernel_rfl) (by kernel_rfl) (by kernel_rfl) (lowc_of (by kernel_rfl)) ?_
  show Awp prog 0 23 (cB f174) _ _
  refine awp_seq ?_
  refine awp_region ?_
  refine aR 3 ?_
  refine aE ?_
  refine awp_seq ?_
  refine awp_seq ?_
  refine bE hF fun vr h1 hF => ?_
  refine awp_region ?_
  refine aR 2 ?_
  refine aC (z1141 h1) [] [] [] ?_
  refine aR 1 ?_
  refine aE ?_
  refine awp_seq ?_
  refine awp_region ?_
  refine aR 2 ?_
  refine aE ?_
  refine cE hF (fun h2 hF => ?_) fun h2 hF => ?_
  · refine awp_true (by kernel_rfl) h2 ?_
    refine awp_seq ?_
    refine bE hF fun vs h3 hF => ?_
    refine bE hF fun vs1 h4 hF => ?_
    refine aD ?_
    refine dR 2 ?_
    refine dX (x_sliceS h3) ?_
    refine dR 5 ?_
    refine dX (x_sliceS h4) ?_
    refine dR 3 ?_
    refine dE ?_
    refine awp_ret ?_
    exact oF hF [] []
  · refine awp_false (by kernel_rfl) h2 ?_
    refine awp_skip ?_
    refine awp_seq ?_
    refine awp_region ?_
    refine aR 4 ?_
    refine aE ?_
    refine awp_ret ?_
    exact oF hF [] []

/-! ### strings.Cut -/
def z1014 (qs : List UInt8) (qsep : List UInt8) (r : (List UInt8) × (List UInt8) × Bool) : TV × Mem := (.tup [.one (.d (.str r.1)), .one (.d (.str r.2.1)), .one (.d (.bool r.2.2))], ⟨[], []⟩)

theorem z1015 {qs : List UInt8} {qsep : List UInt8} {r} (hF : z1013 qs qsep = some r) : Holds prog 150 [.v (.one (.d (.str qs))), .v (.one (.d (.str qsep)))] ⟨[], []⟩ (Is (z1014 qs qsep r)) := by
  unfold z1013 at hF
  refine holds_of_awp hΓ (fn := f150) (c := cB f150) (A := 0) (nx := 0) (by kernel_rfl) (by kernel_rfl) (by kernel_rfl) (by kernel_rfl) (by kernel_rfl) (by kernel_rfl) (lowc_of (by kernel_rfl)) ?_
  show Awp prog 0 13 (cB f150) _ _
  refine awp_seq ?_
  refine awp_region ?_
  refine aR 3 ?_
  refine aE ?_
  refine awp_seq ?_
  refine bE hF fun x h1 hF => ?_
  obtain ⟨vr1, vr2, vr3⟩ := x
  refine awp_region ?_
  refine aR 2 ?_
  refine aC (z1127 h1) [] [] [] ?_
  refine aR 6 ?_
  refine aE ?_
  refine awp_ret ?_
  exact oF hF [] []

/-! ### beaconfleet/base.Dotted -/
def z14 : Unit ⊕ Bool → AEx
  | .inl _ => .exit 0
  | .inr _ => .ret

def z13 (qmost : Int) : Unit ⊕ Bool → St
  | .inl _ => Mem.st ⟨[], []⟩ (tl []) 0
  | .inr vx => Mem.st ⟨[], []⟩ (tl [(4, .v (.one (.d (.bool vx))))]) 0

def z11 (qmost : Int) : (List UInt8) × Int → St
  | (vs, vn) => Mem.st ⟨[], []⟩ (tl [(0, .v (.one (.d (.str vs)))), (1, .v (.one (.d (.int .i64 qmost)))), (5, .v (.one (.d (.int .i64 vn))))]) 0

theorem z15 (qmost : Int) (s : (List UInt8) × Int) (r : ((List UInt8) × Int) ⊕ (Unit ⊕ Bool)) (hF : z10 qmost s = some r) : Awp prog 0 26 (cL (cL (cR (cL (cR (cB f124)))))) (Out 0 (kk z14) (SS (z11 qmost) (z13 qmost)) r) (z11 qmost s) := by
  obtain ⟨vs, vn⟩ := s
  unfold z10 at hF
  refine awp_seq ?_
  refine awp_seq ?_
  refine awp_region ?_
  refine aR 3 ?_
  refine aE ?_
  refine cE hF (fun h1 hF => ?_) fun h1 hF => ?_
  · refine awp_true (by kernel_rfl) h1 ?_
    refine awp_skip ?_
    refine awp_seq ?_
    refine awp_block ?_
    refine awp_seq ?_
    refine bE hF fun x h2 hF => ?_
    obtain ⟨vr2, vr4_1, vr5_1⟩ := x
    refine awp_region ?_
    refine aR 1 ?_
    refine aC (z1015 h2) [] [] [] ?_
    refine aR 7 ?_
    refine aE ?_
    refine awp_seq ?_
    refine awp_seq ?_
    refine bE hF fun vr3 h3 hF => ?_
    refine awp_region ?_
    refine aR 1 ?_
    refine aC (z27 h3) [] [] [] ?_
    refine aR 1 ?_
    refine aE ?_
    refine cE hF (fun h4 hF => ?_) fun h4 hF => ?_
    · refine awp_true (by kernel_rfl) h4 ?_
      refine awp_seq ?_
      refine awp_region ?_
      refine aR 1 ?_
      refine aE ?_
      refine awp_ret ?_
      exact oO hF [] [] rfl
    · refine awp_false (by kernel_rfl) h4 ?_
      refine awp_skip ?_
      refine awp_seq ?_
      refine awp_seq ?_
      refine awp_region ?_
      refine aR 2 ?_
      refine aE ?_
      refine cE hF (fun h5 hF => ?_) fun h5 hF => ?_
      · refine awp_true (by kernel_rfl) h5 ?_
        refine awp_seq ?_
        refine awp_region ?_
        refine aR 1 ?_
        refine aE ?_
        refine awp_ret ?_
        exact oO hF [] [] rfl
      · refine awp_false (by kernel_rfl) h5 ?_
        refine awp_skip ?_
        refine awp_region ?_
        refine aR 2 ?_
        refine aE ?_
        refine awp_region ?_
        refine aR 3 ?_
        refine aE ?_
        exact oO hF [] [] rfl
  · refine awp_false (by kernel_rfl) h1 ?_
    refine awp_exit ?_
    exact oO hF [] [] rfl

def z7 (qs : List UInt8) (qmost : Int) (r : Bool) : TV × Mem := (.v (.one (.d (.bool r))), ⟨[], []⟩)

theorem z8 {qs : List UInt8} {qmost : Int} {r} (hF : z6 qs qmost = some r) : Holds prog 124 [.v (.one (.d (.str qs))), .v (.one (.d (.int .i64 qmost)))] ⟨[], []⟩ (Is (z7 qs qmost r)) := by
  unfold z6 at hF
  refine holds_of_awp hΓ (fn := f124) (c := cB f124) (A := 0) (nx := 0) (by kernel_rfl) (by kernel_rfl) (by kernel_rfl) (by kernel_rfl) (by kernel_rfl) (by kernel_rfl) (lowc_of (by kernel_rfl)) ?_
  show Awp prog 0 26 (cB f124) _ _
  refine awp_seq ?_
  refine awp_region ?_
  refine aR 1 ?_
  refine aE ?_
  refine awp_seq ?_
  refine awp_seq ?_
  refine awp_region ?_
  refine aR 1 ?_
  refine aE ?_
  refine awp_block ?_
  refine awp_to (st' := z11 qmost (qs, 0)) (oT [] []) ?_
  refine bE hF fun x h6 hF => ?_
  rcases x with _ | vx1
  · refine awp_sub (awp_loop' (z11 qmost) z14 (z13 qmost) (by intro x; rcases x with x | x <;> exact fun h => nomatch h) h6 (z15 qmost)) ?_
    refine awp_seq ?_
    refine awp_region ?_
    refine aR 1 ?_
    refine aE ?_
    refine awp_ret ?_
    exact oF hF [] []
  · refine awp_sub (awp_loop' (z11 qmost) z14 (z13 qmost) (by intro x; rcases x with x | x <;> exact fun h => nomatch h) h6 (z15 qmost)) ?_
    exact oF hF [] []

/-! ### beaconfleet/twin.isName -/
def z1219 (qs : List UInt8) (r : Bool) : TV × Mem := (.v (.one (.d (.bool r))), ⟨[], []⟩)

theorem z1220 {qs : List UInt8} {r} (hF : z1218 qs = some r) : Holds prog 97 [.v (.one (.d (.str qs)))] ⟨[], []⟩ (Is (z1219 qs r)) := by
  unfold z1218 at hF
  refine holds_of_awp hΓ (fn := f97) (c := cB f97) (A := 0) (nx := 0) (by kernel_rfl) (by kernel_rfl) (by kernel_rfl) (by kernel_rfl) (by kernel_rfl) (by kernel_rfl) (lowc_of (by kernel_rfl)) ?_
  show Awp prog 0 5 (cB f97) _ _
  refine awp_seq ?_
  refine awp_region ?_
  refine aR 1 ?_
  refine aE ?_
  refine awp_seq ?_
  refine bE hF fun vr6 h1 hF => ?_
  refine awp_region ?_
  refine aR 1 ?_
  refine aC (z8 h1) [] [] [] ?_
  refine aR 1 ?_
  refine aE ?_
  refine awp_ret ?_
  exact oF hF [] []

/-! ### unicode/utf8.ValidString -/
def z1272 (qx : List UInt8) (r : Bool) : TV × Mem := (.v (.one (.d (.bool r))), ⟨[], []⟩)

theorem z1273 {qx : List UInt8} {r} (hF : utf8_ValidString qx = some r) : Holds prog 128 [.v (.one (.d (.str qx)))] ⟨[], []⟩ (Is (z1272 qx r)) := by
  unfold utf8_ValidString at hF
  refine gE hF fun h1 hF => ?_
  obtain rfl := Option.some.inj hF
  have h2 : qx.length ≤ 9223372036854775807 := by simpa using h1
  refine holds_lib (args := [.str qx]) (tv := .c (.d (.bool (Lib.validD qx)))) ⟨_, cB Go.Proofs.Tryz.f128, Go.Proofs.Tryz.func128, by kernel_rfl, by kernel_rfl⟩ rfl rfl fun w ht => ?_
  refine (Go.Proofs.Any.utf8_ValidString Go.Proofs.Tryz.lays196 ⟨qx.toArray⟩ w (by simpa [ByteArray.size] using h2) (utf8_tabs (ht 0 _ rfl) (ht 1 _ rfl) (by kernel_rfl) (by kernel_rfl))).mono ?_
  rintro e w' ⟨rfl, hb⟩
  exact ⟨rfl, hb⟩

/-! ### beaconfleet/base.Unmarked -/
def z94 : Bool → AEx
  | _ => .normal

def z93 (qs : List UInt8) (vx : Int) : Bool → St
  | vx2 => Mem.st ⟨[], []⟩ (tl [(0, .v (.one (.d (.str qs)))), (5, .v (.one (.d (.int .i64 (qs.length : Int))))), (6, .v (.one (.d (.int .i64 vx)))), (18, .v (.one (.d (.bool vx2))))]) 0

def z92 (qs : List UInt8) (vx : Int) : St := Mem.st ⟨[], []⟩ (tl [(0, .v (.one (.d (.str qs)))), (3, .v (.one (.d (.int .i64 vx)))), (5, .v (.one (.d (.int .i64 (qs.length : Int))))), (6, .v (.one (.d (.int .i64 vx))))]) 0

theorem z95 (qs : List UInt8) (vx : Int) {r} (hF : z91 qs vx = some r) : Awp prog 0 22 (cL (cR (cL (cL (cR (cR (cL (cL (cR (cL (cR (cB f104)))))))))))) (Out 0 z94 (z93 qs vx) r) (z92 qs vx) := by
  unfold z91 at hF
  refine bE hF fun vc1 h2 hF => ?_
  refine cE hF (fun h3 hF => ?_) fun h3 hF => ?_
  · refine awp_region ?_
    refine aR 2 ?_
    refine aX (x_idxS h2) ?_
    refine aB h3 ?_
    refine aR 6 ?_
    refine aE ?_
    exact oO hF [] [] rfl
  · refine awp_region ?_
    refine aR 2 ?_
    refine aX (x_idxS h2) ?_
    refine aB h3 ?_
    refine aR 3 ?_
    refine aX (x_idxS h2) ?_
    refine aR 2 ?_
    refine aE ?_
    exact oO hF [] [] rfl

def z89 : Unit ⊕ Unit → AEx
  | .inl _ => .exit 0
  | .inr _ => .ret

def z88 (qs : List UInt8) : Unit ⊕ Unit → St
  | .inl _ => Mem.st ⟨[], []⟩ (tl [(0, .v (.one (.d (.str qs))))]) 0
  | .inr _ => Mem.st ⟨[], []⟩ (tl [(2, .v (.one (.d (.bool false))))]) 0

def z87 (qs : List UInt8) : Int → St
  | vx => Mem.st ⟨[], []⟩ (tl [(0, .v (.one (.d (.str qs)))), (5, .v (.one (.d (.int .i64 (qs.length : Int))))), (6, .v (.one (.d (.int .i64 vx))))]) 0

theorem z90 (qs : List UInt8) (vx : Int) (r : (Int) ⊕ (Unit ⊕ Unit)) (hF : z86 qs vx = some r) : Awp prog 0 22 (cL (cL (cR (cL (cR (cB f104)))))) (Out 0 (kk z89) (SS (z87 qs) (z88 qs)) r) (z87 qs vx) := by
  unfold z86 at hF
  refine awp_seq ?_
  refine awp_region ?_
  refine aR 1 ?_
  refine aE ?_
  refine awp_seq ?_
  refine cE hF (fun h1 hF => ?_) fun h1 hF => ?_
  · refine awp_true (by kernel_rfl) h1 ?_
    refine awp_skip ?_
    refine awp_seq ?_
    refine awp_block ?_
    refine awp_seq ?_
    refine awp_region ?_
    refine aR 2 ?_
    refine aE ?_
    refine awp_seq ?_
    refine awp_to (st' := z92 qs vx) (oT [] []) ?_
    refine bE hF fun vx2_1 h4 hF => ?_
    refine awp_sub (z95 qs vx h4) ?_
    refine cE hF (fun h5 hF => ?_) fun h5 hF => ?_
    · refine awp_true (by kernel_rfl) h5 ?_
      refine awp_seq ?_
      refine awp_region ?_
      refine aR 1 ?_
      refine aE ?_
      refine awp_ret ?_
      exact oO hF [] [] rfl
    · refine awp_false (by kernel_rfl) h5 ?_
      refine awp_skip ?_
      refine awp_region ?_
      refine aR 2 ?_
      refine aE ?_
      exact oO hF [] [] rfl
  · refine awp_false (by kernel_rfl) h1 ?_
    refine awp_exit ?_
    exact oO hF [] [] rfl

def z84 (qs : List UInt8) (r : Bool) : TV × Mem := (.v (.one (.d (.bool r))), ⟨[], []⟩)

theorem z85 {qs : List UInt8} {r} (hF : z83 qs = some r) : Holds prog 104 [.v (.one (.d (.str qs)))] ⟨[], []⟩ (Is (z84 qs r)) := by
  unfold z83 at hF
  refine holds_of_awp hΓ (fn := f104) (c := cB f104) (A := 0) (nx := 0) (by kernel_rfl) (by kernel_rfl) (by kernel_rfl) (by kernel_rfl) (by kernel_rfl) (by kernel_rfl) (lowc_of (by kernel_rfl)) ?_
  show Awp prog 0 22 (cB f104) _ _
  refine awp_seq ?_
  refine awp_region ?_
  refine aR 1 ?_
  refine aE ?_
  refine awp_seq ?_
  refine awp_seq ?_
  refine awp_region ?_
  refine aR 3 ?_
  refine aE ?_
  refine awp_block ?_
  refine awp_to (st' := z87 qs 0) (oT [] []) ?_
  refine bE hF fun x h6 hF => ?_
  rcases x with _ | _
  · refine awp_sub (awp_loop' (z87 qs) z89 (z88 qs) (by intro x; rcases x with x | x <;> exact fun h => nomatch h) h6 (z90 qs)) ?_
    refine awp_seq ?_
    refine bE hF fun vr h7 hF => ?_
    refine awp_region ?_
    refine aR 1 ?_
    refine aC (z1273 h7) [] [] [] ?_
    refine aR 1 ?_
    refine aE ?_
    refine awp_ret ?_
    exact oF hF [] []
  · refine awp_sub (awp_loop' (z87 qs) z89 (z88 qs) (by intro x; rcases x with x | x <;> exact fun h => nomatch h) h6 (z90 qs)) ?_
    exact oF hF [] []

/-! ### beaconfleet/twin.valueFault -/
def z1240 : api_Value ⊕ Unit → AEx
  | .inl _ => .normal
  | .inr _ => .ret

def z1239 (qv : api_Value) : api_Value ⊕ Unit → St
  | .inl vused => Mem.st ⟨[], [(0, [.d (.int .i64 qv.Kind), .d (.bool qv.Flag), .d (.int .i64 qv.Number), .d (.str qv.Words)]), (1, [.d (.int .i64 vused.Kind), .d (.bool vused.Flag), .d (.int .i64 vused.Number), .d (.str vused.Words)])]⟩ (tl [(1, .v (.one (.box 0 0))), (3, .v (.one (.box 1 0)))]) 2
  | .inr _ => Mem.st ⟨[], []⟩ (tl [(2, .v (.one (.d (.int .i64 4))))]) 0

def z1238 (qv : api_Value) : St := Mem.st ⟨[], [(0, [.d (.int .i64 qv.Kind), .d (.bool qv.Flag), .d (.int .i64 qv.Number), .d (.str qv.Words)]), (1, [.d (.int .i64 qv.Kind), .d (.bool false), .d (.int .i64 0), .d (.str ([] : List UInt8))])]⟩ (tl [(1, .v (.one (.box 0 0))), (3, .v (.one (.box 1 0)))]) 2

theorem z1241 (qv : api_Value) {r} (hF : z1237 qv = some r) : Awp prog 0 44 (cL (cR (cR (cB f98)))) (Out 0 z1240 (z1239 qv) r) (z1238 qv) := by
  unfold z1237 at hF
  refine awp_seq ?_
  refine awp_region ?_
  refine aR 2 ?_
  refine aE ?_
  refine awp_block ?_
  refine awp_seq ?_
  refine awp_region ?_
  refine aR 2 ?_
  refine aE ?_
  refine cE hF (fun h1 hF => ?_) fun h1 hF => ?_
  · refine awp_true (by kernel_rfl) h1 ?_
    refine awp_skip ?_
    exact oO hF [] [] rfl
  · refine awp_false (by kernel_rfl) h1 ?_
    refine awp_seq ?_
    refine awp_region ?_
    refine aR 2 ?_
    refine aE ?_
    refine cE hF (fun h2 hF => ?_) fun h2 hF => ?_
    · refine awp_true (by kernel_rfl) h2 ?_
      refine awp_region ?_
      refine aR 4 ?_
      refine aE ?_
      exact oO hF [] [] rfl
    · refine awp_false (by kernel_rfl) h2 ?_
      refine awp_seq ?_
      refine awp_region ?_
      refine aR 2 ?_
      refine aE ?_
      refine cE hF (fun h3 hF => ?_) fun h3 hF => ?_
      · refine awp_true (by kernel_rfl) h3 ?_
        refine awp_region ?_
        refine aR 4 ?_
        refine aE ?_
        exact oO hF [] [] rfl
      · refine awp_false (by kernel_rfl) h3 ?_
        refine awp_seq ?_
        refine awp_region ?_
        refine aR 2 ?_
        refine aE ?_
        refine cE hF (fun h4 hF => ?_) fun h4 hF => ?_
        · refine awp_true (by kernel_rfl) h4 ?_
          refine awp_region ?_
          refine aR 4 ?_
          refine aE ?_
          exact oO hF [] [] rfl
        · refine awp_false (by kernel_rfl) h4 ?_
          refine awp_seq ?_
          refine awp_region ?_
          refine aR 1 ?_
          refine aE ?_
          refine awp_ret ?_
          exact oO hF [] [] rfl

def z1235 (qv : api_Value) (r : Int) : TV × Mem := (.v (.one (.d (.int .i64 r))), ⟨[], []⟩)

theorem z1236 {qv : api_Value} {r} (hF : z1234 qv = some r) : Holds prog 98 [.v (.agg [.d (.int .i64 qv.Kind), .d (.bool qv.Flag), .d (.int .i64 qv.Number), .d (.str qv.Words)])] ⟨[], []⟩ (Is (z1235 qv r)) := by
  unfold z1234 at hF
  refine holds_of_awp hΓ (fn := f98) (c := cB f98) (A := 0) (nx := 0) (by kernel_rfl) (by kernel_rfl) (by kernel_rfl) (by kernel_rfl) (by kernel_rfl) (by kernel_rfl) (lowc_of (by kernel_rfl)) ?_
  show Awp prog 0 44 (cB f98) _ _
  refine awp_seq ?_
  refine awp_region ?_
  refine aR 2 ?_
  refine aE ?_
  refine awp_seq ?_
  refine awp_region ?_
  refine aR 5 ?_
  refine aE ?_
  refine awp_seq ?_
  refine awp_to (st' := z1238 qv) (oT [(1, 5000)] []) ?_
  refine bE hF fun x h5 hF => ?_
  rcases x with vused1 | _
  · refine awp_sub (z1241 qv h5) ?_
    refine awp_seq ?_
    refine awp_block ?_
    refine awp_seq ?_
    refine awp_region ?_
    refine aR 2 ?_
    refine aS (does_eqS (op := .neq) (xs := [.int .i64 qv.Kind, .bool qv.Flag, .int .i64 qv.Number, .str qv.Words]) (ys := [.int .i64 vused1.Kind, .bool vused1.Flag, .int .i64 vused1.Number, .str vused1.Words]) (b := (decide (qv.Kind = vused1.Kind) && ((qv.Flag == vused1.Flag) && (decide (qv.Number = vused1.Number) && (decide (qv.Words = vused1.Words) && true))))) (c := (!(decide (qv.Kind = vused1.Kind) && ((qv.Flag == vused1.Flag) && (decide (qv.Number = vused1.Number) && (decide (qv.Words = vused1.Words) && true)))))) rfl (.inr ⟨rfl, rfl⟩) (by kernel_rfl) (by kernel_rfl) (by kernel_rfl) (by kernel_rfl) (by kernel_rfl) (by kernel_rfl)) ?_
    refine aR 1 ?_
    refine aE ?_
    refine cE hF (fun h6 hF => ?_) fun h6 hF => ?_
    · refine awp_true (by kernel_rfl) h6 ?_
      refine awp_seq ?_
      refine awp_region ?_
      refine aR 1 ?_
      refine aE ?_
      refine awp_ret ?_
      exact oF hF [] []
    · refine awp_false (by kernel_rfl) h6 ?_
      refine awp_seq ?_
      refine bE hF fun vr h7 hF => ?_
      refine awp_region ?_
      refine aR 2 ?_
      refine aC (z77 h7) [] [] [] ?_
      refine aR 1 ?_
      refine aE ?_
      refine cE hF (fun h8 hF => ?_) fun h8 hF => ?_
      · refine awp_true (by kernel_rfl) h8 ?_
        refine awp_seq ?_
        refine awp_region ?_
        refine aR 1 ?_
        refine aE ?_
        refine awp_ret ?_
        exact oF hF [] []
      · refine awp_false (by kernel_rfl) h8 ?_
        refine awp_seq ?_
        refine awp_region ?_
        refine aR 5 ?_
        refine aE ?_
        refine cE hF (fun h9 hF => ?_) fun h9 hF => ?_
        · refine awp_true (by kernel_rfl) h9 ?_
          refine awp_seq ?_
          refine awp_region ?_
          refine aR 1 ?_
          refine aE ?_
          refine awp_ret ?_
          exact oF hF [] []
        · refine awp_false (by kernel_rfl) h9 ?_
          refine awp_seq ?_
          refine bE hF fun vr1 h10 hF => ?_
          refine awp_region ?_
          refine aR 2 ?_
          refine aC (z85 h10) [] [] [] ?_
          refine aR 2 ?_
          refine aE ?_
          refine cE hF (fun h11 hF => ?_) fun h11 hF => ?_
          · refine awp_true (by kernel_rfl) h11 ?_
            refine awp_seq ?_
            refine awp_region ?_
            refine aR 1 ?_
            refine aE ?_
            refine awp_ret ?_
            exact oF hF [] []
          · refine awp_false (by kernel_rfl) h11 ?_
            refine awp_skip ?_
            refine awp_seq ?_
            refine awp_region ?_
            refine aR 1 ?_
            refine aE ?_
            refine awp_ret ?_
            exact oF hF [] []
  · refine awp_sub (z1241 qv h5) ?_
    exact oF hF [] []

/-! ### beaconfleet/twin.find$1 -/
def z1211 (qp : api_Prop) (qname : List UInt8) (r : Unit) : TV × Mem := (.v (.one (.d (.int .i64 (Lib.compareBytes qp.Name qname)))), ⟨[], []⟩)

theorem z1212 {qp : api_Prop} {qname : List UInt8} {r} (hF : z1210 qp qname = some r) : Holds prog 126 [.v (.agg [.d (.str qp.Name), .d (.int .i64 qp.Value.Kind), .d (.bool qp.Value.Flag), .d (.int .i64 qp.Value.Number), .d (.str qp.Value.Words)]), .v (.one (.d (.str qname)))] ⟨[], []⟩ (Is (z1211 qp qname r)) := by
  unfold z1210 at hF
  refine holds_of_awp hΓ (fn := f126) (c := cB f126) (A := 0) (nx := 0) (by kernel_rfl) (by kernel_rfl) (by kernel_rfl) (by kernel_rfl) (by kernel_rfl) (by kernel_rfl) (lowc_of (by kernel_rfl)) ?_
  show Awp prog 0 9 (cB f126) _ _
  refine awp_seq ?_
  refine awp_region ?_
  refine aR 2 ?_
  refine aE ?_
  refine awp_seq ?_
  refine bE hF fun _ h1 hF => ?_
  refine awp_region ?_
  refine aR 3 ?_
  refine aC (z1004 h1) [] [] [] ?_
  refine aR 1 ?_
  refine aE ?_
  refine awp_ret ?_
  exact oF hF [] []

/-! ### slices.BinarySearchFunc[[]beaconfleet/api.Prop,beaconfleet/api.Prop,string] -/
def z665 : Int → AEx
  | _ => .exit 0

def z664 (qx : List api_Prop) (qtarget : List UInt8) : Int → St
  | vi1 => Mem.st ⟨[], []⟩ (tl [(0, .v (.one (.d (.lst (List.map api_Prop.enc qx))))), (1, .v (.one (.d (.str qtarget)))), (2, .v (.one (.fn 126 []))), (8, .v (.one (.d (.int .i64 (qx.length : Int))))), (9, .v (.one (.d (.int .i64 vi1))))]) 0

def z663 (qx : List api_Prop) (qtarget : List UInt8) : Int × Int → St
  | (vi, vj) => Mem.st ⟨[], []⟩ (tl [(0, .v (.one (.d (.lst (List.map api_Prop.enc qx))))), (1, .v (.one (.d (.str qtarget)))), (2, .v (.one (.fn 126 []))), (8, .v (.one (.d (.int .i64 (qx.length : Int))))), (9, .v (.one (.d (.int .i64 vi)))), (10, .v (.one (.d (.int .i64 vj))))]) 0

theorem z666 (qx : List api_Prop) (qtarget : List UInt8) (s : Int × Int) (r : (Int × Int) ⊕ (Int)) (hF : z662 qx qtarget s = some r) : Awp prog 0 49 (cL (cL (cL (cR (cR (cR (cB f125))))))) (Out 0 (kk z665) (SS (z663 qx qtarget) (z664 qx qtarget)) r) (z663 qx qtarget s) := by
  obtain ⟨vi, vj⟩ := s
  unfold z662 at hF
  refine awp_seq ?_
  refine awp_seq ?_
  refine awp_region ?_
  refine aR 3 ?_
  refine aE ?_
  refine cE hF (fun h1 hF => ?_) fun h1 hF => ?_
  · refine awp_true (by kernel_rfl) h1 ?_
    refine awp_skip ?_
    refine awp_block ?_
    refine awp_seq ?_
    refine awp_region ?_
    refine aR 7 ?_
    refine aE ?_
    refine awp_seq ?_
    refine bE hF fun vy1 h2 hF => ?_
    refine bE hF fun _ h3 hF => ?_
    refine awp_region ?_
    refine aR 3 ?_
    refine aX (x_idx api_Prop.enc h2) ?_
    refine aR 2 ?_
    refine aC (z1212 h3) [] [] [] ?_
    refine aR 1 ?_
    refine aE ?_
    refine cE hF (fun h4 hF => ?_) fun h4 hF => ?_
    · refine awp_true (by kernel_rfl) h4 ?_
      refine awp_region ?_
      refine aR 3 ?_
      refine aE ?_
      exact oO hF [] [] rfl
    · refine awp_false (by kernel_rfl) h4 ?_
      refine awp_region ?_
      refine aR 2 ?_
      refine aE ?_
      exact oO hF [] [] rfl
  · refine awp_false (by kernel_rfl) h1 ?_
    refine awp_exit ?_
    exact oO hF [] [] rfl

def z670 : Bool → AEx
  | _ => .normal

def z669 (qx : List api_Prop) (qtarget : List UInt8) (vi1_1 : Int) : Bool → St
  | vx => Mem.st ⟨[], []⟩ (tl [(6, .v (.one (.d (.int .i64 vi1_1)))), (7, .v (.one (.d (.bool vx))))]) 0

def z668 (qx : List api_Prop) (qtarget : List UInt8) (vi1_1 : Int) : St := Mem.st ⟨[], []⟩ (tl [(0, .v (.one (.d (.lst (List.map api_Prop.enc qx))))), (1, .v (.one (.d (.str qtarget)))), (2, .v (.one (.fn 126 []))), (8, .v (.one (.d (.int .i64 (qx.length : Int))))), (9, .v (.one (.d (.int .i64 vi1_1))))]) 0

theorem z671 (qx : List api_Prop) (qtarget : List UInt8) (vi1_1 : Int) {r} (hF : z667 qx qtarget vi1_1 = some r) : Awp prog 0 49 (cL (cR (cR (cR (cR (cB f125)))))) (Out 0 z670 (z669 qx qtarget vi1_1) r) (z668 qx qtarget vi1_1) := by
  unfold z667 at hF
  refine cE hF (fun h6 hF => ?_) fun h6 hF => ?_
  · refine bE hF fun vy2 h7 hF => ?_
    refine bE hF fun _ h8 hF => ?_
    refine awp_region ?_
    refine aR 3 ?_
    refine aB h6 ?_
    refine aR 4 ?_
    refine aX (x_idx api_Prop.enc h7) ?_
    refine aR 2 ?_
    refine aC (z1212 h8) [] [] [] ?_
    refine aR 4 ?_
    refine aE ?_
    exact oO hF [] [] rfl
  · refine awp_region ?_
    refine aR 3 ?_
    refine aB h6 ?_
    refine aR 12 ?_
    refine aE ?_
    exact oO hF [] [] rfl

def z660 (qx : List api_Prop) (qtarget : List UInt8) (r : Int × Bool) : TV × Mem := (.tup [.one (.d (.int .i64 r.1)), .one (.d (.bool r.2))], ⟨[], []⟩)

theorem z661 {qx : List api_Prop} {qtarget : List UInt8} {r} (hF : z659 qx qtarget = some r) : Holds prog 125 [.v (.one (.d (.lst (List.map api_Prop.enc qx)))), .v (.one (.d (.str qtarget))), .v (.one (.fn 126 []))] ⟨[], []⟩ (Is (z660 qx qtarget r)) := by
  unfold z659 at hF
  refine holds_of_awp hΓ (fn := f125) (c := cB f125) (A := 0) (nx := 0) (by kernel_rfl) (by kernel_rfl) (by kernel_rfl) (by kernel_rfl) (by kernel_rfl) (by kernel_rfl) (lowc_of (by kernel_rfl)) ?_
  show Awp prog 0 49 (cB f125) _ _
  refine awp_seq ?_
  refine awp_region ?_
  refine aR 2 ?_
  refine aE ?_
  refine awp_seq ?_
  refine awp_region ?_
  refine aR 1 ?_
  refine aL api_Prop.enc qx ?_
  refine aR 1 ?_
  refine aE ?_
  refine awp_seq ?_
  refine awp_region ?_
  refine aR 3 ?_
  refine aE ?_
  refine awp_seq ?_
  refine awp_block ?_
  refine awp_to (st' := z663 qx qtarget (0, (qx.length : Int))) (oT [] []) ?_
  refine bE hF fun vi1_1 h5 hF => ?_
  refine awp_sub (awp_loop' (z663 qx qtarget) z665 (z664 qx qtarget) (by intro x; exact fun h => nomatch h) h5 (z666 qx qtarget)) ?_
  refine awp_seq ?_
  refine awp_to (st' := z668 qx qtarget vi1_1) (oT [] []) ?_
  refine bE hF fun vx1 h9 hF => ?_
  refine awp_sub (z671 qx qtarget vi1_1 h9) ?_
  refine awp_ret ?_
  exact oF hF [] []

/-! ### beaconfleet/twin.find -/
def z1213 (ql : List api_Prop) (qname : List UInt8) (r : Int) : TV × Mem := (.v (.one (.d (.int .i64 r))), ⟨[], []⟩)

theorem z1217 {ql : List api_Prop} {qname : List UInt8} {r} (hF : twin_find ql qname = some r) : Holds prog 101 [.v (.one (.d (.lst (List.map api_Prop.enc ql)))), .v (.one (.d (.str qname)))] ⟨[], []⟩ (Is (z1213 ql qname r)) := by
  unfold twin_find at hF
  refine holds_of_awp hΓ (fn := f101) (c := cB f101) (A := 0) (nx := 0) (by kernel_rfl) (by kernel_rfl) (by kernel_rfl) (by kernel_rfl) (by kernel_rfl) (by kernel_rfl) (lowc_of (by kernel_rfl)) ?_
  show Awp prog 0 16 (cB f101) _ _
  refine awp_seq ?_
  refine awp_region ?_
  refine aR 1 ?_
  refine aE ?_
  refine awp_seq ?_
  refine bE hF fun x h1 hF => ?_
  obtain ⟨vr, vr1⟩ := x
  refine awp_region ?_
  refine aR 2 ?_
  refine aC (z661 h1) [] [] [] ?_
  refine aR 5 ?_
  refine aE ?_
  refine awp_seq ?_
  refine awp_seq ?_
  refine awp_region ?_
  refine aR 2 ?_
  refine aE ?_
  refine cE hF (fun h2 hF => ?_) fun h2 hF => ?_
  · refine awp_true (by kernel_rfl) h2 ?_
    refine awp_seq ?_
    refine awp_region ?_
    refine aR 1 ?_
    refine aE ?_
    refine awp_ret ?_
    exact oF hF [] []
  · refine awp_false (by kernel_rfl) h2 ?_
    refine awp_skip ?_
    refine awp_seq ?_
    refine awp_region ?_
    refine aR 2 ?_
    refine aE ?_
    refine awp_ret ?_
    exact oF hF [] []

/-! ### beaconfleet/twin.CheckProps$1 -/
def z1152 (qs : List UInt8) (qx : List api_Prop) (r : Bool) : TV × Mem := (.v (.one (.d (.bool r))), ⟨[], [(0, [.d (.lst (List.map api_Prop.enc qx))])]⟩)

theorem z1153 {qs : List UInt8} {qx : List api_Prop} {r} (hF : z1151 qs qx = some r) : Holds prog 100 [.v (.one (.d (.str qs))), .v (.one (.box 0 0))] ⟨[], [(0, [.d (.lst (List.map api_Prop.enc qx))])]⟩ (Is (z1152 qs qx r)) := by
  unfold z1151 at hF
  refine holds_of_awp hΓ (fn := f100) (c := cB f100) (A := 1) (nx := 1) (by kernel_rfl) (by kernel_rfl) (by kernel_rfl) (by kernel_rfl) (by kernel_rfl) (by kernel_rfl) (lowc_of (by kernel_rfl)) ?_
  show Awp prog 1 8 (cB f100) _ _
  refine awp_seq ?_
  refine awp_region ?_
  refine aR 1 ?_
  refine aE ?_
  refine awp_seq ?_
  refine bE hF fun vr2 h1 hF => ?_
  refine awp_region ?_
  refine aR 2 ?_
  refine aC (z1217 h1) [] [] [] ?_
  refine aR 2 ?_
  refine aE ?_
  refine awp_ret ?_
  exact oF hF [] []

end Go.Eng
