/-
The code of the Go functions that the law FencesSure reaches does what the plain functions say, part 2.
-/
import Derived.Test.YtddkiphgahpfdaaGenP1

namespace Go.Eng

open Go Go.Proofs.Try

set_option linter.unusedVariables false

set_option maxRecDepth 20000

set_option maxHeartbeats 0

/-! ### beaconfleet/fleetref2.Moment -/
def fleetref2_Moment_R (qat : Int) (r : Bool) : TV × Mem := (.v (.one (.d (.bool r))), ⟨[], []⟩)

theorem fleetref2_Moment_ok {qat : Int} {r} (hF : fleetref2_Moment qat = some r) : Holds prog 68 [.v (.one (.d (.int .i64 qat)))] ⟨[], []⟩ (Is (fleetref2_Moment_R qat r)) := by
  unfold fleetref2_Moment at hF
  refine holds_of_awp hΓ (fn := f68) (c := cB f68) (A := 0) (nx := 0) (by kernel_rfl) (by kernel_rfl) (by kernel_rfl) (by kernel_rfl) (by kernel_rfl) (by kernel_rfl) (lowc_of (by kernel_rfl)) ?_
  show Awp prog 0 5 (cB f68) _ _
  refine awp_seq ?_
  refine awp_region ?_
  refine aR 1 ?_
  refine aE ?_
  refine awp_seq ?_
  refine bE hF fun vr h1 hF => ?_
  refine awp_region ?_
  refine aR 1 ?_
  refine aC (fleetref2_in_ok h1) [] [] [] ?_
  refine aR 1 ?_
  refine aE ?_
  refine awp_ret ?_
  exact oF hF [] []

/-! ### beaconfleet/fleetref2.spotOf -/
def fleetref2_spotOf_R (qx : api_Fix) (r : Unit) : TV × Mem := (.v (.agg [.d (.int .i64 qx.X), .d (.int .i64 qx.Y)]), ⟨[], []⟩)

theorem fleetref2_spotOf_ok {qx : api_Fix} {r} (hF : fleetref2_spotOf qx = some r) : Holds prog 69 [.v (.agg [.d (.str qx.Device), .d (.int .i64 qx.At), .d (.int .i64 qx.X), .d (.int .i64 qx.Y), .d (.int .i64 qx.Error)])] ⟨[], []⟩ (Is (fleetref2_spotOf_R qx r)) := by
  unfold fleetref2_spotOf at hF
  refine holds_of_awp hΓ (fn := f69) (c := cB f69) (A := 0) (nx := 0) (by kernel_rfl) (by kernel_rfl) (by kernel_rfl) (by kernel_rfl) (by kernel_rfl) (by kernel_rfl) (lowc_of (by kernel_rfl)) ?_
  show Awp prog 0 8 (cB f69) _ _
  refine awp_seq ?_
  refine awp_region ?_
  refine aR 2 ?_
  refine aE ?_
  refine awp_seq ?_
  refine awp_region ?_
  refine aR 6 ?_
  refine aE ?_
  refine awp_ret ?_
  exact oF hF [] []

/-! ### beaconfleet/fleetref2.FixOrder -/
def fleetref2_FixOrder_R (qa : api_Fix) (qb : api_Fix) (r : Int) : TV × Mem := (.v (.one (.d (.int .i64 r))), ⟨[], []⟩)

theorem fleetref2_FixOrder_ok {qa : api_Fix} {qb : api_Fix} {r} (hF : fleetref2_FixOrder qa qb = some r) : Holds prog 70 [.v (.agg [.d (.str qa.Device), .d (.int .i64 qa.At), .d (.int .i64 qa.X), .d (.int .i64 qa.Y), .d (.int .i64 qa.Error)]), .v (.agg [.d (.str qb.Device), .d (.int .i64 qb.At), .d (.int .i64 qb.X), .d (.int .i64 qb.Y), .d (.int .i64 qb.Error)])] ⟨[], []⟩ (Is (fleetref2_FixOrder_R qa qb r)) := by
  unfold fleetref2_FixOrder at hF
  refine holds_of_awp hΓ (fn := f70) (c := cB f70) (A := 0) (nx := 0) (by kernel_rfl) (by kernel_rfl) (by kernel_rfl) (by kernel_rfl) (by kernel_rfl) (by kernel_rfl) (lowc_of (by kernel_rfl)) ?_
  show Awp prog 0 21 (cB f70) _ _
  refine awp_seq ?_
  refine awp_region ?_
  refine aR 3 ?_
  refine aE ?_
  refine awp_seq ?_
  refine awp_seq ?_
  refine awp_region ?_
  refine aR 5 ?_
  refine aE ?_
  refine cE hF (fun h1 hF => ?_) fun h1 hF => ?_
  · refine awp_true (by kernel_rfl) h1 ?_
    refine awp_seq ?_
    refine bE hF fun _ h2 hF => ?_
    refine awp_region ?_
    refine aR 4 ?_
    refine aC (strings_Compare_ok h2) [] [] [] ?_
    refine aR 1 ?_
    refine aE ?_
    refine awp_ret ?_
    exact oF hF [] []
  · refine awp_false (by kernel_rfl) h1 ?_
    refine awp_skip ?_
    refine awp_seq ?_
    refine bE hF fun vr h3 hF => ?_
    refine awp_region ?_
    refine aR 5 ?_
    refine aC (fleetref2_sign_ok h3) [] [] [] ?_
    refine aR 1 ?_
    refine aE ?_
    refine awp_ret ?_
    exact oF hF [] []

/-! ### beaconfleet/fleetref2.FixesFault -/
def fleetref2_FixesFault_x2_k : Bool → AEx
  | _ => .normal

def fleetref2_FixesFault_x2_S (ql : List api_Fix) (vx : Int) (vy2 : api_Fix) : Bool → St
  | vx3 => Mem.st ⟨[], [(0, [.d (.str vy2.Device), .d (.int .i64 vy2.At), .d (.int .i64 vy2.X), .d (.int .i64 vy2.Y), .d (.int .i64 vy2.Error)])]⟩ (tl [(0, .v (.one (.d (.lst (List.map api_Fix.enc ql))))), (3, .v (.one (.d (.int .i64 vx)))), (4, .v (.one (.box 0 0))), (8, .v (.one (.d (.lst (List.map api_Fix.enc ql))))), (9, .v (.one (.d (.int .i64 (ql.length : Int))))), (10, .v (.one (.d (.int .i64 vx)))), (20, .v (.one (.d (.bool vx3))))]) 1

def fleetref2_FixesFault_x2_I (ql : List api_Fix) (vx : Int) (vy2 : api_Fix) : St := Mem.st ⟨[], [(0, [.d (.str vy2.Device), .d (.int .i64 vy2.At), .d (.int .i64 vy2.X), .d (.int .i64 vy2.Y), .d (.int .i64 vy2.Error)])]⟩ (tl [(0, .v (.one (.d (.lst (List.map api_Fix.enc ql))))), (3, .v (.one (.d (.int .i64 vx)))), (4, .v (.one (.box 0 0))), (8, .v (.one (.d (.lst (List.map api_Fix.enc ql))))), (9, .v (.one (.d (.int .i64 (ql.length : Int))))), (10, .v (.one (.d (.int .i64 vx))))]) 1

theorem fleetref2_FixesFault_x2_ok (ql : List api_Fix) (vx : Int) (vy2 : api_Fix) {r} (hF : fleetref2_FixesFault_x2 vy2 = some r) : Awp prog 0 51 (cL (cR (cR (cL (cR (cL (cL (cR (cR (cL (cL (cR (cL (cR (cR (cB f24)))))))))))))))) (Out 0 fleetref2_FixesFault_x2_k (fleetref2_FixesFault_x2_S ql vx vy2) r) (fleetref2_FixesFault_x2_I ql vx vy2) := by
  unfold fleetref2_FixesFault_x2 at hF
  refine bE hF fun vr1_2 h6 hF => ?_
  refine cE hF (fun h7 hF => ?_) fun h7 hF => ?_
  · refine awp_region ?_
    refine aR 2 ?_
    refine aC (fleetref2_Moment_ok h6) [] [] [] ?_
    refine aB h7 ?_
    refine aR 13 ?_
    refine aE ?_
    exact oO hF [] [] rfl
  · refine bE hF fun _ h8 hF => ?_
    refine bE hF fun vr2_1 h9 hF => ?_
    refine cE hF (fun h10 hF => ?_) fun h10 hF => ?_
    · refine awp_region ?_
      refine aR 2 ?_
      refine aC (fleetref2_Moment_ok h6) [] [] [] ?_
      refine aB h7 ?_
      refine aR 2 ?_
      refine aC (fleetref2_spotOf_ok h8) [] [] [] ?_
      refine aC (fleetref2_SpotFault_ok h9) [] [] [] ?_
      refine aB h10 ?_
      refine aR 8 ?_
      refine aE ?_
      exact oO hF [] [] rfl
    · refine bE hF fun vr4 h11 hF => ?_
      refine awp_region ?_
      refine aR 2 ?_
      refine aC (fleetref2_Moment_ok h6) [] [] [] ?_
      refine aB h7 ?_
      refine aR 2 ?_
      refine aC (fleetref2_spotOf_ok h8) [] [] [] ?_
      refine aC (fleetref2_SpotFault_ok h9) [] [] [] ?_
      refine aB h10 ?_
      refine aR 4 ?_
      refine aC (fleetref2_in_ok h11) [] [] [] ?_
      refine aR 3 ?_
      refine aE ?_
      exact oO hF [] [] rfl

def fleetref2_FixesFault_x3_k : Bool → AEx
  | _ => .normal

def fleetref2_FixesFault_x3_S (ql : List api_Fix) (vx : Int) (vy2 : api_Fix) : Bool → St
  | vx4 => Mem.st ⟨[], []⟩ (tl [(0, .v (.one (.d (.lst (List.map api_Fix.enc ql))))), (8, .v (.one (.d (.lst (List.map api_Fix.enc ql))))), (9, .v (.one (.d (.int .i64 (ql.length : Int))))), (10, .v (.one (.d (.int .i64 vx)))), (37, .v (.one (.d (.bool vx4))))]) 0

def fleetref2_FixesFault_x3_I (ql : List api_Fix) (vx : Int) (vy2 : api_Fix) : St := Mem.st ⟨[], [(0, [.d (.str vy2.Device), .d (.int .i64 vy2.At), .d (.int .i64 vy2.X), .d (.int .i64 vy2.Y), .d (.int .i64 vy2.Error)])]⟩ (tl [(0, .v (.one (.d (.lst (List.map api_Fix.enc ql))))), (3, .v (.one (.d (.int .i64 vx)))), (4, .v (.one (.box 0 0))), (8, .v (.one (.d (.lst (List.map api_Fix.enc ql))))), (9, .v (.one (.d (.int .i64 (ql.length : Int))))), (10, .v (.one (.d (.int .i64 vx))))]) 1

theorem fleetref2_FixesFault_x3_ok (ql : List api_Fix) (vx : Int) (vy2 : api_Fix) {r} (hF : fleetref2_FixesFault_x3 ql vx vy2 = some r) : Awp prog 0 51 (cL (cR (cR (cR (cR (cL (cR (cL (cL (cR (cR (cL (cL (cR (cL (cR (cR (cB f24)))))))))))))))))) (Out 0 fleetref2_FixesFault_x3_k (fleetref2_FixesFault_x3_S ql vx vy2) r) (fleetref2_FixesFault_x3_I ql vx vy2) := by
  unfold fleetref2_FixesFault_x3 at hF
  refine cE hF (fun h14 hF => ?_) fun h14 hF => ?_
  · refine bE hF fun vy3 h15 hF => ?_
    refine bE hF fun vr1_3 h16 hF => ?_
    refine aD ?_
    refine dR 1 ?_
    refine dB h14 ?_
    refine dR 4 ?_
    refine dX (x_idx api_Fix.enc h15) ?_
    refine dR 2 ?_
    refine dC (fleetref2_FixOrder_ok h16) [] [] [] ?_
    refine dR 3 ?_
    refine dE ?_
    exact oO hF [] [] rfl
  · refine aD ?_
    refine dR 1 ?_
    refine dB h14 ?_
    refine dR 11 ?_
    refine dE ?_
    exact oO hF [] [] rfl

def fleetref2_FixesFault_x1_k : Unit ⊕ Int → AEx
  | .inl _ => .exit 0
  | .inr _ => .ret

def fleetref2_FixesFault_x1_S (ql : List api_Fix) : Unit ⊕ Int → St
  | .inl _ => Mem.st ⟨[], []⟩ (tl []) 0
  | .inr vx5 => Mem.st ⟨[], []⟩ (tl [(2, .v (.one (.d (.int .i64 vx5))))]) 0

def fleetref2_FixesFault_x1_H (ql : List api_Fix) : Int → St
  | vx => Mem.st ⟨[], []⟩ (tl [(0, .v (.one (.d (.lst (List.map api_Fix.enc ql))))), (8, .v (.one (.d (.lst (List.map api_Fix.enc ql))))), (9, .v (.one (.d (.int .i64 (ql.length : Int))))), (10, .v (.one (.d (.int .i64 vx))))]) 0

theorem fleetref2_FixesFault_x1_ok (ql : List api_Fix) (vx : Int) (r : (Int) ⊕ (Unit ⊕ Int)) (hF : fleetref2_FixesFault_x1 ql vx = some r) : Awp prog 0 51 (cL (cL (cR (cL (cR (cR (cB f24))))))) (Out 0 (kk fleetref2_FixesFault_x1_k) (SS (fleetref2_FixesFault_x1_H ql) (fleetref2_FixesFault_x1_S ql)) r) (fleetref2_FixesFault_x1_H ql vx) := by
  unfold fleetref2_FixesFault_x1 at hF
  refine awp_seq ?_
  refine awp_region ?_
  refine aR 1 ?_
  refine aE ?_
  refine awp_seq ?_
  refine cE hF (fun h2 hF => ?_) fun h2 hF => ?_
  · refine awp_true (by kernel_rfl) h2 ?_
    refine awp_skip ?_
    refine awp_seq ?_
    refine awp_block ?_
    refine awp_seq ?_
    refine bE hF fun vy2 h3 hF => ?_
    refine awp_region ?_
    refine aR 1 ?_
    refine aX (x_idx api_Fix.enc h3) ?_
    refine aR 4 ?_
    refine aE ?_
    refine awp_block ?_
    refine awp_seq ?_
    refine bE hF fun vr3_1 h4 hF => ?_
    refine awp_region ?_
    refine aR 2 ?_
    refine aC (fleetref2_Key_ok h4) [] [] [] ?_
    refine aR 2 ?_
    refine aE ?_
    refine cE hF (fun h5 hF => ?_) fun h5 hF => ?_
    · refine awp_true (by kernel_rfl) h5 ?_
      refine awp_seq ?_
      refine awp_region ?_
      refine aR 1 ?_
      refine aE ?_
      refine awp_ret ?_
      exact oO hF [] [] rfl
    · refine awp_false (by kernel_rfl) h5 ?_
      refine awp_seq ?_
      refine awp_to (st' := fleetref2_FixesFault_x2_I ql vx vy2) (oT [(0, 4000)] []) ?_
      refine bE hF fun vx3_1 h12 hF => ?_
      refine awp_sub (fleetref2_FixesFault_x2_ok ql vx vy2 h12) ?_
      refine cE hF (fun h13 hF => ?_) fun h13 hF => ?_
      · refine awp_true (by kernel_rfl) h13 ?_
        refine awp_seq ?_
        refine awp_region ?_
        refine aR 1 ?_
        refine aE ?_
        refine awp_ret ?_
        exact oO hF [] [] rfl
      · refine awp_false (by kernel_rfl) h13 ?_
        refine awp_seq ?_
        refine awp_to (st' := fleetref2_FixesFault_x3_I ql vx vy2) (oT [] []) ?_
        refine bE hF fun vx4_1 h17 hF => ?_
        refine awp_sub (fleetref2_FixesFault_x3_ok ql vx vy2 h17) ?_
        refine cE hF (fun h18 hF => ?_) fun h18 hF => ?_
        · refine awp_true (by kernel_rfl) h18 ?_
          refine awp_seq ?_
          refine awp_region ?_
          refine aR 1 ?_
          refine aE ?_
          refine awp_ret ?_
          exact oO hF [] [] rfl
        · refine awp_false (by kernel_rfl) h18 ?_
          refine awp_skip ?_
          refine awp_region ?_
          refine aR 2 ?_
          refine aE ?_
          exact oO hF [] [] rfl
  · refine awp_false (by kernel_rfl) h2 ?_
    refine awp_exit ?_
    exact oO hF [] [] rfl

def fleetref2_FixesFault_R (ql : List api_Fix) (r : Int) : TV × Mem := (.v (.one (.d (.int .i64 r))), ⟨[], []⟩)

theorem fleetref2_FixesFault_ok {ql : List api_Fix} {r} (hF : fleetref2_FixesFault ql = some r) : Holds prog 24 [.v (.one (.d (.lst (List.map api_Fix.enc ql))))] ⟨[], []⟩ (Is (fleetref2_FixesFault_R ql r)) := by
  unfold fleetref2_FixesFault at hF
  refine holds_of_awp hΓ (fn := f24) (c := cB f24) (A := 0) (nx := 0) (by kernel_rfl) (by kernel_rfl) (by kernel_rfl) (by kernel_rfl) (by kernel_rfl) (by kernel_rfl) (lowc_of (by kernel_rfl)) ?_
  show Awp prog 0 51 (cB f24) _ _
  refine awp_seq ?_
  refine awp_region ?_
  refine aR 1 ?_
  refine aE ?_
  refine awp_seq ?_
  refine awp_seq ?_
  refine awp_region ?_
  refine aR 1 ?_
  refine aL api_Fix.enc ql ?_
  refine aR 1 ?_
  refine aE ?_
  refine cE hF (fun h1 hF => ?_) fun h1 hF => ?_
  · refine awp_true (by kernel_rfl) h1 ?_
    refine awp_seq ?_
    refine awp_region ?_
    refine aR 1 ?_
    refine aE ?_
    refine awp_ret ?_
    exact oF hF [] []
  · refine awp_false (by kernel_rfl) h1 ?_
    refine awp_skip ?_
    refine awp_seq ?_
    refine awp_seq ?_
    refine awp_region ?_
    refine aR 1 ?_
    refine aL api_Fix.enc ql ?_
    refine aR 1 ?_
    refine aE ?_
    refine awp_block ?_
    refine awp_to (st' := fleetref2_FixesFault_x1_H ql 0) (oT [] []) ?_
    refine bE hF fun x h19 hF => ?_
    rcases x with _ | vx5_1
    · refine awp_sub (awp_loop' (fleetref2_FixesFault_x1_H ql) fleetref2_FixesFault_x1_k (fleetref2_FixesFault_x1_S ql) (by intro x; rcases x with x | x <;> exact fun h => nomatch h) h19 (fleetref2_FixesFault_x1_ok ql)) ?_
      refine awp_seq ?_
      refine awp_region ?_
      refine aR 1 ?_
      refine aE ?_
      refine awp_ret ?_
      exact oF hF [] []
    · refine awp_sub (awp_loop' (fleetref2_FixesFault_x1_H ql) fleetref2_FixesFault_x1_k (fleetref2_FixesFault_x1_S ql) (by intro x; rcases x with x | x <;> exact fun h => nomatch h) h19 (fleetref2_FixesFault_x1_ok ql)) ?_
      exact oF hF [] []

/-! ### beaconfleet/fleetref2.dot -/
def fleetref2_dot_2_R (qa : api_Spot) (r : Unit) : TV × Mem := (.v (.one (.d (.int .i64 (IntKind.wrap .i64 ((IntKind.wrap .i64 (qa.X * qa.X)) + (IntKind.wrap .i64 (qa.Y * qa.Y))))))), ⟨[], []⟩)

theorem fleetref2_dot_2_ok {qa : api_Spot} {r} (hF : fleetref2_dot_2 qa = some r) : Holds prog 94 [.v (.agg [.d (.int .i64 qa.X), .d (.int .i64 qa.Y)]), .v (.agg [.d (.int .i64 qa.X), .d (.int .i64 qa.Y)])] ⟨[], []⟩ (Is (fleetref2_dot_2_R qa r)) := by
  unfold fleetref2_dot_2 at hF
  refine holds_of_awp hΓ (fn := f94) (c := cB f94) (A := 0) (nx := 0) (by kernel_rfl) (by kernel_rfl) (by kernel_rfl) (by kernel_rfl) (by kernel_rfl) (by kernel_rfl) (lowc_of (by kernel_rfl)) ?_
  show Awp prog 0 16 (cB f94) _ _
  refine awp_seq ?_
  refine awp_region ?_
  refine aR 3 ?_
  refine aE ?_
  refine awp_seq ?_
  refine awp_region ?_
  refine aR 12 ?_
  refine aE ?_
  refine awp_ret ?_
  exact oF hF [] []

/-! ### beaconfleet/fleetref2.Lowest -/
def fleetref2_Lowest_x1_k : Int → AEx
  | _ => .exit 0

def fleetref2_Lowest_x1_S (qnum : Int) (qden : Int) : Int → St
  | va1 => Mem.st ⟨[], [(0, [.d (.int .i64 0), .d (.int .i64 0)])]⟩ (tl [(0, .v (.one (.d (.int .i64 qnum)))), (1, .v (.one (.d (.int .i64 qden)))), (4, .v (.one (.box 0 0))), (5, .v (.one (.d (.int .i64 va1))))]) 1

def fleetref2_Lowest_x1_H (qnum : Int) (qden : Int) : Int × Int → St
  | (va, vb) => Mem.st ⟨[], [(0, [.d (.int .i64 0), .d (.int .i64 0)])]⟩ (tl [(0, .v (.one (.d (.int .i64 qnum)))), (1, .v (.one (.d (.int .i64 qden)))), (4, .v (.one (.box 0 0))), (5, .v (.one (.d (.int .i64 va)))), (6, .v (.one (.d (.int .i64 vb))))]) 1

theorem fleetref2_Lowest_x1_ok (qnum : Int) (qden : Int) (s : Int × Int) (r : (Int × Int) ⊕ (Int)) (hF : fleetref2_Lowest_x1  s = some r) : Awp prog 0 26 (cL (cL (cL (cR (cR (cB f102)))))) (Out 0 (kk fleetref2_Lowest_x1_k) (SS (fleetref2_Lowest_x1_H qnum qden) (fleetref2_Lowest_x1_S qnum qden)) r) (fleetref2_Lowest_x1_H qnum qden s) := by
  obtain ⟨va, vb⟩ := s
  unfold fleetref2_Lowest_x1 at hF
  refine awp_seq ?_
  refine awp_seq ?_
  refine awp_region ?_
  refine aR 2 ?_
  refine aE ?_
  refine cE hF (fun h1 hF => ?_) fun h1 hF => ?_
  · refine awp_true (by kernel_rfl) h1 ?_
    refine awp_skip ?_
    refine awp_block ?_
    refine gE hF fun h2 hF => ?_
    refine aD ?_
    refine dR 3 ?_
    refine dX (x_rem h2) ?_
    refine dR 2 ?_
    refine dE ?_
    exact oO hF [] [] rfl
  · refine awp_false (by kernel_rfl) h1 ?_
    refine awp_exit ?_
    exact oO hF [] [] rfl

def fleetref2_Lowest_x2_k : Int → AEx
  | _ => .normal

def fleetref2_Lowest_x2_S (qnum : Int) (qden : Int) (va1_1 : Int) : Int → St
  | va2 => Mem.st ⟨[], [(0, [.d (.int .i64 0), .d (.int .i64 0)])]⟩ (tl [(0, .v (.one (.d (.int .i64 qnum)))), (1, .v (.one (.d (.int .i64 qden)))), (4, .v (.one (.box 0 0))), (5, .v (.one (.d (.int .i64 va2))))]) 1

def fleetref2_Lowest_x2_I (qnum : Int) (qden : Int) (va1_1 : Int) : St := Mem.st ⟨[], [(0, [.d (.int .i64 0), .d (.int .i64 0)])]⟩ (tl [(0, .v (.one (.d (.int .i64 qnum)))), (1, .v (.one (.d (.int .i64 qden)))), (4, .v (.one (.box 0 0))), (5, .v (.one (.d (.int .i64 va1_1))))]) 1

theorem fleetref2_Lowest_x2_ok (qnum : Int) (qden : Int) (va1_1 : Int) {r} (hF : fleetref2_Lowest_x2 va1_1 = some r) : Awp prog 0 26 (cL (cR (cR (cR (cB f102))))) (Out 0 fleetref2_Lowest_x2_k (fleetref2_Lowest_x2_S qnum qden va1_1) r) (fleetref2_Lowest_x2_I qnum qden va1_1) := by
  unfold fleetref2_Lowest_x2 at hF
  refine awp_seq ?_
  refine awp_region ?_
  refine aR 2 ?_
  refine aE ?_
  refine cE hF (fun h4 hF => ?_) fun h4 hF => ?_
  · refine awp_true (by kernel_rfl) h4 ?_
    refine awp_region ?_
    refine aR 3 ?_
    refine aE ?_
    exact oO hF [] [] rfl
  · refine awp_false (by kernel_rfl) h4 ?_
    refine awp_skip ?_
    exact oO hF [] [] rfl

def fleetref2_Lowest_R (qnum : Int) (qden : Int) (r : api_Fraction) : TV × Mem := (.v (.agg [.d (.int .i64 r.Num), .d (.int .i64 r.Den)]), ⟨[], []⟩)

theorem fleetref2_Lowest_ok {qnum : Int} {qden : Int} {r} (hF : fleetref2_Lowest qnum qden = some r) : Holds prog 102 [.v (.one (.d (.int .i64 qnum))), .v (.one (.d (.int .i64 qden)))] ⟨[], []⟩ (Is (fleetref2_Lowest_R qnum qden r)) := by
  unfold fleetref2_Lowest at hF
  refine holds_of_awp hΓ (fn := f102) (c := cB f102) (A := 0) (nx := 0) (by kernel_rfl) (by kernel_rfl) (by kernel_rfl) (by kernel_rfl) (by kernel_rfl) (by kernel_rfl) (lowc_of (by kernel_rfl)) ?_
  show Awp prog 0 26 (cB f102) _ _
  refine awp_seq ?_
  refine awp_region ?_
  refine aR 1 ?_
  refine aE ?_
  refine awp_seq ?_
  refine awp_region ?_
  refine aR 4 ?_
  refine aE ?_
  refine awp_seq ?_
  refine awp_block ?_
  refine awp_to (st' := fleetref2_Lowest_x1_H qnum qden (qnum, qden)) (oT [] []) ?_
  refine bE hF fun va1_1 h3 hF => ?_
  refine awp_sub (awp_loop' (fleetref2_Lowest_x1_H qnum qden) fleetref2_Lowest_x1_k (fleetref2_Lowest_x1_S qnum qden) (by intro x; exact fun h => nomatch h) h3 (fleetref2_Lowest_x1_ok qnum qden)) ?_
  refine awp_seq ?_
  refine awp_to (st' := fleetref2_Lowest_x2_I qnum qden va1_1) (oT [] []) ?_
  refine bE hF fun va2_1 h5 hF => ?_
  refine awp_sub (fleetref2_Lowest_x2_ok qnum qden va1_1 h5) ?_
  refine awp_seq ?_
  refine gE hF fun h6 hF => ?_
  refine aD ?_
  refine dR 2 ?_
  refine dX (x_quo h6) ?_
  refine dR 2 ?_
  refine dX (x_quo h6) ?_
  refine dR 2 ?_
  refine dE ?_
  refine awp_ret ?_
  exact oF hF [] []

/-! ### beaconfleet/fleetref2.farWay -/
def fleetref2_farWay_R (qa : api_Spot) (qb : api_Spot) (qs : api_Spot) (r : api_Fraction) : TV × Mem := (.v (.agg [.d (.int .i64 r.Num), .d (.int .i64 r.Den)]), ⟨[], []⟩)

theorem fleetref2_farWay_ok {qa : api_Spot} {qb : api_Spot} {qs : api_Spot} {r} (hF : fleetref2_farWay qa qb qs = some r) : Holds prog 71 [.v (.agg [.d (.int .i64 qa.X), .d (.int .i64 qa.Y)]), .v (.agg [.d (.int .i64 qb.X), .d (.int .i64 qb.Y)]), .v (.agg [.d (.int .i64 qs.X), .d (.int .i64 qs.Y)])] ⟨[], []⟩ (Is (fleetref2_farWay_R qa qb qs r)) := by
  unfold fleetref2_farWay at hF
  refine holds_of_awp hΓ (fn := f71) (c := cB f71) (A := 0) (nx := 0) (by kernel_rfl) (by kernel_rfl) (by kernel_rfl) (by kernel_rfl) (by kernel_rfl) (by kernel_rfl) (lowc_of (by kernel_rfl)) ?_
  show Awp prog 0 54 (cB f71) _ _
  refine awp_seq ?_
  refine awp_region ?_
  refine aR 4 ?_
  refine aE ?_
  refine awp_seq ?_
  refine bE hF fun _ h1 hF => ?_
  refine awp_region ?_
  refine aR 2 ?_
  refine aC (fleetref2_minus_ok h1) [] [] [] ?_
  refine aR 2 ?_
  refine aE ?_
  refine awp_seq ?_
  refine awp_block ?_
  refine awp_seq ?_
  refine bE hF fun _ h2 hF => ?_
  refine bE hF fun _ h3 hF => ?_
  refine aD ?_
  refine dR 2 ?_
  refine dC (fleetref2_minus_ok h2) [] [] [] ?_
  refine dR 1 ?_
  refine dC (fleetref2_dot_ok h3) [] [] [] ?_
  refine dR 2 ?_
  refine dE ?_
  refine cE hF (fun h4 hF => ?_) fun h4 hF => ?_
  · refine awp_true (by kernel_rfl) h4 ?_
    refine awp_seq ?_
    refine bE hF fun _ h5 hF => ?_
    refine aD ?_
    refine dR 2 ?_
    refine dC (fleetref2_minus_ok h2) [] [] [] ?_
    refine dR 2 ?_
    refine dC (fleetref2_minus_ok h2) [] [] [] ?_
    refine dC (fleetref2_dot_2_ok h5) [] [] [] ?_
    refine dR 2 ?_
    refine dE ?_
    refine awp_ret ?_
    exact oF hF [] []
  · refine awp_false (by kernel_rfl) h4 ?_
    refine awp_seq ?_
    refine bE hF fun _ h6 hF => ?_
    refine bE hF fun _ h7 hF => ?_
    refine aD ?_
    refine dR 2 ?_
    refine dC (fleetref2_minus_ok h6) [] [] [] ?_
    refine dR 1 ?_
    refine dC (fleetref2_dot_ok h7) [] [] [] ?_
    refine dR 2 ?_
    refine dE ?_
    refine cE hF (fun h8 hF => ?_) fun h8 hF => ?_
    · refine awp_true (by kernel_rfl) h8 ?_
      refine awp_seq ?_
      refine bE hF fun _ h9 hF => ?_
      refine aD ?_
      refine dR 2 ?_
      refine dC (fleetref2_minus_ok h6) [] [] [] ?_
      refine dR 2 ?_
      refine dC (fleetref2_minus_ok h6) [] [] [] ?_
      refine dC (fleetref2_dot_2_ok h9) [] [] [] ?_
      refine dR 2 ?_
      refine dE ?_
      refine awp_ret ?_
      exact oF hF [] []
    · refine awp_false (by kernel_rfl) h8 ?_
      refine awp_skip ?_
      refine awp_seq ?_
      refine bE hF fun _ h10 hF => ?_
      refine aD ?_
      refine dR 3 ?_
      refine dC (fleetref2_minus_ok h2) [] [] [] ?_
      refine dC (fleetref2_cross_ok h10) [] [] [] ?_
      refine dR 1 ?_
      refine dE ?_
      refine awp_seq ?_
      refine bE hF fun _ h11 hF => ?_
      refine bE hF fun vr h12 hF => ?_
      refine awp_region ?_
      refine aR 5 ?_
      refine aC (fleetref2_dot_2_ok h11) [] [] [] ?_
      refine aC (fleetref2_Lowest_ok h12) [] [] [] ?_
      refine aR 1 ?_
      refine aE ?_
      refine awp_ret ?_
      exact oF hF [] []

/-! ### beaconfleet/fleetref2.floor -/
def fleetref2_floor_R (qa : Int) (qb : Int) (r : Int) : TV × Mem := (.v (.one (.d (.int .i64 r))), ⟨[], []⟩)

theorem fleetref2_floor_ok {qa : Int} {qb : Int} {r} (hF : fleetref2_floor qa qb = some r) : Holds prog 103 [.v (.one (.d (.int .i64 qa))), .v (.one (.d (.int .i64 qb)))] ⟨[], []⟩ (Is (fleetref2_floor_R qa qb r)) := by
  unfold fleetref2_floor at hF
  refine holds_of_awp hΓ (fn := f103) (c := cB f103) (A := 0) (nx := 0) (by kernel_rfl) (by kernel_rfl) (by kernel_rfl) (by kernel_rfl) (by kernel_rfl) (by kernel_rfl) (lowc_of (by kernel_rfl)) ?_
  show Awp prog 0 16 (cB f103) _ _
  refine awp_seq ?_
  refine awp_region ?_
  refine aR 1 ?_
  refine aE ?_
  refine awp_seq ?_
  refine awp_seq ?_
  refine gE hF fun h1 hF => ?_
  refine awp_region ?_
  refine aR 2 ?_
  refine aX (x_rem h1) ?_
  refine aR 1 ?_
  refine aE ?_
  refine cE hF (fun h2 hF => ?_) fun h2 hF => ?_
  · refine awp_true (by kernel_rfl) h2 ?_
    refine awp_seq ?_
    refine awp_region ?_
    refine aR 2 ?_
    refine aX (x_quo h1) ?_
    refine aR 2 ?_
    refine aE ?_
    refine awp_ret ?_
    exact oF hF [] []
  · refine awp_false (by kernel_rfl) h2 ?_
    refine awp_skip ?_
    refine awp_seq ?_
    refine awp_region ?_
    refine aR 2 ?_
    refine aX (x_quo h1) ?_
    refine aR 1 ?_
    refine aE ?_
    refine awp_ret ?_
    exact oF hF [] []

/-! ### beaconfleet/fleetref2.less -/
def fleetref2_less_x2_k : Bool → AEx
  | _ => .normal

def fleetref2_less_x2_S (va : api_Fraction) (vb : api_Fraction) (vr2 : Int) (vr3 : Int) : Bool → St
  | vx3 => Mem.st ⟨[], [(0, [.d (.int .i64 va.Num), .d (.int .i64 va.Den)]), (1, [.d (.int .i64 vb.Num), .d (.int .i64 vb.Den)])]⟩ (tl [(2, .v (.one (.box 0 0))), (3, .v (.one (.box 1 0))), (7, .v (.one (.d (.int .i64 (IntKind.wrap .i64 (va.Num - (IntKind.wrap .i64 (vr2 * va.Den)))))))), (8, .v (.one (.d (.int .i64 (IntKind.wrap .i64 (vb.Num - (IntKind.wrap .i64 (vr3 * vb.Den)))))))), (44, .v (.one (.d (.bool vx3))))]) 2

def fleetref2_less_x2_I (va : api_Fraction) (vb : api_Fraction) (vr2 : Int) (vr3 : Int) : St := Mem.st ⟨[], [(0, [.d (.int .i64 va.Num), .d (.int .i64 va.Den)]), (1, [.d (.int .i64 vb.Num), .d (.int .i64 vb.Den)])]⟩ (tl [(2, .v (.one (.box 0 0))), (3, .v (.one (.box 1 0))), (7, .v (.one (.d (.int .i64 (IntKind.wrap .i64 (va.Num - (IntKind.wrap .i64 (vr2 * va.Den)))))))), (8, .v (.one (.d (.int .i64 (IntKind.wrap .i64 (vb.Num - (IntKind.wrap .i64 (vr3 * vb.Den))))))))]) 2

theorem fleetref2_less_x2_ok (va : api_Fraction) (vb : api_Fraction) (vr2 : Int) (vr3 : Int) {r} (hF : fleetref2_less_x2 va vb vr2 vr3 = some r) : Awp prog 0 59 (cL (cL (cR (cR (cR (cL (cL (cL (cR (cB f72)))))))))) (Out 0 fleetref2_less_x2_k (fleetref2_less_x2_S va vb vr2 vr3) r) (fleetref2_less_x2_I va vb vr2 vr3) := by
  unfold fleetref2_less_x2 at hF
  refine cE hF (fun h4 hF => ?_) fun h4 hF => ?_
  · refine awp_region ?_
    refine aR 1 ?_
    refine aB h4 ?_
    refine aR 4 ?_
    refine aE ?_
    exact oO hF [] [] rfl
  · refine awp_region ?_
    refine aR 1 ?_
    refine aB h4 ?_
    refine aR 4 ?_
    refine aE ?_
    exact oO hF [] [] rfl

def fleetref2_less_x3_k : Bool → AEx
  | _ => .normal

def fleetref2_less_x3_S (va : api_Fraction) (vb : api_Fraction) (vr2 : Int) (vr3 : Int) : Bool → St
  | vx4 => Mem.st ⟨[], []⟩ (tl [(4, .v (.one (.d (.bool vx4))))]) 0

def fleetref2_less_x3_I (va : api_Fraction) (vb : api_Fraction) (vr2 : Int) (vr3 : Int) : St := Mem.st ⟨[], []⟩ (tl [(7, .v (.one (.d (.int .i64 (IntKind.wrap .i64 (va.Num - (IntKind.wrap .i64 (vr2 * va.Den)))))))), (8, .v (.one (.d (.int .i64 (IntKind.wrap .i64 (vb.Num - (IntKind.wrap .i64 (vr3 * vb.Den))))))))]) 0

theorem fleetref2_less_x3_ok (va : api_Fraction) (vb : api_Fraction) (vr2 : Int) (vr3 : Int) {r} (hF : fleetref2_less_x3 va vb vr2 vr3 = some r) : Awp prog 0 59 (cL (cL (cR (cL (cR (cR (cR (cL (cL (cL (cR (cB f72)))))))))))) (Out 0 fleetref2_less_x3_k (fleetref2_less_x3_S va vb vr2 vr3) r) (fleetref2_less_x3_I va vb vr2 vr3) := by
  unfold fleetref2_less_x3 at hF
  refine cE hF (fun h7 hF => ?_) fun h7 hF => ?_
  · refine awp_region ?_
    refine aR 1 ?_
    refine aB h7 ?_
    refine aR 5 ?_
    refine aE ?_
    exact oO hF [] [] rfl
  · refine awp_region ?_
    refine aR 1 ?_
    refine aB h7 ?_
    refine aR 5 ?_
    refine aE ?_
    exact oO hF [] [] rfl

def fleetref2_less_x1_k : Bool → AEx
  | _ => .ret

def fleetref2_less_x1_S : Bool → St
  | vx5 => Mem.st ⟨[], []⟩ (tl [(4, .v (.one (.d (.bool vx5))))]) 0

def fleetref2_less_x1_H : api_Fraction × api_Fraction → St
  | (va, vb) => Mem.st ⟨[], [(0, [.d (.int .i64 va.Num), .d (.int .i64 va.Den)]), (1, [.d (.int .i64 vb.Num), .d (.int .i64 vb.Den)])]⟩ (tl [(2, .v (.one (.box 0 0))), (3, .v (.one (.box 1 0)))]) 2

theorem fleetref2_less_x1_ok (s : api_Fraction × api_Fraction) (r : (api_Fraction × api_Fraction) ⊕ (Bool)) (hF : fleetref2_less_x1  s = some r) : Awp prog 0 59 (cL (cL (cR (cB f72)))) (Out 0 (kk fleetref2_less_x1_k) (SS (fleetref2_less_x1_H ) (fleetref2_less_x1_S )) r) (fleetref2_less_x1_H  s) := by
  obtain ⟨va, vb⟩ := s
  unfold fleetref2_less_x1 at hF
  refine awp_block ?_
  refine awp_seq ?_
  refine bE hF fun vr2 h1 hF => ?_
  refine bE hF fun vr3 h2 hF => ?_
  refine aD ?_
  refine dR 4 ?_
  refine dC (fleetref2_floor_ok h1) [] [] [] ?_
  refine dR 4 ?_
  refine dC (fleetref2_floor_ok h2) [] [] [] ?_
  refine dR 2 ?_
  refine dE ?_
  refine awp_seq ?_
  refine awp_seq ?_
  refine awp_region ?_
  refine aR 3 ?_
  refine aE ?_
  refine cE hF (fun h3 hF => ?_) fun h3 hF => ?_
  · refine awp_true (by kernel_rfl) h3 ?_
    refine awp_seq ?_
    refine awp_region ?_
    refine aR 4 ?_
    refine aE ?_
    refine awp_ret ?_
    exact oO hF [] [] rfl
  · refine awp_false (by kernel_rfl) h3 ?_
    refine awp_skip ?_
    refine awp_seq ?_
    refine aD ?_
    refine dR 16 ?_
    refine dE ?_
    refine awp_seq ?_
    refine awp_seq ?_
    refine awp_to (st' := fleetref2_less_x2_I va vb vr2 vr3) (oT [] []) ?_
    refine bE hF fun vx3_1 h5 hF => ?_
    refine awp_sub (fleetref2_less_x2_ok va vb vr2 vr3 h5) ?_
    refine cE hF (fun h6 hF => ?_) fun h6 hF => ?_
    · refine awp_true (by kernel_rfl) h6 ?_
      refine awp_seq ?_
      refine awp_to (st' := fleetref2_less_x3_I va vb vr2 vr3) (oT [] []) ?_
      refine bE hF fun vx4_1 h8 hF => ?_
      refine awp_sub (fleetref2_less_x3_ok va vb vr2 vr3 h8) ?_
      refine awp_ret ?_
      exact oO hF [] [] rfl
    · refine awp_false (by kernel_rfl) h6 ?_
      refine awp_skip ?_
      refine awp_region ?_
      refine aR 10 ?_
      refine aE ?_
      exact oO hF [] [] rfl

def fleetref2_less_R (qa : api_Fraction) (qb : api_Fraction) (r : Bool) : TV × Mem := (.v (.one (.d (.bool r))), ⟨[], []⟩)

theorem fleetref2_less_ok {qa : api_Fraction} {qb : api_Fraction} {r} (hF : fleetref2_less qa qb = some r) : Holds prog 72 [.v (.agg [.d (.int .i64 qa.Num), .d (.int .i64 qa.Den)]), .v (.agg [.d (.int .i64 qb.Num), .d (.int .i64 qb.Den)])] ⟨[], []⟩ (Is (fleetref2_less_R qa qb r)) := by
  unfold fleetref2_less at hF
  refine holds_of_awp hΓ (fn := f72) (c := cB f72) (A := 0) (nx := 0) (by kernel_rfl) (by kernel_rfl) (by kernel_rfl) (by kernel_rfl) (by kernel_rfl) (by kernel_rfl) (lowc_of (by kernel_rfl)) ?_
  show Awp prog 0 59 (cB f72) _ _
  refine awp_seq ?_
  refine awp_region ?_
  refine aR 3 ?_
  refine aE ?_
  refine awp_block ?_
  refine awp_to (st' := fleetref2_less_x1_H  (qa, qb)) (oT [(1, 1000)] []) ?_
  refine bE hF fun vx5_1 h9 hF => ?_
  refine awp_sub (awp_loop' (fleetref2_less_x1_H ) fleetref2_less_x1_k (fleetref2_less_x1_S ) (by intro x; exact fun h => nomatch h) h9 (fleetref2_less_x1_ok )) ?_
  exact oF hF [] []

/-! ### beaconfleet/fleetref2.FarOf -/
def fleetref2_FarOf_x2_k : (api_Spot × api_Spot × api_Fraction) → AEx
  | _ => .normal

def fleetref2_FarOf_x2_S (ql : List api_Spot) (qs : api_Spot) (va : api_Spot) (vb : api_Spot) (vout : api_Fraction) (vx : Int) : (api_Spot × api_Spot × api_Fraction) → St
  | (va2, vb2, vout2) => Mem.st ⟨[], [(0, [.d (.int .i64 qs.X), .d (.int .i64 qs.Y)]), (1, [.d (.int .i64 0), .d (.int .i64 0)]), (2, [.d (.int .i64 va2.X), .d (.int .i64 va2.Y)]), (3, [.d (.int .i64 vb2.X), .d (.int .i64 vb2.Y)]), (4, [.d (.int .i64 vout2.Num), .d (.int .i64 vout2.Den)])]⟩ (tl [(0, .v (.one (.d (.lst (List.map api_Spot.enc ql))))), (3, .v (.one (.box 0 0))), (4, .v (.one (.box 1 0))), (5, .v (.one (.box 2 0))), (6, .v (.one (.box 3 0))), (7, .v (.one (.box 4 0))), (20, .v (.one (.d (.int .i64 (ql.length : Int))))), (21, .v (.one (.d (.int .i64 vx))))]) 5

def fleetref2_FarOf_x2_I (ql : List api_Spot) (qs : api_Spot) (va : api_Spot) (vb : api_Spot) (vout : api_Fraction) (vx : Int) : St := Mem.st ⟨[], [(0, [.d (.int .i64 qs.X), .d (.int .i64 qs.Y)]), (1, [.d (.int .i64 0), .d (.int .i64 0)]), (2, [.d (.int .i64 va.X), .d (.int .i64 va.Y)]), (3, [.d (.int .i64 vb.X), .d (.int .i64 vb.Y)]), (4, [.d (.int .i64 vout.Num), .d (.int .i64 vout.Den)])]⟩ (tl [(0, .v (.one (.d (.lst (List.map api_Spot.enc ql))))), (3, .v (.one (.box 0 0))), (4, .v (.one (.box 1 0))), (5, .v (.one (.box 2 0))), (6, .v (.one (.box 3 0))), (7, .v (.one (.box 4 0))), (20, .v (.one (.d (.int .i64 (ql.length : Int))))), (21, .v (.one (.d (.int .i64 vx))))]) 5

theorem fleetref2_FarOf_x2_ok (ql : List api_Spot) (qs : api_Spot) (va : api_Spot) (vb : api_Spot) (vout : api_Fraction) (vx : Int) {r} (hF : fleetref2_FarOf_x2 ql qs vout vx = some r) : Awp prog 0 40 (cL (cR (cR (cL (cL (cR (cL (cR (cR (cR (cB f25))))))))))) (Out 0 fleetref2_FarOf_x2_k (fleetref2_FarOf_x2_S ql qs va vb vout vx) r) (fleetref2_FarOf_x2_I ql qs va vb vout vx) := by
  unfold fleetref2_FarOf_x2 at hF
  refine awp_block ?_
  refine awp_seq ?_
  refine awp_region ?_
  refine aR 2 ?_
  refine aE ?_
  refine awp_seq ?_
  refine bE hF fun x h4 hF => ?_
  obtain ⟨vr3, vr1_4⟩ := x
  refine awp_region ?_
  refine aR 2 ?_
  refine aC (fleetref2_edge_ok h4) [] [] [] ?_
  refine aR 5 ?_
  refine aE ?_
  refine awp_seq ?_
  refine bE hF fun vr1_5 h5 hF => ?_
  refine awp_region ?_
  refine aR 3 ?_
  refine aC (fleetref2_farWay_ok h5) [] [] [] ?_
  refine aR 2 ?_
  refine aE ?_
  refine awp_seq ?_
  refine bE hF fun vr4_1 h6 hF => ?_
  refine awp_region ?_
  refine aR 2 ?_
  refine aC (fleetref2_less_ok h6) [] [] [] ?_
  refine aE ?_
  refine cE hF (fun h7 hF => ?_) fun h7 hF => ?_
  · refine awp_true (by kernel_rfl) h7 ?_
    refine awp_region ?_
    refine aR 2 ?_
    refine aE ?_
    exact oO hF [] [] rfl
  · refine awp_false (by kernel_rfl) h7 ?_
    refine awp_skip ?_
    exact oO hF [] [] rfl

def fleetref2_FarOf_x1_k : api_Fraction → AEx
  | _ => .exit 0

def fleetref2_FarOf_x1_S (ql : List api_Spot) (qs : api_Spot) : api_Fraction → St
  | vout3 => Mem.st ⟨[], [(0, [.d (.int .i64 0), .d (.int .i64 0)]), (1, [.d (.int .i64 vout3.Num), .d (.int .i64 vout3.Den)])]⟩ (tl [(4, .v (.one (.box 0 0))), (7, .v (.one (.box 1 0)))]) 2

def fleetref2_FarOf_x1_H (ql : List api_Spot) (qs : api_Spot) : api_Spot × api_Spot × api_Fraction × Int → St
  | (va, vb, vout, vx) => Mem.st ⟨[], [(0, [.d (.int .i64 qs.X), .d (.int .i64 qs.Y)]), (1, [.d (.int .i64 0), .d (.int .i64 0)]), (2, [.d (.int .i64 va.X), .d (.int .i64 va.Y)]), (3, [.d (.int .i64 vb.X), .d (.int .i64 vb.Y)]), (4, [.d (.int .i64 vout.Num), .d (.int .i64 vout.Den)])]⟩ (tl [(0, .v (.one (.d (.lst (List.map api_Spot.enc ql))))), (3, .v (.one (.box 0 0))), (4, .v (.one (.box 1 0))), (5, .v (.one (.box 2 0))), (6, .v (.one (.box 3 0))), (7, .v (.one (.box 4 0))), (20, .v (.one (.d (.int .i64 (ql.length : Int))))), (21, .v (.one (.d (.int .i64 vx))))]) 5

theorem fleetref2_FarOf_x1_ok (ql : List api_Spot) (qs : api_Spot) (s : api_Spot × api_Spot × api_Fraction × Int) (r : (api_Spot × api_Spot × api_Fraction × Int) ⊕ (api_Fraction)) (hF : fleetref2_FarOf_x1 ql qs s = some r) : Awp prog 0 40 (cL (cL (cR (cL (cR (cR (cR (cB f25)))))))) (Out 0 (kk fleetref2_FarOf_x1_k) (SS (fleetref2_FarOf_x1_H ql qs) (fleetref2_FarOf_x1_S ql qs)) r) (fleetref2_FarOf_x1_H ql qs s) := by
  obtain ⟨va, vb, vout, vx⟩ := s
  unfold fleetref2_FarOf_x1 at hF
  refine awp_seq ?_
  refine awp_region ?_
  refine aR 1 ?_
  refine aE ?_
  refine awp_seq ?_
  refine cE hF (fun h3 hF => ?_) fun h3 hF => ?_
  · refine awp_true (by kernel_rfl) h3 ?_
    refine awp_skip ?_
    refine awp_seq ?_
    refine awp_to (st' := fleetref2_FarOf_x2_I ql qs va vb vout vx) (oT [] []) ?_
    refine bE hF fun x h8 hF => ?_
    obtain ⟨va2_1, vb2_1, vout2_1⟩ := x
    refine awp_sub (fleetref2_FarOf_x2_ok ql qs va vb vout vx h8) ?_
    refine awp_region ?_
    refine aR 2 ?_
    refine aE ?_
    exact oO hF [] [] rfl
  · refine awp_false (by kernel_rfl) h3 ?_
    refine awp_exit ?_
    exact oO hF [(0, 1), (1, 4)] [] rfl

def fleetref2_FarOf_R (ql : List api_Spot) (qs : api_Spot) (r : api_Fraction) : TV × Mem := (.v (.agg [.d (.int .i64 r.Num), .d (.int .i64 r.Den)]), ⟨[], []⟩)

theorem fleetref2_FarOf_ok {ql : List api_Spot} {qs : api_Spot} {r} (hF : fleetref2_FarOf ql qs = some r) : Holds prog 25 [.v (.one (.d (.lst (List.map api_Spot.enc ql)))), .v (.agg [.d (.int .i64 qs.X), .d (.int .i64 qs.Y)])] ⟨[], []⟩ (Is (fleetref2_FarOf_R ql qs r)) := by
  unfold fleetref2_FarOf at hF
  refine holds_of_awp hΓ (fn := f25) (c := cB f25) (A := 0) (nx := 0) (by kernel_rfl) (by kernel_rfl) (by kernel_rfl) (by kernel_rfl) (by kernel_rfl) (by kernel_rfl) (lowc_of (by kernel_rfl)) ?_
  show Awp prog 0 40 (cB f25) _ _
  refine awp_seq ?_
  refine awp_region ?_
  refine aR 2 ?_
  refine aE ?_
  refine awp_seq ?_
  refine bE hF fun x h1 hF => ?_
  obtain ⟨vr, vr1⟩ := x
  refine awp_region ?_
  refine aR 1 ?_
  refine aC (fleetref2_edge_ok h1) [] [] [] ?_
  refine aR 7 ?_
  refine aE ?_
  refine awp_seq ?_
  refine bE hF fun vr1_1 h2 hF => ?_
  refine awp_region ?_
  refine aR 3 ?_
  refine aC (fleetref2_farWay_ok h2) [] [] [] ?_
  refine aR 2 ?_
  refine aE ?_
  refine awp_seq ?_
  refine awp_seq ?_
  refine awp_region ?_
  refine aR 1 ?_
  refine aL api_Spot.enc ql ?_
  refine aR 1 ?_
  refine aE ?_
  refine awp_block ?_
  refine awp_to (st' := fleetref2_FarOf_x1_H ql qs (vr, vr1, vr1_1, 0)) (oT [(1, 1000), (2, 7000), (3, 8000), (4, 15000)] []) ?_
  refine bE hF fun vout3_1 h9 hF => ?_
  refine awp_sub (awp_loop' (fleetref2_FarOf_x1_H ql qs) fleetref2_FarOf_x1_k (fleetref2_FarOf_x1_S ql qs) (by intro x; exact fun h => nomatch h) h9 (fleetref2_FarOf_x1_ok ql qs)) ?_
  refine awp_seq ?_
  refine awp_region ?_
  refine aR 2 ?_
  refine aE ?_
  refine awp_ret ?_
  exact oF hF [] []

/-! ### beaconfleet/fleetref2.SurelyOf -/
def fleetref2_SurelyOf_x1_k : Bool → AEx
  | _ => .normal

def fleetref2_SurelyOf_x1_S (qf : api_Fence) (qx : api_Fix) (vr5 : Int) : Bool → St
  | vx => Mem.st ⟨[], []⟩ (tl [(5, .v (.one (.d (.int .i64 vr5)))), (27, .v (.one (.d (.bool vx))))]) 0

def fleetref2_SurelyOf_x1_I (qf : api_Fence) (qx : api_Fix) (vr5 : Int) : St := Mem.st ⟨[], [(0, [.d (.str qf.Key), .d (.lst (List.map api_Spot.enc qf.Corners))]), (1, [.d (.str qx.Device), .d (.int .i64 qx.At), .d (.int .i64 qx.X), .d (.int .i64 qx.Y), .d (.int .i64 qx.Error)])]⟩ (tl [(2, .v (.one (.box 0 0))), (3, .v (.one (.box 1 0))), (5, .v (.one (.d (.int .i64 vr5))))]) 2

theorem fleetref2_SurelyOf_x1_ok (qf : api_Fence) (qx : api_Fix) (vr5 : Int) {r} (hF : fleetref2_SurelyOf_x1 qf qx vr5 = some r) : Awp prog 0 29 (cL (cL (cR (cR (cB f26))))) (Out 0 fleetref2_SurelyOf_x1_k (fleetref2_SurelyOf_x1_S qf qx vr5) r) (fleetref2_SurelyOf_x1_I qf qx vr5) := by
  unfold fleetref2_SurelyOf_x1 at hF
  refine cE hF (fun h3 hF => ?_) fun h3 hF => ?_
  · refine aD ?_
    refine dR 1 ?_
    refine dB h3 ?_
    refine dR 15 ?_
    refine dE ?_
    exact oO hF [] [] rfl
  · refine bE hF fun _ h4 hF => ?_
    refine bE hF fun vr5_1 h5 hF => ?_
    refine bE hF fun vr4 h6 hF => ?_
    refine aD ?_
    refine dR 1 ?_
    refine dB h3 ?_
    refine dR 10 ?_
    refine dC (fleetref2_spotOf_ok h4) [] [] [] ?_
    refine dC (fleetref2_FarOf_ok h5) [] [] [] ?_
    refine dC (fleetref2_less_ok h6) [] [] [] ?_
    refine dR 2 ?_
    refine dE ?_
    exact oO hF [] [] rfl

def fleetref2_SurelyOf_R (qf : api_Fence) (qx : api_Fix) (r : Int) : TV × Mem := (.v (.one (.d (.int .i64 r))), ⟨[], []⟩)

theorem fleetref2_SurelyOf_ok {qf : api_Fence} {qx : api_Fix} {r} (hF : fleetref2_SurelyOf qf qx = some r) : Holds prog 26 [.v (.agg [.d (.str qf.Key), .d (.lst (List.map api_Spot.enc qf.Corners))]), .v (.agg [.d (.str qx.Device), .d (.int .i64 qx.At), .d (.int .i64 qx.X), .d (.int .i64 qx.Y), .d (.int .i64 qx.Error)])] ⟨[], []⟩ (Is (fleetref2_SurelyOf_R qf qx r)) := by
  unfold fleetref2_SurelyOf at hF
  refine holds_of_awp hΓ (fn := f26) (c := cB f26) (A := 0) (nx := 0) (by kernel_rfl) (by kernel_rfl) (by kernel_rfl) (by kernel_rfl) (by kernel_rfl) (by kernel_rfl) (lowc_of (by kernel_rfl)) ?_
  show Awp prog 0 29 (cB f26) _ _
  refine awp_seq ?_
  refine awp_region ?_
  refine aR 3 ?_
  refine aE ?_
  refine awp_seq ?_
  refine bE hF fun _ h1 hF => ?_
  refine bE hF fun vr5 h2 hF => ?_
  refine aD ?_
  refine dR 3 ?_
  refine dC (fleetref2_spotOf_ok h1) [] [] [] ?_
  refine dC (fleetref2_WhereOf_ok h2) [] [] [] ?_
  refine dR 1 ?_
  refine dE ?_
  refine awp_seq ?_
  refine awp_seq ?_
  refine awp_to (st' := fleetref2_SurelyOf_x1_I qf qx vr5) (oT [(1, 1000)] []) ?_
  refine bE hF fun vx1 h7 hF => ?_
  refine awp_sub (fleetref2_SurelyOf_x1_ok qf qx vr5 h7) ?_
  refine cE hF (fun h8 hF => ?_) fun h8 hF => ?_
  · refine awp_true (by kernel_rfl) h8 ?_
    refine awp_seq ?_
    refine awp_region ?_
    refine aR 1 ?_
    refine aE ?_
    refine awp_ret ?_
    exact oF hF [] []
  · refine awp_false (by kernel_rfl) h8 ?_
    refine awp_skip ?_
    refine awp_seq ?_
    refine awp_region ?_
    refine aR 2 ?_
    refine aE ?_
    refine awp_ret ?_
    exact oF hF [] []

/-! ### beaconfleet/fleetlaw2.FencesSure -/
def fleetlaw2_FencesSure_x1_k : api_Fraction → AEx
  | _ => .normal

def fleetlaw2_FencesSure_x1_S (vr4 : api_Fence) (vr1 : api_Spot) (vr : List UInt8) (vr3 : Int) (vr2 : Int) (vr2_1 : api_Fraction) (vr3_1 : Int) (vr1_1 : Int) (vr4_1 : Int) (vr6 : Int) (vr7 : Int) : api_Fraction → St
  | vx => Mem.st ⟨[], [(0, [.d (.str vr4.Key), .d (.lst (List.map api_Spot.enc vr4.Corners))]), (1, [.d (.str vr), .d (.int .i64 vr3), .d (.int .i64 vr1.X), .d (.int .i64 vr1.Y), .d (.int .i64 vr2)]), (2, [.d (.int .i64 vr2_1.Num), .d (.int .i64 vr2_1.Den)]), (3, [.d (.int .i64 vx.Num), .d (.int .i64 vx.Den)])]⟩ (tl [(4, .v (.one (.box 0 0))), (6, .v (.one (.box 1 0))), (7, .v (.one (.box 2 0))), (8, .v (.one (.d (.int .i64 vr3_1)))), (9, .v (.one (.d (.int .i64 vr1_1)))), (10, .v (.one (.d (.int .i64 vr4_1)))), (12, .v (.one (.d (.int .i64 vr6)))), (13, .v (.one (.d (.int .i64 vr7)))), (14, .v (.one (.box 3 0))), (15, .v (.one (.d (.int .i64 0))))]) 4

def fleetlaw2_FencesSure_x1_I (vr4 : api_Fence) (vr1 : api_Spot) (vr : List UInt8) (vr3 : Int) (vr2 : Int) (vr2_1 : api_Fraction) (vr3_1 : Int) (vr1_1 : Int) (vr4_1 : Int) (vr6 : Int) (vr7 : Int) : St := Mem.st ⟨[], [(0, [.d (.str vr4.Key), .d (.lst (List.map api_Spot.enc vr4.Corners))]), (1, [.d (.int .i64 vr1.X), .d (.int .i64 vr1.Y)]), (2, [.d (.str vr), .d (.int .i64 vr3), .d (.int .i64 vr1.X), .d (.int .i64 vr1.Y), .d (.int .i64 vr2)]), (3, [.d (.int .i64 vr2_1.Num), .d (.int .i64 vr2_1.Den)]), (4, [.d (.int .i64 0), .d (.int .i64 0)])]⟩ (tl [(4, .v (.one (.box 0 0))), (5, .v (.one (.box 1 0))), (6, .v (.one (.box 2 0))), (7, .v (.one (.box 3 0))), (8, .v (.one (.d (.int .i64 vr3_1)))), (9, .v (.one (.d (.int .i64 vr1_1)))), (10, .v (.one (.d (.int .i64 vr4_1)))), (12, .v (.one (.d (.int .i64 vr6)))), (13, .v (.one (.d (.int .i64 vr7)))), (14, .v (.one (.box 4 0))), (15, .v (.one (.d (.int .i64 0))))]) 5

theorem fleetlaw2_FencesSure_x1_ok (vr4 : api_Fence) (vr1 : api_Spot) (vr : List UInt8) (vr3 : Int) (vr2 : Int) (vr2_1 : api_Fraction) (vr3_1 : Int) (vr1_1 : Int) (vr4_1 : Int) (vr6 : Int) (vr7 : Int) {r} (hF : fleetlaw2_FencesSure_x1 vr4 vr1 vr6 = some r) : Awp prog 0 94 (cL (cR (cR (cR (cR (cR (cR (cR (cR (cR (cB f4))))))))))) (Out 0 fleetlaw2_FencesSure_x1_k (fleetlaw2_FencesSure_x1_S vr4 vr1 vr vr3 vr2 vr2_1 vr3_1 vr1_1 vr4_1 vr6 vr7) r) (fleetlaw2_FencesSure_x1_I vr4 vr1 vr vr3 vr2 vr2_1 vr3_1 vr1_1 vr4_1 vr6 vr7) := by
  unfold fleetlaw2_FencesSure_x1 at hF
  refine awp_seq ?_
  refine awp_region ?_
  refine aR 2 ?_
  refine aE ?_
  refine cE hF (fun h13 hF => ?_) fun h13 hF => ?_
  · refine awp_true (by kernel_rfl) h13 ?_
    refine bE hF fun vr5_2 h14 hF => ?_
    refine awp_region ?_
    refine aR 3 ?_
    refine aC (fleetref2_FarOf_ok h14) [] [] [] ?_
    refine aR 1 ?_
    refine aE ?_
    exact oO hF [(1, 2), (2, 3), (3, 4)] [] rfl
  · refine awp_false (by kernel_rfl) h13 ?_
    refine awp_skip ?_
    exact oO hF [(1, 2), (2, 3), (3, 4)] [] rfl

def fleetlaw2_FencesSure_x2_k : Int → AEx
  | _ => .normal

def fleetlaw2_FencesSure_x2_S (vr4 : api_Fence) (vr1 : api_Spot) (vr : List UInt8) (vr3 : Int) (vr2 : Int) (vr2_1 : api_Fraction) (vr3_1 : Int) (vr1_1 : Int) (vr4_1 : Int) (vr6 : Int) (vr7 : Int) (vx1 : api_Fraction) : Int → St
  | vx2 => Mem.st ⟨[], [(0, [.d (.int .i64 vr2_1.Num), .d (.int .i64 vr2_1.Den)]), (1, [.d (.int .i64 vx1.Num), .d (.int .i64 vx1.Den)])]⟩ (tl [(7, .v (.one (.box 0 0))), (8, .v (.one (.d (.int .i64 vr3_1)))), (9, .v (.one (.d (.int .i64 vr1_1)))), (10, .v (.one (.d (.int .i64 vr4_1)))), (12, .v (.one (.d (.int .i64 vr6)))), (13, .v (.one (.d (.int .i64 vr7)))), (14, .v (.one (.box 1 0))), (15, .v (.one (.d (.int .i64 vx2))))]) 2

def fleetlaw2_FencesSure_x2_I (vr4 : api_Fence) (vr1 : api_Spot) (vr : List UInt8) (vr3 : Int) (vr2 : Int) (vr2_1 : api_Fraction) (vr3_1 : Int) (vr1_1 : Int) (vr4_1 : Int) (vr6 : Int) (vr7 : Int) (vx1 : api_Fraction) : St := Mem.st ⟨[], [(0, [.d (.str vr4.Key), .d (.lst (List.map api_Spot.enc vr4.Corners))]), (1, [.d (.str vr), .d (.int .i64 vr3), .d (.int .i64 vr1.X), .d (.int .i64 vr1.Y), .d (.int .i64 vr2)]), (2, [.d (.int .i64 vr2_1.Num), .d (.int .i64 vr2_1.Den)]), (3, [.d (.int .i64 vx1.Num), .d (.int .i64 vx1.Den)])]⟩ (tl [(4, .v (.one (.box 0 0))), (6, .v (.one (.box 1 0))), (7, .v (.one (.box 2 0))), (8, .v (.one (.d (.int .i64 vr3_1)))), (9, .v (.one (.d (.int .i64 vr1_1)))), (10, .v (.one (.d (.int .i64 vr4_1)))), (12, .v (.one (.d (.int .i64 vr6)))), (13, .v (.one (.d (.int .i64 vr7)))), (14, .v (.one (.box 3 0))), (15, .v (.one (.d (.int .i64 0))))]) 4

theorem fleetlaw2_FencesSure_x2_ok (vr4 : api_Fence) (vr1 : api_Spot) (vr : List UInt8) (vr3 : Int) (vr2 : Int) (vr2_1 : api_Fraction) (vr3_1 : Int) (vr1_1 : Int) (vr4_1 : Int) (vr6 : Int) (vr7 : Int) (vx1 : api_Fraction) {r} (hF : fleetlaw2_FencesSure_x2 vr4 vr1 vr vr3 vr2 vr7 = some r) : Awp prog 0 94 (cL (cR (cR (cR (cR (cR (cR (cR (cR (cR (cR (cB f4)))))))))))) (Out 0 fleetlaw2_FencesSure_x2_k (fleetlaw2_FencesSure_x2_S vr4 vr1 vr vr3 vr2 vr2_1 vr3_1 vr1_1 vr4_1 vr6 vr7 vx1) r) (fleetlaw2_FencesSure_x2_I vr4 vr1 vr vr3 vr2 vr2_1 vr3_1 vr1_1 vr4_1 vr6 vr7 vx1) := by
  unfold fleetlaw2_FencesSure_x2 at hF
  refine awp_seq ?_
  refine awp_region ?_
  refine aR 2 ?_
  refine aE ?_
  refine cE hF (fun h16 hF => ?_) fun h16 hF => ?_
  · refine awp_true (by kernel_rfl) h16 ?_
    refine bE hF fun vr8 h17 hF => ?_
    refine awp_region ?_
    refine aR 2 ?_
    refine aC (fleetref2_SurelyOf_ok h17) [] [] [] ?_
    refine aR 1 ?_
    refine aE ?_
    exact oO hF [(0, 2), (1, 3)] [] rfl
  · refine awp_false (by kernel_rfl) h16 ?_
    refine awp_skip ?_
    exact oO hF [(0, 2), (1, 3)] [] rfl

def fleetlaw2_FencesSure_x3_k : Bool → AEx
  | _ => .normal

def fleetlaw2_FencesSure_x3_S (vr2_1 : api_Fraction) (vr3_1 : Int) (vr1_1 : Int) (vr4_1 : Int) (vr6 : Int) (vr7 : Int) (vx1 : api_Fraction) (vx2_1 : Int) : Bool → St
  | vx3 => Mem.st ⟨[], []⟩ (tl [(2, .v (.one (.d (.bool vx3))))]) 0

def fleetlaw2_FencesSure_x3_I (vr2_1 : api_Fraction) (vr3_1 : Int) (vr1_1 : Int) (vr4_1 : Int) (vr6 : Int) (vr7 : Int) (vx1 : api_Fraction) (vx2_1 : Int) : St := Mem.st ⟨[], [(0, [.d (.int .i64 vr2_1.Num), .d (.int .i64 vr2_1.Den)]), (1, [.d (.int .i64 vx1.Num), .d (.int .i64 vx1.Den)])]⟩ (tl [(7, .v (.one (.box 0 0))), (8, .v (.one (.d (.int .i64 vr3_1)))), (9, .v (.one (.d (.int .i64 vr1_1)))), (10, .v (.one (.d (.int .i64 vr4_1)))), (12, .v (.one (.d (.int .i64 vr6)))), (13, .v (.one (.d (.int .i64 vr7)))), (14, .v (.one (.box 1 0))), (15, .v (.one (.d (.int .i64 vx2_1))))]) 2

theorem fleetlaw2_FencesSure_x3_ok (vr2_1 : api_Fraction) (vr3_1 : Int) (vr1_1 : Int) (vr4_1 : Int) (vr6 : Int) (vr7 : Int) (vx1 : api_Fraction) (vx2_1 : Int) {r} (hF : fleetlaw2_FencesSure_x3 vr2_1 vr3_1 vr1_1 vr4_1 vr6 vr7 vx1 vx2_1 = some r) : Awp prog 0 94 (cL (cR (cR (cR (cR (cR (cR (cR (cR (cR (cR (cR (cB f4))))))))))))) (Out 0 fleetlaw2_FencesSure_x3_k (fleetlaw2_FencesSure_x3_S vr2_1 vr3_1 vr1_1 vr4_1 vr6 vr7 vx1 vx2_1) r) (fleetlaw2_FencesSure_x3_I vr2_1 vr3_1 vr1_1 vr4_1 vr6 vr7 vx1 vx2_1) := by
  unfold fleetlaw2_FencesSure_x3 at hF
  refine cE hF (fun h19 hF => ?_) fun h19 hF => ?_
  · refine cE hF (fun h20 hF => ?_) fun h20 hF => ?_
    · refine cE hF (fun h21 hF => ?_) fun h21 hF => ?_
      · refine cE hF (fun h22 hF => ?_) fun h22 hF => ?_
        · refine bE hF fun vr9 h23 hF => ?_
          refine awp_region ?_
          refine aR 2 ?_
          refine aB h19 ?_
          refine aR 3 ?_
          refine aSb (does_eqS (op := .eql) (xs := [.int .i64 vr2_1.Num, .int .i64 vr2_1.Den]) (ys := [.int .i64 vx1.Num, .int .i64 vx1.Den]) (b := (decide (vr2_1.Num = vx1.Num) && (decide (vr2_1.Den = vx1.Den) && true))) (c := (decide (vr2_1.Num = vx1.Num) && (decide (vr2_1.Den = vx1.Den) && true))) rfl (.inl ⟨rfl, rfl⟩) (by kernel_rfl) (by kernel_rfl) (by kernel_rfl) (by kernel_rfl) (by kernel_rfl) (by kernel_rfl)) h20 ?_
          refine aR 4 ?_
          refine aB h21 ?_
          refine aR 4 ?_
          refine aB h22 ?_
          refine aR 2 ?_
          refine aC (fleetlaw2_placed_ok h23) [] [] [] ?_
          refine aR 2 ?_
          refine aE ?_
          exact oO hF [] [] rfl
        · refine awp_region ?_
          refine aR 2 ?_
          refine aB h19 ?_
          refine aR 3 ?_
          refine aSb (does_eqS (op := .eql) (xs := [.int .i64 vr2_1.Num, .int .i64 vr2_1.Den]) (ys := [.int .i64 vx1.Num, .int .i64 vx1.Den]) (b := (decide (vr2_1.Num = vx1.Num) && (decide (vr2_1.Den = vx1.Den) && true))) (c := (decide (vr2_1.Num = vx1.Num) && (decide (vr2_1.Den = vx1.Den) && true))) rfl (.inl ⟨rfl, rfl⟩) (by kernel_rfl) (by kernel_rfl) (by kernel_rfl) (by kernel_rfl) (by kernel_rfl) (by kernel_rfl)) h20 ?_
          refine aR 4 ?_
          refine aB h21 ?_
          refine aR 4 ?_
          refine aB h22 ?_
          refine aR 5 ?_
          refine aE ?_
          exact oO hF [] [] rfl
      · refine awp_region ?_
        refine aR 2 ?_
        refine aB h19 ?_
        refine aR 3 ?_
        refine aSb (does_eqS (op := .eql) (xs := [.int .i64 vr2_1.Num, .int .i64 vr2_1.Den]) (ys := [.int .i64 vx1.Num, .int .i64 vx1.Den]) (b := (decide (vr2_1.Num = vx1.Num) && (decide (vr2_1.Den = vx1.Den) && true))) (c := (decide (vr2_1.Num = vx1.Num) && (decide (vr2_1.Den = vx1.Den) && true))) rfl (.inl ⟨rfl, rfl⟩) (by kernel_rfl) (by kernel_rfl) (by kernel_rfl) (by kernel_rfl) (by kernel_rfl) (by kernel_rfl)) h20 ?_
        refine aR 4 ?_
        refine aB h21 ?_
        refine aR 10 ?_
        refine aE ?_
        exact oO hF [] [] rfl
    · refine awp_region ?_
      refine aR 2 ?_
      refine aB h19 ?_
      refine aR 3 ?_
      refine aSb (does_eqS (op := .eql) (xs := [.int .i64 vr2_1.Num, .int .i64 vr2_1.Den]) (ys := [.int .i64 vx1.Num, .int .i64 vx1.Den]) (b := (decide (vr2_1.Num = vx1.Num) && (decide (vr2_1.Den = vx1.Den) && true))) (c := (decide (vr2_1.Num = vx1.Num) && (decide (vr2_1.Den = vx1.Den) && true))) rfl (.inl ⟨rfl, rfl⟩) (by kernel_rfl) (by kernel_rfl) (by kernel_rfl) (by kernel_rfl) (by kernel_rfl) (by kernel_rfl)) h20 ?_
      refine aR 15 ?_
      refine aE ?_
      exact oO hF [] [] rfl
  · refine awp_region ?_
    refine aR 2 ?_
    refine aB h19 ?_
    refine aR 19 ?_
    refine aE ?_
    exact oO hF [] [] rfl

def fleetlaw2_FencesSure_R (qx : List Int) (r : Bool) : TV × Mem := (.v (.one (.d (.bool r))), ⟨[], []⟩)

theorem fleetlaw2_FencesSure_ok {qx : List Int} {r} (hF : fleetlaw2_FencesSure qx = some r) : Holds prog 4 [.v (.one (.d (.lst (List.map (encI .i64) qx))))] ⟨[], []⟩ (Is (fleetlaw2_FencesSure_R qx r)) := by
  unfold fleetlaw2_FencesSure at hF
  refine holds_of_awp hΓ (fn := f4) (c := cB f4) (A := 0) (nx := 0) (by kernel_rfl) (by kernel_rfl) (by kernel_rfl) (by kernel_rfl) (by kernel_rfl) (by kernel_rfl) (lowc_of (by kernel_rfl)) ?_
  show Awp prog 0 94 (cB f4) _ _
  refine awp_seq ?_
  refine awp_region ?_
  refine aR 1 ?_
  refine aE ?_
  refine awp_seq ?_
  refine awp_region ?_
  refine aR 4 ?_
  refine aE ?_
  refine awp_seq ?_
  refine bE hF fun x h1 hF => ?_
  obtain ⟨vs2, vr4⟩ := x
  refine bE hF fun x h2 hF => ?_
  obtain ⟨vs3, vr1⟩ := x
  refine awp_region ?_
  refine aR 1 ?_
  refine aC (fleetmake_Stream_Fence_ok h1) [(0, 3000)] [] [] ?_
  refine aR 1 ?_
  refine aC (fleetmake_Stream_Spot_ok h2) [(0, 3000)] [] [] ?_
  refine aR 4 ?_
  refine aE ?_
  refine awp_seq ?_
  refine bE hF fun vr h3 hF => ?_
  refine bE hF fun x h4 hF => ?_
  obtain ⟨vs1, vr3⟩ := x
  refine bE hF fun vr2 h5 hF => ?_
  refine aD ?_
  refine dR 2 ?_
  refine dC (fleetmake_Stream_Some_o1_ok h3) [(0, 3000), (1, 14000)] [] [] ?_
  refine dR 1 ?_
  refine dC (fleetmake_Stream_Odd_ok h4) [(0, 3000)] [] [] ?_
  refine dR 6 ?_
  refine dC (fleetmake_Stream_Pick_o1_ok h5) [(0, 3000), (1, 23000)] [] [] ?_
  refine dR 3 ?_
  refine dE ?_
  refine awp_seq ?_
  refine bE hF fun x h6 hF => ?_
  obtain ⟨vr2_1, vr3_1⟩ := x
  refine awp_region ?_
  refine aR 2 ?_
  refine aC (place_Far_ok h6) [] [] [] ?_
  refine aR 6 ?_
  refine aE ?_
  refine awp_seq ?_
  refine bE hF fun x h7 hF => ?_
  obtain ⟨vr1_1, vr4_1⟩ := x
  refine awp_region ?_
  refine aR 2 ?_
  refine aC (place_Surely_ok h7) [] [] [] ?_
  refine aR 5 ?_
  refine aE ?_
  refine awp_seq ?_
  refine bE hF fun vr5 h8 hF => ?_
  refine awp_region ?_
  refine aR 1 ?_
  refine aC (fleetref2_FenceFault_ok h8) [] [] [] ?_
  refine aR 1 ?_
  refine aE ?_
  refine awp_seq ?_
  refine bE hF fun vr2_2 h9 hF => ?_
  refine bE hF fun vr6 h10 hF => ?_
  refine bE hF fun vr5_1 h11 hF => ?_
  refine bE hF fun vr7 h12 hF => ?_
  refine aD ?_
  refine dR 2 ?_
  refine dC (fleetref2_SpotFault_ok h9) [] [] [] ?_
  refine dR 1 ?_
  refine dC (fleetlaw2_errs_ok h10) [] [] [51000] ?_
  refine dR 3 ?_
  refine dC (fleetref2_FixesFault_ok h11) [] [] [55000] ?_
  refine dR 1 ?_
  refine dC (fleetlaw2_errs_ok h12) [] [] [57000] ?_
  refine dR 2 ?_
  refine dE ?_
  refine awp_seq ?_
  refine awp_region ?_
  refine aR 4 ?_
  refine aE ?_
  refine awp_seq ?_
  refine awp_to (st' := fleetlaw2_FencesSure_x1_I vr4 vr1 vr vr3 vr2 vr2_1 vr3_1 vr1_1 vr4_1 vr6 vr7) (oT [(0, 9000), (1, 10000), (2, 26000), (3, 34000), (4, 62000)] []) ?_
  refine bE hF fun vx1 h15 hF => ?_
  refine awp_sub (fleetlaw2_FencesSure_x1_ok vr4 vr1 vr vr3 vr2 vr2_1 vr3_1 vr1_1 vr4_1 vr6 vr7 h15) ?_
  refine awp_seq ?_
  refine awp_to (st' := fleetlaw2_FencesSure_x2_I vr4 vr1 vr vr3 vr2 vr2_1 vr3_1 vr1_1 vr4_1 vr6 vr7 vx1) (oT [] []) ?_
  refine bE hF fun vx2_1 h18 hF => ?_
  refine awp_sub (fleetlaw2_FencesSure_x2_ok vr4 vr1 vr vr3 vr2 vr2_1 vr3_1 vr1_1 vr4_1 vr6 vr7 vx1 h18) ?_
  refine awp_seq ?_
  refine awp_to (st' := fleetlaw2_FencesSure_x3_I vr2_1 vr3_1 vr1_1 vr4_1 vr6 vr7 vx1 vx2_1) (oT [] []) ?_
  refine bE hF fun vx3_1 h24 hF => ?_
  refine awp_sub (fleetlaw2_FencesSure_x3_ok vr2_1 vr3_1 vr1_1 vr4_1 vr6 vr7 vx1 vx2_1 h24) ?_
  refine awp_ret ?_
  exact oF hF [] []

end Go.Eng
