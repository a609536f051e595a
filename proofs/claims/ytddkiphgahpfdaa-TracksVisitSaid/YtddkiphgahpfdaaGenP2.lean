/-
The code of the Go functions that the law TracksVisit reaches does what the plain functions say, part 2.
-/
import Derived.Test.YtddkiphgahpfdaaGenP1

namespace Go.Eng

open Go Go.Proofs.Try

set_option linter.unusedVariables false

set_option maxRecDepth 20000

set_option maxHeartbeats 0

/-! ### beaconfleet/fleetref2.FixesFault -/
def fleetref2_FixesFault_x2_k : Bool → AEx
  | _ => .normal

def fleetref2_FixesFault_x2_S (ql : List api_Fix) (vx : Int) (vy2 : api_Fix) : Bool → St
  | vx3 => Mem.st ⟨[], [(0, [.d (.str vy2.Device), .d (.int .i64 vy2.At), .d (.int .i64 vy2.X), .d (.int .i64 vy2.Y), .d (.int .i64 vy2.Error)])]⟩ (tl [(0, .v (.one (.d (.lst (List.map api_Fix.enc ql))))), (3, .v (.one (.d (.int .i64 vx)))), (4, .v (.one (.box 0 0))), (8, .v (.one (.d (.lst (List.map api_Fix.enc ql))))), (9, .v (.one (.d (.int .i64 (ql.length : Int))))), (10, .v (.one (.d (.int .i64 vx)))), (20, .v (.one (.d (.bool vx3))))]) 1

def fleetref2_FixesFault_x2_I (ql : List api_Fix) (vx : Int) (vy2 : api_Fix) : St := Mem.st ⟨[], [(0, [.d (.str vy2.Device), .d (.int .i64 vy2.At), .d (.int .i64 vy2.X), .d (.int .i64 vy2.Y), .d (.int .i64 vy2.Error)])]⟩ (tl [(0, .v (.one (.d (.lst (List.map api_Fix.enc ql))))), (3, .v (.one (.d (.int .i64 vx)))), (4, .v (.one (.box 0 0))), (8, .v (.one (.d (.lst (List.map api_Fix.enc ql))))), (9, .v (.one (.d (.int .i64 (ql.length : Int))))), (10, .v (.one (.d (.int .i64 vx))))]) 1

theorem fleetref2_FixesFault_x2_ok (ql : List api_Fix) (vx : Int) (vy2 : api_Fix) {r} (hF : fleetref2_FixesFault_x2 vy2 = some r) : Awp prog 0 51 (cL (cR (cR (cL (cR (cL (cL (cR (cR (cL (cL (cR (cL (cR (cR (cB f24)))))))))))))))) (Out 0 fleetref2_FixesFault_x2_k (fleetref2_FixesFault_x2_S ql vx vy2) r) (fleetref2_FixesFault_x2_I ql vx vy2) := by
  unfold fleetref2_FixesFault_x2 at hF
  refine bE hF fun vr1_2 h6 hF => ?_
  refine cE hF (fun h7 hF => ?_) fun h7 hF => ?_
  · refine awp_region ?_
    refine aR 2 ?_
    refine aC (fleetref2_Moment_ok h6) [] [] [] ?_
    refine aB h7 ?_
    refine aR 13 ?_
    refine aE ?_
    exact oO hF [] [] rfl
  · refine bE hF fun _ h8 hF => ?_
    refine bE hF fun vr2_1 h9 hF => ?_
    refine cE hF (fun h10 hF => ?_) fun h10 hF => ?_
    · refine awp_region ?_
      refine aR 2 ?_
      refine aC (fleetref2_Moment_ok h6) [] [] [] ?_
      refine aB h7 ?_
      refine aR 2 ?_
      refine aC (fleetref2_spotOf_ok h8) [] [] [] ?_
      refine aC (fleetref2_SpotFault_ok h9) [] [] [] ?_
      refine aB h10 ?_
      refine aR 8 ?_
      refine aE ?_
      exact oO hF [] [] rfl
    · refine bE hF fun vr4 h11 hF => ?_
      refine awp_region ?_
      refine aR 2 ?_
      refine aC (fleetref2_Moment_ok h6) [] [] [] ?_
      refine aB h7 ?_
      refine aR 2 ?_
      refine aC (fleetref2_spotOf_ok h8) [] [] [] ?_
      refine aC (fleetref2_SpotFault_ok h9) [] [] [] ?_
      refine aB h10 ?_
      refine aR 4 ?_
      refine aC (fleetref2_in_ok h11) [] [] [] ?_
      refine aR 3 ?_
      refine aE ?_
      exact oO hF [] [] rfl

def fleetref2_FixesFault_x3_k : Bool → AEx
  | _ => .normal

def fleetref2_FixesFault_x3_S (ql : List api_Fix) (vx : Int) (vy2 : api_Fix) : Bool → St
  | vx4 => Mem.st ⟨[], []⟩ (tl [(0, .v (.one (.d (.lst (List.map api_Fix.enc ql))))), (8, .v (.one (.d (.lst (List.map api_Fix.enc ql))))), (9, .v (.one (.d (.int .i64 (ql.length : Int))))), (10, .v (.one (.d (.int .i64 vx)))), (37, .v (.one (.d (.bool vx4))))]) 0

def fleetref2_FixesFault_x3_I (ql : List api_Fix) (vx : Int) (vy2 : api_Fix) : St := Mem.st ⟨[], [(0, [.d (.str vy2.Device), .d (.int .i64 vy2.At), .d (.int .i64 vy2.X), .d (.int .i64 vy2.Y), .d (.int .i64 vy2.Error)])]⟩ (tl [(0, .v (.one (.d (.lst (List.map api_Fix.enc ql))))), (3, .v (.one (.d (.int .i64 vx)))), (4, .v (.one (.box 0 0))), (8, .v (.one (.d (.lst (List.map api_Fix.enc ql))))), (9, .v (.one (.d (.int .i64 (ql.length : Int))))), (10, .v (.one (.d (.int .i64 vx))))]) 1

theorem fleetref2_FixesFault_x3_ok (ql : List api_Fix) (vx : Int) (vy2 : api_Fix) {r} (hF : fleetref2_FixesFault_x3 ql vx vy2 = some r) : Awp prog 0 51 (cL (cR (cR (cR (cR (cL (cR (cL (cL (cR (cR (cL (cL (cR (cL (cR (cR (cB f24)))))))))))))))))) (Out 0 fleetref2_FixesFault_x3_k (fleetref2_FixesFault_x3_S ql vx vy2) r) (fleetref2_FixesFault_x3_I ql vx vy2) := by
  unfold fleetref2_FixesFault_x3 at hF
  refine cE hF (fun h14 hF => ?_) fun h14 hF => ?_
  · refine bE hF fun vy3 h15 hF => ?_
    refine bE hF fun vr1_3 h16 hF => ?_
    refine aD ?_
    refine dR 1 ?_
    refine dB h14 ?_
    refine dR 4 ?_
    refine dX (x_idx api_Fix.enc h15) ?_
    refine dR 2 ?_
    refine dC (fleetref2_FixOrder_ok h16) [] [] [] ?_
    refine dR 3 ?_
    refine dE ?_
    exact oO hF [] [] rfl
  · refine aD ?_
    refine dR 1 ?_
    refine dB h14 ?_
    refine dR 11 ?_
    refine dE ?_
    exact oO hF [] [] rfl

def fleetref2_FixesFault_x1_k : Unit ⊕ Int → AEx
  | .inl _ => .exit 0
  | .inr _ => .ret

def fleetref2_FixesFault_x1_S (ql : List api_Fix) : Unit ⊕ Int → St
  | .inl _ => Mem.st ⟨[], []⟩ (tl []) 0
  | .inr vx5 => Mem.st ⟨[], []⟩ (tl [(2, .v (.one (.d (.int .i64 vx5))))]) 0

def fleetref2_FixesFault_x1_H (ql : List api_Fix) : Int → St
  | vx => Mem.st ⟨[], []⟩ (tl [(0, .v (.one (.d (.lst (List.map api_Fix.enc ql))))), (8, .v (.one (.d (.lst (List.map api_Fix.enc ql))))), (9, .v (.one (.d (.int .i64 (ql.length : Int))))), (10, .v (.one (.d (.int .i64 vx))))]) 0

theorem fleetref2_FixesFault_x1_ok (ql : List api_Fix) (vx : Int) (r : (Int) ⊕ (Unit ⊕ Int)) (hF : fleetref2_FixesFault_x1 ql vx = some r) : Awp prog 0 51 (cL (cL (cR (cL (cR (cR (cB f24))))))) (Out 0 (kk fleetref2_FixesFault_x1_k) (SS (fleetref2_FixesFault_x1_H ql) (fleetref2_FixesFault_x1_S ql)) r) (fleetref2_FixesFault_x1_H ql vx) := by
  unfold fleetref2_FixesFault_x1 at hF
  refine awp_seq ?_
  refine awp_region ?_
  refine aR 1 ?_
  refine aE ?_
  refine awp_seq ?_
  refine cE hF (fun h2 hF => ?_) fun h2 hF => ?_
  · refine awp_true (by kernel_rfl) h2 ?_
    refine awp_skip ?_
    refine awp_seq ?_
    refine awp_block ?_
    refine awp_seq ?_
    refine bE hF fun vy2 h3 hF => ?_
    refine awp_region ?_
    refine aR 1 ?_
    refine aX (x_idx api_Fix.enc h3) ?_
    refine aR 4 ?_
    refine aE ?_
    refine awp_block ?_
    refine awp_seq ?_
    refine bE hF fun vr3_1 h4 hF => ?_
    refine awp_region ?_
    refine aR 2 ?_
    refine aC (fleetref2_Key_ok h4) [] [] [] ?_
    refine aR 2 ?_
    refine aE ?_
    refine cE hF (fun h5 hF => ?_) fun h5 hF => ?_
    · refine awp_true (by kernel_rfl) h5 ?_
      refine awp_seq ?_
      refine awp_region ?_
      refine aR 1 ?_
      refine aE ?_
      refine awp_ret ?_
      exact oO hF [] [] rfl
    · refine awp_false (by kernel_rfl) h5 ?_
      refine awp_seq ?_
      refine awp_to (st' := fleetref2_FixesFault_x2_I ql vx vy2) (oT [(0, 4000)] []) ?_
      refine bE hF fun vx3_1 h12 hF => ?_
      refine awp_sub (fleetref2_FixesFault_x2_ok ql vx vy2 h12) ?_
      refine cE hF (fun h13 hF => ?_) fun h13 hF => ?_
      · refine awp_true (by kernel_rfl) h13 ?_
        refine awp_seq ?_
        refine awp_region ?_
        refine aR 1 ?_
        refine aE ?_
        refine awp_ret ?_
        exact oO hF [] [] rfl
      · refine awp_false (by kernel_rfl) h13 ?_
        refine awp_seq ?_
        refine awp_to (st' := fleetref2_FixesFault_x3_I ql vx vy2) (oT [] []) ?_
        refine bE hF fun vx4_1 h17 hF => ?_
        refine awp_sub (fleetref2_FixesFault_x3_ok ql vx vy2 h17) ?_
        refine cE hF (fun h18 hF => ?_) fun h18 hF => ?_
        · refine awp_true (by kernel_rfl) h18 ?_
          refine awp_seq ?_
          refine awp_region ?_
          refine aR 1 ?_
          refine aE ?_
          refine awp_ret ?_
          exact oO hF [] [] rfl
        · refine awp_false (by kernel_rfl) h18 ?_
          refine awp_skip ?_
          refine awp_region ?_
          refine aR 2 ?_
          refine aE ?_
          exact oO hF [] [] rfl
  · refine awp_false (by kernel_rfl) h2 ?_
    refine awp_exit ?_
    exact oO hF [] [] rfl

def fleetref2_FixesFault_R (ql : List api_Fix) (r : Int) : TV × Mem := (.v (.one (.d (.int .i64 r))), ⟨[], []⟩)

theorem fleetref2_FixesFault_ok {ql : List api_Fix} {r} (hF : fleetref2_FixesFault ql = some r) : Holds prog 24 [.v (.one (.d (.lst (List.map api_Fix.enc ql))))] ⟨[], []⟩ (Is (fleetref2_FixesFault_R ql r)) := by
  unfold fleetref2_FixesFault at hF
  refine holds_of_awp hΓ (fn := f24) (c := cB f24) (A := 0) (nx := 0) (by kernel_rfl) (by kernel_rfl) (by kernel_rfl) (by kernel_rfl) (by kernel_rfl) (by kernel_rfl) (lowc_of (by kernel_rfl)) ?_
  show Awp prog 0 51 (cB f24) _ _
  refine awp_seq ?_
  refine awp_region ?_
  refine aR 1 ?_
  refine aE ?_
  refine awp_seq ?_
  refine awp_seq ?_
  refine awp_region ?_
  refine aR 1 ?_
  refine aL api_Fix.enc ql ?_
  refine aR 1 ?_
  refine aE ?_
  refine cE hF (fun h1 hF => ?_) fun h1 hF => ?_
  · refine awp_true (by kernel_rfl) h1 ?_
    refine awp_seq ?_
    refine awp_region ?_
    refine aR 1 ?_
    refine aE ?_
    refine awp_ret ?_
    exact oF hF [] []
  · refine awp_false (by kernel_rfl) h1 ?_
    refine awp_skip ?_
    refine awp_seq ?_
    refine awp_seq ?_
    refine awp_region ?_
    refine aR 1 ?_
    refine aL api_Fix.enc ql ?_
    refine aR 1 ?_
    refine aE ?_
    refine awp_block ?_
    refine awp_to (st' := fleetref2_FixesFault_x1_H ql 0) (oT [] []) ?_
    refine bE hF fun x h19 hF => ?_
    rcases x with _ | vx5_1
    · refine awp_sub (awp_loop' (fleetref2_FixesFault_x1_H ql) fleetref2_FixesFault_x1_k (fleetref2_FixesFault_x1_S ql) (by intro x; rcases x with x | x <;> exact fun h => nomatch h) h19 (fleetref2_FixesFault_x1_ok ql)) ?_
      refine awp_seq ?_
      refine awp_region ?_
      refine aR 1 ?_
      refine aE ?_
      refine awp_ret ?_
      exact oF hF [] []
    · refine awp_sub (awp_loop' (fleetref2_FixesFault_x1_H ql) fleetref2_FixesFault_x1_k (fleetref2_FixesFault_x1_S ql) (by intro x; rcases x with x | x <;> exact fun h => nomatch h) h19 (fleetref2_FixesFault_x1_ok ql)) ?_
      exact oF hF [] []

/-! ### beaconfleet/fleetref2.dot -/
def fleetref2_dot_2_R (qa : api_Spot) (r : Unit) : TV × Mem := (.v (.one (.d (.int .i64 (IntKind.wrap .i64 ((IntKind.wrap .i64 (qa.X * qa.X)) + (IntKind.wrap .i64 (qa.Y * qa.Y))))))), ⟨[], []⟩)

theorem fleetref2_dot_2_ok {qa : api_Spot} {r} (hF : fleetref2_dot_2 qa = some r) : Holds prog 94 [.v (.agg [.d (.int .i64 qa.X), .d (.int .i64 qa.Y)]), .v (.agg [.d (.int .i64 qa.X), .d (.int .i64 qa.Y)])] ⟨[], []⟩ (Is (fleetref2_dot_2_R qa r)) := by
  unfold fleetref2_dot_2 at hF
  refine holds_of_awp hΓ (fn := f94) (c := cB f94) (A := 0) (nx := 0) (by kernel_rfl) (by kernel_rfl) (by kernel_rfl) (by kernel_rfl) (by kernel_rfl) (by kernel_rfl) (lowc_of (by kernel_rfl)) ?_
  show Awp prog 0 16 (cB f94) _ _
  refine awp_seq ?_
  refine awp_region ?_
  refine aR 3 ?_
  refine aE ?_
  refine awp_seq ?_
  refine awp_region ?_
  refine aR 12 ?_
  refine aE ?_
  refine awp_ret ?_
  exact oF hF [] []

/-! ### beaconfleet/fleetref2.Lowest -/
def fleetref2_Lowest_x1_k : Int → AEx
  | _ => .exit 0

def fleetref2_Lowest_x1_S (qnum : Int) (qden : Int) : Int → St
  | va1 => Mem.st ⟨[], [(0, [.d (.int .i64 0), .d (.int .i64 0)])]⟩ (tl [(0, .v (.one (.d (.int .i64 qnum)))), (1, .v (.one (.d (.int .i64 qden)))), (4, .v (.one (.box 0 0))), (5, .v (.one (.d (.int .i64 va1))))]) 1

def fleetref2_Lowest_x1_H (qnum : Int) (qden : Int) : Int × Int → St
  | (va, vb) => Mem.st ⟨[], [(0, [.d (.int .i64 0), .d (.int .i64 0)])]⟩ (tl [(0, .v (.one (.d (.int .i64 qnum)))), (1, .v (.one (.d (.int .i64 qden)))), (4, .v (.one (.box 0 0))), (5, .v (.one (.d (.int .i64 va)))), (6, .v (.one (.d (.int .i64 vb))))]) 1

theorem fleetref2_Lowest_x1_ok (qnum : Int) (qden : Int) (s : Int × Int) (r : (Int × Int) ⊕ (Int)) (hF : fleetref2_Lowest_x1  s = some r) : Awp prog 0 26 (cL (cL (cL (cR (cR (cB f102)))))) (Out 0 (kk fleetref2_Lowest_x1_k) (SS (fleetref2_Lowest_x1_H qnum qden) (fleetref2_Lowest_x1_S qnum qden)) r) (fleetref2_Lowest_x1_H qnum qden s) := by
  obtain ⟨va, vb⟩ := s
  unfold fleetref2_Lowest_x1 at hF
  refine awp_seq ?_
  refine awp_seq ?_
  refine awp_region ?_
  refine aR 2 ?_
  refine aE ?_
  refine cE hF (fun h1 hF => ?_) fun h1 hF => ?_
  · refine awp_true (by kernel_rfl) h1 ?_
    refine awp_skip ?_
    refine awp_block ?_
    refine gE hF fun h2 hF => ?_
    refine aD ?_
    refine dR 3 ?_
    refine dX (x_rem h2) ?_
    refine dR 2 ?_
    refine dE ?_
    exact oO hF [] [] rfl
  · refine awp_false (by kernel_rfl) h1 ?_
    refine awp_exit ?_
    exact oO hF [] [] rfl

def fleetref2_Lowest_x2_k : Int → AEx
  | _ => .normal

def fleetref2_Lowest_x2_S (qnum : Int) (qden : Int) (va1_1 : Int) : Int → St
  | va2 => Mem.st ⟨[], [(0, [.d (.int .i64 0), .d (.int .i64 0)])]⟩ (tl [(0, .v (.one (.d (.int .i64 qnum)))), (1, .v (.one (.d (.int .i64 qden)))), (4, .v (.one (.box 0 0))), (5, .v (.one (.d (.int .i64 va2))))]) 1

def fleetref2_Lowest_x2_I (qnum : Int) (qden : Int) (va1_1 : Int) : St := Mem.st ⟨[], [(0, [.d (.int .i64 0), .d (.int .i64 0)])]⟩ (tl [(0, .v (.one (.d (.int .i64 qnum)))), (1, .v (.one (.d (.int .i64 qden)))), (4, .v (.one (.box 0 0))), (5, .v (.one (.d (.int .i64 va1_1))))]) 1

theorem fleetref2_Lowest_x2_ok (qnum : Int) (qden : Int) (va1_1 : Int) {r} (hF : fleetref2_Lowest_x2 va1_1 = some r) : Awp prog 0 26 (cL (cR (cR (cR (cB f102))))) (Out 0 fleetref2_Lowest_x2_k (fleetref2_Lowest_x2_S qnum qden va1_1) r) (fleetref2_Lowest_x2_I qnum qden va1_1) := by
  unfold fleetref2_Lowest_x2 at hF
  refine awp_seq ?_
  refine awp_region ?_
  refine aR 2 ?_
  refine aE ?_
  refine cE hF (fun h4 hF => ?_) fun h4 hF => ?_
  · refine awp_true (by kernel_rfl) h4 ?_
    refine awp_region ?_
    refine aR 3 ?_
    refine aE ?_
    exact oO hF [] [] rfl
  · refine awp_false (by kernel_rfl) h4 ?_
    refine awp_skip ?_
    exact oO hF [] [] rfl

def fleetref2_Lowest_R (qnum : Int) (qden : Int) (r : api_Fraction) : TV × Mem := (.v (.agg [.d (.int .i64 r.Num), .d (.int .i64 r.Den)]), ⟨[], []⟩)

theorem fleetref2_Lowest_ok {qnum : Int} {qden : Int} {r} (hF : fleetref2_Lowest qnum qden = some r) : Holds prog 102 [.v (.one (.d (.int .i64 qnum))), .v (.one (.d (.int .i64 qden)))] ⟨[], []⟩ (Is (fleetref2_Lowest_R qnum qden r)) := by
  unfold fleetref2_Lowest at hF
  refine holds_of_awp hΓ (fn := f102) (c := cB f102) (A := 0) (nx := 0) (by kernel_rfl) (by kernel_rfl) (by kernel_rfl) (by kernel_rfl) (by kernel_rfl) (by kernel_rfl) (lowc_of (by kernel_rfl)) ?_
  show Awp prog 0 26 (cB f102) _ _
  refine awp_seq ?_
  refine awp_region ?_
  refine aR 1 ?_
  refine aE ?_
  refine awp_seq ?_
  refine awp_region ?_
  refine aR 4 ?_
  refine aE ?_
  refine awp_seq ?_
  refine awp_block ?_
  refine awp_to (st' := fleetref2_Lowest_x1_H qnum qden (qnum, qden)) (oT [] []) ?_
  refine bE hF fun va1_1 h3 hF => ?_
  refine awp_sub (awp_loop' (fleetref2_Lowest_x1_H qnum qden) fleetref2_Lowest_x1_k (fleetref2_Lowest_x1_S qnum qden) (by intro x; exact fun h => nomatch h) h3 (fleetref2_Lowest_x1_ok qnum qden)) ?_
  refine awp_seq ?_
  refine awp_to (st' := fleetref2_Lowest_x2_I qnum qden va1_1) (oT [] []) ?_
  refine bE hF fun va2_1 h5 hF => ?_
  refine awp_sub (fleetref2_Lowest_x2_ok qnum qden va1_1 h5) ?_
  refine awp_seq ?_
  refine gE hF fun h6 hF => ?_
  refine aD ?_
  refine dR 2 ?_
  refine dX (x_quo h6) ?_
  refine dR 2 ?_
  refine dX (x_quo h6) ?_
  refine dR 2 ?_
  refine dE ?_
  refine awp_ret ?_
  exact oF hF [] []

/-! ### beaconfleet/fleetref2.farWay -/
def fleetref2_farWay_R (qa : api_Spot) (qb : api_Spot) (qs : api_Spot) (r : api_Fraction) : TV × Mem := (.v (.agg [.d (.int .i64 r.Num), .d (.int .i64 r.Den)]), ⟨[], []⟩)

theorem fleetref2_farWay_ok {qa : api_Spot} {qb : api_Spot} {qs : api_Spot} {r} (hF : fleetref2_farWay qa qb qs = some r) : Holds prog 71 [.v (.agg [.d (.int .i64 qa.X), .d (.int .i64 qa.Y)]), .v (.agg [.d (.int .i64 qb.X), .d (.int .i64 qb.Y)]), .v (.agg [.d (.int .i64 qs.X), .d (.int .i64 qs.Y)])] ⟨[], []⟩ (Is (fleetref2_farWay_R qa qb qs r)) := by
  unfold fleetref2_farWay at hF
  refine holds_of_awp hΓ (fn := f71) (c := cB f71) (A := 0) (nx := 0) (by kernel_rfl) (by kernel_rfl) (by kernel_rfl) (by kernel_rfl) (by kernel_rfl) (by kernel_rfl) (lowc_of (by kernel_rfl)) ?_
  show Awp prog 0 54 (cB f71) _ _
  refine awp_seq ?_
  refine awp_region ?_
  refine aR 4 ?_
  refine aE ?_
  refine awp_seq ?_
  refine bE hF fun _ h1 hF => ?_
  refine awp_region ?_
  refine aR 2 ?_
  refine aC (fleetref2_minus_ok h1) [] [] [] ?_
  refine aR 2 ?_
  refine aE ?_
  refine awp_seq ?_
  refine awp_block ?_
  refine awp_seq ?_
  refine bE hF fun _ h2 hF => ?_
  refine bE hF fun _ h3 hF => ?_
  refine aD ?_
  refine dR 2 ?_
  refine dC (fleetref2_minus_ok h2) [] [] [] ?_
  refine dR 1 ?_
  refine dC (fleetref2_dot_ok h3) [] [] [] ?_
  refine dR 2 ?_
  refine dE ?_
  refine cE hF (fun h4 hF => ?_) fun h4 hF => ?_
  · refine awp_true (by kernel_rfl) h4 ?_
    refine awp_seq ?_
    refine bE hF fun _ h5 hF => ?_
    refine aD ?_
    refine dR 2 ?_
    refine dC (fleetref2_minus_ok h2) [] [] [] ?_
    refine dR 2 ?_
    refine dC (fleetref2_minus_ok h2) [] [] [] ?_
    refine dC (fleetref2_dot_2_ok h5) [] [] [] ?_
    refine dR 2 ?_
    refine dE ?_
    refine awp_ret ?_
    exact oF hF [] []
  · refine awp_false (by kernel_rfl) h4 ?_
    refine awp_seq ?_
    refine bE hF fun _ h6 hF => ?_
    refine bE hF fun _ h7 hF => ?_
    refine aD ?_
    refine dR 2 ?_
    refine dC (fleetref2_minus_ok h6) [] [] [] ?_
    refine dR 1 ?_
    refine dC (fleetref2_dot_ok h7) [] [] [] ?_
    refine dR 2 ?_
    refine dE ?_
    refine cE hF (fun h8 hF => ?_) fun h8 hF => ?_
    · refine awp_true (by kernel_rfl) h8 ?_
      refine awp_seq ?_
      refine bE hF fun _ h9 hF => ?_
      refine aD ?_
      refine dR 2 ?_
      refine dC (fleetref2_minus_ok h6) [] [] [] ?_
      refine dR 2 ?_
      refine dC (fleetref2_minus_ok h6) [] [] [] ?_
      refine dC (fleetref2_dot_2_ok h9) [] [] [] ?_
      refine dR 2 ?_
      refine dE ?_
      refine awp_ret ?_
      exact oF hF [] []
    · refine awp_false (by kernel_rfl) h8 ?_
      refine awp_skip ?_
      refine awp_seq ?_
      refine bE hF fun _ h10 hF => ?_
      refine aD ?_
      refine dR 3 ?_
      refine dC (fleetref2_minus_ok h2) [] [] [] ?_
      refine dC (fleetref2_cross_ok h10) [] [] [] ?_
      refine dR 1 ?_
      refine dE ?_
      refine awp_seq ?_
      refine bE hF fun _ h11 hF => ?_
      refine bE hF fun vr h12 hF => ?_
      refine awp_region ?_
      refine aR 5 ?_
      refine aC (fleetref2_dot_2_ok h11) [] [] [] ?_
      refine aC (fleetref2_Lowest_ok h12) [] [] [] ?_
      refine aR 1 ?_
      refine aE ?_
      refine awp_ret ?_
      exact oF hF [] []

/-! ### beaconfleet/fleetref2.floor -/
def fleetref2_floor_R (qa : Int) (qb : Int) (r : Int) : TV × Mem := (.v (.one (.d (.int .i64 r))), ⟨[], []⟩)

theorem fleetref2_floor_ok {qa : Int} {qb : Int} {r} (hF : fleetref2_floor qa qb = some r) : Holds prog 103 [.v (.one (.d (.int .i64 qa))), .v (.one (.d (.int .i64 qb)))] ⟨[], []⟩ (Is (fleetref2_floor_R qa qb r)) := by
  unfold fleetref2_floor at hF
  refine holds_of_awp hΓ (fn := f103) (c := cB f103) (A := 0) (nx := 0) (by kernel_rfl) (by kernel_rfl) (by kernel_rfl) (by kernel_rfl) (by kernel_rfl) (by kernel_rfl) (lowc_of (by kernel_rfl)) ?_
  show Awp prog 0 16 (cB f103) _ _
  refine awp_seq ?_
  refine awp_region ?_
  refine aR 1 ?_
  refine aE ?_
  refine awp_seq ?_
  refine awp_seq ?_
  refine gE hF fun h1 hF => ?_
  refine awp_region ?_
  refine aR 2 ?_
  refine aX (x_rem h1) ?_
  refine aR 1 ?_
  refine aE ?_
  refine cE hF (fun h2 hF => ?_) fun h2 hF => ?_
  · refine awp_true (by kernel_rfl) h2 ?_
    refine awp_seq ?_
    refine awp_region ?_
    refine aR 2 ?_
    refine aX (x_quo h1) ?_
    refine aR 2 ?_
    refine aE ?_
    refine awp_ret ?_
    exact oF hF [] []
  · refine awp_false (by kernel_rfl) h2 ?_
    refine awp_skip ?_
    refine awp_seq ?_
    refine awp_region ?_
    refine aR 2 ?_
    refine aX (x_quo h1) ?_
    refine aR 1 ?_
    refine aE ?_
    refine awp_ret ?_
    exact oF hF [] []

/-! ### beaconfleet/fleetref2.less -/
def fleetref2_less_x2_k : Bool → AEx
  | _ => .normal

def fleetref2_less_x2_S (va : api_Fraction) (vb : api_Fraction) (vr2 : Int) (vr3 : Int) : Bool → St
  | vx3 => Mem.st ⟨[], [(0, [.d (.int .i64 va.Num), .d (.int .i64 va.Den)]), (1, [.d (.int .i64 vb.Num), .d (.int .i64 vb.Den)])]⟩ (tl [(2, .v (.one (.box 0 0))), (3, .v (.one (.box 1 0))), (7, .v (.one (.d (.int .i64 (IntKind.wrap .i64 (va.Num - (IntKind.wrap .i64 (vr2 * va.Den)))))))), (8, .v (.one (.d (.int .i64 (IntKind.wrap .i64 (vb.Num - (IntKind.wrap .i64 (vr3 * vb.Den)))))))), (44, .v (.one (.d (.bool vx3))))]) 2

def fleetref2_less_x2_I (va : api_Fraction) (vb : api_Fraction) (vr2 : Int) (vr3 : Int) : St := Mem.st ⟨[], [(0, [.d (.int .i64 va.Num), .d (.int .i64 va.Den)]), (1, [.d (.int .i64 vb.Num), .d (.int .i64 vb.Den)])]⟩ (tl [(2, .v (.one (.box 0 0))), (3, .v (.one (.box 1 0))), (7, .v (.one (.d (.int .i64 (IntKind.wrap .i64 (va.Num - (IntKind.wrap .i64 (vr2 * va.Den)))))))), (8, .v (.one (.d (.int .i64 (IntKind.wrap .i64 (vb.Num - (IntKind.wrap .i64 (vr3 * vb.Den))))))))]) 2

theorem fleetref2_less_x2_ok (va : api_Fraction) (vb : api_Fraction) (vr2 : Int) (vr3 : Int) {r} (hF : fleetref2_less_x2 va vb vr2 vr3 = some r) : Awp prog 0 59 (cL (cL (cR (cR (cR (cL (cL (cL (cR (cB f72)))))))))) (Out 0 fleetref2_less_x2_k (fleetref2_less_x2_S va vb vr2 vr3) r) (fleetref2_less_x2_I va vb vr2 vr3) := by
  unfold fleetref2_less_x2 at hF
  refine cE hF (fun h4 hF => ?_) fun h4 hF => ?_
  · refine awp_region ?_
    refine aR 1 ?_
    refine aB h4 ?_
    refine aR 4 ?_
    refine aE ?_
    exact oO hF [] [] rfl
  · refine awp_region ?_
    refine aR 1 ?_
    refine aB h4 ?_
    refine aR 4 ?_
    refine aE ?_
    exact oO hF [] [] rfl

def fleetref2_less_x3_k : Bool → AEx
  | _ => .normal

def fleetref2_less_x3_S (va : api_Fraction) (vb : api_Fraction) (vr2 : Int) (vr3 : Int) : Bool → St
  | vx4 => Mem.st ⟨[], []⟩ (tl [(4, .v (.one (.d (.bool vx4))))]) 0

def fleetref2_less_x3_I (va : api_Fraction) (vb : api_Fraction) (vr2 : Int) (vr3 : Int) : St := Mem.st ⟨[], []⟩ (tl [(7, .v (.one (.d (.int .i64 (IntKind.wrap .i64 (va.Num - (IntKind.wrap .i64 (vr2 * va.Den)))))))), (8, .v (.one (.d (.int .i64 (IntKind.wrap .i64 (vb.Num - (IntKind.wrap .i64 (vr3 * vb.Den))))))))]) 0

theorem fleetref2_less_x3_ok (va : api_Fraction) (vb : api_Fraction) (vr2 : Int) (vr3 : Int) {r} (hF : fleetref2_less_x3 va vb vr2 vr3 = some r) : Awp prog 0 59 (cL (cL (cR (cL (cR (cR (cR (cL (cL (cL (cR (cB f72)))))))))))) (Out 0 fleetref2_less_x3_k (fleetref2_less_x3_S va vb vr2 vr3) r) (fleetref2_less_x3_I va vb vr2 vr3) := by
  unfold fleetref2_less_x3 at hF
  refine cE hF (fun h7 hF => ?_) fun h7 hF => ?_
  · refine awp_region ?_
    refine aR 1 ?_
    refine aB h7 ?_
    refine aR 5 ?_
    refine aE ?_
    exact oO hF [] [] rfl
  · refine awp_region ?_
    refine aR 1 ?_
    refine aB h7 ?_
    refine aR 5 ?_
    refine aE ?_
    exact oO hF [] [] rfl

def fleetref2_less_x1_k : Bool → AEx
  | _ => .ret

def fleetref2_less_x1_S : Bool → St
  | vx5 => Mem.st ⟨[], []⟩ (tl [(4, .v (.one (.d (.bool vx5))))]) 0

def fleetref2_less_x1_H : api_Fraction × api_Fraction → St
  | (va, vb) => Mem.st ⟨[], [(0, [.d (.int .i64 va.Num), .d (.int .i64 va.Den)]), (1, [.d (.int .i64 vb.Num), .d (.int .i64 vb.Den)])]⟩ (tl [(2, .v (.one (.box 0 0))), (3, .v (.one (.box 1 0)))]) 2

theorem fleetref2_less_x1_ok (s : api_Fraction × api_Fraction) (r : (api_Fraction × api_Fraction) ⊕ (Bool)) (hF : fleetref2_less_x1  s = some r) : Awp prog 0 59 (cL (cL (cR (cB f72)))) (Out 0 (kk fleetref2_less_x1_k) (SS (fleetref2_less_x1_H ) (fleetref2_less_x1_S )) r) (fleetref2_less_x1_H  s) := by
  obtain ⟨va, vb⟩ := s
  unfold fleetref2_less_x1 at hF
  refine awp_block ?_
  refine awp_seq ?_
  refine bE hF fun vr2 h1 hF => ?_
  refine bE hF fun vr3 h2 hF => ?_
  refine aD ?_
  refine dR 4 ?_
  refine dC (fleetref2_floor_ok h1) [] [] [] ?_
  refine dR 4 ?_
  refine dC (fleetref2_floor_ok h2) [] [] [] ?_
  refine dR 2 ?_
  refine dE ?_
  refine awp_seq ?_
  refine awp_seq ?_
  refine awp_region ?_
  refine aR 3 ?_
  refine aE ?_
  refine cE hF (fun h3 hF => ?_) fun h3 hF => ?_
  · refine awp_true (by kernel_rfl) h3 ?_
    refine awp_seq ?_
    refine awp_region ?_
    refine aR 4 ?_
    refine aE ?_
    refine awp_ret ?_
    exact oO hF [] [] rfl
  · refine awp_false (by kernel_rfl) h3 ?_
    refine awp_skip ?_
    refine awp_seq ?_
    refine aD ?_
    refine dR 16 ?_
    refine dE ?_
    refine awp_seq ?_
    refine awp_seq ?_
    refine awp_to (st' := fleetref2_less_x2_I va vb vr2 vr3) (oT [] []) ?_
    refine bE hF fun vx3_1 h5 hF => ?_
    refine awp_sub (fleetref2_less_x2_ok va vb vr2 vr3 h5) ?_
    refine cE hF (fun h6 hF => ?_) fun h6 hF => ?_
    · refine awp_true (by kernel_rfl) h6 ?_
      refine awp_seq ?_
      refine awp_to (st' := fleetref2_less_x3_I va vb vr2 vr3) (oT [] []) ?_
      refine bE hF fun vx4_1 h8 hF => ?_
      refine awp_sub (fleetref2_less_x3_ok va vb vr2 vr3 h8) ?_
      refine awp_ret ?_
      exact oO hF [] [] rfl
    · refine awp_false (by kernel_rfl) h6 ?_
      refine awp_skip ?_
      refine awp_region ?_
      refine aR 10 ?_
      refine aE ?_
      exact oO hF [] [] rfl

def fleetref2_less_R (qa : api_Fraction) (qb : api_Fraction) (r : Bool) : TV × Mem := (.v (.one (.d (.bool r))), ⟨[], []⟩)

theorem fleetref2_less_ok {qa : api_Fraction} {qb : api_Fraction} {r} (hF : fleetref2_less qa qb = some r) : Holds prog 72 [.v (.agg [.d (.int .i64 qa.Num), .d (.int .i64 qa.Den)]), .v (.agg [.d (.int .i64 qb.Num), .d (.int .i64 qb.Den)])] ⟨[], []⟩ (Is (fleetref2_less_R qa qb r)) := by
  unfold fleetref2_less at hF
  refine holds_of_awp hΓ (fn := f72) (c := cB f72) (A := 0) (nx := 0) (by kernel_rfl) (by kernel_rfl) (by kernel_rfl) (by kernel_rfl) (by kernel_rfl) (by kernel_rfl) (lowc_of (by kernel_rfl)) ?_
  show Awp prog 0 59 (cB f72) _ _
  refine awp_seq ?_
  refine awp_region ?_
  refine aR 3 ?_
  refine aE ?_
  refine awp_block ?_
  refine awp_to (st' := fleetref2_less_x1_H  (qa, qb)) (oT [(1, 1000)] []) ?_
  refine bE hF fun vx5_1 h9 hF => ?_
  refine awp_sub (awp_loop' (fleetref2_less_x1_H ) fleetref2_less_x1_k (fleetref2_less_x1_S ) (by intro x; exact fun h => nomatch h) h9 (fleetref2_less_x1_ok )) ?_
  exact oF hF [] []

/-! ### beaconfleet/fleetref2.FarOf -/
def fleetref2_FarOf_x2_k : (api_Spot × api_Spot × api_Fraction) → AEx
  | _ => .normal

def fleetref2_FarOf_x2_S (ql : List api_Spot) (qs : api_Spot) (va : api_Spot) (vb : api_Spot) (vout : api_Fraction) (vx : Int) : (api_Spot × api_Spot × api_Fraction) → St
  | (va2, vb2, vout2) => Mem.st ⟨[], [(0, [.d (.int .i64 qs.X), .d (.int .i64 qs.Y)]), (1, [.d (.int .i64 0), .d (.int .i64 0)]), (2, [.d (.int .i64 va2.X), .d (.int .i64 va2.Y)]), (3, [.d (.int .i64 vb2.X), .d (.int .i64 vb2.Y)]), (4, [.d (.int .i64 vout2.Num), .d (.int .i64 vout2.Den)])]⟩ (tl [(0, .v (.one (.d (.lst (List.map api_Spot.enc ql))))), (3, .v (.one (.box 0 0))), (4, .v (.one (.box 1 0))), (5, .v (.one (.box 2 0))), (6, .v (.one (.box 3 0))), (7, .v (.one (.box 4 0))), (20, .v (.one (.d (.int .i64 (ql.length : Int))))), (21, .v (.one (.d (.int .i64 vx))))]) 5

def fleetref2_FarOf_x2_I (ql : List api_Spot) (qs : api_Spot) (va : api_Spot) (vb : api_Spot) (vout : api_Fraction) (vx : Int) : St := Mem.st ⟨[], [(0, [.d (.int .i64 qs.X), .d (.int .i64 qs.Y)]), (1, [.d (.int .i64 0), .d (.int .i64 0)]), (2, [.d (.int .i64 va.X), .d (.int .i64 va.Y)]), (3, [.d (.int .i64 vb.X), .d (.int .i64 vb.Y)]), (4, [.d (.int .i64 vout.Num), .d (.int .i64 vout.Den)])]⟩ (tl [(0, .v (.one (.d (.lst (List.map api_Spot.enc ql))))), (3, .v (.one (.box 0 0))), (4, .v (.one (.box 1 0))), (5, .v (.one (.box 2 0))), (6, .v (.one (.box 3 0))), (7, .v (.one (.box 4 0))), (20, .v (.one (.d (.int .i64 (ql.length : Int))))), (21, .v (.one (.d (.int .i64 vx))))]) 5

theorem fleetref2_FarOf_x2_ok (ql : List api_Spot) (qs : api_Spot) (va : api_Spot) (vb : api_Spot) (vout : api_Fraction) (vx : Int) {r} (hF : fleetref2_FarOf_x2 ql qs vout vx = some r) : Awp prog 0 40 (cL (cR (cR (cL (cL (cR (cL (cR (cR (cR (cB f25))))))))))) (Out 0 fleetref2_FarOf_x2_k (fleetref2_FarOf_x2_S ql qs va vb vout vx) r) (fleetref2_FarOf_x2_I ql qs va vb vout vx) := by
  unfold fleetref2_FarOf_x2 at hF
  refine awp_block ?_
  refine awp_seq ?_
  refine awp_region ?_
  refine aR 2 ?_
  refine aE ?_
  refine awp_seq ?_
  refine bE hF fun x h4 hF => ?_
  obtain ⟨vr3, vr1_4⟩ := x
  refine awp_region ?_
  refine aR 2 ?_
  refine aC (fleetref2_edge_ok h4) [] [] [] ?_
  refine aR 5 ?_
  refine aE ?_
  refine awp_seq ?_
  refine bE hF fun vr1_5 h5 hF => ?_
  refine awp_region ?_
  refine aR 3 ?_
  refine aC (fleetref2_farWay_ok h5) [] [] [] ?_
  refine aR 2 ?_
  refine aE ?_
  refine awp_seq ?_
  refine bE hF fun vr4_1 h6 hF => ?_
  refine awp_region ?_
  refine aR 2 ?_
  refine aC (fleetref2_less_ok h6) [] [] [] ?_
  refine aE ?_
  refine cE hF (fun h7 hF => ?_) fun h7 hF => ?_
  · refine awp_true (by kernel_rfl) h7 ?_
    refine awp_region ?_
    refine aR 2 ?_
    refine aE ?_
    exact oO hF [] [] rfl
  · refine awp_false (by kernel_rfl) h7 ?_
    refine awp_skip ?_
    exact oO hF [] [] rfl

def fleetref2_FarOf_x1_k : api_Fraction → AEx
  | _ => .exit 0

def fleetref2_FarOf_x1_S (ql : List api_Spot) (qs : api_Spot) : api_Fraction → St
  | vout3 => Mem.st ⟨[], [(0, [.d (.int .i64 0), .d (.int .i64 0)]), (1, [.d (.int .i64 vout3.Num), .d (.int .i64 vout3.Den)])]⟩ (tl [(4, .v (.one (.box 0 0))), (7, .v (.one (.box 1 0)))]) 2

def fleetref2_FarOf_x1_H (ql : List api_Spot) (qs : api_Spot) : api_Spot × api_Spot × api_Fraction × Int → St
  | (va, vb, vout, vx) => Mem.st ⟨[], [(0, [.d (.int .i64 qs.X), .d (.int .i64 qs.Y)]), (1, [.d (.int .i64 0), .d (.int .i64 0)]), (2, [.d (.int .i64 va.X), .d (.int .i64 va.Y)]), (3, [.d (.int .i64 vb.X), .d (.int .i64 vb.Y)]), (4, [.d (.int .i64 vout.Num), .d (.int .i64 vout.Den)])]⟩ (tl [(0, .v (.one (.d (.lst (List.map api_Spot.enc ql))))), (3, .v (.one (.box 0 0))), (4, .v (.one (.box 1 0))), (5, .v (.one (.box 2 0))), (6, .v (.one (.box 3 0))), (7, .v (.one (.box 4 0))), (20, .v (.one (.d (.int .i64 (ql.length : Int))))), (21, .v (.one (.d (.int .i64 vx))))]) 5

theorem fleetref2_FarOf_x1_ok (ql : List api_Spot) (qs : api_Spot) (s : api_Spot × api_Spot × api_Fraction × Int) (r : (api_Spot × api_Spot × api_Fraction × Int) ⊕ (api_Fraction)) (hF : fleetref2_FarOf_x1 ql qs s = some r) : Awp prog 0 40 (cL (cL (cR (cL (cR (cR (cR (cB f25)))))))) (Out 0 (kk fleetref2_FarOf_x1_k) (SS (fleetref2_FarOf_x1_H ql qs) (fleetref2_FarOf_x1_S ql qs)) r) (fleetref2_FarOf_x1_H ql qs s) := by
  obtain ⟨va, vb, vout, vx⟩ := s
  unfold fleetref2_FarOf_x1 at hF
  refine awp_seq ?_
  refine awp_region ?_
  refine aR 1 ?_
  refine aE ?_
  refine awp_seq ?_
  refine cE hF (fun h3 hF => ?_) fun h3 hF => ?_
  · refine awp_true (by kernel_rfl) h3 ?_
    refine awp_skip ?_
    refine awp_seq ?_
    refine awp_to (st' := fleetref2_FarOf_x2_I ql qs va vb vout vx) (oT [] []) ?_
    refine bE hF fun x h8 hF => ?_
    obtain ⟨va2_1, vb2_1, vout2_1⟩ := x
    refine awp_sub (fleetref2_FarOf_x2_ok ql qs va vb vout vx h8) ?_
    refine awp_region ?_
    refine aR 2 ?_
    refine aE ?_
    exact oO hF [] [] rfl
  · refine awp_false (by kernel_rfl) h3 ?_
    refine awp_exit ?_
    exact oO hF [(0, 1), (1, 4)] [] rfl

def fleetref2_FarOf_R (ql : List api_Spot) (qs : api_Spot) (r : api_Fraction) : TV × Mem := (.v (.agg [.d (.int .i64 r.Num), .d (.int .i64 r.Den)]), ⟨[], []⟩)

theorem fleetref2_FarOf_ok {ql : List api_Spot} {qs : api_Spot} {r} (hF : fleetref2_FarOf ql qs = some r) : Holds prog 25 [.v (.one (.d (.lst (List.map api_Spot.enc ql)))), .v (.agg [.d (.int .i64 qs.X), .d (.int .i64 qs.Y)])] ⟨[], []⟩ (Is (fleetref2_FarOf_R ql qs r)) := by
  unfold fleetref2_FarOf at hF
  refine holds_of_awp hΓ (fn := f25) (c := cB f25) (A := 0) (nx := 0) (by kernel_rfl) (by kernel_rfl) (by kernel_rfl) (by kernel_rfl) (by kernel_rfl) (by kernel_rfl) (lowc_of (by kernel_rfl)) ?_
  show Awp prog 0 40 (cB f25) _ _
  refine awp_seq ?_
  refine awp_region ?_
  refine aR 2 ?_
  refine aE ?_
  refine awp_seq ?_
  refine bE hF fun x h1 hF => ?_
  obtain ⟨vr, vr1⟩ := x
  refine awp_region ?_
  refine aR 1 ?_
  refine aC (fleetref2_edge_ok h1) [] [] [] ?_
  refine aR 7 ?_
  refine aE ?_
  refine awp_seq ?_
  refine bE hF fun vr1_1 h2 hF => ?_
  refine awp_region ?_
  refine aR 3 ?_
  refine aC (fleetref2_farWay_ok h2) [] [] [] ?_
  refine aR 2 ?_
  refine aE ?_
  refine awp_seq ?_
  refine awp_seq ?_
  refine awp_region ?_
  refine aR 1 ?_
  refine aL api_Spot.enc ql ?_
  refine aR 1 ?_
  refine aE ?_
  refine awp_block ?_
  refine awp_to (st' := fleetref2_FarOf_x1_H ql qs (vr, vr1, vr1_1, 0)) (oT [(1, 1000), (2, 7000), (3, 8000), (4, 15000)] []) ?_
  refine bE hF fun vout3_1 h9 hF => ?_
  refine awp_sub (awp_loop' (fleetref2_FarOf_x1_H ql qs) fleetref2_FarOf_x1_k (fleetref2_FarOf_x1_S ql qs) (by intro x; exact fun h => nomatch h) h9 (fleetref2_FarOf_x1_ok ql qs)) ?_
  refine awp_seq ?_
  refine awp_region ?_
  refine aR 2 ?_
  refine aE ?_
  refine awp_ret ?_
  exact oF hF [] []

/-! ### beaconfleet/fleetref2.SurelyOf -/
def fleetref2_SurelyOf_x1_k : Bool → AEx
  | _ => .normal

def fleetref2_SurelyOf_x1_S (qf : api_Fence) (qx : api_Fix) (vr5 : Int) : Bool → St
  | vx => Mem.st ⟨[], []⟩ (tl [(5, .v (.one (.d (.int .i64 vr5)))), (27, .v (.one (.d (.bool vx))))]) 0

def fleetref2_SurelyOf_x1_I (qf : api_Fence) (qx : api_Fix) (vr5 : Int) : St := Mem.st ⟨[], [(0, [.d (.str qf.Key), .d (.lst (List.map api_Spot.enc qf.Corners))]), (1, [.d (.str qx.Device), .d (.int .i64 qx.At), .d (.int .i64 qx.X), .d (.int .i64 qx.Y), .d (.int .i64 qx.Error)])]⟩ (tl [(2, .v (.one (.box 0 0))), (3, .v (.one (.box 1 0))), (5, .v (.one (.d (.int .i64 vr5))))]) 2

theorem fleetref2_SurelyOf_x1_ok (qf : api_Fence) (qx : api_Fix) (vr5 : Int) {r} (hF : fleetref2_SurelyOf_x1 qf qx vr5 = some r) : Awp prog 0 29 (cL (cL (cR (cR (cB f26))))) (Out 0 fleetref2_SurelyOf_x1_k (fleetref2_SurelyOf_x1_S qf qx vr5) r) (fleetref2_SurelyOf_x1_I qf qx vr5) := by
  unfold fleetref2_SurelyOf_x1 at hF
  refine cE hF (fun h3 hF => ?_) fun h3 hF => ?_
  · refine aD ?_
    refine dR 1 ?_
    refine dB h3 ?_
    refine dR 15 ?_
    refine dE ?_
    exact oO hF [] [] rfl
  · refine bE hF fun _ h4 hF => ?_
    refine bE hF fun vr5_1 h5 hF => ?_
    refine bE hF fun vr4 h6 hF => ?_
    refine aD ?_
    refine dR 1 ?_
    refine dB h3 ?_
    refine dR 10 ?_
    refine dC (fleetref2_spotOf_ok h4) [] [] [] ?_
    refine dC (fleetref2_FarOf_ok h5) [] [] [] ?_
    refine dC (fleetref2_less_ok h6) [] [] [] ?_
    refine dR 2 ?_
    refine dE ?_
    exact oO hF [] [] rfl

def fleetref2_SurelyOf_R (qf : api_Fence) (qx : api_Fix) (r : Int) : TV × Mem := (.v (.one (.d (.int .i64 r))), ⟨[], []⟩)

theorem fleetref2_SurelyOf_ok {qf : api_Fence} {qx : api_Fix} {r} (hF : fleetref2_SurelyOf qf qx = some r) : Holds prog 26 [.v (.agg [.d (.str qf.Key), .d (.lst (List.map api_Spot.enc qf.Corners))]), .v (.agg [.d (.str qx.Device), .d (.int .i64 qx.At), .d (.int .i64 qx.X), .d (.int .i64 qx.Y), .d (.int .i64 qx.Error)])] ⟨[], []⟩ (Is (fleetref2_SurelyOf_R qf qx r)) := by
  unfold fleetref2_SurelyOf at hF
  refine holds_of_awp hΓ (fn := f26) (c := cB f26) (A := 0) (nx := 0) (by kernel_rfl) (by kernel_rfl) (by kernel_rfl) (by kernel_rfl) (by kernel_rfl) (by kernel_rfl) (lowc_of (by kernel_rfl)) ?_
  show Awp prog 0 29 (cB f26) _ _
  refine awp_seq ?_
  refine awp_region ?_
  refine aR 3 ?_
  refine aE ?_
  refine awp_seq ?_
  refine bE hF fun _ h1 hF => ?_
  refine bE hF fun vr5 h2 hF => ?_
  refine aD ?_
  refine dR 3 ?_
  refine dC (fleetref2_spotOf_ok h1) [] [] [] ?_
  refine dC (fleetref2_WhereOf_ok h2) [] [] [] ?_
  refine dR 1 ?_
  refine dE ?_
  refine awp_seq ?_
  refine awp_seq ?_
  refine awp_to (st' := fleetref2_SurelyOf_x1_I qf qx vr5) (oT [(1, 1000)] []) ?_
  refine bE hF fun vx1 h7 hF => ?_
  refine awp_sub (fleetref2_SurelyOf_x1_ok qf qx vr5 h7) ?_
  refine cE hF (fun h8 hF => ?_) fun h8 hF => ?_
  · refine awp_true (by kernel_rfl) h8 ?_
    refine awp_seq ?_
    refine awp_region ?_
    refine aR 1 ?_
    refine aE ?_
    refine awp_ret ?_
    exact oF hF [] []
  · refine awp_false (by kernel_rfl) h8 ?_
    refine awp_skip ?_
    refine awp_seq ?_
    refine awp_region ?_
    refine aR 2 ?_
    refine aE ?_
    refine awp_ret ?_
    exact oF hF [] []

/-! ### (*beaconfleet/fleetmake.Stream).RightTrack -/
def fleetmake_Stream_RightTrack_x2_k : (fleetmake_Stream × api_Spot) → AEx
  | _ => .normal

def fleetmake_Stream_RightTrack_x2_S (vr : Int) (vs1 : fleetmake_Stream) (vout : List api_Fix) (vat : Int) (vp : api_Spot) (vx : Int) (vr9 : Int) : (fleetmake_Stream × api_Spot) → St
  | (vs8, vp2) => Mem.st ⟨[(1, ⟨52, 5, List.map api_Fix.enc vout⟩)], [(0, [.d (.lst (List.map (encI .i64) vs8.L)), .d (.int .i64 vs8.at_)]), (2, [.d (.int .i64 vp2.X), .d (.int .i64 vp2.Y)])]⟩ (tl [(0, .v (.one (.box 0 0))), (5, .v (.one (.own 1 none))), (6, .v (.one (.d (.int .i64 (IntKind.wrap .i64 (vat + vr9)))))), (7, .v (.one (.box 2 0))), (13, .v (.one (.d (.int .i64 vr)))), (14, .v (.one (.d (.int .i64 vx))))]) 3

def fleetmake_Stream_RightTrack_x2_I (vr : Int) (vs1 : fleetmake_Stream) (vout : List api_Fix) (vat : Int) (vp : api_Spot) (vx : Int) (vr9 : Int) : St := Mem.st ⟨[(1, ⟨52, 5, List.map api_Fix.enc vout⟩)], [(0, [.d (.lst (List.map (encI .i64) vs1.L)), .d (.int .i64 (IntKind.wrap .i64 (vs1.at_ + 1)))]), (2, [.d (.int .i64 vp.X), .d (.int .i64 vp.Y)])]⟩ (tl [(0, .v (.one (.box 0 0))), (5, .v (.one (.own 1 none))), (6, .v (.one (.d (.int .i64 (IntKind.wrap .i64 (vat + vr9)))))), (7, .v (.one (.box 2 0))), (13, .v (.one (.d (.int .i64 vr)))), (14, .v (.one (.d (.int .i64 vx))))]) 3

theorem fleetmake_Stream_RightTrack_x2_ok (vr : Int) (vs1 : fleetmake_Stream) (vout : List api_Fix) (vat : Int) (vp : api_Spot) (vx : Int) (vr9 : Int) {r} (hF : fleetmake_Stream_RightTrack_x2 vs1 vp = some r) : Awp prog 1 57 (cL (cR (cL (cL (cR (cR (cL (cL (cR (cL (cR (cR (cR (cR (cB f73))))))))))))))) (Out 1 fleetmake_Stream_RightTrack_x2_k (fleetmake_Stream_RightTrack_x2_S vr vs1 vout vat vp vx vr9) r) (fleetmake_Stream_RightTrack_x2_I vr vs1 vout vat vp vx vr9) := by
  unfold fleetmake_Stream_RightTrack_x2 at hF
  refine awp_seq ?_
  refine bE hF fun vr10 h5 hF => ?_
  refine awp_region ?_
  refine aR 1 ?_
  refine aC (fleetmake_Stream_Flip_ok h5) [] [] [] ?_
  refine aE ?_
  refine cE hF (fun h6 hF => ?_) fun h6 hF => ?_
  · refine awp_true (by kernel_rfl) h6 ?_
    refine bE hF fun vr2_2 h7 hF => ?_
    refine awp_region ?_
    refine aR 1 ?_
    refine aC (fleetmake_Stream_Place_ok h7) [] [] [] ?_
    refine aR 1 ?_
    refine aE ?_
    exact oO hF [] [] rfl
  · refine awp_false (by kernel_rfl) h6 ?_
    refine bE hF fun x h8 hF => ?_
    obtain ⟨vs6, vr11⟩ := x
    refine bE hF fun x h9 hF => ?_
    obtain ⟨vs7, vr12⟩ := x
    refine aD ?_
    refine dR 3 ?_
    refine dC (fleetmake_Stream_Range_ok h8) [] [] [] ?_
    refine dR 4 ?_
    refine dC (fleetmake_Stream_Range_ok h9) [] [] [] ?_
    refine dR 3 ?_
    refine dE ?_
    exact oO hF [] [] rfl

def fleetmake_Stream_RightTrack_x3_k : (fleetmake_Stream × api_Fix) → AEx
  | _ => .normal

def fleetmake_Stream_RightTrack_x3_S (vr : Int) (vout : List api_Fix) (vat : Int) (vx : Int) (vr9 : Int) (vs8_1 : fleetmake_Stream) (vp2_1 : api_Spot) (vr13 : Int) : (fleetmake_Stream × api_Fix) → St
  | (vs9, vx2) => Mem.st ⟨[(1, ⟨52, 5, List.map api_Fix.enc vout⟩)], [(0, [.d (.lst (List.map (encI .i64) vs9.L)), .d (.int .i64 vs9.at_)]), (2, [.d (.int .i64 vp2_1.X), .d (.int .i64 vp2_1.Y)]), (3, [.d (.str vx2.Device), .d (.int .i64 vx2.At), .d (.int .i64 vx2.X), .d (.int .i64 vx2.Y), .d (.int .i64 vx2.Error)])]⟩ (tl [(0, .v (.one (.box 0 0))), (5, .v (.one (.own 1 none))), (6, .v (.one (.d (.int .i64 (IntKind.wrap .i64 (vat + vr9)))))), (7, .v (.one (.box 2 0))), (8, .v (.one (.box 3 0))), (13, .v (.one (.d (.int .i64 vr)))), (14, .v (.one (.d (.int .i64 vx))))]) 4

def fleetmake_Stream_RightTrack_x3_I (vr : Int) (vout : List api_Fix) (vat : Int) (vx : Int) (vr9 : Int) (vs8_1 : fleetmake_Stream) (vp2_1 : api_Spot) (vr13 : Int) : St := Mem.st ⟨[(1, ⟨52, 5, List.map api_Fix.enc vout⟩)], [(0, [.d (.lst (List.map (encI .i64) vs8_1.L)), .d (.int .i64 (IntKind.wrap .i64 (vs8_1.at_ + 1)))]), (2, [.d (.int .i64 vp2_1.X), .d (.int .i64 vp2_1.Y)]), (3, [.d (.str ([100] : List UInt8)), .d (.int .i64 (IntKind.wrap .i64 (vat + vr9))), .d (.int .i64 vp2_1.X), .d (.int .i64 vp2_1.Y), .d (.int .i64 vr13)])]⟩ (tl [(0, .v (.one (.box 0 0))), (5, .v (.one (.own 1 none))), (6, .v (.one (.d (.int .i64 (IntKind.wrap .i64 (vat + vr9)))))), (7, .v (.one (.box 2 0))), (8, .v (.one (.box 3 0))), (13, .v (.one (.d (.int .i64 vr)))), (14, .v (.one (.d (.int .i64 vx))))]) 4

theorem fleetmake_Stream_RightTrack_x3_ok (vr : Int) (vout : List api_Fix) (vat : Int) (vx : Int) (vr9 : Int) (vs8_1 : fleetmake_Stream) (vp2_1 : api_Spot) (vr13 : Int) {r} (hF : fleetmake_Stream_RightTrack_x3 vat vr9 vs8_1 vp2_1 vr13 = some r) : Awp prog 1 57 (cL (cR (cR (cR (cL (cL (cR (cR (cL (cL (cR (cL (cR (cR (cR (cR (cB f73))))))))))))))))) (Out 1 fleetmake_Stream_RightTrack_x3_k (fleetmake_Stream_RightTrack_x3_S vr vout vat vx vr9 vs8_1 vp2_1 vr13) r) (fleetmake_Stream_RightTrack_x3_I vr vout vat vx vr9 vs8_1 vp2_1 vr13) := by
  unfold fleetmake_Stream_RightTrack_x3 at hF
  refine awp_seq ?_
  refine bE hF fun vr14 h12 hF => ?_
  refine awp_region ?_
  refine aR 1 ?_
  refine aC (fleetmake_Stream_Flip_ok h12) [] [] [] ?_
  refine aE ?_
  refine cE hF (fun h13 hF => ?_) fun h13 hF => ?_
  · refine awp_true (by kernel_rfl) h13 ?_
    refine bE hF fun vr15 h14 hF => ?_
    refine awp_region ?_
    refine aR 2 ?_
    refine aC (fleetmake_Stream_Pick_o1_ok h14) [(1, 3004)] [] [] ?_
    refine aR 2 ?_
    refine aE ?_
    exact oO hF [] [] rfl
  · refine awp_false (by kernel_rfl) h13 ?_
    refine awp_skip ?_
    exact oO hF [] [] rfl

def fleetmake_Stream_RightTrack_x1_k : (fleetmake_Stream × (List api_Fix)) → AEx
  | _ => .exit 0

def fleetmake_Stream_RightTrack_x1_S (vr : Int) : (fleetmake_Stream × (List api_Fix)) → St
  | (vs10, vout1) => Mem.st ⟨[(1, ⟨52, 5, List.map api_Fix.enc vout1⟩)], [(0, [.d (.lst (List.map (encI .i64) vs10.L)), .d (.int .i64 vs10.at_)])]⟩ (tl [(5, .v (.one (.own 1 none)))]) 2

def fleetmake_Stream_RightTrack_x1_H (vr : Int) : fleetmake_Stream × (List api_Fix) × Int × api_Spot × Int → St
  | (vs1, vout, vat, vp, vx) => Mem.st ⟨[(1, ⟨52, 5, List.map api_Fix.enc vout⟩)], [(0, [.d (.lst (List.map (encI .i64) vs1.L)), .d (.int .i64 vs1.at_)]), (2, [.d (.int .i64 vp.X), .d (.int .i64 vp.Y)])]⟩ (tl [(0, .v (.one (.box 0 0))), (5, .v (.one (.own 1 none))), (6, .v (.one (.d (.int .i64 vat)))), (7, .v (.one (.box 2 0))), (13, .v (.one (.d (.int .i64 vr)))), (14, .v (.one (.d (.int .i64 vx))))]) 3

theorem fleetmake_Stream_RightTrack_x1_ok (vr : Int) (s : fleetmake_Stream × (List api_Fix) × Int × api_Spot × Int) (r : (fleetmake_Stream × (List api_Fix) × Int × api_Spot × Int) ⊕ ((fleetmake_Stream × (List api_Fix)))) (hF : fleetmake_Stream_RightTrack_x1 vr s = some r) : Awp prog 1 57 (cL (cL (cR (cL (cR (cR (cR (cR (cB f73))))))))) (Out 1 (kk fleetmake_Stream_RightTrack_x1_k) (SS (fleetmake_Stream_RightTrack_x1_H vr) (fleetmake_Stream_RightTrack_x1_S vr)) r) (fleetmake_Stream_RightTrack_x1_H vr s) := by
  obtain ⟨vs1, vout, vat, vp, vx⟩ := s
  unfold fleetmake_Stream_RightTrack_x1 at hF
  refine awp_seq ?_
  refine awp_region ?_
  refine aR 1 ?_
  refine aE ?_
  refine awp_seq ?_
  refine cE hF (fun h3 hF => ?_) fun h3 hF => ?_
  · refine awp_true (by kernel_rfl) h3 ?_
    refine awp_skip ?_
    refine awp_seq ?_
    refine awp_block ?_
    refine awp_seq ?_
    refine bE hF fun vr9 h4 hF => ?_
    refine awp_region ?_
    refine aR 3 ?_
    refine aC (fleetmake_Stream_Pick_o1_ok h4) [(1, 3003)] [] [] ?_
    refine aR 2 ?_
    refine aE ?_
    refine awp_seq ?_
    refine awp_to (st' := fleetmake_Stream_RightTrack_x2_I vr vs1 vout vat vp vx vr9) (oT [] []) ?_
    refine bE hF fun x h10 hF => ?_
    obtain ⟨vs8_1, vp2_1⟩ := x
    refine awp_sub (fleetmake_Stream_RightTrack_x2_ok vr vs1 vout vat vp vx vr9 h10) ?_
    refine awp_seq ?_
    refine bE hF fun vr13 h11 hF => ?_
    refine aD ?_
    refine dR 7 ?_
    refine dC (fleetmake_Stream_Pick_o1_ok h11) [(1, 6003)] [] [] ?_
    refine dR 3 ?_
    refine dE ?_
    refine awp_seq ?_
    refine awp_to (st' := fleetmake_Stream_RightTrack_x3_I vr vout vat vx vr9 vs8_1 vp2_1 vr13) (oT [(3, 9003)] []) ?_
    refine bE hF fun x h15 hF => ?_
    obtain ⟨vs9_1, vx2_1⟩ := x
    refine awp_sub (fleetmake_Stream_RightTrack_x3_ok vr vout vat vx vr9 vs8_1 vp2_1 vr13 h15) ?_
    refine gE hF fun h16 hF => ?_
    refine awp_region ?_
    refine aR 3 ?_
    refine aX (x_app api_Fix.enc 1 h16) ?_
    refine aR 1 ?_
    refine aE ?_
    refine awp_region ?_
    refine aR 2 ?_
    refine aE ?_
    exact oO hF [(1, 3004)] [] rfl
  · refine awp_false (by kernel_rfl) h3 ?_
    refine awp_exit ?_
    exact oO hF [] [] rfl

def fleetmake_Stream_RightTrack_R (qs : fleetmake_Stream) (qmost : Int) (r : fleetmake_Stream × (List api_Fix)) : TV × Mem := (.v (.one (.own 1 none)), ⟨[(1, ⟨52, 5, List.map api_Fix.enc r.2⟩)], [(0, [.d (.lst (List.map (encI .i64) r.1.L)), .d (.int .i64 r.1.at_)])]⟩)

theorem fleetmake_Stream_RightTrack_ok {qs : fleetmake_Stream} {qmost : Int} {r} (hF : fleetmake_Stream_RightTrack qs qmost = some r) : Holds prog 73 [.v (.one (.box 0 0)), .v (.one (.d (.int .i64 qmost)))] ⟨[], [(0, [.d (.lst (List.map (encI .i64) qs.L)), .d (.int .i64 qs.at_)])]⟩ (Is (fleetmake_Stream_RightTrack_R qs qmost r)) := by
  unfold fleetmake_Stream_RightTrack at hF
  refine holds_of_awp hΓ (fn := f73) (c := cB f73) (A := 1) (nx := 1) (by kernel_rfl) (by kernel_rfl) (by kernel_rfl) (by kernel_rfl) (by kernel_rfl) (by kernel_rfl) (lowc_of (by kernel_rfl)) ?_
  show Awp prog 1 57 (cB f73) _ _
  refine awp_seq ?_
  refine awp_region ?_
  refine aR 1 ?_
  refine aE ?_
  refine awp_seq ?_
  refine awp_region ?_
  refine aR 1 ?_
  refine aE ?_
  refine awp_seq ?_
  refine awp_region ?_
  refine aR 1 ?_
  refine aE ?_
  refine awp_seq ?_
  refine bE hF fun vr2 h1 hF => ?_
  refine awp_region ?_
  refine aR 1 ?_
  refine aC (fleetmake_Stream_Place_ok h1) [] [] [] ?_
  refine aR 2 ?_
  refine aE ?_
  refine awp_seq ?_
  refine awp_seq ?_
  refine bE hF fun x h2 hF => ?_
  obtain ⟨vs, vr⟩ := x
  refine awp_region ?_
  refine aR 2 ?_
  refine aC (fleetmake_Stream_Range_ok h2) [] [] [] ?_
  refine aR 1 ?_
  refine aE ?_
  refine awp_block ?_
  refine awp_to (st' := fleetmake_Stream_RightTrack_x1_H vr (vs, [], 0, vr2, 0)) (oT [(2, 5001)] [1]) ?_
  refine bE hF fun x h17 hF => ?_
  obtain ⟨vs10_1, vout1_1⟩ := x
  refine awp_sub (awp_loop' (fleetmake_Stream_RightTrack_x1_H vr) fleetmake_Stream_RightTrack_x1_k (fleetmake_Stream_RightTrack_x1_S vr) (by intro x; exact fun h => nomatch h) h17 (fleetmake_Stream_RightTrack_x1_ok vr)) ?_
  refine awp_seq ?_
  refine awp_region ?_
  refine aR 2 ?_
  refine aE ?_
  refine awp_ret ?_
  exact oF hF [] []

/-! ### (*beaconfleet/fleetmake.Stream).Track -/
def fleetmake_Stream_Track_x2_k : (fleetmake_Stream × Bool) → AEx
  | _ => .normal

def fleetmake_Stream_Track_x2_S (vs11 : fleetmake_Stream) (vr16 : List api_Fix) : (fleetmake_Stream × Bool) → St
  | (vs, vx) => Mem.st ⟨[(1, ⟨52, 5, List.map api_Fix.enc vr16⟩)], [(0, [.d (.lst (List.map (encI .i64) vs.L)), .d (.int .i64 vs.at_)])]⟩ (tl [(0, .v (.one (.box 0 0))), (5, .v (.one (.own 1 none))), (16, .v (.one (.d (.bool vx))))]) 2

def fleetmake_Stream_Track_x2_I (vs11 : fleetmake_Stream) (vr16 : List api_Fix) : St := Mem.st ⟨[(1, ⟨52, 5, List.map api_Fix.enc vr16⟩)], [(0, [.d (.lst (List.map (encI .i64) vs11.L)), .d (.int .i64 vs11.at_)])]⟩ (tl [(0, .v (.one (.box 0 0))), (5, .v (.one (.own 1 none)))]) 2

theorem fleetmake_Stream_Track_x2_ok (vs11 : fleetmake_Stream) (vr16 : List api_Fix) {r} (hF : fleetmake_Stream_Track_x2 vs11 vr16 = some r) : Awp prog 1 53 (cL (cL (cR (cR (cB f27))))) (Out 1 fleetmake_Stream_Track_x2_k (fleetmake_Stream_Track_x2_S vs11 vr16) r) (fleetmake_Stream_Track_x2_I vs11 vr16) := by
  unfold fleetmake_Stream_Track_x2 at hF
  refine cE hF (fun h2 hF => ?_) fun h2 hF => ?_
  · refine bE hF fun vr h3 hF => ?_
    refine awp_region ?_
    refine aR 1 ?_
    refine aL api_Fix.enc vr16 ?_
    refine aB h2 ?_
    refine aR 2 ?_
    refine aC (fleetmake_Stream_Flip_ok h3) [] [] [] ?_
    refine aR 1 ?_
    refine aE ?_
    exact oO hF [] [] rfl
  · refine awp_region ?_
    refine aR 1 ?_
    refine aL api_Fix.enc vr16 ?_
    refine aB h2 ?_
    refine aR 4 ?_
    refine aE ?_
    exact oO hF [] [] rfl

def fleetmake_Stream_Track_x1_k : (fleetmake_Stream × (List api_Fix)) → AEx
  | _ => .normal

def fleetmake_Stream_Track_x1_S (vs11 : fleetmake_Stream) (vr16 : List api_Fix) : (fleetmake_Stream × (List api_Fix)) → St
  | (vs2, vout) => Mem.st ⟨[(1, ⟨52, 5, List.map api_Fix.enc vout⟩)], [(0, [.d (.lst (List.map (encI .i64) vs2.L)), .d (.int .i64 vs2.at_)])]⟩ (tl [(5, .v (.one (.own 1 none)))]) 2

def fleetmake_Stream_Track_x1_I (vs11 : fleetmake_Stream) (vr16 : List api_Fix) : St := Mem.st ⟨[(1, ⟨52, 5, List.map api_Fix.enc vr16⟩)], [(0, [.d (.lst (List.map (encI .i64) vs11.L)), .d (.int .i64 vs11.at_)])]⟩ (tl [(0, .v (.one (.box 0 0))), (5, .v (.one (.own 1 none)))]) 2

theorem fleetmake_Stream_Track_x1_ok (vs11 : fleetmake_Stream) (vr16 : List api_Fix) {r} (hF : fleetmake_Stream_Track_x1 vs11 vr16 = some r) : Awp prog 1 53 (cL (cR (cR (cB f27)))) (Out 1 fleetmake_Stream_Track_x1_k (fleetmake_Stream_Track_x1_S vs11 vr16) r) (fleetmake_Stream_Track_x1_I vs11 vr16) := by
  unfold fleetmake_Stream_Track_x1 at hF
  refine awp_seq ?_
  refine awp_to (st' := fleetmake_Stream_Track_x2_I vs11 vr16) (oT [] []) ?_
  refine bE hF fun x h4 hF => ?_
  obtain ⟨vs1, vx1⟩ := x
  refine awp_sub (fleetmake_Stream_Track_x2_ok vs11 vr16 h4) ?_
  refine cE hF (fun h5 hF => ?_) fun h5 hF => ?_
  · refine awp_true (by kernel_rfl) h5 ?_
    refine awp_seq ?_
    refine bE hF fun vr3 h6 hF => ?_
    refine bE hF fun vy h7 hF => ?_
    refine awp_region ?_
    refine aR 3 ?_
    refine aL api_Fix.enc vr16 ?_
    refine aC (fleetmake_Stream_Next_ok h6) [] [] [] ?_
    refine aX (x_idxO api_Fix.enc 1 h7) ?_
    refine aR 1 ?_
    refine aE ?_
    refine awp_seq ?_
    refine bE hF fun vr3_1 h8 hF => ?_
    refine awp_region ?_
    refine aR 1 ?_
    refine aC (fleetmake_Stream_Next_ok h8) [] [] [] ?_
    refine aE ?_
    refine awp_block ?_
    refine awp_seq ?_
    refine awp_region ?_
    refine aR 2 ?_
    refine aE ?_
    refine cE hF (fun h9 hF => ?_) fun h9 hF => ?_
    · refine awp_true (by kernel_rfl) h9 ?_
      refine bE hF fun vr1 h10 hF => ?_
      refine awp_region ?_
      refine aR 3 ?_
      refine aC (fleetmake_Stream_Some_o1_ok h10) [(1, 13002)] [] [] ?_
      refine aR 2 ?_
      refine aX (x_stE api_Fix.enc (api_Fix.mk vr1 vy.At vy.X vy.Y vy.Error) h7) ?_
      refine aE ?_
      exact oO hF [] [] rfl
    · refine awp_false (by kernel_rfl) h9 ?_
      refine awp_seq ?_
      refine awp_region ?_
      refine aR 2 ?_
      refine aE ?_
      refine cE hF (fun h11 hF => ?_) fun h11 hF => ?_
      · refine awp_true (by kernel_rfl) h11 ?_
        refine bE hF fun x h12 hF => ?_
        obtain ⟨vs1_1, vr3_2⟩ := x
        refine awp_region ?_
        refine aR 2 ?_
        refine aC (fleetmake_Stream_Odd_ok h12) [] [] [] ?_
        refine aR 2 ?_
        refine aX (x_stE api_Fix.enc (api_Fix.mk vy.Device vr3_2 vy.X vy.Y vy.Error) h7) ?_
        refine aE ?_
        exact oO hF [] [] rfl
      · refine awp_false (by kernel_rfl) h11 ?_
        refine awp_seq ?_
        refine awp_region ?_
        refine aR 2 ?_
        refine aE ?_
        refine cE hF (fun h13 hF => ?_) fun h13 hF => ?_
        · refine awp_true (by kernel_rfl) h13 ?_
          refine bE hF fun x h14 hF => ?_
          obtain ⟨vs1_2, vr3_3⟩ := x
          refine awp_region ?_
          refine aR 2 ?_
          refine aC (fleetmake_Stream_Odd_ok h14) [] [] [] ?_
          refine aR 2 ?_
          refine aX (x_stE api_Fix.enc (api_Fix.mk vy.Device vy.At vr3_3 vy.Y vy.Error) h7) ?_
          refine aE ?_
          exact oO hF [] [] rfl
        · refine awp_false (by kernel_rfl) h13 ?_
          refine bE hF fun x h15 hF => ?_
          obtain ⟨vs1_3, vr3_4⟩ := x
          refine awp_region ?_
          refine aR 2 ?_
          refine aC (fleetmake_Stream_Odd_ok h15) [] [] [] ?_
          refine aR 2 ?_
          refine aX (x_stE api_Fix.enc (api_Fix.mk vy.Device vy.At vy.X vy.Y vr3_4) h7) ?_
          refine aE ?_
          exact oO hF [] [] rfl
  · refine awp_false (by kernel_rfl) h5 ?_
    refine awp_skip ?_
    exact oO hF [] [] rfl

def fleetmake_Stream_Track_R (qs : fleetmake_Stream) (qmost : Int) (r : fleetmake_Stream × (List api_Fix)) : TV × Mem := (.v (.one (.own 1 none)), ⟨[(1, ⟨52, 5, List.map api_Fix.enc r.2⟩)], [(0, [.d (.lst (List.map (encI .i64) r.1.L)), .d (.int .i64 r.1.at_)])]⟩)

theorem fleetmake_Stream_Track_ok {qs : fleetmake_Stream} {qmost : Int} {r} (hF : fleetmake_Stream_Track qs qmost = some r) : Holds prog 27 [.v (.one (.box 0 0)), .v (.one (.d (.int .i64 qmost)))] ⟨[], [(0, [.d (.lst (List.map (encI .i64) qs.L)), .d (.int .i64 qs.at_)])]⟩ (Is (fleetmake_Stream_Track_R qs qmost r)) := by
  unfold fleetmake_Stream_Track at hF
  refine holds_of_awp hΓ (fn := f27) (c := cB f27) (A := 1) (nx := 1) (by kernel_rfl) (by kernel_rfl) (by kernel_rfl) (by kernel_rfl) (by kernel_rfl) (by kernel_rfl) (lowc_of (by kernel_rfl)) ?_
  show Awp prog 1 53 (cB f27) _ _
  refine awp_seq ?_
  refine awp_region ?_
  refine aR 1 ?_
  refine aE ?_
  refine awp_seq ?_
  refine bE hF fun x h1 hF => ?_
  obtain ⟨vs11, vr16⟩ := x
  refine awp_region ?_
  refine aR 2 ?_
  refine aC (fleetmake_Stream_RightTrack_ok h1) [] [] [] ?_
  refine aR 1 ?_
  refine aE ?_
  refine awp_seq ?_
  refine awp_to (st' := fleetmake_Stream_Track_x1_I vs11 vr16) (oT [(1, 3002)] []) ?_
  refine bE hF fun x h16 hF => ?_
  obtain ⟨vs2_1, vout1⟩ := x
  refine awp_sub (fleetmake_Stream_Track_x1_ok vs11 vr16 h16) ?_
  refine awp_seq ?_
  refine awp_region ?_
  refine aR 2 ?_
  refine aE ?_
  refine awp_ret ?_
  exact oF hF [] []

/-! ### beaconfleet/place.trackFault$1 -/
def place_trackFault_1_R (qx : api_Fix) (qx1 : List api_Fix) (r : Bool) : TV × Mem := (.v (.one (.d (.bool r))), ⟨[], [(0, [.d (.lst (List.map api_Fix.enc qx1))])]⟩)

theorem place_trackFault_1_ok {qx : api_Fix} {qx1 : List api_Fix} {r} (hF : place_trackFault_1 qx qx1 = some r) : Holds prog 104 [.v (.agg [.d (.str qx.Device), .d (.int .i64 qx.At), .d (.int .i64 qx.X), .d (.int .i64 qx.Y), .d (.int .i64 qx.Error)]), .v (.one (.box 0 0))] ⟨[], [(0, [.d (.lst (List.map api_Fix.enc qx1))])]⟩ (Is (place_trackFault_1_R qx qx1 r)) := by
  unfold place_trackFault_1 at hF
  refine holds_of_awp hΓ (fn := f104) (c := cB f104) (A := 1) (nx := 1) (by kernel_rfl) (by kernel_rfl) (by kernel_rfl) (by kernel_rfl) (by kernel_rfl) (by kernel_rfl) (lowc_of (by kernel_rfl)) ?_
  show Awp prog 1 11 (cB f104) _ _
  refine awp_seq ?_
  refine awp_region ?_
  refine aR 2 ?_
  refine aE ?_
  refine awp_seq ?_
  refine bE hF fun vy h1 hF => ?_
  refine aD ?_
  refine dR 3 ?_
  refine dX (x_idx api_Fix.enc h1) ?_
  refine dR 4 ?_
  refine dE ?_
  refine awp_ret ?_
  exact oF hF [] []

/-! ### slices.IndexFunc[[]beaconfleet/api.Fix,beaconfleet/api.Fix] -/
def slices_IndexFunc_api_Fix_api_Fix_f1_place_trackFault_1_x1_k : Unit ⊕ Int → AEx
  | .inl _ => .exit 0
  | .inr _ => .ret

def slices_IndexFunc_api_Fix_api_Fix_f1_place_trackFault_1_x1_S (qs : List api_Fix) : Unit ⊕ Int → St
  | .inl _ => Mem.st ⟨[], [(0, [.d (.lst (List.map api_Fix.enc qs))])]⟩ (tl []) 1
  | .inr vx1 => Mem.st ⟨[], [(0, [.d (.lst (List.map api_Fix.enc qs))])]⟩ (tl [(4, .v (.one (.d (.int .i64 vx1))))]) 1

def slices_IndexFunc_api_Fix_api_Fix_f1_place_trackFault_1_x1_H (qs : List api_Fix) : Int → St
  | vx => Mem.st ⟨[], [(0, [.d (.lst (List.map api_Fix.enc qs))])]⟩ (tl [(0, .v (.one (.d (.lst (List.map api_Fix.enc qs))))), (1, .v (.one (.fn 104 [0]))), (7, .v (.one (.d (.int .i64 (qs.length : Int))))), (8, .v (.one (.d (.int .i64 vx))))]) 1

theorem slices_IndexFunc_api_Fix_api_Fix_f1_place_trackFault_1_x1_ok (qs : List api_Fix) (vx : Int) (r : (Int) ⊕ (Unit ⊕ Int)) (hF : slices_IndexFunc_api_Fix_api_Fix_f1_place_trackFault_1_x1 qs vx = some r) : Awp prog 1 19 (cL (cL (cR (cL (cR (cB f81)))))) (Out 1 (kk slices_IndexFunc_api_Fix_api_Fix_f1_place_trackFault_1_x1_k) (SS (slices_IndexFunc_api_Fix_api_Fix_f1_place_trackFault_1_x1_H qs) (slices_IndexFunc_api_Fix_api_Fix_f1_place_trackFault_1_x1_S qs)) r) (slices_IndexFunc_api_Fix_api_Fix_f1_place_trackFault_1_x1_H qs vx) := by
  unfold slices_IndexFunc_api_Fix_api_Fix_f1_place_trackFault_1_x1 at hF
  refine awp_seq ?_
  refine awp_region ?_
  refine aR 1 ?_
  refine aE ?_
  refine awp_seq ?_
  refine cE hF (fun h1 hF => ?_) fun h1 hF => ?_
  · refine awp_true (by kernel_rfl) h1 ?_
    refine awp_skip ?_
    refine awp_seq ?_
    refine awp_block ?_
    refine awp_seq ?_
    refine awp_region ?_
    refine aR 2 ?_
    refine aE ?_
    refine awp_seq ?_
    refine bE hF fun vy1 h2 hF => ?_
    refine bE hF fun vr1 h3 hF => ?_
    refine awp_region ?_
    refine aR 3 ?_
    refine aX (x_idx api_Fix.enc h2) ?_
    refine aR 1 ?_
    refine aC (place_trackFault_1_ok h3) [] [] [] ?_
    refine aE ?_
    refine cE hF (fun h4 hF => ?_) fun h4 hF => ?_
    · refine awp_true (by kernel_rfl) h4 ?_
      refine awp_seq ?_
      refine awp_region ?_
      refine aR 2 ?_
      refine aE ?_
      refine awp_ret ?_
      exact oO hF [] [] rfl
    · refine awp_false (by kernel_rfl) h4 ?_
      refine awp_skip ?_
      refine awp_region ?_
      refine aR 2 ?_
      refine aE ?_
      exact oO hF [] [] rfl
  · refine awp_false (by kernel_rfl) h1 ?_
    refine awp_exit ?_
    exact oO hF [] [] rfl

def slices_IndexFunc_api_Fix_api_Fix_f1_place_trackFault_1_R (qs : List api_Fix) (r : Int) : TV × Mem := (.v (.one (.d (.int .i64 r))), ⟨[], [(0, [.d (.lst (List.map api_Fix.enc qs))])]⟩)

theorem slices_IndexFunc_api_Fix_api_Fix_f1_place_trackFault_1_ok {qs : List api_Fix} {r} (hF : slices_IndexFunc_api_Fix_api_Fix_f1_place_trackFault_1 qs = some r) : Holds prog 81 [.v (.one (.d (.lst (List.map api_Fix.enc qs)))), .v (.one (.fn 104 [0]))] ⟨[], [(0, [.d (.lst (List.map api_Fix.enc qs))])]⟩ (Is (slices_IndexFunc_api_Fix_api_Fix_f1_place_trackFault_1_R qs r)) := by
  unfold slices_IndexFunc_api_Fix_api_Fix_f1_place_trackFault_1 at hF
  refine holds_of_awp hΓ (fn := f81) (c := cB f81) (A := 1) (nx := 1) (by kernel_rfl) (by kernel_rfl) (by kernel_rfl) (by kernel_rfl) (by kernel_rfl) (by kernel_rfl) (lowc_of (by kernel_rfl)) ?_
  show Awp prog 1 19 (cB f81) _ _
  refine awp_seq ?_
  refine awp_region ?_
  refine aR 1 ?_
  refine aE ?_
  refine awp_seq ?_
  refine awp_seq ?_
  refine awp_region ?_
  refine aR 1 ?_
  refine aL api_Fix.enc qs ?_
  refine aR 1 ?_
  refine aE ?_
  refine awp_block ?_
  refine awp_to (st' := slices_IndexFunc_api_Fix_api_Fix_f1_place_trackFault_1_x1_H qs 0) (oT [] []) ?_
  refine bE hF fun x h5 hF => ?_
  rcases x with _ | vx1_1
  · refine awp_sub (awp_loop' (slices_IndexFunc_api_Fix_api_Fix_f1_place_trackFault_1_x1_H qs) slices_IndexFunc_api_Fix_api_Fix_f1_place_trackFault_1_x1_k (slices_IndexFunc_api_Fix_api_Fix_f1_place_trackFault_1_x1_S qs) (by intro x; rcases x with x | x <;> exact fun h => nomatch h) h5 (slices_IndexFunc_api_Fix_api_Fix_f1_place_trackFault_1_x1_ok qs)) ?_
    refine awp_seq ?_
    refine awp_region ?_
    refine aR 1 ?_
    refine aE ?_
    refine awp_ret ?_
    exact oF hF [] []
  · refine awp_sub (awp_loop' (slices_IndexFunc_api_Fix_api_Fix_f1_place_trackFault_1_x1_H qs) slices_IndexFunc_api_Fix_api_Fix_f1_place_trackFault_1_x1_k (slices_IndexFunc_api_Fix_api_Fix_f1_place_trackFault_1_x1_S qs) (by intro x; rcases x with x | x <;> exact fun h => nomatch h) h5 (slices_IndexFunc_api_Fix_api_Fix_f1_place_trackFault_1_x1_ok qs)) ?_
    exact oF hF [] []

/-! ### slices.ContainsFunc[[]beaconfleet/api.Fix,beaconfleet/api.Fix] -/
def slices_ContainsFunc_api_Fix_api_Fix_f1_place_trackFault_1_R (qs : List api_Fix) (r : Bool) : TV × Mem := (.v (.one (.d (.bool r))), ⟨[], [(0, [.d (.lst (List.map api_Fix.enc qs))])]⟩)

theorem slices_ContainsFunc_api_Fix_api_Fix_f1_place_trackFault_1_ok {qs : List api_Fix} {r} (hF : slices_ContainsFunc_api_Fix_api_Fix_f1_place_trackFault_1 qs = some r) : Holds prog 79 [.v (.one (.d (.lst (List.map api_Fix.enc qs)))), .v (.one (.fn 104 [0]))] ⟨[], [(0, [.d (.lst (List.map api_Fix.enc qs))])]⟩ (Is (slices_ContainsFunc_api_Fix_api_Fix_f1_place_trackFault_1_R qs r)) := by
  unfold slices_ContainsFunc_api_Fix_api_Fix_f1_place_trackFault_1 at hF
  refine holds_of_awp hΓ (fn := f79) (c := cB f79) (A := 1) (nx := 1) (by kernel_rfl) (by kernel_rfl) (by kernel_rfl) (by kernel_rfl) (by kernel_rfl) (by kernel_rfl) (lowc_of (by kernel_rfl)) ?_
  show Awp prog 1 9 (cB f79) _ _
  refine awp_seq ?_
  refine awp_region ?_
  refine aR 1 ?_
  refine aE ?_
  refine awp_seq ?_
  refine bE hF fun vr2 h1 hF => ?_
  refine awp_region ?_
  refine aR 2 ?_
  refine aC (slices_IndexFunc_api_Fix_api_Fix_f1_place_trackFault_1_ok h1) [] [] [] ?_
  refine aR 2 ?_
  refine aE ?_
  refine awp_ret ?_
  exact oF hF [] []

/-! ### beaconfleet/place.trackFault -/
def place_trackFault_R (ql : List api_Fix) (r : Int) : TV × Mem := (.v (.one (.d (.int .i64 r))), ⟨[], []⟩)

theorem place_trackFault_ok {ql : List api_Fix} {r} (hF : place_trackFault ql = some r) : Holds prog 74 [.v (.one (.d (.lst (List.map api_Fix.enc ql))))] ⟨[], []⟩ (Is (place_trackFault_R ql r)) := by
  unfold place_trackFault at hF
  refine holds_of_awp hΓ (fn := f74) (c := cB f74) (A := 0) (nx := 0) (by kernel_rfl) (by kernel_rfl) (by kernel_rfl) (by kernel_rfl) (by kernel_rfl) (by kernel_rfl) (lowc_of (by kernel_rfl)) ?_
  show Awp prog 0 12 (cB f74) _ _
  refine awp_seq ?_
  refine awp_region ?_
  refine aR 2 ?_
  refine aE ?_
  refine awp_seq ?_
  refine awp_seq ?_
  refine bE hF fun vr6 h1 hF => ?_
  refine awp_region ?_
  refine aR 1 ?_
  refine aC (place_CheckFixes_ok h1) [] [] [] ?_
  refine aR 1 ?_
  refine aE ?_
  refine awp_seq ?_
  refine awp_region ?_
  refine aR 2 ?_
  refine aE ?_
  refine cE hF (fun h2 hF => ?_) fun h2 hF => ?_
  · refine awp_true (by kernel_rfl) h2 ?_
    refine awp_seq ?_
    refine awp_region ?_
    refine aR 2 ?_
    refine aE ?_
    refine awp_ret ?_
    exact oF hF [] []
  · refine awp_false (by kernel_rfl) h2 ?_
    refine awp_skip ?_
    refine awp_seq ?_
    refine awp_seq ?_
    refine bE hF fun vr h3 hF => ?_
    refine awp_region ?_
    refine aR 2 ?_
    refine aC (slices_ContainsFunc_api_Fix_api_Fix_f1_place_trackFault_1_ok h3) [] [] [] ?_
    refine aE ?_
    refine cE hF (fun h4 hF => ?_) fun h4 hF => ?_
    · refine awp_true (by kernel_rfl) h4 ?_
      refine awp_seq ?_
      refine awp_region ?_
      refine aR 1 ?_
      refine aE ?_
      refine awp_ret ?_
      exact oF hF [] []
    · refine awp_false (by kernel_rfl) h4 ?_
      refine awp_skip ?_
      refine awp_seq ?_
      refine awp_region ?_
      refine aR 1 ?_
      refine aE ?_
      refine awp_ret ?_
      exact oF hF [] []

/-! ### beaconfleet/place.Visits -/
def place_Visits_x3_k : Bool → AEx
  | _ => .normal

def place_Visits_x3_S (qx : api_Fence) (qx1 : List api_Fix) (vx : List api_Visit) (vx1 : Int) (vy3 : api_Fix) : Bool → St
  | vx4 => Mem.st ⟨[(1, ⟨76, 2, List.map api_Visit.enc vx⟩)], [(0, [.d (.str qx.Key), .d (.lst (List.map api_Spot.enc qx.Corners))]), (2, [.d (.str vy3.Device), .d (.int .i64 vy3.At), .d (.int .i64 vy3.X), .d (.int .i64 vy3.Y), .d (.int .i64 vy3.Error)])]⟩ (tl [(2, .v (.one (.box 0 0))), (7, .v (.one (.own 1 none))), (9, .v (.one (.box 2 0))), (10, .v (.one (.d (.bool vx4)))), (20, .v (.one (.d (.lst (List.map api_Fix.enc qx1))))), (21, .v (.one (.d (.int .i64 (qx1.length : Int))))), (22, .v (.one (.d (.int .i64 vx1))))]) 3

def place_Visits_x3_I (qx : api_Fence) (qx1 : List api_Fix) (vx : List api_Visit) (vx1 : Int) (vy3 : api_Fix) : St := Mem.st ⟨[(1, ⟨76, 2, List.map api_Visit.enc vx⟩)], [(0, [.d (.str qx.Key), .d (.lst (List.map api_Spot.enc qx.Corners))]), (2, [.d (.str vy3.Device), .d (.int .i64 vy3.At), .d (.int .i64 vy3.X), .d (.int .i64 vy3.Y), .d (.int .i64 vy3.Error)])]⟩ (tl [(2, .v (.one (.box 0 0))), (7, .v (.one (.own 1 none))), (9, .v (.one (.box 2 0))), (20, .v (.one (.d (.lst (List.map api_Fix.enc qx1))))), (21, .v (.one (.d (.int .i64 (qx1.length : Int))))), (22, .v (.one (.d (.int .i64 vx1))))]) 3

theorem place_Visits_x3_ok (qx : api_Fence) (qx1 : List api_Fix) (vx : List api_Visit) (vx1 : Int) (vy3 : api_Fix) {r} (hF : place_Visits_x3 vx = some r) : Awp prog 0 66 (cL (cR (cL (cL (cR (cR (cL (cL (cR (cL (cR (cR (cR (cB f28)))))))))))))) (Out 0 place_Visits_x3_k (place_Visits_x3_S qx qx1 vx vx1 vy3) r) (place_Visits_x3_I qx qx1 vx vx1 vy3) := by
  unfold place_Visits_x3 at hF
  refine cE hF (fun h7 hF => ?_) fun h7 hF => ?_
  · refine bE hF fun vy4 h8 hF => ?_
    refine awp_region ?_
    refine aR 1 ?_
    refine aL api_Visit.enc vx ?_
    refine aB h7 ?_
    refine aR 3 ?_
    refine aL api_Visit.enc vx ?_
    refine aR 1 ?_
    refine aX (x_idxO api_Visit.enc 1 h8) ?_
    refine aR 1 ?_
    refine aX (x_ldE api_Visit.enc h8) ?_
    refine aR 3 ?_
    refine aE ?_
    exact oO hF [] [] rfl
  · refine awp_region ?_
    refine aR 1 ?_
    refine aL api_Visit.enc vx ?_
    refine aB h7 ?_
    refine aR 11 ?_
    refine aE ?_
    exact oO hF [] [] rfl

def place_Visits_x2_k : (List api_Visit) → AEx
  | _ => .normal

def place_Visits_x2_S (qx : api_Fence) (qx1 : List api_Fix) (vx : List api_Visit) (vx1 : Int) : (List api_Visit) → St
  | vx5 => Mem.st ⟨[(1, ⟨76, 2, List.map api_Visit.enc vx5⟩)], [(0, [.d (.str qx.Key), .d (.lst (List.map api_Spot.enc qx.Corners))])]⟩ (tl [(2, .v (.one (.box 0 0))), (7, .v (.one (.own 1 none))), (20, .v (.one (.d (.lst (List.map api_Fix.enc qx1))))), (21, .v (.one (.d (.int .i64 (qx1.length : Int))))), (22, .v (.one (.d (.int .i64 vx1))))]) 2

def place_Visits_x2_I (qx : api_Fence) (qx1 : List api_Fix) (vx : List api_Visit) (vx1 : Int) : St := Mem.st ⟨[(1, ⟨76, 2, List.map api_Visit.enc vx⟩)], [(0, [.d (.str qx.Key), .d (.lst (List.map api_Spot.enc qx.Corners))])]⟩ (tl [(2, .v (.one (.box 0 0))), (7, .v (.one (.own 1 none))), (20, .v (.one (.d (.lst (List.map api_Fix.enc qx1))))), (21, .v (.one (.d (.int .i64 (qx1.length : Int))))), (22, .v (.one (.d (.int .i64 vx1))))]) 2

theorem place_Visits_x2_ok (qx : api_Fence) (qx1 : List api_Fix) (vx : List api_Visit) (vx1 : Int) {r} (hF : place_Visits_x2 qx qx1 vx vx1 = some r) : Awp prog 0 66 (cL (cR (cR (cL (cL (cR (cL (cR (cR (cR (cB f28))))))))))) (Out 0 place_Visits_x2_k (place_Visits_x2_S qx qx1 vx vx1) r) (place_Visits_x2_I qx qx1 vx vx1) := by
  unfold place_Visits_x2 at hF
  refine awp_block ?_
  refine awp_seq ?_
  refine bE hF fun vy3 h6 hF => ?_
  refine awp_region ?_
  refine aX (x_idx api_Fix.enc h6) ?_
  refine aR 3 ?_
  refine aE ?_
  refine awp_seq ?_
  refine awp_to (st' := place_Visits_x3_I qx qx1 vx vx1 vy3) (oT [(2, 2002)] []) ?_
  refine bE hF fun vx4_1 h9 hF => ?_
  refine awp_sub (place_Visits_x3_ok qx qx1 vx vx1 vy3 h9) ?_
  refine awp_seq ?_
  refine bE hF fun vr2_1 h10 hF => ?_
  refine awp_region ?_
  refine aR 3 ?_
  refine aC (place_surely_ok h10) [] [] [] ?_
  refine aE ?_
  refine awp_block ?_
  refine awp_seq ?_
  refine awp_region ?_
  refine aR 2 ?_
  refine aE ?_
  refine cE hF (fun h11 hF => ?_) fun h11 hF => ?_
  · refine awp_true (by kernel_rfl) h11 ?_
    refine awp_seq ?_
    refine awp_region ?_
    refine aR 2 ?_
    refine aE ?_
    refine cE hF (fun h12 hF => ?_) fun h12 hF => ?_
    · refine awp_true (by kernel_rfl) h12 ?_
      refine gE hF fun h13 hF => ?_
      refine awp_region ?_
      refine aR 5 ?_
      refine aX (x_app api_Visit.enc 1 h13) ?_
      refine aR 1 ?_
      refine aE ?_
      exact oO hF [(1, 13003)] [] rfl
    · refine awp_false (by kernel_rfl) h12 ?_
      refine awp_skip ?_
      exact oO hF [] [] rfl
  · refine awp_false (by kernel_rfl) h11 ?_
    refine awp_seq ?_
    refine awp_region ?_
    refine aR 2 ?_
    refine aE ?_
    refine cE hF (fun h14 hF => ?_) fun h14 hF => ?_
    · refine awp_true (by kernel_rfl) h14 ?_
      refine awp_seq ?_
      refine awp_region ?_
      refine aR 1 ?_
      refine aE ?_
      refine cE hF (fun h15 hF => ?_) fun h15 hF => ?_
      · refine awp_true (by kernel_rfl) h15 ?_
        refine bE hF fun vy5 h16 hF => ?_
        refine awp_region ?_
        refine aR 2 ?_
        refine aL api_Visit.enc vx ?_
        refine aR 3 ?_
        refine aX (x_idxO api_Visit.enc 1 h16) ?_
        refine aR 1 ?_
        refine aX (x_stE api_Visit.enc (api_Visit.mk vy5.From vy3.At) h16) ?_
        refine aE ?_
        exact oO hF [] [] rfl
      · refine awp_false (by kernel_rfl) h15 ?_
        refine awp_skip ?_
        exact oO hF [] [] rfl
    · refine awp_false (by kernel_rfl) h14 ?_
      refine awp_skip ?_
      exact oO hF [] [] rfl

def place_Visits_x1_k : (List api_Visit) → AEx
  | _ => .exit 0

def place_Visits_x1_S (qx : api_Fence) (qx1 : List api_Fix) : (List api_Visit) → St
  | vx6 => Mem.st ⟨[(0, ⟨76, 2, List.map api_Visit.enc vx6⟩)], []⟩ (tl [(7, .v (.one (.own 0 none)))]) 1

def place_Visits_x1_H (qx : api_Fence) (qx1 : List api_Fix) : (List api_Visit) × Int → St
  | (vx, vx1) => Mem.st ⟨[(1, ⟨76, 2, List.map api_Visit.enc vx⟩)], [(0, [.d (.str qx.Key), .d (.lst (List.map api_Spot.enc qx.Corners))])]⟩ (tl [(2, .v (.one (.box 0 0))), (7, .v (.one (.own 1 none))), (20, .v (.one (.d (.lst (List.map api_Fix.enc qx1))))), (21, .v (.one (.d (.int .i64 (qx1.length : Int))))), (22, .v (.one (.d (.int .i64 vx1))))]) 2

theorem place_Visits_x1_ok (qx : api_Fence) (qx1 : List api_Fix) (s : (List api_Visit) × Int) (r : ((List api_Visit) × Int) ⊕ ((List api_Visit))) (hF : place_Visits_x1 qx qx1 s = some r) : Awp prog 0 66 (cL (cL (cR (cL (cR (cR (cR (cB f28)))))))) (Out 0 (kk place_Visits_x1_k) (SS (place_Visits_x1_H qx qx1) (place_Visits_x1_S qx qx1)) r) (place_Visits_x1_H qx qx1 s) := by
  obtain ⟨vx, vx1⟩ := s
  unfold place_Visits_x1 at hF
  refine awp_seq ?_
  refine awp_region ?_
  refine aR 1 ?_
  refine aE ?_
  refine awp_seq ?_
  refine cE hF (fun h5 hF => ?_) fun h5 hF => ?_
  · refine awp_true (by kernel_rfl) h5 ?_
    refine awp_skip ?_
    refine awp_seq ?_
    refine awp_to (st' := place_Visits_x2_I qx qx1 vx vx1) (oT [] []) ?_
    refine bE hF fun vx5_1 h17 hF => ?_
    refine awp_sub (place_Visits_x2_ok qx qx1 vx vx1 h17) ?_
    refine awp_region ?_
    refine aR 2 ?_
    refine aE ?_
    exact oO hF [] [] rfl
  · refine awp_false (by kernel_rfl) h5 ?_
    refine awp_exit ?_
    exact oO hF [(0, 1)] [] rfl

def place_Visits_R (qx : api_Fence) (qx1 : List api_Fix) (r : (List api_Visit) × Int) : TV × Mem := (.tup [.one (.own 0 none), .one (.d (.int .i64 r.2))], ⟨[(0, ⟨76, 2, List.map api_Visit.enc r.1⟩)], []⟩)

theorem place_Visits_ok {qx : api_Fence} {qx1 : List api_Fix} {r} (hF : place_Visits qx qx1 = some r) : Holds prog 28 [.v (.agg [.d (.str qx.Key), .d (.lst (List.map api_Spot.enc qx.Corners))]), .v (.one (.d (.lst (List.map api_Fix.enc qx1))))] ⟨[], []⟩ (Is (place_Visits_R qx qx1 r)) := by
  unfold place_Visits at hF
  refine holds_of_awp hΓ (fn := f28) (c := cB f28) (A := 0) (nx := 0) (by kernel_rfl) (by kernel_rfl) (by kernel_rfl) (by kernel_rfl) (by kernel_rfl) (by kernel_rfl) (lowc_of (by kernel_rfl)) ?_
  show Awp prog 0 66 (cB f28) _ _
  refine awp_seq ?_
  refine awp_region ?_
  refine aR 3 ?_
  refine aE ?_
  refine awp_seq ?_
  refine awp_seq ?_
  refine bE hF fun vr3 h1 hF => ?_
  refine bE hF fun vr1 h2 hF => ?_
  refine bE hF fun vr h3 hF => ?_
  refine awp_region ?_
  refine aR 1 ?_
  refine aC (place_CheckFence_ok h1) [] [] [] ?_
  refine aR 1 ?_
  refine aC (place_trackFault_ok h2) [] [] [] ?_
  refine aR 1 ?_
  refine aC (base_First_ok h3) [] [] [7000] ?_
  refine aR 1 ?_
  refine aE ?_
  refine awp_seq ?_
  refine awp_region ?_
  refine aR 2 ?_
  refine aE ?_
  refine cE hF (fun h4 hF => ?_) fun h4 hF => ?_
  · refine awp_true (by kernel_rfl) h4 ?_
    refine awp_seq ?_
    refine awp_region ?_
    refine aR 3 ?_
    refine aE ?_
    refine awp_ret ?_
    exact oF hF [] [0]
  · refine awp_false (by kernel_rfl) h4 ?_
    refine awp_skip ?_
    refine awp_seq ?_
    refine awp_region ?_
    refine aR 1 ?_
    refine aE ?_
    refine awp_seq ?_
    refine awp_seq ?_
    refine awp_region ?_
    refine aR 1 ?_
    refine aL api_Fix.enc qx1 ?_
    refine aR 1 ?_
    refine aE ?_
    refine awp_block ?_
    refine awp_to (st' := place_Visits_x1_H qx qx1 ([], 0)) (oT [] [1]) ?_
    refine bE hF fun vx6_1 h18 hF => ?_
    refine awp_sub (awp_loop' (place_Visits_x1_H qx qx1) place_Visits_x1_k (place_Visits_x1_S qx qx1) (by intro x; exact fun h => nomatch h) h18 (place_Visits_x1_ok qx qx1)) ?_
    refine awp_seq ?_
    refine awp_region ?_
    refine aR 3 ?_
    refine aE ?_
    refine awp_ret ?_
    exact oF hF [] []

/-! ### beaconfleet/place.Stays -/
def place_Stays_x1_k : Bool → AEx
  | _ => .normal

def place_Stays_x1_S (qx : List api_Fix) (qx1 : Int) (qx2 : Int) : Bool → St
  | vx => Mem.st ⟨[], []⟩ (tl [(0, .v (.one (.d (.lst (List.map api_Fix.enc qx))))), (1, .v (.one (.d (.int .i64 qx1)))), (2, .v (.one (.d (.int .i64 qx2)))), (23, .v (.one (.d (.bool vx))))]) 0

def place_Stays_x1_I (qx : List api_Fix) (qx1 : Int) (qx2 : Int) : St := Mem.st ⟨[], []⟩ (tl [(0, .v (.one (.d (.lst (List.map api_Fix.enc qx))))), (1, .v (.one (.d (.int .i64 qx1)))), (2, .v (.one (.d (.int .i64 qx2))))]) 0

theorem place_Stays_x1_ok (qx : List api_Fix) (qx1 : Int) (qx2 : Int) {r} (hF : place_Stays_x1 qx1 qx2 = some r) : Awp prog 0 88 (cL (cL (cR (cR (cB f29))))) (Out 0 place_Stays_x1_k (place_Stays_x1_S qx qx1 qx2) r) (place_Stays_x1_I qx qx1 qx2) := by
  unfold place_Stays_x1 at hF
  refine bE hF fun vr h3 hF => ?_
  refine cE hF (fun h4 hF => ?_) fun h4 hF => ?_
  · refine awp_region ?_
    refine aR 1 ?_
    refine aCb (base_Out_ok h3) [] [] [] h4 ?_
    refine aR 4 ?_
    refine aE ?_
    exact oO hF [] [] rfl
  · refine bE hF fun vr2 h5 hF => ?_
    refine awp_region ?_
    refine aR 1 ?_
    refine aCb (base_Out_ok h3) [] [] [] h4 ?_
    refine aR 2 ?_
    refine aC (base_Out_ok h5) [] [] [] ?_
    refine aR 1 ?_
    refine aE ?_
    exact oO hF [] [] rfl

def place_Stays_x4_k : Bool → AEx
  | _ => .normal

def place_Stays_x4_S (qx : List api_Fix) (qx1 : Int) (qx2 : Int) (vx2 : List api_Stay) (vx3 : Int) (vx8 : Int) : Bool → St
  | vx10 => Mem.st ⟨[(0, ⟨79, 4, List.map api_Stay.enc vx2⟩)], []⟩ (tl [(0, .v (.one (.d (.lst (List.map api_Fix.enc qx))))), (1, .v (.one (.d (.int .i64 qx1)))), (2, .v (.one (.d (.int .i64 qx2)))), (9, .v (.one (.own 0 none))), (10, .v (.one (.d (.int .i64 vx3)))), (11, .v (.one (.d (.int .i64 vx8)))), (50, .v (.one (.d (.bool vx10))))]) 1

def place_Stays_x4_I (qx : List api_Fix) (qx1 : Int) (qx2 : Int) (vx2 : List api_Stay) (vx3 : Int) (vx8 : Int) : St := Mem.st ⟨[(0, ⟨79, 4, List.map api_Stay.enc vx2⟩)], []⟩ (tl [(0, .v (.one (.d (.lst (List.map api_Fix.enc qx))))), (1, .v (.one (.d (.int .i64 qx1)))), (2, .v (.one (.d (.int .i64 qx2)))), (9, .v (.one (.own 0 none))), (10, .v (.one (.d (.int .i64 vx3)))), (11, .v (.one (.d (.int .i64 vx8))))]) 1

theorem place_Stays_x4_ok (qx : List api_Fix) (qx1 : Int) (qx2 : Int) (vx2 : List api_Stay) (vx3 : Int) (vx8 : Int) {r} (hF : place_Stays_x4 qx qx1 vx3 vx8 = some r) : Awp prog 0 88 (cL (cL (cL (cL (cL (cR (cL (cR (cL (cL (cR (cL (cR (cR (cR (cR (cB f29))))))))))))))))) (Out 0 place_Stays_x4_k (place_Stays_x4_S qx qx1 qx2 vx2 vx3 vx8) r) (place_Stays_x4_I qx qx1 qx2 vx2 vx3 vx8) := by
  unfold place_Stays_x4 at hF
  refine cE hF (fun h9 hF => ?_) fun h9 hF => ?_
  · refine bE hF fun vy8 h10 hF => ?_
    refine bE hF fun _ h11 hF => ?_
    refine bE hF fun vy9 h12 hF => ?_
    refine bE hF fun _ h13 hF => ?_
    refine bE hF fun _ h14 hF => ?_
    refine aD ?_
    refine dR 2 ?_
    refine dL api_Fix.enc qx ?_
    refine dB h9 ?_
    refine dR 3 ?_
    refine dX (x_idx api_Fix.enc h10) ?_
    refine dR 1 ?_
    refine dC (place_spot_ok h11) [] [] [] ?_
    refine dR 2 ?_
    refine dX (x_idx api_Fix.enc h12) ?_
    refine dR 1 ?_
    refine dC (place_spot_ok h13) [] [] [] ?_
    refine dC (place_square_ok h14) [] [] [] ?_
    refine dR 5 ?_
    refine dE ?_
    exact oO hF [] [] rfl
  · refine aD ?_
    refine dR 2 ?_
    refine dL api_Fix.enc qx ?_
    refine dB h9 ?_
    refine dR 17 ?_
    refine dE ?_
    exact oO hF [] [] rfl

def place_Stays_x3_k : Int → AEx
  | _ => .exit 2

def place_Stays_x3_S (qx : List api_Fix) (qx1 : Int) (qx2 : Int) (vx2 : List api_Stay) (vx3 : Int) : Int → St
  | vx11 => Mem.st ⟨[(0, ⟨79, 4, List.map api_Stay.enc vx2⟩)], []⟩ (tl [(0, .v (.one (.d (.lst (List.map api_Fix.enc qx))))), (1, .v (.one (.d (.int .i64 qx1)))), (2, .v (.one (.d (.int .i64 qx2)))), (9, .v (.one (.own 0 none))), (10, .v (.one (.d (.int .i64 vx3)))), (11, .v (.one (.d (.int .i64 vx11))))]) 1

def place_Stays_x3_H (qx : List api_Fix) (qx1 : Int) (qx2 : Int) (vx2 : List api_Stay) (vx3 : Int) : Int → St
  | vx8 => Mem.st ⟨[(0, ⟨79, 4, List.map api_Stay.enc vx2⟩)], []⟩ (tl [(0, .v (.one (.d (.lst (List.map api_Fix.enc qx))))), (1, .v (.one (.d (.int .i64 qx1)))), (2, .v (.one (.d (.int .i64 qx2)))), (9, .v (.one (.own 0 none))), (10, .v (.one (.d (.int .i64 vx3)))), (11, .v (.one (.d (.int .i64 vx8))))]) 1

theorem place_Stays_x3_ok (qx : List api_Fix) (qx1 : Int) (qx2 : Int) (vx2 : List api_Stay) (vx3 : Int) (vx8 : Int) (r : (Int) ⊕ (Int)) (hF : place_Stays_x3 qx qx1 vx3 vx8 = some r) : Awp prog 0 88 (cL (cL (cL (cR (cL (cR (cL (cL (cR (cL (cR (cR (cR (cR (cB f29))))))))))))))) (Out 0 (kk place_Stays_x3_k) (SS (place_Stays_x3_H qx qx1 qx2 vx2 vx3) (place_Stays_x3_S qx qx1 qx2 vx2 vx3)) r) (place_Stays_x3_H qx qx1 qx2 vx2 vx3 vx8) := by
  unfold place_Stays_x3 at hF
  refine awp_seq ?_
  refine awp_seq ?_
  refine awp_to (st' := place_Stays_x4_I qx qx1 qx2 vx2 vx3 vx8) (oT [] []) ?_
  refine bE hF fun vx10_1 h15 hF => ?_
  refine awp_sub (place_Stays_x4_ok qx qx1 qx2 vx2 vx3 vx8 h15) ?_
  refine cE hF (fun h16 hF => ?_) fun h16 hF => ?_
  · refine awp_true (by kernel_rfl) h16 ?_
    refine awp_skip ?_
    refine awp_block ?_
    refine awp_region ?_
    refine aR 3 ?_
    refine aE ?_
    exact oO hF [] [] rfl
  · refine awp_false (by kernel_rfl) h16 ?_
    refine awp_exit ?_
    exact oO hF [] [] rfl

def place_Stays_x2_k : (List api_Stay) → AEx
  | _ => .exit 0

def place_Stays_x2_S (qx : List api_Fix) (qx1 : Int) (qx2 : Int) : (List api_Stay) → St
  | vx12 => Mem.st ⟨[(0, ⟨79, 4, List.map api_Stay.enc vx12⟩)], []⟩ (tl [(9, .v (.one (.own 0 none)))]) 1

def place_Stays_x2_H (qx : List api_Fix) (qx1 : Int) (qx2 : Int) : (List api_Stay) × Int → St
  | (vx2, vx3) => Mem.st ⟨[(0, ⟨79, 4, List.map api_Stay.enc vx2⟩)], []⟩ (tl [(0, .v (.one (.d (.lst (List.map api_Fix.enc qx))))), (1, .v (.one (.d (.int .i64 qx1)))), (2, .v (.one (.d (.int .i64 qx2)))), (9, .v (.one (.own 0 none))), (10, .v (.one (.d (.int .i64 vx3))))]) 1

theorem place_Stays_x2_ok (qx : List api_Fix) (qx1 : Int) (qx2 : Int) (s : (List api_Stay) × Int) (r : ((List api_Stay) × Int) ⊕ ((List api_Stay))) (hF : place_Stays_x2 qx qx1 qx2 s = some r) : Awp prog 0 88 (cL (cL (cR (cL (cR (cR (cR (cR (cB f29))))))))) (Out 0 (kk place_Stays_x2_k) (SS (place_Stays_x2_H qx qx1 qx2) (place_Stays_x2_S qx qx1 qx2)) r) (place_Stays_x2_H qx qx1 qx2 s) := by
  obtain ⟨vx2, vx3⟩ := s
  unfold place_Stays_x2 at hF
  refine awp_seq ?_
  refine awp_seq ?_
  refine awp_region ?_
  refine aR 2 ?_
  refine aL api_Fix.enc qx ?_
  refine aR 1 ?_
  refine aE ?_
  refine cE hF (fun h8 hF => ?_) fun h8 hF => ?_
  · refine awp_true (by kernel_rfl) h8 ?_
    refine awp_skip ?_
    refine awp_block ?_
    refine awp_seq ?_
    refine awp_region ?_
    refine aR 3 ?_
    refine aE ?_
    refine awp_seq ?_
    refine awp_block ?_
    refine awp_to (st' := place_Stays_x3_H qx qx1 qx2 vx2 vx3 (IntKind.wrap .i64 (vx3 + 1))) (oT [] []) ?_
    refine bE hF fun vx11_1 h17 hF => ?_
    refine awp_sub (awp_loop' (place_Stays_x3_H qx qx1 qx2 vx2 vx3) place_Stays_x3_k (place_Stays_x3_S qx qx1 qx2 vx2 vx3) (by intro x; exact fun h => nomatch h) h17 (place_Stays_x3_ok qx qx1 qx2 vx2 vx3)) ?_
    refine awp_seq ?_
    refine bE hF fun vy10 h18 hF => ?_
    refine awp_region ?_
    refine aR 3 ?_
    refine aX (x_idx api_Fix.enc h18) ?_
    refine aR 3 ?_
    refine aE ?_
    refine awp_seq ?_
    refine bE hF fun vy11 h19 hF => ?_
    refine aD ?_
    refine dR 4 ?_
    refine dX (x_idx api_Fix.enc h19) ?_
    refine dR 5 ?_
    refine dE ?_
    refine cE hF (fun h20 hF => ?_) fun h20 hF => ?_
    · refine awp_true (by kernel_rfl) h20 ?_
      refine awp_seq ?_
      refine bE hF fun _ h21 hF => ?_
      refine gE hF fun h22 hF => ?_
      refine aD ?_
      refine dR 3 ?_
      refine dX (x_idx api_Fix.enc h19) ?_
      refine dR 6 ?_
      refine dX (x_idx api_Fix.enc h19) ?_
      refine dR 1 ?_
      refine dC (place_spot_ok h21) [] [] [] ?_
      refine dR 2 ?_
      refine dX (x_app api_Stay.enc 0 h22) ?_
      refine dR 1 ?_
      refine dE ?_
      refine awp_region ?_
      refine aR 2 ?_
      refine aE ?_
      exact oO hF [(0, 32001)] [] rfl
    · refine awp_false (by kernel_rfl) h20 ?_
      refine awp_region ?_
      refine aR 3 ?_
      refine aE ?_
      exact oO hF [] [] rfl
  · refine awp_false (by kernel_rfl) h8 ?_
    refine awp_exit ?_
    exact oO hF [] [] rfl

def place_Stays_R (qx : List api_Fix) (qx1 : Int) (qx2 : Int) (r : (List api_Stay) × Int) : TV × Mem := (.tup [.one (.own 0 none), .one (.d (.int .i64 r.2))], ⟨[(0, ⟨79, 4, List.map api_Stay.enc r.1⟩)], []⟩)

theorem place_Stays_ok {qx : List api_Fix} {qx1 : Int} {qx2 : Int} {r} (hF : place_Stays qx qx1 qx2 = some r) : Holds prog 29 [.v (.one (.d (.lst (List.map api_Fix.enc qx)))), .v (.one (.d (.int .i64 qx1))), .v (.one (.d (.int .i64 qx2)))] ⟨[], []⟩ (Is (place_Stays_R qx qx1 qx2 r)) := by
  unfold place_Stays at hF
  refine holds_of_awp hΓ (fn := f29) (c := cB f29) (A := 0) (nx := 0) (by kernel_rfl) (by kernel_rfl) (by kernel_rfl) (by kernel_rfl) (by kernel_rfl) (by kernel_rfl) (lowc_of (by kernel_rfl)) ?_
  show Awp prog 0 88 (cB f29) _ _
  refine awp_seq ?_
  refine awp_region ?_
  refine aR 2 ?_
  refine aE ?_
  refine awp_seq ?_
  refine awp_seq ?_
  refine bE hF fun vr1 h1 hF => ?_
  refine awp_region ?_
  refine aR 1 ?_
  refine aC (place_trackFault_ok h1) [] [] [] ?_
  refine aR 1 ?_
  refine aE ?_
  refine awp_seq ?_
  refine awp_region ?_
  refine aR 2 ?_
  refine aE ?_
  refine cE hF (fun h2 hF => ?_) fun h2 hF => ?_
  · refine awp_true (by kernel_rfl) h2 ?_
    refine awp_seq ?_
    refine awp_region ?_
    refine aR 3 ?_
    refine aE ?_
    refine awp_ret ?_
    exact oF hF [] [0]
  · refine awp_false (by kernel_rfl) h2 ?_
    refine awp_skip ?_
    refine awp_seq ?_
    refine awp_seq ?_
    refine awp_to (st' := place_Stays_x1_I qx qx1 qx2) (oT [] []) ?_
    refine bE hF fun vx1 h6 hF => ?_
    refine awp_sub (place_Stays_x1_ok qx qx1 qx2 h6) ?_
    refine cE hF (fun h7 hF => ?_) fun h7 hF => ?_
    · refine awp_true (by kernel_rfl) h7 ?_
      refine awp_seq ?_
      refine awp_region ?_
      refine aR 2 ?_
      refine aE ?_
      refine awp_ret ?_
      exact oF hF [] [0]
    · refine awp_false (by kernel_rfl) h7 ?_
      refine awp_skip ?_
      refine awp_seq ?_
      refine awp_region ?_
      refine aR 1 ?_
      refine aE ?_
      refine awp_seq ?_
      refine awp_seq ?_
      refine awp_region ?_
      refine aR 1 ?_
      refine aE ?_
      refine awp_block ?_
      refine awp_to (st' := place_Stays_x2_H qx qx1 qx2 ([], 0)) (oT [] [0]) ?_
      refine bE hF fun vx12_1 h23 hF => ?_
      refine awp_sub (awp_loop' (place_Stays_x2_H qx qx1 qx2) place_Stays_x2_k (place_Stays_x2_S qx qx1 qx2) (by intro x; exact fun h => nomatch h) h23 (place_Stays_x2_ok qx qx1 qx2)) ?_
      refine awp_seq ?_
      refine awp_region ?_
      refine aR 3 ?_
      refine aE ?_
      refine awp_ret ?_
      exact oF hF [] []

/-! ### beaconfleet/place.root -/
def place_root_x1_k : Int → AEx
  | _ => .exit 0

def place_root_x1_S (qn : Int) : Int → St
  | vlow1 => Mem.st ⟨[], []⟩ (tl [(3, .v (.one (.d (.int .i64 vlow1))))]) 0

def place_root_x1_H (qn : Int) : Int × Int → St
  | (vlow, vhigh) => Mem.st ⟨[], []⟩ (tl [(0, .v (.one (.d (.int .i64 qn)))), (3, .v (.one (.d (.int .i64 vlow)))), (4, .v (.one (.d (.int .i64 vhigh))))]) 0

theorem place_root_x1_ok (qn : Int) (s : Int × Int) (r : (Int × Int) ⊕ (Int)) (hF : place_root_x1 qn s = some r) : Awp prog 0 22 (cL (cL (cL (cR (cR (cB f78)))))) (Out 0 (kk place_root_x1_k) (SS (place_root_x1_H qn) (place_root_x1_S qn)) r) (place_root_x1_H qn s) := by
  obtain ⟨vlow, vhigh⟩ := s
  unfold place_root_x1 at hF
  refine awp_seq ?_
  refine awp_seq ?_
  refine awp_region ?_
  refine aR 4 ?_
  refine aE ?_
  refine cE hF (fun h1 hF => ?_) fun h1 hF => ?_
  · refine awp_true (by kernel_rfl) h1 ?_
    refine awp_skip ?_
    refine awp_block ?_
    refine awp_seq ?_
    refine awp_region ?_
    refine aR 5 ?_
    refine aE ?_
    refine awp_seq ?_
    refine awp_region ?_
    refine aR 5 ?_
    refine aE ?_
    refine cE hF (fun h2 hF => ?_) fun h2 hF => ?_
    · refine awp_true (by kernel_rfl) h2 ?_
      refine awp_region ?_
      refine aR 2 ?_
      refine aE ?_
      exact oO hF [] [] rfl
    · refine awp_false (by kernel_rfl) h2 ?_
      refine awp_region ?_
      refine aR 2 ?_
      refine aE ?_
      exact oO hF [] [] rfl
  · refine awp_false (by kernel_rfl) h1 ?_
    refine awp_exit ?_
    exact oO hF [] [] rfl

def place_root_R (qn : Int) (r : Int) : TV × Mem := (.v (.one (.d (.int .i64 r))), ⟨[], []⟩)

theorem place_root_ok {qn : Int} {r} (hF : place_root qn = some r) : Holds prog 78 [.v (.one (.d (.int .i64 qn)))] ⟨[], []⟩ (Is (place_root_R qn r)) := by
  unfold place_root at hF
  refine holds_of_awp hΓ (fn := f78) (c := cB f78) (A := 0) (nx := 0) (by kernel_rfl) (by kernel_rfl) (by kernel_rfl) (by kernel_rfl) (by kernel_rfl) (by kernel_rfl) (lowc_of (by kernel_rfl)) ?_
  show Awp prog 0 22 (cB f78) _ _
  refine awp_seq ?_
  refine awp_region ?_
  refine aR 1 ?_
  refine aE ?_
  refine awp_seq ?_
  refine awp_region ?_
  refine aR 2 ?_
  refine aE ?_
  refine awp_seq ?_
  refine awp_block ?_
  refine awp_to (st' := place_root_x1_H qn (0, 2147483648)) (oT [] []) ?_
  refine bE hF fun vlow1_1 h3 hF => ?_
  refine awp_sub (awp_loop' (place_root_x1_H qn) place_root_x1_k (place_root_x1_S qn) (by intro x; exact fun h => nomatch h) h3 (place_root_x1_ok qn)) ?_
  refine awp_seq ?_
  refine awp_region ?_
  refine aR 2 ?_
  refine aE ?_
  refine awp_ret ?_
  exact oF hF [] []

/-! ### beaconfleet/place.Length -/
def place_Length_x1_k : Int → AEx
  | _ => .exit 0

def place_Length_x1_S (ql : List api_Fix) : Int → St
  | vn1 => Mem.st ⟨[], []⟩ (tl [(5, .v (.one (.d (.int .i64 vn1))))]) 0

def place_Length_x1_H (ql : List api_Fix) : Int × Int → St
  | (vn, vi) => Mem.st ⟨[], []⟩ (tl [(0, .v (.one (.d (.lst (List.map api_Fix.enc ql))))), (5, .v (.one (.d (.int .i64 vn)))), (6, .v (.one (.d (.int .i64 vi))))]) 0

theorem place_Length_x1_ok (ql : List api_Fix) (s : Int × Int) (r : (Int × Int) ⊕ (Int)) (hF : place_Length_x1 ql s = some r) : Awp prog 0 34 (cL (cL (cR (cL (cR (cR (cR (cB f30)))))))) (Out 0 (kk place_Length_x1_k) (SS (place_Length_x1_H ql) (place_Length_x1_S ql)) r) (place_Length_x1_H ql s) := by
  obtain ⟨vn, vi⟩ := s
  unfold place_Length_x1 at hF
  refine awp_seq ?_
  refine awp_seq ?_
  refine awp_region ?_
  refine aR 2 ?_
  refine aL api_Fix.enc ql ?_
  refine aR 1 ?_
  refine aE ?_
  refine cE hF (fun h3 hF => ?_) fun h3 hF => ?_
  · refine awp_true (by kernel_rfl) h3 ?_
    refine awp_skip ?_
    refine awp_seq ?_
    refine awp_block ?_
    refine bE hF fun vy2 h4 hF => ?_
    refine bE hF fun _ h5 hF => ?_
    refine bE hF fun vy3 h6 hF => ?_
    refine bE hF fun _ h7 hF => ?_
    refine bE hF fun _ h8 hF => ?_
    refine bE hF fun vr2 h9 hF => ?_
    refine aD ?_
    refine dR 4 ?_
    refine dX (x_idx api_Fix.enc h4) ?_
    refine dR 1 ?_
    refine dC (place_spot_ok h5) [] [] [] ?_
    refine dR 2 ?_
    refine dX (x_idx api_Fix.enc h6) ?_
    refine dR 1 ?_
    refine dC (place_spot_ok h7) [] [] [] ?_
    refine dC (place_square_ok h8) [] [] [] ?_
    refine dC (place_root_ok h9) [] [] [] ?_
    refine dR 2 ?_
    refine dE ?_
    refine awp_region ?_
    refine aR 3 ?_
    refine aE ?_
    exact oO hF [] [] rfl
  · refine awp_false (by kernel_rfl) h3 ?_
    refine awp_exit ?_
    exact oO hF [] [] rfl

def place_Length_R (ql : List api_Fix) (r : Int × Int) : TV × Mem := (.tup [.one (.d (.int .i64 r.1)), .one (.d (.int .i64 r.2))], ⟨[], []⟩)

theorem place_Length_ok {ql : List api_Fix} {r} (hF : place_Length ql = some r) : Holds prog 30 [.v (.one (.d (.lst (List.map api_Fix.enc ql))))] ⟨[], []⟩ (Is (place_Length_R ql r)) := by
  unfold place_Length at hF
  refine holds_of_awp hΓ (fn := f30) (c := cB f30) (A := 0) (nx := 0) (by kernel_rfl) (by kernel_rfl) (by kernel_rfl) (by kernel_rfl) (by kernel_rfl) (by kernel_rfl) (lowc_of (by kernel_rfl)) ?_
  show Awp prog 0 34 (cB f30) _ _
  refine awp_seq ?_
  refine awp_region ?_
  refine aR 2 ?_
  refine aE ?_
  refine awp_seq ?_
  refine awp_seq ?_
  refine bE hF fun vr1 h1 hF => ?_
  refine awp_region ?_
  refine aR 1 ?_
  refine aC (place_trackFault_ok h1) [] [] [] ?_
  refine aR 1 ?_
  refine aE ?_
  refine awp_seq ?_
  refine awp_region ?_
  refine aR 2 ?_
  refine aE ?_
  refine cE hF (fun h2 hF => ?_) fun h2 hF => ?_
  · refine awp_true (by kernel_rfl) h2 ?_
    refine awp_seq ?_
    refine awp_region ?_
    refine aR 3 ?_
    refine aE ?_
    refine awp_ret ?_
    exact oF hF [] []
  · refine awp_false (by kernel_rfl) h2 ?_
    refine awp_skip ?_
    refine awp_seq ?_
    refine awp_region ?_
    refine aR 1 ?_
    refine aE ?_
    refine awp_seq ?_
    refine awp_seq ?_
    refine awp_region ?_
    refine aR 1 ?_
    refine aE ?_
    refine awp_block ?_
    refine awp_to (st' := place_Length_x1_H ql (0, 1)) (oT [] []) ?_
    refine bE hF fun vn1_1 h10 hF => ?_
    refine awp_sub (awp_loop' (place_Length_x1_H ql) place_Length_x1_k (place_Length_x1_S ql) (by intro x; exact fun h => nomatch h) h10 (place_Length_x1_ok ql)) ?_
    refine awp_seq ?_
    refine awp_region ?_
    refine aR 3 ?_
    refine aE ?_
    refine awp_ret ?_
    exact oF hF [] []

/-! ### beaconfleet/fleetref2.TrackFault$1 -/
def fleetref2_TrackFault_1_R (qx : api_Fix) (qx1 : List api_Fix) (r : Bool) : TV × Mem := (.v (.one (.d (.bool r))), ⟨[], [(0, [.d (.lst (List.map api_Fix.enc qx1))])]⟩)

theorem fleetref2_TrackFault_1_ok {qx : api_Fix} {qx1 : List api_Fix} {r} (hF : fleetref2_TrackFault_1 qx qx1 = some r) : Holds prog 80 [.v (.agg [.d (.str qx.Device), .d (.int .i64 qx.At), .d (.int .i64 qx.X), .d (.int .i64 qx.Y), .d (.int .i64 qx.Error)]), .v (.one (.box 0 0))] ⟨[], [(0, [.d (.lst (List.map api_Fix.enc qx1))])]⟩ (Is (fleetref2_TrackFault_1_R qx qx1 r)) := by
  unfold fleetref2_TrackFault_1 at hF
  refine holds_of_awp hΓ (fn := f80) (c := cB f80) (A := 1) (nx := 1) (by kernel_rfl) (by kernel_rfl) (by kernel_rfl) (by kernel_rfl) (by kernel_rfl) (by kernel_rfl) (lowc_of (by kernel_rfl)) ?_
  show Awp prog 1 11 (cB f80) _ _
  refine awp_seq ?_
  refine awp_region ?_
  refine aR 2 ?_
  refine aE ?_
  refine awp_seq ?_
  refine bE hF fun vy h1 hF => ?_
  refine aD ?_
  refine dR 3 ?_
  refine dX (x_idx api_Fix.enc h1) ?_
  refine dR 4 ?_
  refine dE ?_
  refine awp_ret ?_
  exact oF hF [] []

/-! ### slices.IndexFunc[[]beaconfleet/api.Fix,beaconfleet/api.Fix] -/
def slices_IndexFunc_api_Fix_api_Fix_f1_fleetref2_TrackFault_1_x1_k : Unit ⊕ Int → AEx
  | .inl _ => .exit 0
  | .inr _ => .ret

def slices_IndexFunc_api_Fix_api_Fix_f1_fleetref2_TrackFault_1_x1_S (qs : List api_Fix) : Unit ⊕ Int → St
  | .inl _ => Mem.st ⟨[], [(0, [.d (.lst (List.map api_Fix.enc qs))])]⟩ (tl []) 1
  | .inr vx1 => Mem.st ⟨[], [(0, [.d (.lst (List.map api_Fix.enc qs))])]⟩ (tl [(4, .v (.one (.d (.int .i64 vx1))))]) 1

def slices_IndexFunc_api_Fix_api_Fix_f1_fleetref2_TrackFault_1_x1_H (qs : List api_Fix) : Int → St
  | vx => Mem.st ⟨[], [(0, [.d (.lst (List.map api_Fix.enc qs))])]⟩ (tl [(0, .v (.one (.d (.lst (List.map api_Fix.enc qs))))), (1, .v (.one (.fn 80 [0]))), (7, .v (.one (.d (.int .i64 (qs.length : Int))))), (8, .v (.one (.d (.int .i64 vx))))]) 1

theorem slices_IndexFunc_api_Fix_api_Fix_f1_fleetref2_TrackFault_1_x1_ok (qs : List api_Fix) (vx : Int) (r : (Int) ⊕ (Unit ⊕ Int)) (hF : slices_IndexFunc_api_Fix_api_Fix_f1_fleetref2_TrackFault_1_x1 qs vx = some r) : Awp prog 1 19 (cL (cL (cR (cL (cR (cB f81)))))) (Out 1 (kk slices_IndexFunc_api_Fix_api_Fix_f1_fleetref2_TrackFault_1_x1_k) (SS (slices_IndexFunc_api_Fix_api_Fix_f1_fleetref2_TrackFault_1_x1_H qs) (slices_IndexFunc_api_Fix_api_Fix_f1_fleetref2_TrackFault_1_x1_S qs)) r) (slices_IndexFunc_api_Fix_api_Fix_f1_fleetref2_TrackFault_1_x1_H qs vx) := by
  unfold slices_IndexFunc_api_Fix_api_Fix_f1_fleetref2_TrackFault_1_x1 at hF
  refine awp_seq ?_
  refine awp_region ?_
  refine aR 1 ?_
  refine aE ?_
  refine awp_seq ?_
  refine cE hF (fun h1 hF => ?_) fun h1 hF => ?_
  · refine awp_true (by kernel_rfl) h1 ?_
    refine awp_skip ?_
    refine awp_seq ?_
    refine awp_block ?_
    refine awp_seq ?_
    refine awp_region ?_
    refine aR 2 ?_
    refine aE ?_
    refine awp_seq ?_
    refine bE hF fun vy1 h2 hF => ?_
    refine bE hF fun vr1 h3 hF => ?_
    refine awp_region ?_
    refine aR 3 ?_
    refine aX (x_idx api_Fix.enc h2) ?_
    refine aR 1 ?_
    refine aC (fleetref2_TrackFault_1_ok h3) [] [] [] ?_
    refine aE ?_
    refine cE hF (fun h4 hF => ?_) fun h4 hF => ?_
    · refine awp_true (by kernel_rfl) h4 ?_
      refine awp_seq ?_
      refine awp_region ?_
      refine aR 2 ?_
      refine aE ?_
      refine awp_ret ?_
      exact oO hF [] [] rfl
    · refine awp_false (by kernel_rfl) h4 ?_
      refine awp_skip ?_
      refine awp_region ?_
      refine aR 2 ?_
      refine aE ?_
      exact oO hF [] [] rfl
  · refine awp_false (by kernel_rfl) h1 ?_
    refine awp_exit ?_
    exact oO hF [] [] rfl

def slices_IndexFunc_api_Fix_api_Fix_f1_fleetref2_TrackFault_1_R (qs : List api_Fix) (r : Int) : TV × Mem := (.v (.one (.d (.int .i64 r))), ⟨[], [(0, [.d (.lst (List.map api_Fix.enc qs))])]⟩)

theorem slices_IndexFunc_api_Fix_api_Fix_f1_fleetref2_TrackFault_1_ok {qs : List api_Fix} {r} (hF : slices_IndexFunc_api_Fix_api_Fix_f1_fleetref2_TrackFault_1 qs = some r) : Holds prog 81 [.v (.one (.d (.lst (List.map api_Fix.enc qs)))), .v (.one (.fn 80 [0]))] ⟨[], [(0, [.d (.lst (List.map api_Fix.enc qs))])]⟩ (Is (slices_IndexFunc_api_Fix_api_Fix_f1_fleetref2_TrackFault_1_R qs r)) := by
  unfold slices_IndexFunc_api_Fix_api_Fix_f1_fleetref2_TrackFault_1 at hF
  refine holds_of_awp hΓ (fn := f81) (c := cB f81) (A := 1) (nx := 1) (by kernel_rfl) (by kernel_rfl) (by kernel_rfl) (by kernel_rfl) (by kernel_rfl) (by kernel_rfl) (lowc_of (by kernel_rfl)) ?_
  show Awp prog 1 19 (cB f81) _ _
  refine awp_seq ?_
  refine awp_region ?_
  refine aR 1 ?_
  refine aE ?_
  refine awp_seq ?_
  refine awp_seq ?_
  refine awp_region ?_
  refine aR 1 ?_
  refine aL api_Fix.enc qs ?_
  refine aR 1 ?_
  refine aE ?_
  refine awp_block ?_
  refine awp_to (st' := slices_IndexFunc_api_Fix_api_Fix_f1_fleetref2_TrackFault_1_x1_H qs 0) (oT [] []) ?_
  refine bE hF fun x h5 hF => ?_
  rcases x with _ | vx1_1
  · refine awp_sub (awp_loop' (slices_IndexFunc_api_Fix_api_Fix_f1_fleetref2_TrackFault_1_x1_H qs) slices_IndexFunc_api_Fix_api_Fix_f1_fleetref2_TrackFault_1_x1_k (slices_IndexFunc_api_Fix_api_Fix_f1_fleetref2_TrackFault_1_x1_S qs) (by intro x; rcases x with x | x <;> exact fun h => nomatch h) h5 (slices_IndexFunc_api_Fix_api_Fix_f1_fleetref2_TrackFault_1_x1_ok qs)) ?_
    refine awp_seq ?_
    refine awp_region ?_
    refine aR 1 ?_
    refine aE ?_
    refine awp_ret ?_
    exact oF hF [] []
  · refine awp_sub (awp_loop' (slices_IndexFunc_api_Fix_api_Fix_f1_fleetref2_TrackFault_1_x1_H qs) slices_IndexFunc_api_Fix_api_Fix_f1_fleetref2_TrackFault_1_x1_k (slices_IndexFunc_api_Fix_api_Fix_f1_fleetref2_TrackFault_1_x1_S qs) (by intro x; rcases x with x | x <;> exact fun h => nomatch h) h5 (slices_IndexFunc_api_Fix_api_Fix_f1_fleetref2_TrackFault_1_x1_ok qs)) ?_
    exact oF hF [] []

/-! ### slices.ContainsFunc[[]beaconfleet/api.Fix,beaconfleet/api.Fix] -/
def slices_ContainsFunc_api_Fix_api_Fix_f1_fleetref2_TrackFault_1_R (qs : List api_Fix) (r : Bool) : TV × Mem := (.v (.one (.d (.bool r))), ⟨[], [(0, [.d (.lst (List.map api_Fix.enc qs))])]⟩)

theorem slices_ContainsFunc_api_Fix_api_Fix_f1_fleetref2_TrackFault_1_ok {qs : List api_Fix} {r} (hF : slices_ContainsFunc_api_Fix_api_Fix_f1_fleetref2_TrackFault_1 qs = some r) : Holds prog 79 [.v (.one (.d (.lst (List.map api_Fix.enc qs)))), .v (.one (.fn 80 [0]))] ⟨[], [(0, [.d (.lst (List.map api_Fix.enc qs))])]⟩ (Is (slices_ContainsFunc_api_Fix_api_Fix_f1_fleetref2_TrackFault_1_R qs r)) := by
  unfold slices_ContainsFunc_api_Fix_api_Fix_f1_fleetref2_TrackFault_1 at hF
  refine holds_of_awp hΓ (fn := f79) (c := cB f79) (A := 1) (nx := 1) (by kernel_rfl) (by kernel_rfl) (by kernel_rfl) (by kernel_rfl) (by kernel_rfl) (by kernel_rfl) (lowc_of (by kernel_rfl)) ?_
  show Awp prog 1 9 (cB f79) _ _
  refine awp_seq ?_
  refine awp_region ?_
  refine aR 1 ?_
  refine aE ?_
  refine awp_seq ?_
  refine bE hF fun vr2 h1 hF => ?_
  refine awp_region ?_
  refine aR 2 ?_
  refine aC (slices_IndexFunc_api_Fix_api_Fix_f1_fleetref2_TrackFault_1_ok h1) [] [] [] ?_
  refine aR 2 ?_
  refine aE ?_
  refine awp_ret ?_
  exact oF hF [] []

/-! ### beaconfleet/fleetref2.TrackFault -/
def fleetref2_TrackFault_R (ql : List api_Fix) (r : Int) : TV × Mem := (.v (.one (.d (.int .i64 r))), ⟨[], []⟩)

theorem fleetref2_TrackFault_ok {ql : List api_Fix} {r} (hF : fleetref2_TrackFault ql = some r) : Holds prog 31 [.v (.one (.d (.lst (List.map api_Fix.enc ql))))] ⟨[], []⟩ (Is (fleetref2_TrackFault_R ql r)) := by
  unfold fleetref2_TrackFault at hF
  refine holds_of_awp hΓ (fn := f31) (c := cB f31) (A := 0) (nx := 0) (by kernel_rfl) (by kernel_rfl) (by kernel_rfl) (by kernel_rfl) (by kernel_rfl) (by kernel_rfl) (lowc_of (by kernel_rfl)) ?_
  show Awp prog 0 12 (cB f31) _ _
  refine awp_seq ?_
  refine awp_region ?_
  refine aR 2 ?_
  refine aE ?_
  refine awp_seq ?_
  refine awp_seq ?_
  refine bE hF fun vr5 h1 hF => ?_
  refine awp_region ?_
  refine aR 1 ?_
  refine aC (fleetref2_FixesFault_ok h1) [] [] [] ?_
  refine aR 1 ?_
  refine aE ?_
  refine awp_seq ?_
  refine awp_region ?_
  refine aR 2 ?_
  refine aE ?_
  refine cE hF (fun h2 hF => ?_) fun h2 hF => ?_
  · refine awp_true (by kernel_rfl) h2 ?_
    refine awp_seq ?_
    refine awp_region ?_
    refine aR 2 ?_
    refine aE ?_
    refine awp_ret ?_
    exact oF hF [] []
  · refine awp_false (by kernel_rfl) h2 ?_
    refine awp_skip ?_
    refine awp_seq ?_
    refine awp_seq ?_
    refine bE hF fun vr h3 hF => ?_
    refine awp_region ?_
    refine aR 2 ?_
    refine aC (slices_ContainsFunc_api_Fix_api_Fix_f1_fleetref2_TrackFault_1_ok h3) [] [] [] ?_
    refine aE ?_
    refine cE hF (fun h4 hF => ?_) fun h4 hF => ?_
    · refine awp_true (by kernel_rfl) h4 ?_
      refine awp_seq ?_
      refine awp_region ?_
      refine aR 1 ?_
      refine aE ?_
      refine awp_ret ?_
      exact oF hF [] []
    · refine awp_false (by kernel_rfl) h4 ?_
      refine awp_skip ?_
      refine awp_seq ?_
      refine awp_region ?_
      refine aR 1 ?_
      refine aE ?_
      refine awp_ret ?_
      exact oF hF [] []

/-! ### beaconfleet/fleetlaw2.when -/
def fleetlaw2_when_R (qis : Bool) (qe : Int) (r : Int) : TV × Mem := (.v (.one (.d (.int .i64 r))), ⟨[], []⟩)

theorem fleetlaw2_when_ok {qis : Bool} {qe : Int} {r} (hF : fleetlaw2_when qis qe = some r) : Holds prog 32 [.v (.one (.d (.bool qis))), .v (.one (.d (.int .i64 qe)))] ⟨[], []⟩ (Is (fleetlaw2_when_R qis qe r)) := by
  unfold fleetlaw2_when at hF
  refine holds_of_awp hΓ (fn := f32) (c := cB f32) (A := 0) (nx := 0) (by kernel_rfl) (by kernel_rfl) (by kernel_rfl) (by kernel_rfl) (by kernel_rfl) (by kernel_rfl) (lowc_of (by kernel_rfl)) ?_
  show Awp prog 0 7 (cB f32) _ _
  refine awp_seq ?_
  refine awp_region ?_
  refine aR 1 ?_
  refine aE ?_
  refine awp_seq ?_
  refine awp_seq ?_
  refine awp_region ?_
  refine aR 1 ?_
  refine aE ?_
  refine cE hF (fun h1 hF => ?_) fun h1 hF => ?_
  · refine awp_true (by kernel_rfl) h1 ?_
    refine awp_seq ?_
    refine awp_region ?_
    refine aR 2 ?_
    refine aE ?_
    refine awp_ret ?_
    exact oF hF [] []
  · refine awp_false (by kernel_rfl) h1 ?_
    refine awp_skip ?_
    refine awp_seq ?_
    refine awp_region ?_
    refine aR 1 ?_
    refine aE ?_
    refine awp_ret ?_
    exact oF hF [] []

/-! ### beaconfleet/fleetref2.VisitsOf -/
def fleetref2_VisitsOf_x3_k : Bool → AEx
  | _ => .normal

def fleetref2_VisitsOf_x3_S (qf : api_Fence) (ql : List api_Fix) (vout : List api_Visit) (vinside : Bool) (vx : Int) (vy2 : api_Fix) (vr1 : Int) : Bool → St
  | vx3 => Mem.st ⟨[(1, ⟨76, 2, List.map api_Visit.enc vout⟩)], [(0, [.d (.str qf.Key), .d (.lst (List.map api_Spot.enc qf.Corners))]), (2, [.d (.str vy2.Device), .d (.int .i64 vy2.At), .d (.int .i64 vy2.X), .d (.int .i64 vy2.Y), .d (.int .i64 vy2.Error)])]⟩ (tl [(2, .v (.one (.box 0 0))), (5, .v (.one (.own 1 none))), (6, .v (.one (.d (.bool vinside)))), (8, .v (.one (.box 2 0))), (9, .v (.one (.d (.int .i64 vr1)))), (10, .v (.one (.d (.lst (List.map api_Fix.enc ql))))), (11, .v (.one (.d (.int .i64 (ql.length : Int))))), (12, .v (.one (.d (.int .i64 vx)))), (19, .v (.one (.d (.bool vx3))))]) 3

def fleetref2_VisitsOf_x3_I (qf : api_Fence) (ql : List api_Fix) (vout : List api_Visit) (vinside : Bool) (vx : Int) (vy2 : api_Fix) (vr1 : Int) : St := Mem.st ⟨[(1, ⟨76, 2, List.map api_Visit.enc vout⟩)], [(0, [.d (.str qf.Key), .d (.lst (List.map api_Spot.enc qf.Corners))]), (2, [.d (.str vy2.Device), .d (.int .i64 vy2.At), .d (.int .i64 vy2.X), .d (.int .i64 vy2.Y), .d (.int .i64 vy2.Error)])]⟩ (tl [(2, .v (.one (.box 0 0))), (5, .v (.one (.own 1 none))), (6, .v (.one (.d (.bool vinside)))), (8, .v (.one (.box 2 0))), (9, .v (.one (.d (.int .i64 vr1)))), (10, .v (.one (.d (.lst (List.map api_Fix.enc ql))))), (11, .v (.one (.d (.int .i64 (ql.length : Int))))), (12, .v (.one (.d (.int .i64 vx))))]) 3

theorem fleetref2_VisitsOf_x3_ok (qf : api_Fence) (ql : List api_Fix) (vout : List api_Visit) (vinside : Bool) (vx : Int) (vy2 : api_Fix) (vr1 : Int) {r} (hF : fleetref2_VisitsOf_x3 vinside vr1 = some r) : Awp prog 0 48 (cL (cL (cR (cR (cL (cL (cR (cR (cL (cL (cR (cL (cR (cR (cR (cB f33)))))))))))))))) (Out 0 fleetref2_VisitsOf_x3_k (fleetref2_VisitsOf_x3_S qf ql vout vinside vx vy2 vr1) r) (fleetref2_VisitsOf_x3_I qf ql vout vinside vx vy2 vr1) := by
  unfold fleetref2_VisitsOf_x3 at hF
  refine cE hF (fun h4 hF => ?_) fun h4 hF => ?_
  · refine awp_region ?_
    refine aR 1 ?_
    refine aB h4 ?_
    refine aR 5 ?_
    refine aE ?_
    exact oO hF [] [] rfl
  · refine awp_region ?_
    refine aR 1 ?_
    refine aB h4 ?_
    refine aR 5 ?_
    refine aE ?_
    exact oO hF [] [] rfl

def fleetref2_VisitsOf_x4_k : Bool → AEx
  | _ => .normal

def fleetref2_VisitsOf_x4_S (qf : api_Fence) (ql : List api_Fix) (vout : List api_Visit) (vinside : Bool) (vx : Int) (vy2 : api_Fix) (vr1 : Int) : Bool → St
  | vx4 => Mem.st ⟨[(1, ⟨76, 2, List.map api_Visit.enc vout⟩)], [(0, [.d (.str qf.Key), .d (.lst (List.map api_Spot.enc qf.Corners))]), (2, [.d (.str vy2.Device), .d (.int .i64 vy2.At), .d (.int .i64 vy2.X), .d (.int .i64 vy2.Y), .d (.int .i64 vy2.Error)])]⟩ (tl [(2, .v (.one (.box 0 0))), (5, .v (.one (.own 1 none))), (6, .v (.one (.d (.bool vinside)))), (8, .v (.one (.box 2 0))), (10, .v (.one (.d (.lst (List.map api_Fix.enc ql))))), (11, .v (.one (.d (.int .i64 (ql.length : Int))))), (12, .v (.one (.d (.int .i64 vx)))), (32, .v (.one (.d (.bool vx4))))]) 3

def fleetref2_VisitsOf_x4_I (qf : api_Fence) (ql : List api_Fix) (vout : List api_Visit) (vinside : Bool) (vx : Int) (vy2 : api_Fix) (vr1 : Int) : St := Mem.st ⟨[(1, ⟨76, 2, List.map api_Visit.enc vout⟩)], [(0, [.d (.str qf.Key), .d (.lst (List.map api_Spot.enc qf.Corners))]), (2, [.d (.str vy2.Device), .d (.int .i64 vy2.At), .d (.int .i64 vy2.X), .d (.int .i64 vy2.Y), .d (.int .i64 vy2.Error)])]⟩ (tl [(2, .v (.one (.box 0 0))), (5, .v (.one (.own 1 none))), (6, .v (.one (.d (.bool vinside)))), (8, .v (.one (.box 2 0))), (9, .v (.one (.d (.int .i64 vr1)))), (10, .v (.one (.d (.lst (List.map api_Fix.enc ql))))), (11, .v (.one (.d (.int .i64 (ql.length : Int))))), (12, .v (.one (.d (.int .i64 vx))))]) 3

theorem fleetref2_VisitsOf_x4_ok (qf : api_Fence) (ql : List api_Fix) (vout : List api_Visit) (vinside : Bool) (vx : Int) (vy2 : api_Fix) (vr1 : Int) {r} (hF : fleetref2_VisitsOf_x4 vinside vr1 = some r) : Awp prog 0 48 (cL (cR (cR (cL (cR (cR (cL (cL (cR (cR (cL (cL (cR (cL (cR (cR (cR (cB f33)))))))))))))))))) (Out 0 fleetref2_VisitsOf_x4_k (fleetref2_VisitsOf_x4_S qf ql vout vinside vx vy2 vr1) r) (fleetref2_VisitsOf_x4_I qf ql vout vinside vx vy2 vr1) := by
  unfold fleetref2_VisitsOf_x4 at hF
  refine cE hF (fun h8 hF => ?_) fun h8 hF => ?_
  · refine awp_region ?_
    refine aR 1 ?_
    refine aB h8 ?_
    refine aR 4 ?_
    refine aE ?_
    exact oO hF [] [] rfl
  · refine awp_region ?_
    refine aR 1 ?_
    refine aB h8 ?_
    refine aR 4 ?_
    refine aE ?_
    exact oO hF [] [] rfl

def fleetref2_VisitsOf_x2_k : ((List api_Visit) × Bool) → AEx
  | _ => .normal

def fleetref2_VisitsOf_x2_S (qf : api_Fence) (ql : List api_Fix) (vout : List api_Visit) (vinside : Bool) (vx : Int) : ((List api_Visit) × Bool) → St
  | (vout2, vinside2) => Mem.st ⟨[(1, ⟨76, 2, List.map api_Visit.enc vout2⟩)], [(0, [.d (.str qf.Key), .d (.lst (List.map api_Spot.enc qf.Corners))])]⟩ (tl [(2, .v (.one (.box 0 0))), (5, .v (.one (.own 1 none))), (6, .v (.one (.d (.bool vinside2)))), (10, .v (.one (.d (.lst (List.map api_Fix.enc ql))))), (11, .v (.one (.d (.int .i64 (ql.length : Int))))), (12, .v (.one (.d (.int .i64 vx))))]) 2

def fleetref2_VisitsOf_x2_I (qf : api_Fence) (ql : List api_Fix) (vout : List api_Visit) (vinside : Bool) (vx : Int) : St := Mem.st ⟨[(1, ⟨76, 2, List.map api_Visit.enc vout⟩)], [(0, [.d (.str qf.Key), .d (.lst (List.map api_Spot.enc qf.Corners))])]⟩ (tl [(2, .v (.one (.box 0 0))), (5, .v (.one (.own 1 none))), (6, .v (.one (.d (.bool vinside)))), (10, .v (.one (.d (.lst (List.map api_Fix.enc ql))))), (11, .v (.one (.d (.int .i64 (ql.length : Int))))), (12, .v (.one (.d (.int .i64 vx))))]) 2

theorem fleetref2_VisitsOf_x2_ok (qf : api_Fence) (ql : List api_Fix) (vout : List api_Visit) (vinside : Bool) (vx : Int) {r} (hF : fleetref2_VisitsOf_x2 qf ql vout vinside vx = some r) : Awp prog 0 48 (cL (cR (cR (cL (cL (cR (cL (cR (cR (cR (cB f33))))))))))) (Out 0 fleetref2_VisitsOf_x2_k (fleetref2_VisitsOf_x2_S qf ql vout vinside vx) r) (fleetref2_VisitsOf_x2_I qf ql vout vinside vx) := by
  unfold fleetref2_VisitsOf_x2 at hF
  refine awp_block ?_
  refine awp_seq ?_
  refine bE hF fun vy2 h2 hF => ?_
  refine awp_region ?_
  refine aX (x_idx api_Fix.enc h2) ?_
  refine aR 3 ?_
  refine aE ?_
  refine awp_seq ?_
  refine bE hF fun vr1 h3 hF => ?_
  refine awp_region ?_
  refine aR 2 ?_
  refine aC (fleetref2_SurelyOf_ok h3) [] [] [] ?_
  refine aR 1 ?_
  refine aE ?_
  refine awp_block ?_
  refine awp_seq ?_
  refine awp_to (st' := fleetref2_VisitsOf_x3_I qf ql vout vinside vx vy2 vr1) (oT [(2, 2002)] []) ?_
  refine bE hF fun vx3_1 h5 hF => ?_
  refine awp_sub (fleetref2_VisitsOf_x3_ok qf ql vout vinside vx vy2 vr1 h5) ?_
  refine cE hF (fun h6 hF => ?_) fun h6 hF => ?_
  · refine awp_true (by kernel_rfl) h6 ?_
    refine gE hF fun h7 hF => ?_
    refine awp_region ?_
    refine aR 5 ?_
    refine aX (x_app api_Visit.enc 1 h7) ?_
    refine aR 2 ?_
    refine aE ?_
    exact oO hF [(1, 5003)] [] rfl
  · refine awp_false (by kernel_rfl) h6 ?_
    refine awp_seq ?_
    refine awp_to (st' := fleetref2_VisitsOf_x4_I qf ql vout vinside vx vy2 vr1) (oT [] []) ?_
    refine bE hF fun vx4_1 h9 hF => ?_
    refine awp_sub (fleetref2_VisitsOf_x4_ok qf ql vout vinside vx vy2 vr1 h9) ?_
    refine cE hF (fun h10 hF => ?_) fun h10 hF => ?_
    · refine awp_true (by kernel_rfl) h10 ?_
      refine bE hF fun vy3 h11 hF => ?_
      refine awp_region ?_
      refine aR 2 ?_
      refine aL api_Visit.enc vout ?_
      refine aR 3 ?_
      refine aX (x_idxO api_Visit.enc 1 h11) ?_
      refine aR 1 ?_
      refine aX (x_stE api_Visit.enc (api_Visit.mk vy3.From vy2.At) h11) ?_
      refine aR 1 ?_
      refine aE ?_
      exact oO hF [] [] rfl
    · refine awp_false (by kernel_rfl) h10 ?_
      refine awp_skip ?_
      exact oO hF [] [] rfl

def fleetref2_VisitsOf_x1_k : (List api_Visit) → AEx
  | _ => .exit 0

def fleetref2_VisitsOf_x1_S (qf : api_Fence) (ql : List api_Fix) : (List api_Visit) → St
  | vout3 => Mem.st ⟨[(0, ⟨76, 2, List.map api_Visit.enc vout3⟩)], []⟩ (tl [(5, .v (.one (.own 0 none)))]) 1

def fleetref2_VisitsOf_x1_H (qf : api_Fence) (ql : List api_Fix) : (List api_Visit) × Bool × Int → St
  | (vout, vinside, vx) => Mem.st ⟨[(1, ⟨76, 2, List.map api_Visit.enc vout⟩)], [(0, [.d (.str qf.Key), .d (.lst (List.map api_Spot.enc qf.Corners))])]⟩ (tl [(2, .v (.one (.box 0 0))), (5, .v (.one (.own 1 none))), (6, .v (.one (.d (.bool vinside)))), (10, .v (.one (.d (.lst (List.map api_Fix.enc ql))))), (11, .v (.one (.d (.int .i64 (ql.length : Int))))), (12, .v (.one (.d (.int .i64 vx))))]) 2

theorem fleetref2_VisitsOf_x1_ok (qf : api_Fence) (ql : List api_Fix) (s : (List api_Visit) × Bool × Int) (r : ((List api_Visit) × Bool × Int) ⊕ ((List api_Visit))) (hF : fleetref2_VisitsOf_x1 qf ql s = some r) : Awp prog 0 48 (cL (cL (cR (cL (cR (cR (cR (cB f33)))))))) (Out 0 (kk fleetref2_VisitsOf_x1_k) (SS (fleetref2_VisitsOf_x1_H qf ql) (fleetref2_VisitsOf_x1_S qf ql)) r) (fleetref2_VisitsOf_x1_H qf ql s) := by
  obtain ⟨vout, vinside, vx⟩ := s
  unfold fleetref2_VisitsOf_x1 at hF
  refine awp_seq ?_
  refine awp_region ?_
  refine aR 1 ?_
  refine aE ?_
  refine awp_seq ?_
  refine cE hF (fun h1 hF => ?_) fun h1 hF => ?_
  · refine awp_true (by kernel_rfl) h1 ?_
    refine awp_skip ?_
    refine awp_seq ?_
    refine awp_to (st' := fleetref2_VisitsOf_x2_I qf ql vout vinside vx) (oT [] []) ?_
    refine bE hF fun x h12 hF => ?_
    obtain ⟨vout2_1, vinside2_1⟩ := x
    refine awp_sub (fleetref2_VisitsOf_x2_ok qf ql vout vinside vx h12) ?_
    refine awp_region ?_
    refine aR 2 ?_
    refine aE ?_
    exact oO hF [] [] rfl
  · refine awp_false (by kernel_rfl) h1 ?_
    refine awp_exit ?_
    exact oO hF [(0, 1)] [] rfl

def fleetref2_VisitsOf_R (qf : api_Fence) (ql : List api_Fix) (r : (List api_Visit)) : TV × Mem := (.v (.one (.own 0 none)), ⟨[(0, ⟨76, 2, List.map api_Visit.enc r⟩)], []⟩)

theorem fleetref2_VisitsOf_ok {qf : api_Fence} {ql : List api_Fix} {r} (hF : fleetref2_VisitsOf qf ql = some r) : Holds prog 33 [.v (.agg [.d (.str qf.Key), .d (.lst (List.map api_Spot.enc qf.Corners))]), .v (.one (.d (.lst (List.map api_Fix.enc ql))))] ⟨[], []⟩ (Is (fleetref2_VisitsOf_R qf ql r)) := by
  unfold fleetref2_VisitsOf at hF
  refine holds_of_awp hΓ (fn := f33) (c := cB f33) (A := 0) (nx := 0) (by kernel_rfl) (by kernel_rfl) (by kernel_rfl) (by kernel_rfl) (by kernel_rfl) (by kernel_rfl) (lowc_of (by kernel_rfl)) ?_
  show Awp prog 0 48 (cB f33) _ _
  refine awp_seq ?_
  refine awp_region ?_
  refine aR 2 ?_
  refine aE ?_
  refine awp_seq ?_
  refine awp_region ?_
  refine aR 1 ?_
  refine aE ?_
  refine awp_seq ?_
  refine awp_region ?_
  refine aR 1 ?_
  refine aE ?_
  refine awp_seq ?_
  refine awp_seq ?_
  refine awp_region ?_
  refine aR 1 ?_
  refine aL api_Fix.enc ql ?_
  refine aR 1 ?_
  refine aE ?_
  refine awp_block ?_
  refine awp_to (st' := fleetref2_VisitsOf_x1_H qf ql ([], false, 0)) (oT [] [1]) ?_
  refine bE hF fun vout3_1 h13 hF => ?_
  refine awp_sub (awp_loop' (fleetref2_VisitsOf_x1_H qf ql) fleetref2_VisitsOf_x1_k (fleetref2_VisitsOf_x1_S qf ql) (by intro x; exact fun h => nomatch h) h13 (fleetref2_VisitsOf_x1_ok qf ql)) ?_
  refine awp_seq ?_
  refine awp_region ?_
  refine aR 2 ?_
  refine aE ?_
  refine awp_ret ?_
  exact oF hF [] []

/-! ### beaconfleet/fleetref2.square -/
def fleetref2_square_R (qa : api_Fix) (qb : api_Fix) (r : Unit) : TV × Mem := (.v (.one (.d (.int .i64 (IntKind.wrap .i64 ((IntKind.wrap .i64 ((IntKind.wrap .i64 (qa.X - qb.X)) * (IntKind.wrap .i64 (qa.X - qb.X)))) + (IntKind.wrap .i64 ((IntKind.wrap .i64 (qa.Y - qb.Y)) * (IntKind.wrap .i64 (qa.Y - qb.Y))))))))), ⟨[], []⟩)

theorem fleetref2_square_ok {qa : api_Fix} {qb : api_Fix} {r} (hF : fleetref2_square qa qb = some r) : Holds prog 83 [.v (.agg [.d (.str qa.Device), .d (.int .i64 qa.At), .d (.int .i64 qa.X), .d (.int .i64 qa.Y), .d (.int .i64 qa.Error)]), .v (.agg [.d (.str qb.Device), .d (.int .i64 qb.At), .d (.int .i64 qb.X), .d (.int .i64 qb.Y), .d (.int .i64 qb.Error)])] ⟨[], []⟩ (Is (fleetref2_square_R qa qb r)) := by
  unfold fleetref2_square at hF
  refine holds_of_awp hΓ (fn := f83) (c := cB f83) (A := 0) (nx := 0) (by kernel_rfl) (by kernel_rfl) (by kernel_rfl) (by kernel_rfl) (by kernel_rfl) (by kernel_rfl) (lowc_of (by kernel_rfl)) ?_
  show Awp prog 0 14 (cB f83) _ _
  refine awp_seq ?_
  refine awp_region ?_
  refine aR 3 ?_
  refine aE ?_
  refine awp_seq ?_
  refine bE hF fun _ h1 hF => ?_
  refine bE hF fun _ h2 hF => ?_
  refine bE hF fun _ h3 hF => ?_
  refine aD ?_
  refine dR 1 ?_
  refine dC (fleetref2_spotOf_ok h1) [] [] [] ?_
  refine dR 1 ?_
  refine dC (fleetref2_spotOf_ok h2) [] [] [] ?_
  refine dC (fleetref2_minus_ok h3) [] [] [] ?_
  refine dR 2 ?_
  refine dE ?_
  refine awp_seq ?_
  refine bE hF fun _ h4 hF => ?_
  refine awp_region ?_
  refine aR 2 ?_
  refine aC (fleetref2_dot_2_ok h4) [] [] [] ?_
  refine aR 1 ?_
  refine aE ?_
  refine awp_ret ?_
  exact oF hF [] []

/-! ### beaconfleet/fleetref2.StaysOf$1 -/
def fleetref2_StaysOf_1_R (qx : api_Fix) (qx1 : List api_Fix) (qx2 : Int) (r : Bool) : TV × Mem := (.v (.one (.d (.bool r))), ⟨[], [(0, [.d (.lst (List.map api_Fix.enc qx1))]), (1, [.d (.int .i64 qx2)])]⟩)

theorem fleetref2_StaysOf_1_ok {qx : api_Fix} {qx1 : List api_Fix} {qx2 : Int} {r} (hF : fleetref2_StaysOf_1 qx qx1 qx2 = some r) : Holds prog 82 [.v (.agg [.d (.str qx.Device), .d (.int .i64 qx.At), .d (.int .i64 qx.X), .d (.int .i64 qx.Y), .d (.int .i64 qx.Error)]), .v (.one (.box 0 0)), .v (.one (.box 1 0))] ⟨[], [(0, [.d (.lst (List.map api_Fix.enc qx1))]), (1, [.d (.int .i64 qx2)])]⟩ (Is (fleetref2_StaysOf_1_R qx qx1 qx2 r)) := by
  unfold fleetref2_StaysOf_1 at hF
  refine holds_of_awp hΓ (fn := f82) (c := cB f82) (A := 2) (nx := 2) (by kernel_rfl) (by kernel_rfl) (by kernel_rfl) (by kernel_rfl) (by kernel_rfl) (by kernel_rfl) (lowc_of (by kernel_rfl)) ?_
  show Awp prog 2 14 (cB f82) _ _
  refine awp_seq ?_
  refine awp_region ?_
  refine aR 2 ?_
  refine aE ?_
  refine awp_seq ?_
  refine bE hF fun vy h1 hF => ?_
  refine bE hF fun _ h2 hF => ?_
  refine aD ?_
  refine dR 2 ?_
  refine dX (x_idx api_Fix.enc h1) ?_
  refine dR 1 ?_
  refine dC (fleetref2_square_ok h2) [] [] [] ?_
  refine dR 5 ?_
  refine dE ?_
  refine awp_ret ?_
  exact oF hF [] []

/-! ### slices.IndexFunc[[]beaconfleet/api.Fix,beaconfleet/api.Fix] -/
def slices_IndexFunc_api_Fix_api_Fix_f1_fleetref2_StaysOf_1_x1_k : Unit ⊕ Int → AEx
  | .inl _ => .exit 0
  | .inr _ => .ret

def slices_IndexFunc_api_Fix_api_Fix_f1_fleetref2_StaysOf_1_x1_S (qs : List api_Fix) (qf : Int) : Unit ⊕ Int → St
  | .inl _ => Mem.st ⟨[], [(0, [.d (.lst (List.map api_Fix.enc qs))]), (1, [.d (.int .i64 qf)])]⟩ (tl []) 2
  | .inr vx1 => Mem.st ⟨[], [(0, [.d (.lst (List.map api_Fix.enc qs))]), (1, [.d (.int .i64 qf)])]⟩ (tl [(4, .v (.one (.d (.int .i64 vx1))))]) 2

def slices_IndexFunc_api_Fix_api_Fix_f1_fleetref2_StaysOf_1_x1_H (qs : List api_Fix) (qf : Int) : Int → St
  | vx => Mem.st ⟨[], [(0, [.d (.lst (List.map api_Fix.enc qs))]), (1, [.d (.int .i64 qf)])]⟩ (tl [(0, .v (.one (.d (.lst (List.map api_Fix.enc qs))))), (1, .v (.one (.fn 82 [0, 1]))), (7, .v (.one (.d (.int .i64 (qs.length : Int))))), (8, .v (.one (.d (.int .i64 vx))))]) 2

theorem slices_IndexFunc_api_Fix_api_Fix_f1_fleetref2_StaysOf_1_x1_ok (qs : List api_Fix) (qf : Int) (vx : Int) (r : (Int) ⊕ (Unit ⊕ Int)) (hF : slices_IndexFunc_api_Fix_api_Fix_f1_fleetref2_StaysOf_1_x1 qs qf vx = some r) : Awp prog 2 19 (cL (cL (cR (cL (cR (cB f81)))))) (Out 2 (kk slices_IndexFunc_api_Fix_api_Fix_f1_fleetref2_StaysOf_1_x1_k) (SS (slices_IndexFunc_api_Fix_api_Fix_f1_fleetref2_StaysOf_1_x1_H qs qf) (slices_IndexFunc_api_Fix_api_Fix_f1_fleetref2_StaysOf_1_x1_S qs qf)) r) (slices_IndexFunc_api_Fix_api_Fix_f1_fleetref2_StaysOf_1_x1_H qs qf vx) := by
  unfold slices_IndexFunc_api_Fix_api_Fix_f1_fleetref2_StaysOf_1_x1 at hF
  refine awp_seq ?_
  refine awp_region ?_
  refine aR 1 ?_
  refine aE ?_
  refine awp_seq ?_
  refine cE hF (fun h1 hF => ?_) fun h1 hF => ?_
  · refine awp_true (by kernel_rfl) h1 ?_
    refine awp_skip ?_
    refine awp_seq ?_
    refine awp_block ?_
    refine awp_seq ?_
    refine awp_region ?_
    refine aR 2 ?_
    refine aE ?_
    refine awp_seq ?_
    refine bE hF fun vy1 h2 hF => ?_
    refine bE hF fun vr1 h3 hF => ?_
    refine awp_region ?_
    refine aR 3 ?_
    refine aX (x_idx api_Fix.enc h2) ?_
    refine aR 1 ?_
    refine aC (fleetref2_StaysOf_1_ok h3) [] [] [] ?_
    refine aE ?_
    refine cE hF (fun h4 hF => ?_) fun h4 hF => ?_
    · refine awp_true (by kernel_rfl) h4 ?_
      refine awp_seq ?_
      refine awp_region ?_
      refine aR 2 ?_
      refine aE ?_
      refine awp_ret ?_
      exact oO hF [] [] rfl
    · refine awp_false (by kernel_rfl) h4 ?_
      refine awp_skip ?_
      refine awp_region ?_
      refine aR 2 ?_
      refine aE ?_
      exact oO hF [] [] rfl
  · refine awp_false (by kernel_rfl) h1 ?_
    refine awp_exit ?_
    exact oO hF [] [] rfl

def slices_IndexFunc_api_Fix_api_Fix_f1_fleetref2_StaysOf_1_R (qs : List api_Fix) (qf : Int) (r : Int) : TV × Mem := (.v (.one (.d (.int .i64 r))), ⟨[], [(0, [.d (.lst (List.map api_Fix.enc qs))]), (1, [.d (.int .i64 qf)])]⟩)

theorem slices_IndexFunc_api_Fix_api_Fix_f1_fleetref2_StaysOf_1_ok {qs : List api_Fix} {qf : Int} {r} (hF : slices_IndexFunc_api_Fix_api_Fix_f1_fleetref2_StaysOf_1 qs qf = some r) : Holds prog 81 [.v (.one (.d (.lst (List.map api_Fix.enc qs)))), .v (.one (.fn 82 [0, 1]))] ⟨[], [(0, [.d (.lst (List.map api_Fix.enc qs))]), (1, [.d (.int .i64 qf)])]⟩ (Is (slices_IndexFunc_api_Fix_api_Fix_f1_fleetref2_StaysOf_1_R qs qf r)) := by
  unfold slices_IndexFunc_api_Fix_api_Fix_f1_fleetref2_StaysOf_1 at hF
  refine holds_of_awp hΓ (fn := f81) (c := cB f81) (A := 2) (nx := 2) (by kernel_rfl) (by kernel_rfl) (by kernel_rfl) (by kernel_rfl) (by kernel_rfl) (by kernel_rfl) (lowc_of (by kernel_rfl)) ?_
  show Awp prog 2 19 (cB f81) _ _
  refine awp_seq ?_
  refine awp_region ?_
  refine aR 1 ?_
  refine aE ?_
  refine awp_seq ?_
  refine awp_seq ?_
  refine awp_region ?_
  refine aR 1 ?_
  refine aL api_Fix.enc qs ?_
  refine aR 1 ?_
  refine aE ?_
  refine awp_block ?_
  refine awp_to (st' := slices_IndexFunc_api_Fix_api_Fix_f1_fleetref2_StaysOf_1_x1_H qs qf 0) (oT [] []) ?_
  refine bE hF fun x h5 hF => ?_
  rcases x with _ | vx1_1
  · refine awp_sub (awp_loop' (slices_IndexFunc_api_Fix_api_Fix_f1_fleetref2_StaysOf_1_x1_H qs qf) slices_IndexFunc_api_Fix_api_Fix_f1_fleetref2_StaysOf_1_x1_k (slices_IndexFunc_api_Fix_api_Fix_f1_fleetref2_StaysOf_1_x1_S qs qf) (by intro x; rcases x with x | x <;> exact fun h => nomatch h) h5 (slices_IndexFunc_api_Fix_api_Fix_f1_fleetref2_StaysOf_1_x1_ok qs qf)) ?_
    refine awp_seq ?_
    refine awp_region ?_
    refine aR 1 ?_
    refine aE ?_
    refine awp_ret ?_
    exact oF hF [] []
  · refine awp_sub (awp_loop' (slices_IndexFunc_api_Fix_api_Fix_f1_fleetref2_StaysOf_1_x1_H qs qf) slices_IndexFunc_api_Fix_api_Fix_f1_fleetref2_StaysOf_1_x1_k (slices_IndexFunc_api_Fix_api_Fix_f1_fleetref2_StaysOf_1_x1_S qs qf) (by intro x; rcases x with x | x <;> exact fun h => nomatch h) h5 (slices_IndexFunc_api_Fix_api_Fix_f1_fleetref2_StaysOf_1_x1_ok qs qf)) ?_
    exact oF hF [] []

/-! ### beaconfleet/fleetref2.StaysOf -/
def fleetref2_StaysOf_x2_k : Int → AEx
  | _ => .normal

def fleetref2_StaysOf_x2_S (qnear : Int) (qlong : Int) (vl : List api_Fix) (vout : List api_Stay) (vr2_1 : Int) : Int → St
  | vn2 => Mem.st ⟨[(2, ⟨79, 4, List.map api_Stay.enc vout⟩)], [(0, [.d (.lst (List.map api_Fix.enc vl))]), (1, [.d (.int .i64 qnear)])]⟩ (tl [(2, .v (.one (.d (.int .i64 qlong)))), (3, .v (.one (.box 0 0))), (4, .v (.one (.box 1 0))), (7, .v (.one (.own 2 none))), (8, .v (.one (.d (.int .i64 vn2))))]) 3

def fleetref2_StaysOf_x2_I (qnear : Int) (qlong : Int) (vl : List api_Fix) (vout : List api_Stay) (vr2_1 : Int) : St := Mem.st ⟨[(2, ⟨79, 4, List.map api_Stay.enc vout⟩)], [(0, [.d (.lst (List.map api_Fix.enc vl))]), (1, [.d (.int .i64 qnear)])]⟩ (tl [(2, .v (.one (.d (.int .i64 qlong)))), (3, .v (.one (.box 0 0))), (4, .v (.one (.box 1 0))), (7, .v (.one (.own 2 none))), (8, .v (.one (.d (.int .i64 vr2_1))))]) 3

theorem fleetref2_StaysOf_x2_ok (qnear : Int) (qlong : Int) (vl : List api_Fix) (vout : List api_Stay) (vr2_1 : Int) {r} (hF : fleetref2_StaysOf_x2 vl vr2_1 = some r) : Awp prog 0 56 (cL (cR (cL (cR (cL (cL (cL (cR (cR (cB f34)))))))))) (Out 0 fleetref2_StaysOf_x2_k (fleetref2_StaysOf_x2_S qnear qlong vl vout vr2_1) r) (fleetref2_StaysOf_x2_I qnear qlong vl vout vr2_1) := by
  unfold fleetref2_StaysOf_x2 at hF
  refine awp_seq ?_
  refine awp_region ?_
  refine aR 2 ?_
  refine aE ?_
  refine cE hF (fun h3 hF => ?_) fun h3 hF => ?_
  · refine awp_true (by kernel_rfl) h3 ?_
    refine awp_region ?_
    refine aR 1 ?_
    refine aL api_Fix.enc vl ?_
    refine aR 1 ?_
    refine aE ?_
    exact oO hF [] [] rfl
  · refine awp_false (by kernel_rfl) h3 ?_
    refine awp_skip ?_
    exact oO hF [] [] rfl

def fleetref2_StaysOf_x1_k : (List api_Stay) → AEx
  | _ => .exit 0

def fleetref2_StaysOf_x1_S (qnear : Int) (qlong : Int) : (List api_Stay) → St
  | vout1 => Mem.st ⟨[(0, ⟨79, 4, List.map api_Stay.enc vout1⟩)], []⟩ (tl [(7, .v (.one (.own 0 none)))]) 1

def fleetref2_StaysOf_x1_H (qnear : Int) (qlong : Int) : (List api_Fix) × (List api_Stay) → St
  | (vl, vout) => Mem.st ⟨[(2, ⟨79, 4, List.map api_Stay.enc vout⟩)], [(0, [.d (.lst (List.map api_Fix.enc vl))]), (1, [.d (.int .i64 qnear)])]⟩ (tl [(2, .v (.one (.d (.int .i64 qlong)))), (3, .v (.one (.box 0 0))), (4, .v (.one (.box 1 0))), (7, .v (.one (.own 2 none)))]) 3

theorem fleetref2_StaysOf_x1_ok (qnear : Int) (qlong : Int) (s : (List api_Fix) × (List api_Stay)) (r : ((List api_Fix) × (List api_Stay)) ⊕ ((List api_Stay))) (hF : fleetref2_StaysOf_x1 qnear qlong s = some r) : Awp prog 0 56 (cL (cL (cL (cR (cR (cB f34)))))) (Out 0 (kk fleetref2_StaysOf_x1_k) (SS (fleetref2_StaysOf_x1_H qnear qlong) (fleetref2_StaysOf_x1_S qnear qlong)) r) (fleetref2_StaysOf_x1_H qnear qlong s) := by
  obtain ⟨vl, vout⟩ := s
  unfold fleetref2_StaysOf_x1 at hF
  refine awp_seq ?_
  refine awp_seq ?_
  refine awp_region ?_
  refine aR 1 ?_
  refine aL api_Fix.enc vl ?_
  refine aR 1 ?_
  refine aE ?_
  refine cE hF (fun h1 hF => ?_) fun h1 hF => ?_
  · refine awp_true (by kernel_rfl) h1 ?_
    refine awp_skip ?_
    refine awp_block ?_
    refine awp_seq ?_
    refine bE hF fun vr2_1 h2 hF => ?_
    refine awp_region ?_
    refine aR 2 ?_
    refine aC (slices_IndexFunc_api_Fix_api_Fix_f1_fleetref2_StaysOf_1_ok h2) [] [] [] ?_
    refine aR 1 ?_
    refine aE ?_
    refine awp_seq ?_
    refine awp_to (st' := fleetref2_StaysOf_x2_I qnear qlong vl vout vr2_1) (oT [] []) ?_
    refine bE hF fun vn2_1 h4 hF => ?_
    refine awp_sub (fleetref2_StaysOf_x2_ok qnear qlong vl vout vr2_1 h4) ?_
    refine awp_seq ?_
    refine awp_seq ?_
    refine bE hF fun vy2 h5 hF => ?_
    refine bE hF fun vy3 h6 hF => ?_
    refine aD ?_
    refine dR 3 ?_
    refine dX (x_idx api_Fix.enc h5) ?_
    refine dR 3 ?_
    refine dX (x_idx api_Fix.enc h6) ?_
    refine dR 5 ?_
    refine dE ?_
    refine cE hF (fun h7 hF => ?_) fun h7 hF => ?_
    · refine awp_true (by kernel_rfl) h7 ?_
      refine awp_seq ?_
      refine bE hF fun vl3 h8 hF => ?_
      refine awp_region ?_
      refine aR 1 ?_
      refine aX (x_sliceN api_Fix.enc h8) ?_
      refine aR 1 ?_
      refine aE ?_
      refine awp_exit ?_
      exact oO hF [] [] rfl
    · refine awp_false (by kernel_rfl) h7 ?_
      refine awp_skip ?_
      refine awp_seq ?_
      refine bE hF fun _ h9 hF => ?_
      refine gE hF fun h10 hF => ?_
      refine aD ?_
      refine dR 2 ?_
      refine dX (x_idx api_Fix.enc h6) ?_
      refine dR 5 ?_
      refine dX (x_idx api_Fix.enc h5) ?_
      refine dR 3 ?_
      refine dX (x_idx api_Fix.enc h6) ?_
      refine dR 1 ?_
      refine dC (fleetref2_spotOf_ok h9) [] [] [] ?_
      refine dR 2 ?_
      refine dX (x_app api_Stay.enc 2 h10) ?_
      refine dR 1 ?_
      refine dE ?_
      refine bE hF fun vl4 h11 hF => ?_
      refine awp_region ?_
      refine aR 2 ?_
      refine aX (x_sliceN api_Fix.enc h11) ?_
      refine aR 1 ?_
      refine aE ?_
      exact oO hF [(2, 30003)] [] rfl
  · refine awp_false (by kernel_rfl) h1 ?_
    refine awp_exit ?_
    exact oO hF [(0, 2)] [] rfl

def fleetref2_StaysOf_R (ql : List api_Fix) (qnear : Int) (qlong : Int) (r : (List api_Stay)) : TV × Mem := (.v (.one (.own 0 none)), ⟨[(0, ⟨79, 4, List.map api_Stay.enc r⟩)], []⟩)

theorem fleetref2_StaysOf_ok {ql : List api_Fix} {qnear : Int} {qlong : Int} {r} (hF : fleetref2_StaysOf ql qnear qlong = some r) : Holds prog 34 [.v (.one (.d (.lst (List.map api_Fix.enc ql)))), .v (.one (.d (.int .i64 qnear))), .v (.one (.d (.int .i64 qlong)))] ⟨[], []⟩ (Is (fleetref2_StaysOf_R ql qnear qlong r)) := by
  unfold fleetref2_StaysOf at hF
  refine holds_of_awp hΓ (fn := f34) (c := cB f34) (A := 0) (nx := 0) (by kernel_rfl) (by kernel_rfl) (by kernel_rfl) (by kernel_rfl) (by kernel_rfl) (by kernel_rfl) (lowc_of (by kernel_rfl)) ?_
  show Awp prog 0 56 (cB f34) _ _
  refine awp_seq ?_
  refine awp_region ?_
  refine aR 3 ?_
  refine aE ?_
  refine awp_seq ?_
  refine awp_region ?_
  refine aR 1 ?_
  refine aE ?_
  refine awp_seq ?_
  refine awp_block ?_
  refine awp_to (st' := fleetref2_StaysOf_x1_H qnear qlong (ql, [])) (oT [(1, 1000)] [2]) ?_
  refine bE hF fun vout1_1 h12 hF => ?_
  refine awp_sub (awp_loop' (fleetref2_StaysOf_x1_H qnear qlong) fleetref2_StaysOf_x1_k (fleetref2_StaysOf_x1_S qnear qlong) (by intro x; exact fun h => nomatch h) h12 (fleetref2_StaysOf_x1_ok qnear qlong)) ?_
  refine awp_seq ?_
  refine awp_region ?_
  refine aR 2 ?_
  refine aE ?_
  refine awp_ret ?_
  exact oF hF [] []

/-! ### beaconfleet/fleetref2.root -/
def fleetref2_root_x1_k : Int → AEx
  | _ => .exit 0

def fleetref2_root_x1_S (qn : Int) : Int → St
  | vlow1 => Mem.st ⟨[], []⟩ (tl [(3, .v (.one (.d (.int .i64 vlow1))))]) 0

def fleetref2_root_x1_H (qn : Int) : Int × Int → St
  | (vlow, vhigh) => Mem.st ⟨[], []⟩ (tl [(0, .v (.one (.d (.int .i64 qn)))), (3, .v (.one (.d (.int .i64 vlow)))), (4, .v (.one (.d (.int .i64 vhigh))))]) 0

theorem fleetref2_root_x1_ok (qn : Int) (s : Int × Int) (r : (Int × Int) ⊕ (Int)) (hF : fleetref2_root_x1 qn s = some r) : Awp prog 0 23 (cL (cL (cL (cR (cR (cB f84)))))) (Out 0 (kk fleetref2_root_x1_k) (SS (fleetref2_root_x1_H qn) (fleetref2_root_x1_S qn)) r) (fleetref2_root_x1_H qn s) := by
  obtain ⟨vlow, vhigh⟩ := s
  unfold fleetref2_root_x1 at hF
  refine awp_seq ?_
  refine awp_seq ?_
  refine awp_region ?_
  refine aR 3 ?_
  refine aE ?_
  refine cE hF (fun h1 hF => ?_) fun h1 hF => ?_
  · refine awp_true (by kernel_rfl) h1 ?_
    refine awp_skip ?_
    refine awp_block ?_
    refine awp_seq ?_
    refine awp_region ?_
    refine aR 6 ?_
    refine aE ?_
    refine awp_seq ?_
    refine awp_region ?_
    refine aR 5 ?_
    refine aE ?_
    refine cE hF (fun h2 hF => ?_) fun h2 hF => ?_
    · refine awp_true (by kernel_rfl) h2 ?_
      refine awp_region ?_
      refine aR 2 ?_
      refine aE ?_
      exact oO hF [] [] rfl
    · refine awp_false (by kernel_rfl) h2 ?_
      refine awp_region ?_
      refine aR 3 ?_
      refine aE ?_
      exact oO hF [] [] rfl
  · refine awp_false (by kernel_rfl) h1 ?_
    refine awp_exit ?_
    exact oO hF [] [] rfl

def fleetref2_root_R (qn : Int) (r : Int) : TV × Mem := (.v (.one (.d (.int .i64 r))), ⟨[], []⟩)

theorem fleetref2_root_ok {qn : Int} {r} (hF : fleetref2_root qn = some r) : Holds prog 84 [.v (.one (.d (.int .i64 qn)))] ⟨[], []⟩ (Is (fleetref2_root_R qn r)) := by
  unfold fleetref2_root at hF
  refine holds_of_awp hΓ (fn := f84) (c := cB f84) (A := 0) (nx := 0) (by kernel_rfl) (by kernel_rfl) (by kernel_rfl) (by kernel_rfl) (by kernel_rfl) (by kernel_rfl) (lowc_of (by kernel_rfl)) ?_
  show Awp prog 0 23 (cB f84) _ _
  refine awp_seq ?_
  refine awp_region ?_
  refine aR 1 ?_
  refine aE ?_
  refine awp_seq ?_
  refine awp_region ?_
  refine aR 2 ?_
  refine aE ?_
  refine awp_seq ?_
  refine awp_block ?_
  refine awp_to (st' := fleetref2_root_x1_H qn (0, 100000)) (oT [] []) ?_
  refine bE hF fun vlow1_1 h3 hF => ?_
  refine awp_sub (awp_loop' (fleetref2_root_x1_H qn) fleetref2_root_x1_k (fleetref2_root_x1_S qn) (by intro x; exact fun h => nomatch h) h3 (fleetref2_root_x1_ok qn)) ?_
  refine awp_seq ?_
  refine awp_region ?_
  refine aR 2 ?_
  refine aE ?_
  refine awp_ret ?_
  exact oF hF [] []

/-! ### beaconfleet/fleetref2.LengthOf -/
def fleetref2_LengthOf_x1_k : Int → AEx
  | _ => .exit 0

def fleetref2_LengthOf_x1_S (ql : List api_Fix) : Int → St
  | vn1 => Mem.st ⟨[], []⟩ (tl [(3, .v (.one (.d (.int .i64 vn1))))]) 0

def fleetref2_LengthOf_x1_H (ql : List api_Fix) : Int × Int → St
  | (vn, vi) => Mem.st ⟨[], []⟩ (tl [(0, .v (.one (.d (.lst (List.map api_Fix.enc ql))))), (3, .v (.one (.d (.int .i64 vn)))), (4, .v (.one (.d (.int .i64 vi))))]) 0

theorem fleetref2_LengthOf_x1_ok (ql : List api_Fix) (s : Int × Int) (r : (Int × Int) ⊕ (Int)) (hF : fleetref2_LengthOf_x1 ql s = some r) : Awp prog 0 25 (cL (cL (cR (cL (cR (cR (cB f35))))))) (Out 0 (kk fleetref2_LengthOf_x1_k) (SS (fleetref2_LengthOf_x1_H ql) (fleetref2_LengthOf_x1_S ql)) r) (fleetref2_LengthOf_x1_H ql s) := by
  obtain ⟨vn, vi⟩ := s
  unfold fleetref2_LengthOf_x1 at hF
  refine awp_seq ?_
  refine awp_seq ?_
  refine awp_region ?_
  refine aR 2 ?_
  refine aL api_Fix.enc ql ?_
  refine aR 1 ?_
  refine aE ?_
  refine cE hF (fun h1 hF => ?_) fun h1 hF => ?_
  · refine awp_true (by kernel_rfl) h1 ?_
    refine awp_skip ?_
    refine awp_seq ?_
    refine awp_block ?_
    refine bE hF fun vy2 h2 hF => ?_
    refine bE hF fun vy3 h3 hF => ?_
    refine bE hF fun _ h4 hF => ?_
    refine bE hF fun vr1 h5 hF => ?_
    refine aD ?_
    refine dR 3 ?_
    refine dX (x_idx api_Fix.enc h2) ?_
    refine dR 4 ?_
    refine dX (x_idx api_Fix.enc h3) ?_
    refine dR 1 ?_
    refine dC (fleetref2_square_ok h4) [] [] [] ?_
    refine dC (fleetref2_root_ok h5) [] [] [] ?_
    refine dR 2 ?_
    refine dE ?_
    refine awp_region ?_
    refine aR 3 ?_
    refine aE ?_
    exact oO hF [] [] rfl
  · refine awp_false (by kernel_rfl) h1 ?_
    refine awp_exit ?_
    exact oO hF [] [] rfl

def fleetref2_LengthOf_R (ql : List api_Fix) (r : Int) : TV × Mem := (.v (.one (.d (.int .i64 r))), ⟨[], []⟩)

theorem fleetref2_LengthOf_ok {ql : List api_Fix} {r} (hF : fleetref2_LengthOf ql = some r) : Holds prog 35 [.v (.one (.d (.lst (List.map api_Fix.enc ql))))] ⟨[], []⟩ (Is (fleetref2_LengthOf_R ql r)) := by
  unfold fleetref2_LengthOf at hF
  refine holds_of_awp hΓ (fn := f35) (c := cB f35) (A := 0) (nx := 0) (by kernel_rfl) (by kernel_rfl) (by kernel_rfl) (by kernel_rfl) (by kernel_rfl) (by kernel_rfl) (lowc_of (by kernel_rfl)) ?_
  show Awp prog 0 25 (cB f35) _ _
  refine awp_seq ?_
  refine awp_region ?_
  refine aR 1 ?_
  refine aE ?_
  refine awp_seq ?_
  refine awp_region ?_
  refine aR 1 ?_
  refine aE ?_
  refine awp_seq ?_
  refine awp_seq ?_
  refine awp_region ?_
  refine aR 1 ?_
  refine aE ?_
  refine awp_block ?_
  refine awp_to (st' := fleetref2_LengthOf_x1_H ql (0, 1)) (oT [] []) ?_
  refine bE hF fun vn1_1 h6 hF => ?_
  refine awp_sub (awp_loop' (fleetref2_LengthOf_x1_H ql) fleetref2_LengthOf_x1_k (fleetref2_LengthOf_x1_S ql) (by intro x; exact fun h => nomatch h) h6 (fleetref2_LengthOf_x1_ok ql)) ?_
  refine awp_seq ?_
  refine awp_region ?_
  refine aR 2 ?_
  refine aE ?_
  refine awp_ret ?_
  exact oF hF [] []

/-! ### slices.Equal[[]beaconfleet/api.Visit,beaconfleet/api.Visit] -/
def slices_Equal_api_Visit_api_Visit_x1_k : Unit ⊕ Unit → AEx
  | .inl _ => .exit 0
  | .inr _ => .ret

def slices_Equal_api_Visit_api_Visit_x1_S (qs1 : List api_Visit) (qs2 : List api_Visit) : Unit ⊕ Unit → St
  | .inl _ => Mem.st ⟨[], []⟩ (tl []) 0
  | .inr _ => Mem.st ⟨[], []⟩ (tl [(4, .v (.one (.d (.bool false))))]) 0

def slices_Equal_api_Visit_api_Visit_x1_H (qs1 : List api_Visit) (qs2 : List api_Visit) : Int → St
  | vx => Mem.st ⟨[], []⟩ (tl [(0, .v (.one (.d (.lst (List.map api_Visit.enc qs1))))), (1, .v (.one (.d (.lst (List.map api_Visit.enc qs2))))), (12, .v (.one (.d (.int .i64 (qs1.length : Int))))), (13, .v (.one (.d (.int .i64 vx))))]) 0

theorem slices_Equal_api_Visit_api_Visit_x1_ok (qs1 : List api_Visit) (qs2 : List api_Visit) (vx : Int) (r : (Int) ⊕ (Unit ⊕ Unit)) (hF : slices_Equal_api_Visit_api_Visit_x1 qs1 qs2 vx = some r) : Awp prog 0 26 (cL (cL (cR (cL (cR (cR (cB f36))))))) (Out 0 (kk slices_Equal_api_Visit_api_Visit_x1_k) (SS (slices_Equal_api_Visit_api_Visit_x1_H qs1 qs2) (slices_Equal_api_Visit_api_Visit_x1_S qs1 qs2)) r) (slices_Equal_api_Visit_api_Visit_x1_H qs1 qs2 vx) := by
  unfold slices_Equal_api_Visit_api_Visit_x1 at hF
  refine awp_seq ?_
  refine awp_region ?_
  refine aR 1 ?_
  refine aE ?_
  refine awp_seq ?_
  refine cE hF (fun h2 hF => ?_) fun h2 hF => ?_
  · refine awp_true (by kernel_rfl) h2 ?_
    refine awp_skip ?_
    refine awp_seq ?_
    refine awp_block ?_
    refine awp_seq ?_
    refine awp_region ?_
    refine aR 2 ?_
    refine aE ?_
    refine awp_seq ?_
    refine bE hF fun vy2 h3 hF => ?_
    refine bE hF fun vy3 h4 hF => ?_
    refine aD ?_
    refine dR 2 ?_
    refine dX (x_idx api_Visit.enc h3) ?_
    refine dR 3 ?_
    refine dX (x_idx api_Visit.enc h4) ?_
    refine dR 1 ?_
    refine dS (U := []) (stable_eqS (op := .neq) (xs := [.int .i64 vy2.From, .int .i64 vy2.To]) (ys := [.int .i64 vy3.From, .int .i64 vy3.To]) (b := (decide (vy2.From = vy3.From) && (decide (vy2.To = vy3.To) && true))) (c := (!(decide (vy2.From = vy3.From) && (decide (vy2.To = vy3.To) && true)))) rfl (.inr ⟨rfl, rfl⟩) (by kernel_rfl) (by kernel_rfl) (by kernel_rfl) (by kernel_rfl) (by kernel_rfl) (by kernel_rfl)) ?_
    refine dE ?_
    refine cE hF (fun h5 hF => ?_) fun h5 hF => ?_
    · refine awp_true (by kernel_rfl) h5 ?_
      refine awp_seq ?_
      refine awp_region ?_
      refine aR 1 ?_
      refine aE ?_
      refine awp_ret ?_
      exact oO hF [] [] rfl
    · refine awp_false (by kernel_rfl) h5 ?_
      refine awp_skip ?_
      refine awp_region ?_
      refine aR 2 ?_
      refine aE ?_
      exact oO hF [] [] rfl
  · refine awp_false (by kernel_rfl) h2 ?_
    refine awp_exit ?_
    exact oO hF [] [] rfl

def slices_Equal_api_Visit_api_Visit_R (qs1 : List api_Visit) (qs2 : List api_Visit) (r : Bool) : TV × Mem := (.v (.one (.d (.bool r))), ⟨[], []⟩)

theorem slices_Equal_api_Visit_api_Visit_ok {qs1 : List api_Visit} {qs2 : List api_Visit} {r} (hF : slices_Equal_api_Visit_api_Visit qs1 qs2 = some r) : Holds prog 36 [.v (.one (.d (.lst (List.map api_Visit.enc qs1)))), .v (.one (.d (.lst (List.map api_Visit.enc qs2))))] ⟨[], []⟩ (Is (slices_Equal_api_Visit_api_Visit_R qs1 qs2 r)) := by
  unfold slices_Equal_api_Visit_api_Visit at hF
  refine holds_of_awp hΓ (fn := f36) (c := cB f36) (A := 0) (nx := 0) (by kernel_rfl) (by kernel_rfl) (by kernel_rfl) (by kernel_rfl) (by kernel_rfl) (by kernel_rfl) (lowc_of (by kernel_rfl)) ?_
  show Awp prog 0 26 (cB f36) _ _
  refine awp_seq ?_
  refine awp_region ?_
  refine aR 1 ?_
  refine aE ?_
  refine awp_seq ?_
  refine awp_seq ?_
  refine awp_region ?_
  refine aR 1 ?_
  refine aL api_Visit.enc qs1 ?_
  refine aR 1 ?_
  refine aL api_Visit.enc qs2 ?_
  refine aR 1 ?_
  refine aE ?_
  refine cE hF (fun h1 hF => ?_) fun h1 hF => ?_
  · refine awp_true (by kernel_rfl) h1 ?_
    refine awp_seq ?_
    refine awp_region ?_
    refine aR 1 ?_
    refine aE ?_
    refine awp_ret ?_
    exact oF hF [] []
  · refine awp_false (by kernel_rfl) h1 ?_
    refine awp_skip ?_
    refine awp_seq ?_
    refine awp_seq ?_
    refine awp_region ?_
    refine aR 1 ?_
    refine aL api_Visit.enc qs1 ?_
    refine aR 1 ?_
    refine aE ?_
    refine awp_block ?_
    refine awp_to (st' := slices_Equal_api_Visit_api_Visit_x1_H qs1 qs2 0) (oT [] []) ?_
    refine bE hF fun x h6 hF => ?_
    rcases x with _ | _
    · refine awp_sub (awp_loop' (slices_Equal_api_Visit_api_Visit_x1_H qs1 qs2) slices_Equal_api_Visit_api_Visit_x1_k (slices_Equal_api_Visit_api_Visit_x1_S qs1 qs2) (by intro x; rcases x with x | x <;> exact fun h => nomatch h) h6 (slices_Equal_api_Visit_api_Visit_x1_ok qs1 qs2)) ?_
      refine awp_seq ?_
      refine awp_region ?_
      refine aR 1 ?_
      refine aE ?_
      refine awp_ret ?_
      exact oF hF [] []
    · refine awp_sub (awp_loop' (slices_Equal_api_Visit_api_Visit_x1_H qs1 qs2) slices_Equal_api_Visit_api_Visit_x1_k (slices_Equal_api_Visit_api_Visit_x1_S qs1 qs2) (by intro x; rcases x with x | x <;> exact fun h => nomatch h) h6 (slices_Equal_api_Visit_api_Visit_x1_ok qs1 qs2)) ?_
      exact oF hF [] []

/-! ### slices.Equal[[]beaconfleet/api.Stay,beaconfleet/api.Stay] -/
def slices_Equal_api_Stay_api_Stay_x1_k : Unit ⊕ Unit → AEx
  | .inl _ => .exit 0
  | .inr _ => .ret

def slices_Equal_api_Stay_api_Stay_x1_S (qs1 : List api_Stay) (qs2 : List api_Stay) : Unit ⊕ Unit → St
  | .inl _ => Mem.st ⟨[], []⟩ (tl []) 0
  | .inr _ => Mem.st ⟨[], []⟩ (tl [(4, .v (.one (.d (.bool false))))]) 0

def slices_Equal_api_Stay_api_Stay_x1_H (qs1 : List api_Stay) (qs2 : List api_Stay) : Int → St
  | vx => Mem.st ⟨[], []⟩ (tl [(0, .v (.one (.d (.lst (List.map api_Stay.enc qs1))))), (1, .v (.one (.d (.lst (List.map api_Stay.enc qs2))))), (12, .v (.one (.d (.int .i64 (qs1.length : Int))))), (13, .v (.one (.d (.int .i64 vx))))]) 0

theorem slices_Equal_api_Stay_api_Stay_x1_ok (qs1 : List api_Stay) (qs2 : List api_Stay) (vx : Int) (r : (Int) ⊕ (Unit ⊕ Unit)) (hF : slices_Equal_api_Stay_api_Stay_x1 qs1 qs2 vx = some r) : Awp prog 0 26 (cL (cL (cR (cL (cR (cR (cB f37))))))) (Out 0 (kk slices_Equal_api_Stay_api_Stay_x1_k) (SS (slices_Equal_api_Stay_api_Stay_x1_H qs1 qs2) (slices_Equal_api_Stay_api_Stay_x1_S qs1 qs2)) r) (slices_Equal_api_Stay_api_Stay_x1_H qs1 qs2 vx) := by
  unfold slices_Equal_api_Stay_api_Stay_x1 at hF
  refine awp_seq ?_
  refine awp_region ?_
  refine aR 1 ?_
  refine aE ?_
  refine awp_seq ?_
  refine cE hF (fun h2 hF => ?_) fun h2 hF => ?_
  · refine awp_true (by kernel_rfl) h2 ?_
    refine awp_skip ?_
    refine awp_seq ?_
    refine awp_block ?_
    refine awp_seq ?_
    refine awp_region ?_
    refine aR 2 ?_
    refine aE ?_
    refine awp_seq ?_
    refine bE hF fun vy2 h3 hF => ?_
    refine bE hF fun vy3 h4 hF => ?_
    refine aD ?_
    refine dR 2 ?_
    refine dX (x_idx api_Stay.enc h3) ?_
    refine dR 3 ?_
    refine dX (x_idx api_Stay.enc h4) ?_
    refine dR 1 ?_
    refine dS (U := []) (stable_eqS (op := .neq) (xs := [.int .i64 vy2.From, .int .i64 vy2.To, .int .i64 vy2.Spot.X, .int .i64 vy2.Spot.Y]) (ys := [.int .i64 vy3.From, .int .i64 vy3.To, .int .i64 vy3.Spot.X, .int .i64 vy3.Spot.Y]) (b := (decide (vy2.From = vy3.From) && (decide (vy2.To = vy3.To) && ((decide (vy2.Spot.X = vy3.Spot.X) && (decide (vy2.Spot.Y = vy3.Spot.Y) && true)) && true)))) (c := (!(decide (vy2.From = vy3.From) && (decide (vy2.To = vy3.To) && ((decide (vy2.Spot.X = vy3.Spot.X) && (decide (vy2.Spot.Y = vy3.Spot.Y) && true)) && true))))) rfl (.inr ⟨rfl, rfl⟩) (by kernel_rfl) (by kernel_rfl) (by kernel_rfl) (by kernel_rfl) (by kernel_rfl) (by kernel_rfl)) ?_
    refine dE ?_
    refine cE hF (fun h5 hF => ?_) fun h5 hF => ?_
    · refine awp_true (by kernel_rfl) h5 ?_
      refine awp_seq ?_
      refine awp_region ?_
      refine aR 1 ?_
      refine aE ?_
      refine awp_ret ?_
      exact oO hF [] [] rfl
    · refine awp_false (by kernel_rfl) h5 ?_
      refine awp_skip ?_
      refine awp_region ?_
      refine aR 2 ?_
      refine aE ?_
      exact oO hF [] [] rfl
  · refine awp_false (by kernel_rfl) h2 ?_
    refine awp_exit ?_
    exact oO hF [] [] rfl

def slices_Equal_api_Stay_api_Stay_R (qs1 : List api_Stay) (qs2 : List api_Stay) (r : Bool) : TV × Mem := (.v (.one (.d (.bool r))), ⟨[], []⟩)

theorem slices_Equal_api_Stay_api_Stay_ok {qs1 : List api_Stay} {qs2 : List api_Stay} {r} (hF : slices_Equal_api_Stay_api_Stay qs1 qs2 = some r) : Holds prog 37 [.v (.one (.d (.lst (List.map api_Stay.enc qs1)))), .v (.one (.d (.lst (List.map api_Stay.enc qs2))))] ⟨[], []⟩ (Is (slices_Equal_api_Stay_api_Stay_R qs1 qs2 r)) := by
  unfold slices_Equal_api_Stay_api_Stay at hF
  refine holds_of_awp hΓ (fn := f37) (c := cB f37) (A := 0) (nx := 0) (by kernel_rfl) (by kernel_rfl) (by kernel_rfl) (by kernel_rfl) (by kernel_rfl) (by kernel_rfl) (lowc_of (by kernel_rfl)) ?_
  show Awp prog 0 26 (cB f37) _ _
  refine awp_seq ?_
  refine awp_region ?_
  refine aR 1 ?_
  refine aE ?_
  refine awp_seq ?_
  refine awp_seq ?_
  refine awp_region ?_
  refine aR 1 ?_
  refine aL api_Stay.enc qs1 ?_
  refine aR 1 ?_
  refine aL api_Stay.enc qs2 ?_
  refine aR 1 ?_
  refine aE ?_
  refine cE hF (fun h1 hF => ?_) fun h1 hF => ?_
  · refine awp_true (by kernel_rfl) h1 ?_
    refine awp_seq ?_
    refine awp_region ?_
    refine aR 1 ?_
    refine aE ?_
    refine awp_ret ?_
    exact oF hF [] []
  · refine awp_false (by kernel_rfl) h1 ?_
    refine awp_skip ?_
    refine awp_seq ?_
    refine awp_seq ?_
    refine awp_region ?_
    refine aR 1 ?_
    refine aL api_Stay.enc qs1 ?_
    refine aR 1 ?_
    refine aE ?_
    refine awp_block ?_
    refine awp_to (st' := slices_Equal_api_Stay_api_Stay_x1_H qs1 qs2 0) (oT [] []) ?_
    refine bE hF fun x h6 hF => ?_
    rcases x with _ | _
    · refine awp_sub (awp_loop' (slices_Equal_api_Stay_api_Stay_x1_H qs1 qs2) slices_Equal_api_Stay_api_Stay_x1_k (slices_Equal_api_Stay_api_Stay_x1_S qs1 qs2) (by intro x; rcases x with x | x <;> exact fun h => nomatch h) h6 (slices_Equal_api_Stay_api_Stay_x1_ok qs1 qs2)) ?_
      refine awp_seq ?_
      refine awp_region ?_
      refine aR 1 ?_
      refine aE ?_
      refine awp_ret ?_
      exact oF hF [] []
    · refine awp_sub (awp_loop' (slices_Equal_api_Stay_api_Stay_x1_H qs1 qs2) slices_Equal_api_Stay_api_Stay_x1_k (slices_Equal_api_Stay_api_Stay_x1_S qs1 qs2) (by intro x; rcases x with x | x <;> exact fun h => nomatch h) h6 (slices_Equal_api_Stay_api_Stay_x1_ok qs1 qs2)) ?_
      exact oF hF [] []

/-! ### beaconfleet/fleetlaw2.TracksVisit -/
def fleetlaw2_TracksVisit_x1_k : Int → AEx
  | _ => .normal

def fleetlaw2_TracksVisit_x1_S (vr4 : api_Fence) (vr2 : List api_Fix) (vr : Int) (vr1 : Int) (vr4_1 : List api_Visit) (vr5 : Int) (vr3 : List api_Stay) (vr4_2 : Int) (vr3_1 : Int) (vr4_3 : Int) (vr1_1 : Int) (vr7 : Int) : Int → St
  | vx => Mem.st ⟨[], [(0, [.d (.str vr4.Key), .d (.lst (List.map api_Spot.enc vr4.Corners))])]⟩ (tl [(4, .v (.one (.box 0 0))), (5, .v (.one (.d (.lst (List.map api_Fix.enc vr2))))), (6, .v (.one (.d (.int .i64 vr)))), (7, .v (.one (.d (.int .i64 vr1)))), (8, .v (.one (.d (.lst (List.map api_Visit.enc vr4_1))))), (9, .v (.one (.d (.int .i64 vr5)))), (10, .v (.one (.d (.lst (List.map api_Stay.enc vr3))))), (11, .v (.one (.d (.int .i64 vr4_2)))), (12, .v (.one (.d (.int .i64 vr3_1)))), (13, .v (.one (.d (.int .i64 vr4_3)))), (14, .v (.one (.d (.int .i64 vr1_1)))), (15, .v (.one (.d (.int .i64 vr7)))), (16, .v (.one (.d (.int .i64 vx))))]) 1

def fleetlaw2_TracksVisit_x1_I (vr4 : api_Fence) (vr2 : List api_Fix) (vr : Int) (vr1 : Int) (vr4_1 : List api_Visit) (vr5 : Int) (vr3 : List api_Stay) (vr4_2 : Int) (vr3_1 : Int) (vr4_3 : Int) (vr1_1 : Int) (vr7 : Int) : St := Mem.st ⟨[], [(0, [.d (.str vr4.Key), .d (.lst (List.map api_Spot.enc vr4.Corners))])]⟩ (tl [(4, .v (.one (.box 0 0))), (5, .v (.one (.d (.lst (List.map api_Fix.enc vr2))))), (6, .v (.one (.d (.int .i64 vr)))), (7, .v (.one (.d (.int .i64 vr1)))), (8, .v (.one (.d (.lst (List.map api_Visit.enc vr4_1))))), (9, .v (.one (.d (.int .i64 vr5)))), (10, .v (.one (.d (.lst (List.map api_Stay.enc vr3))))), (11, .v (.one (.d (.int .i64 vr4_2)))), (12, .v (.one (.d (.int .i64 vr3_1)))), (13, .v (.one (.d (.int .i64 vr4_3)))), (14, .v (.one (.d (.int .i64 vr1_1)))), (15, .v (.one (.d (.int .i64 vr7))))]) 1

theorem fleetlaw2_TracksVisit_x1_ok (vr4 : api_Fence) (vr2 : List api_Fix) (vr : Int) (vr1 : Int) (vr4_1 : List api_Visit) (vr5 : Int) (vr3 : List api_Stay) (vr4_2 : Int) (vr3_1 : Int) (vr4_3 : Int) (vr1_1 : Int) (vr7 : Int) {r} (hF : fleetlaw2_TracksVisit_x1 vr vr1 vr1_1 = some r) : Awp prog 0 122 (cL (cR (cR (cR (cR (cR (cR (cR (cR (cB f5)))))))))) (Out 0 fleetlaw2_TracksVisit_x1_k (fleetlaw2_TracksVisit_x1_S vr4 vr2 vr vr1 vr4_1 vr5 vr3 vr4_2 vr3_1 vr4_3 vr1_1 vr7) r) (fleetlaw2_TracksVisit_x1_I vr4 vr2 vr vr1 vr4_1 vr5 vr3 vr4_2 vr3_1 vr4_3 vr1_1 vr7) := by
  unfold fleetlaw2_TracksVisit_x1 at hF
  refine cE hF (fun h11 hF => ?_) fun h11 hF => ?_
  · refine bE hF fun vr8 h12 hF => ?_
    refine bE hF fun vr9 h13 hF => ?_
    refine awp_region ?_
    refine aR 2 ?_
    refine aB h11 ?_
    refine aR 12 ?_
    refine aC (fleetlaw2_when_ok h12) [] [] [] ?_
    refine aR 1 ?_
    refine aC (fleetlaw2_errs_ok h13) [] [] [16001] ?_
    refine aR 1 ?_
    refine aE ?_
    exact oO hF [] [] rfl
  · refine cE hF (fun h14 hF => ?_) fun h14 hF => ?_
    · refine bE hF fun vr10 h15 hF => ?_
      refine bE hF fun vr11 h16 hF => ?_
      refine awp_region ?_
      refine aR 2 ?_
      refine aB h11 ?_
      refine aR 2 ?_
      refine aB h14 ?_
      refine aR 9 ?_
      refine aC (fleetlaw2_when_ok h15) [] [] [] ?_
      refine aR 1 ?_
      refine aC (fleetlaw2_errs_ok h16) [] [] [16001] ?_
      refine aR 1 ?_
      refine aE ?_
      exact oO hF [] [] rfl
    · refine cE hF (fun h17 hF => ?_) fun h17 hF => ?_
      · refine bE hF fun vr12 h18 hF => ?_
        refine bE hF fun vr13 h19 hF => ?_
        refine awp_region ?_
        refine aR 2 ?_
        refine aB h11 ?_
        refine aR 2 ?_
        refine aB h14 ?_
        refine aR 3 ?_
        refine aB h17 ?_
        refine aR 5 ?_
        refine aC (fleetlaw2_when_ok h18) [] [] [] ?_
        refine aR 1 ?_
        refine aC (fleetlaw2_errs_ok h19) [] [] [16001] ?_
        refine aR 1 ?_
        refine aE ?_
        exact oO hF [] [] rfl
      · refine bE hF fun vr14 h20 hF => ?_
        refine bE hF fun vr15 h21 hF => ?_
        refine awp_region ?_
        refine aR 2 ?_
        refine aB h11 ?_
        refine aR 2 ?_
        refine aB h14 ?_
        refine aR 3 ?_
        refine aB h17 ?_
        refine aR 5 ?_
        refine aC (fleetlaw2_when_ok h20) [] [] [] ?_
        refine aR 1 ?_
        refine aC (fleetlaw2_errs_ok h21) [] [] [16001] ?_
        refine aR 1 ?_
        refine aE ?_
        exact oO hF [] [] rfl

def fleetlaw2_TracksVisit_x2_k : (List api_Visit) → AEx
  | _ => .normal

def fleetlaw2_TracksVisit_x2_S (vr4 : api_Fence) (vr2 : List api_Fix) (vr : Int) (vr1 : Int) (vr4_1 : List api_Visit) (vr5 : Int) (vr3 : List api_Stay) (vr4_2 : Int) (vr3_1 : Int) (vr4_3 : Int) (vr1_1 : Int) (vr7 : Int) (vx1 : Int) : (List api_Visit) → St
  | vx2 => Mem.st ⟨[], []⟩ (tl [(5, .v (.one (.d (.lst (List.map api_Fix.enc vr2))))), (6, .v (.one (.d (.int .i64 vr)))), (7, .v (.one (.d (.int .i64 vr1)))), (8, .v (.one (.d (.lst (List.map api_Visit.enc vr4_1))))), (9, .v (.one (.d (.int .i64 vr5)))), (10, .v (.one (.d (.lst (List.map api_Stay.enc vr3))))), (11, .v (.one (.d (.int .i64 vr4_2)))), (12, .v (.one (.d (.int .i64 vr3_1)))), (13, .v (.one (.d (.int .i64 vr4_3)))), (14, .v (.one (.d (.int .i64 vr1_1)))), (15, .v (.one (.d (.int .i64 vr7)))), (16, .v (.one (.d (.int .i64 vx1)))), (17, .v (.one (.d (.lst (List.map api_Visit.enc vx2))))), (18, .v (.one (.nil))), (19, .v (.one (.d (.int .i64 0))))]) 0

def fleetlaw2_TracksVisit_x2_I (vr4 : api_Fence) (vr2 : List api_Fix) (vr : Int) (vr1 : Int) (vr4_1 : List api_Visit) (vr5 : Int) (vr3 : List api_Stay) (vr4_2 : Int) (vr3_1 : Int) (vr4_3 : Int) (vr1_1 : Int) (vr7 : Int) (vx1 : Int) : St := Mem.st ⟨[], [(0, [.d (.str vr4.Key), .d (.lst (List.map api_Spot.enc vr4.Corners))])]⟩ (tl [(4, .v (.one (.box 0 0))), (5, .v (.one (.d (.lst (List.map api_Fix.enc vr2))))), (6, .v (.one (.d (.int .i64 vr)))), (7, .v (.one (.d (.int .i64 vr1)))), (8, .v (.one (.d (.lst (List.map api_Visit.enc vr4_1))))), (9, .v (.one (.d (.int .i64 vr5)))), (10, .v (.one (.d (.lst (List.map api_Stay.enc vr3))))), (11, .v (.one (.d (.int .i64 vr4_2)))), (12, .v (.one (.d (.int .i64 vr3_1)))), (13, .v (.one (.d (.int .i64 vr4_3)))), (14, .v (.one (.d (.int .i64 vr1_1)))), (15, .v (.one (.d (.int .i64 vr7)))), (16, .v (.one (.d (.int .i64 vx1)))), (17, .v (.one (.nil))), (18, .v (.one (.nil))), (19, .v (.one (.d (.int .i64 0))))]) 1

theorem fleetlaw2_TracksVisit_x2_ok (vr4 : api_Fence) (vr2 : List api_Fix) (vr : Int) (vr1 : Int) (vr4_1 : List api_Visit) (vr5 : Int) (vr3 : List api_Stay) (vr4_2 : Int) (vr3_1 : Int) (vr4_3 : Int) (vr1_1 : Int) (vr7 : Int) (vx1 : Int) {r} (hF : fleetlaw2_TracksVisit_x2 vr4 vr2 vr7 = some r) : Awp prog 0 122 (cL (cR (cR (cR (cR (cR (cR (cR (cR (cR (cR (cR (cR (cB f5)))))))))))))) (Out 0 fleetlaw2_TracksVisit_x2_k (fleetlaw2_TracksVisit_x2_S vr4 vr2 vr vr1 vr4_1 vr5 vr3 vr4_2 vr3_1 vr4_3 vr1_1 vr7 vx1) r) (fleetlaw2_TracksVisit_x2_I vr4 vr2 vr vr1 vr4_1 vr5 vr3 vr4_2 vr3_1 vr4_3 vr1_1 vr7 vx1) := by
  unfold fleetlaw2_TracksVisit_x2 at hF
  refine awp_seq ?_
  refine awp_region ?_
  refine aR 2 ?_
  refine aE ?_
  refine cE hF (fun h23 hF => ?_) fun h23 hF => ?_
  · refine awp_true (by kernel_rfl) h23 ?_
    refine bE hF fun vr2_1 h24 hF => ?_
    refine awp_region ?_
    refine aR 2 ?_
    refine aC (fleetref2_VisitsOf_ok h24) [] [] [] ?_
    refine aR 1 ?_
    refine aE ?_
    exact oO hF [] [] rfl
  · refine awp_false (by kernel_rfl) h23 ?_
    refine awp_skip ?_
    exact oO hF [] [] rfl

def fleetlaw2_TracksVisit_x3_k : (List api_Stay) → AEx
  | _ => .normal

def fleetlaw2_TracksVisit_x3_S (vr2 : List api_Fix) (vr : Int) (vr1 : Int) (vr4_1 : List api_Visit) (vr5 : Int) (vr3 : List api_Stay) (vr4_2 : Int) (vr3_1 : Int) (vr4_3 : Int) (vr1_1 : Int) (vr7 : Int) (vx1 : Int) (vx2_1 : List api_Visit) : (List api_Stay) → St
  | vx3 => Mem.st ⟨[], []⟩ (tl [(5, .v (.one (.d (.lst (List.map api_Fix.enc vr2))))), (8, .v (.one (.d (.lst (List.map api_Visit.enc vr4_1))))), (9, .v (.one (.d (.int .i64 vr5)))), (10, .v (.one (.d (.lst (List.map api_Stay.enc vr3))))), (11, .v (.one (.d (.int .i64 vr4_2)))), (12, .v (.one (.d (.int .i64 vr3_1)))), (13, .v (.one (.d (.int .i64 vr4_3)))), (14, .v (.one (.d (.int .i64 vr1_1)))), (15, .v (.one (.d (.int .i64 vr7)))), (16, .v (.one (.d (.int .i64 vx1)))), (17, .v (.one (.d (.lst (List.map api_Visit.enc vx2_1))))), (18, .v (.one (.d (.lst (List.map api_Stay.enc vx3))))), (19, .v (.one (.d (.int .i64 0))))]) 0

def fleetlaw2_TracksVisit_x3_I (vr2 : List api_Fix) (vr : Int) (vr1 : Int) (vr4_1 : List api_Visit) (vr5 : Int) (vr3 : List api_Stay) (vr4_2 : Int) (vr3_1 : Int) (vr4_3 : Int) (vr1_1 : Int) (vr7 : Int) (vx1 : Int) (vx2_1 : List api_Visit) : St := Mem.st ⟨[], []⟩ (tl [(5, .v (.one (.d (.lst (List.map api_Fix.enc vr2))))), (6, .v (.one (.d (.int .i64 vr)))), (7, .v (.one (.d (.int .i64 vr1)))), (8, .v (.one (.d (.lst (List.map api_Visit.enc vr4_1))))), (9, .v (.one (.d (.int .i64 vr5)))), (10, .v (.one (.d (.lst (List.map api_Stay.enc vr3))))), (11, .v (.one (.d (.int .i64 vr4_2)))), (12, .v (.one (.d (.int .i64 vr3_1)))), (13, .v (.one (.d (.int .i64 vr4_3)))), (14, .v (.one (.d (.int .i64 vr1_1)))), (15, .v (.one (.d (.int .i64 vr7)))), (16, .v (.one (.d (.int .i64 vx1)))), (17, .v (.one (.d (.lst (List.map api_Visit.enc vx2_1))))), (18, .v (.one (.nil))), (19, .v (.one (.d (.int .i64 0))))]) 0

theorem fleetlaw2_TracksVisit_x3_ok (vr2 : List api_Fix) (vr : Int) (vr1 : Int) (vr4_1 : List api_Visit) (vr5 : Int) (vr3 : List api_Stay) (vr4_2 : Int) (vr3_1 : Int) (vr4_3 : Int) (vr1_1 : Int) (vr7 : Int) (vx1 : Int) (vx2_1 : List api_Visit) {r} (hF : fleetlaw2_TracksVisit_x3 vr2 vr vr1 vx1 = some r) : Awp prog 0 122 (cL (cR (cR (cR (cR (cR (cR (cR (cR (cR (cR (cR (cR (cR (cB f5))))))))))))))) (Out 0 fleetlaw2_TracksVisit_x3_k (fleetlaw2_TracksVisit_x3_S vr2 vr vr1 vr4_1 vr5 vr3 vr4_2 vr3_1 vr4_3 vr1_1 vr7 vx1 vx2_1) r) (fleetlaw2_TracksVisit_x3_I vr2 vr vr1 vr4_1 vr5 vr3 vr4_2 vr3_1 vr4_3 vr1_1 vr7 vx1 vx2_1) := by
  unfold fleetlaw2_TracksVisit_x3 at hF
  refine awp_seq ?_
  refine awp_region ?_
  refine aR 2 ?_
  refine aE ?_
  refine cE hF (fun h26 hF => ?_) fun h26 hF => ?_
  · refine awp_true (by kernel_rfl) h26 ?_
    refine bE hF fun vr16 h27 hF => ?_
    refine awp_region ?_
    refine aR 3 ?_
    refine aC (fleetref2_StaysOf_ok h27) [] [] [] ?_
    refine aR 1 ?_
    refine aE ?_
    exact oO hF [] [] rfl
  · refine awp_false (by kernel_rfl) h26 ?_
    refine awp_skip ?_
    exact oO hF [] [] rfl

def fleetlaw2_TracksVisit_x4_k : Int → AEx
  | _ => .normal

def fleetlaw2_TracksVisit_x4_S (vr2 : List api_Fix) (vr4_1 : List api_Visit) (vr5 : Int) (vr3 : List api_Stay) (vr4_2 : Int) (vr3_1 : Int) (vr4_3 : Int) (vr1_1 : Int) (vr7 : Int) (vx1 : Int) (vx2_1 : List api_Visit) (vx3_1 : List api_Stay) : Int → St
  | vx4 => Mem.st ⟨[], []⟩ (tl [(8, .v (.one (.d (.lst (List.map api_Visit.enc vr4_1))))), (9, .v (.one (.d (.int .i64 vr5)))), (10, .v (.one (.d (.lst (List.map api_Stay.enc vr3))))), (11, .v (.one (.d (.int .i64 vr4_2)))), (12, .v (.one (.d (.int .i64 vr3_1)))), (13, .v (.one (.d (.int .i64 vr4_3)))), (14, .v (.one (.d (.int .i64 vr1_1)))), (15, .v (.one (.d (.int .i64 vr7)))), (16, .v (.one (.d (.int .i64 vx1)))), (17, .v (.one (.d (.lst (List.map api_Visit.enc vx2_1))))), (18, .v (.one (.d (.lst (List.map api_Stay.enc vx3_1))))), (19, .v (.one (.d (.int .i64 vx4))))]) 0

def fleetlaw2_TracksVisit_x4_I (vr2 : List api_Fix) (vr4_1 : List api_Visit) (vr5 : Int) (vr3 : List api_Stay) (vr4_2 : Int) (vr3_1 : Int) (vr4_3 : Int) (vr1_1 : Int) (vr7 : Int) (vx1 : Int) (vx2_1 : List api_Visit) (vx3_1 : List api_Stay) : St := Mem.st ⟨[], []⟩ (tl [(5, .v (.one (.d (.lst (List.map api_Fix.enc vr2))))), (8, .v (.one (.d (.lst (List.map api_Visit.enc vr4_1))))), (9, .v (.one (.d (.int .i64 vr5)))), (10, .v (.one (.d (.lst (List.map api_Stay.enc vr3))))), (11, .v (.one (.d (.int .i64 vr4_2)))), (12, .v (.one (.d (.int .i64 vr3_1)))), (13, .v (.one (.d (.int .i64 vr4_3)))), (14, .v (.one (.d (.int .i64 vr1_1)))), (15, .v (.one (.d (.int .i64 vr7)))), (16, .v (.one (.d (.int .i64 vx1)))), (17, .v (.one (.d (.lst (List.map api_Visit.enc vx2_1))))), (18, .v (.one (.d (.lst (List.map api_Stay.enc vx3_1))))), (19, .v (.one (.d (.int .i64 0))))]) 0

theorem fleetlaw2_TracksVisit_x4_ok (vr2 : List api_Fix) (vr4_1 : List api_Visit) (vr5 : Int) (vr3 : List api_Stay) (vr4_2 : Int) (vr3_1 : Int) (vr4_3 : Int) (vr1_1 : Int) (vr7 : Int) (vx1 : Int) (vx2_1 : List api_Visit) (vx3_1 : List api_Stay) {r} (hF : fleetlaw2_TracksVisit_x4 vr2 vr1_1 = some r) : Awp prog 0 122 (cL (cR (cR (cR (cR (cR (cR (cR (cR (cR (cR (cR (cR (cR (cR (cB f5)))))))))))))))) (Out 0 fleetlaw2_TracksVisit_x4_k (fleetlaw2_TracksVisit_x4_S vr2 vr4_1 vr5 vr3 vr4_2 vr3_1 vr4_3 vr1_1 vr7 vx1 vx2_1 vx3_1) r) (fleetlaw2_TracksVisit_x4_I vr2 vr4_1 vr5 vr3 vr4_2 vr3_1 vr4_3 vr1_1 vr7 vx1 vx2_1 vx3_1) := by
  unfold fleetlaw2_TracksVisit_x4 at hF
  refine awp_seq ?_
  refine awp_region ?_
  refine aR 2 ?_
  refine aE ?_
  refine cE hF (fun h29 hF => ?_) fun h29 hF => ?_
  · refine awp_true (by kernel_rfl) h29 ?_
    refine bE hF fun vr2_2 h30 hF => ?_
    refine awp_region ?_
    refine aR 1 ?_
    refine aC (fleetref2_LengthOf_ok h30) [] [] [] ?_
    refine aR 1 ?_
    refine aE ?_
    exact oO hF [] [] rfl
  · refine awp_false (by kernel_rfl) h29 ?_
    refine awp_skip ?_
    exact oO hF [] [] rfl

def fleetlaw2_TracksVisit_x5_k : Bool → AEx
  | _ => .normal

def fleetlaw2_TracksVisit_x5_S (vr4_1 : List api_Visit) (vr5 : Int) (vr3 : List api_Stay) (vr4_2 : Int) (vr3_1 : Int) (vr4_3 : Int) (vr1_1 : Int) (vr7 : Int) (vx1 : Int) (vx2_1 : List api_Visit) (vx3_1 : List api_Stay) (vx4_1 : Int) : Bool → St
  | vx5 => Mem.st ⟨[], []⟩ (tl [(2, .v (.one (.d (.bool vx5))))]) 0

def fleetlaw2_TracksVisit_x5_I (vr4_1 : List api_Visit) (vr5 : Int) (vr3 : List api_Stay) (vr4_2 : Int) (vr3_1 : Int) (vr4_3 : Int) (vr1_1 : Int) (vr7 : Int) (vx1 : Int) (vx2_1 : List api_Visit) (vx3_1 : List api_Stay) (vx4_1 : Int) : St := Mem.st ⟨[], []⟩ (tl [(8, .v (.one (.d (.lst (List.map api_Visit.enc vr4_1))))), (9, .v (.one (.d (.int .i64 vr5)))), (10, .v (.one (.d (.lst (List.map api_Stay.enc vr3))))), (11, .v (.one (.d (.int .i64 vr4_2)))), (12, .v (.one (.d (.int .i64 vr3_1)))), (13, .v (.one (.d (.int .i64 vr4_3)))), (14, .v (.one (.d (.int .i64 vr1_1)))), (15, .v (.one (.d (.int .i64 vr7)))), (16, .v (.one (.d (.int .i64 vx1)))), (17, .v (.one (.d (.lst (List.map api_Visit.enc vx2_1))))), (18, .v (.one (.d (.lst (List.map api_Stay.enc vx3_1))))), (19, .v (.one (.d (.int .i64 vx4_1))))]) 0

theorem fleetlaw2_TracksVisit_x5_ok (vr4_1 : List api_Visit) (vr5 : Int) (vr3 : List api_Stay) (vr4_2 : Int) (vr3_1 : Int) (vr4_3 : Int) (vr1_1 : Int) (vr7 : Int) (vx1 : Int) (vx2_1 : List api_Visit) (vx3_1 : List api_Stay) (vx4_1 : Int) {r} (hF : fleetlaw2_TracksVisit_x5 vr4_1 vr5 vr3 vr4_2 vr3_1 vr4_3 vr1_1 vr7 vx1 vx2_1 vx3_1 vx4_1 = some r) : Awp prog 0 122 (cL (cR (cR (cR (cR (cR (cR (cR (cR (cR (cR (cR (cR (cR (cR (cR (cB f5))))))))))))))))) (Out 0 fleetlaw2_TracksVisit_x5_k (fleetlaw2_TracksVisit_x5_S vr4_1 vr5 vr3 vr4_2 vr3_1 vr4_3 vr1_1 vr7 vx1 vx2_1 vx3_1 vx4_1) r) (fleetlaw2_TracksVisit_x5_I vr4_1 vr5 vr3 vr4_2 vr3_1 vr4_3 vr1_1 vr7 vx1 vx2_1 vx3_1 vx4_1) := by
  unfold fleetlaw2_TracksVisit_x5 at hF
  refine cE hF (fun h32 hF => ?_) fun h32 hF => ?_
  · refine bE hF fun vr17 h33 hF => ?_
    refine cE hF (fun h34 hF => ?_) fun h34 hF => ?_
    · refine cE hF (fun h35 hF => ?_) fun h35 hF => ?_
      · refine bE hF fun vr18 h36 hF => ?_
        refine cE hF (fun h37 hF => ?_) fun h37 hF => ?_
        · refine cE hF (fun h38 hF => ?_) fun h38 hF => ?_
          · refine cE hF (fun h39 hF => ?_) fun h39 hF => ?_
            · refine bE hF fun vr19 h40 hF => ?_
              refine awp_region ?_
              refine aR 2 ?_
              refine aB h32 ?_
              refine aR 3 ?_
              refine aCb (slices_Equal_api_Visit_api_Visit_ok h33) [] [] [] h34 ?_
              refine aR 4 ?_
              refine aB h35 ?_
              refine aR 4 ?_
              refine aCb (slices_Equal_api_Stay_api_Stay_ok h36) [] [] [] h37 ?_
              refine aR 4 ?_
              refine aB h38 ?_
              refine aR 4 ?_
              refine aB h39 ?_
              refine aR 2 ?_
              refine aC (fleetlaw2_placed_ok h40) [] [] [] ?_
              refine aR 2 ?_
              refine aE ?_
              exact oO hF [] [] rfl
            · refine awp_region ?_
              refine aR 2 ?_
              refine aB h32 ?_
              refine aR 3 ?_
              refine aCb (slices_Equal_api_Visit_api_Visit_ok h33) [] [] [] h34 ?_
              refine aR 4 ?_
              refine aB h35 ?_
              refine aR 4 ?_
              refine aCb (slices_Equal_api_Stay_api_Stay_ok h36) [] [] [] h37 ?_
              refine aR 4 ?_
              refine aB h38 ?_
              refine aR 4 ?_
              refine aB h39 ?_
              refine aR 5 ?_
              refine aE ?_
              exact oO hF [] [] rfl
          · refine awp_region ?_
            refine aR 2 ?_
            refine aB h32 ?_
            refine aR 3 ?_
            refine aCb (slices_Equal_api_Visit_api_Visit_ok h33) [] [] [] h34 ?_
            refine aR 4 ?_
            refine aB h35 ?_
            refine aR 4 ?_
            refine aCb (slices_Equal_api_Stay_api_Stay_ok h36) [] [] [] h37 ?_
            refine aR 4 ?_
            refine aB h38 ?_
            refine aR 10 ?_
            refine aE ?_
            exact oO hF [] [] rfl
        · refine awp_region ?_
          refine aR 2 ?_
          refine aB h32 ?_
          refine aR 3 ?_
          refine aCb (slices_Equal_api_Visit_api_Visit_ok h33) [] [] [] h34 ?_
          refine aR 4 ?_
          refine aB h35 ?_
          refine aR 4 ?_
          refine aCb (slices_Equal_api_Stay_api_Stay_ok h36) [] [] [] h37 ?_
          refine aR 15 ?_
          refine aE ?_
          exact oO hF [] [] rfl
      · refine awp_region ?_
        refine aR 2 ?_
        refine aB h32 ?_
        refine aR 3 ?_
        refine aCb (slices_Equal_api_Visit_api_Visit_ok h33) [] [] [] h34 ?_
        refine aR 4 ?_
        refine aB h35 ?_
        refine aR 20 ?_
        refine aE ?_
        exact oO hF [] [] rfl
    · refine awp_region ?_
      refine aR 2 ?_
      refine aB h32 ?_
      refine aR 3 ?_
      refine aCb (slices_Equal_api_Visit_api_Visit_ok h33) [] [] [] h34 ?_
      refine aR 25 ?_
      refine aE ?_
      exact oO hF [] [] rfl
  · refine awp_region ?_
    refine aR 2 ?_
    refine aB h32 ?_
    refine aR 29 ?_
    refine aE ?_
    exact oO hF [] [] rfl

def fleetlaw2_TracksVisit_R (qx : List Int) (r : Bool) : TV × Mem := (.v (.one (.d (.bool r))), ⟨[], []⟩)

theorem fleetlaw2_TracksVisit_ok {qx : List Int} {r} (hF : fleetlaw2_TracksVisit qx = some r) : Holds prog 5 [.v (.one (.d (.lst (List.map (encI .i64) qx))))] ⟨[], []⟩ (Is (fleetlaw2_TracksVisit_R qx r)) := by
  unfold fleetlaw2_TracksVisit at hF
  refine holds_of_awp hΓ (fn := f5) (c := cB f5) (A := 0) (nx := 0) (by kernel_rfl) (by kernel_rfl) (by kernel_rfl) (by kernel_rfl) (by kernel_rfl) (by kernel_rfl) (lowc_of (by kernel_rfl)) ?_
  show Awp prog 0 122 (cB f5) _ _
  refine awp_seq ?_
  refine awp_region ?_
  refine aR 1 ?_
  refine aE ?_
  refine awp_seq ?_
  refine awp_region ?_
  refine aR 4 ?_
  refine aE ?_
  refine awp_seq ?_
  refine bE hF fun x h1 hF => ?_
  obtain ⟨vs2, vr4⟩ := x
  refine bE hF fun x h2 hF => ?_
  obtain ⟨vs3, vr2⟩ := x
  refine bE hF fun vr h3 hF => ?_
  refine bE hF fun vr1 h4 hF => ?_
  refine awp_region ?_
  refine aR 1 ?_
  refine aC (fleetmake_Stream_Fence_ok h1) [(0, 3000)] [] [] ?_
  refine aR 1 ?_
  refine aC (fleetmake_Stream_Track_ok h2) [(0, 3000)] [] [] ?_
  refine aR 2 ?_
  refine aC (fleetmake_Stream_Pick_o1_ok h3) [(0, 3000), (1, 10000)] [] [] ?_
  refine aR 2 ?_
  refine aC (fleetmake_Stream_Pick_o1_ok h4) [(0, 3000), (1, 13000)] [] [] ?_
  refine aR 5 ?_
  refine aE ?_
  refine awp_to (oT (m := ⟨[], [(0, [.d (.str vr4.Key), .d (.lst (List.map api_Spot.enc vr4.Corners))])]⟩) (ts := [(4, .v (.one (.box 0 0))), (5, .v (.one (.d (.lst (List.map api_Fix.enc vr2))))), (6, .v (.one (.d (.int .i64 vr)))), (7, .v (.one (.d (.int .i64 vr1))))]) (nx := 1) [(0, 15000)] []) ?_
  refine awp_seq ?_
  refine bE hF fun x h5 hF => ?_
  obtain ⟨vr4_1, vr5⟩ := x
  refine awp_region ?_
  refine aR 2 ?_
  refine aC (place_Visits_ok h5) [] [] [] ?_
  refine aR 5 ?_
  refine aE ?_
  refine awp_to (oT (m := ⟨[], [(0, [.d (.str vr4.Key), .d (.lst (List.map api_Spot.enc vr4.Corners))])]⟩) (ts := [(4, .v (.one (.box 0 0))), (5, .v (.one (.d (.lst (List.map api_Fix.enc vr2))))), (6, .v (.one (.d (.int .i64 vr)))), (7, .v (.one (.d (.int .i64 vr1)))), (8, .v (.one (.d (.lst (List.map api_Visit.enc vr4_1))))), (9, .v (.one (.d (.int .i64 vr5))))]) (nx := 1) [] []) ?_
  refine awp_seq ?_
  refine bE hF fun x h6 hF => ?_
  obtain ⟨vr3, vr4_2⟩ := x
  refine awp_region ?_
  refine aR 3 ?_
  refine aC (place_Stays_ok h6) [] [] [] ?_
  refine aR 5 ?_
  refine aE ?_
  refine awp_to (oT (m := ⟨[], [(0, [.d (.str vr4.Key), .d (.lst (List.map api_Spot.enc vr4.Corners))])]⟩) (ts := [(4, .v (.one (.box 0 0))), (5, .v (.one (.d (.lst (List.map api_Fix.enc vr2))))), (6, .v (.one (.d (.int .i64 vr)))), (7, .v (.one (.d (.int .i64 vr1)))), (8, .v (.one (.d (.lst (List.map api_Visit.enc vr4_1))))), (9, .v (.one (.d (.int .i64 vr5)))), (10, .v (.one (.d (.lst (List.map api_Stay.enc vr3))))), (11, .v (.one (.d (.int .i64 vr4_2))))]) (nx := 1) [] []) ?_
  refine awp_seq ?_
  refine bE hF fun x h7 hF => ?_
  obtain ⟨vr3_1, vr4_3⟩ := x
  refine awp_region ?_
  refine aR 1 ?_
  refine aC (place_Length_ok h7) [] [] [] ?_
  refine aR 5 ?_
  refine aE ?_
  refine awp_seq ?_
  refine bE hF fun vr1_1 h8 hF => ?_
  refine awp_region ?_
  refine aR 1 ?_
  refine aC (fleetref2_TrackFault_ok h8) [] [] [] ?_
  refine aR 1 ?_
  refine aE ?_
  refine awp_seq ?_
  refine bE hF fun vr6 h9 hF => ?_
  refine bE hF fun vr7 h10 hF => ?_
  refine awp_region ?_
  refine aR 1 ?_
  refine aC (fleetref2_FenceFault_ok h9) [] [] [] ?_
  refine aR 2 ?_
  refine aC (fleetlaw2_errs_ok h10) [] [] [13001] ?_
  refine aR 1 ?_
  refine aE ?_
  refine awp_seq ?_
  refine awp_to (st' := fleetlaw2_TracksVisit_x1_I vr4 vr2 vr vr1 vr4_1 vr5 vr3 vr4_2 vr3_1 vr4_3 vr1_1 vr7) (oT [] []) ?_
  refine bE hF fun vx1 h22 hF => ?_
  refine awp_sub (fleetlaw2_TracksVisit_x1_ok vr4 vr2 vr vr1 vr4_1 vr5 vr3 vr4_2 vr3_1 vr4_3 vr1_1 vr7 h22) ?_
  refine awp_seq ?_
  refine awp_region ?_
  refine aR 1 ?_
  refine aE ?_
  refine awp_seq ?_
  refine awp_region ?_
  refine aR 1 ?_
  refine aE ?_
  refine awp_seq ?_
  refine awp_region ?_
  refine aR 1 ?_
  refine aE ?_
  refine awp_seq ?_
  refine awp_to (st' := fleetlaw2_TracksVisit_x2_I vr4 vr2 vr vr1 vr4_1 vr5 vr3 vr4_2 vr3_1 vr4_3 vr1_1 vr7 vx1) (oT [] []) ?_
  refine bE hF fun vx2_1 h25 hF => ?_
  refine awp_sub (fleetlaw2_TracksVisit_x2_ok vr4 vr2 vr vr1 vr4_1 vr5 vr3 vr4_2 vr3_1 vr4_3 vr1_1 vr7 vx1 h25) ?_
  refine awp_seq ?_
  refine awp_to (st' := fleetlaw2_TracksVisit_x3_I vr2 vr vr1 vr4_1 vr5 vr3 vr4_2 vr3_1 vr4_3 vr1_1 vr7 vx1 vx2_1) (oT [] []) ?_
  refine bE hF fun vx3_1 h28 hF => ?_
  refine awp_sub (fleetlaw2_TracksVisit_x3_ok vr2 vr vr1 vr4_1 vr5 vr3 vr4_2 vr3_1 vr4_3 vr1_1 vr7 vx1 vx2_1 h28) ?_
  refine awp_seq ?_
  refine awp_to (st' := fleetlaw2_TracksVisit_x4_I vr2 vr4_1 vr5 vr3 vr4_2 vr3_1 vr4_3 vr1_1 vr7 vx1 vx2_1 vx3_1) (oT [] []) ?_
  refine bE hF fun vx4_1 h31 hF => ?_
  refine awp_sub (fleetlaw2_TracksVisit_x4_ok vr2 vr4_1 vr5 vr3 vr4_2 vr3_1 vr4_3 vr1_1 vr7 vx1 vx2_1 vx3_1 h31) ?_
  refine awp_seq ?_
  refine awp_to (st' := fleetlaw2_TracksVisit_x5_I vr4_1 vr5 vr3 vr4_2 vr3_1 vr4_3 vr1_1 vr7 vx1 vx2_1 vx3_1 vx4_1) (oT [] []) ?_
  refine bE hF fun vx5_1 h41 hF => ?_
  refine awp_sub (fleetlaw2_TracksVisit_x5_ok vr4_1 vr5 vr3 vr4_2 vr3_1 vr4_3 vr1_1 vr7 vx1 vx2_1 vx3_1 vx4_1 h41) ?_
  refine awp_ret ?_
  exact oF hF [] []

end Go.Eng
