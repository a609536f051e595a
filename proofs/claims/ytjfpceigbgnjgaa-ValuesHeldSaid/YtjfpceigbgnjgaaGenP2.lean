/-
The code of the Go functions that the law ValuesHeld reaches does what the plain functions say, part 2.
-/
import Derived.Test.YtjfpceigbgnjgaaGenP1

namespace Go.Eng

open Go Go.Proofs.Try

set_option linter.unusedVariables false

set_option maxRecDepth 20000

set_option maxHeartbeats 0

/-! ### beaconfleet/fleetlaw2.ValuesHeld -/
def fleetlaw2_ValuesHeld_x1_k : Int → AEx
  | _ => .normal

def fleetlaw2_ValuesHeld_x1_S (vr9 : List api_Sample) (vr7 : api_Window) (vr : Int) (vr1 : Int) (vr2 : Int) (vr2_1 : api_Fraction) (vr3 : Int) (vr2_2 : Int) (vr3_1 : Int) (vr4 : List api_Window) (vr5 : Int) (vr1_1 : Int) (vr6 : Int) (vr10 : Int) : Int → St
  | vx => Mem.st ⟨[], [(0, [.d (.int .i64 vr7.From), .d (.int .i64 vr7.To)]), (1, [.d (.int .i64 vr2_1.Num), .d (.int .i64 vr2_1.Den)])]⟩ (tl [(4, .v (.one (.d (.lst (List.map api_Sample.enc vr9))))), (5, .v (.one (.box 0 0))), (6, .v (.one (.d (.int .i64 vr)))), (7, .v (.one (.d (.int .i64 vr1)))), (8, .v (.one (.d (.int .i64 vr2)))), (9, .v (.one (.box 1 0))), (10, .v (.one (.d (.int .i64 vr3)))), (11, .v (.one (.d (.int .i64 vr2_2)))), (12, .v (.one (.d (.int .i64 vr3_1)))), (13, .v (.one (.d (.lst (List.map api_Window.enc vr4))))), (14, .v (.one (.d (.int .i64 vr5)))), (16, .v (.one (.d (.int .i64 vr6)))), (17, .v (.one (.d (.int .i64 vr10)))), (18, .v (.one (.d (.int .i64 vx))))]) 2

def fleetlaw2_ValuesHeld_x1_I (vr9 : List api_Sample) (vr7 : api_Window) (vr : Int) (vr1 : Int) (vr2 : Int) (vr2_1 : api_Fraction) (vr3 : Int) (vr2_2 : Int) (vr3_1 : Int) (vr4 : List api_Window) (vr5 : Int) (vr1_1 : Int) (vr6 : Int) (vr10 : Int) : St := Mem.st ⟨[], [(0, [.d (.int .i64 vr7.From), .d (.int .i64 vr7.To)]), (1, [.d (.int .i64 vr2_1.Num), .d (.int .i64 vr2_1.Den)])]⟩ (tl [(4, .v (.one (.d (.lst (List.map api_Sample.enc vr9))))), (5, .v (.one (.box 0 0))), (6, .v (.one (.d (.int .i64 vr)))), (7, .v (.one (.d (.int .i64 vr1)))), (8, .v (.one (.d (.int .i64 vr2)))), (9, .v (.one (.box 1 0))), (10, .v (.one (.d (.int .i64 vr3)))), (11, .v (.one (.d (.int .i64 vr2_2)))), (12, .v (.one (.d (.int .i64 vr3_1)))), (13, .v (.one (.d (.lst (List.map api_Window.enc vr4))))), (14, .v (.one (.d (.int .i64 vr5)))), (15, .v (.one (.d (.int .i64 vr1_1)))), (16, .v (.one (.d (.int .i64 vr6)))), (17, .v (.one (.d (.int .i64 vr10))))]) 2

theorem fleetlaw2_ValuesHeld_x1_ok (vr9 : List api_Sample) (vr7 : api_Window) (vr : Int) (vr1 : Int) (vr2 : Int) (vr2_1 : api_Fraction) (vr3 : Int) (vr2_2 : Int) (vr3_1 : Int) (vr4 : List api_Window) (vr5 : Int) (vr1_1 : Int) (vr6 : Int) (vr10 : Int) {r} (hF : fleetlaw2_ValuesHeld_x1 vr9 vr vr1_1 = some r) : Awp prog 0 155 (cL (cR (cR (cR (cR (cR (cR (cR (cR (cR (cR (cB f13)))))))))))) (Out 0 fleetlaw2_ValuesHeld_x1_k (fleetlaw2_ValuesHeld_x1_S vr9 vr7 vr vr1 vr2 vr2_1 vr3 vr2_2 vr3_1 vr4 vr5 vr1_1 vr6 vr10) r) (fleetlaw2_ValuesHeld_x1_I vr9 vr7 vr vr1 vr2 vr2_1 vr3 vr2_2 vr3_1 vr4 vr5 vr1_1 vr6 vr10) := by
  unfold fleetlaw2_ValuesHeld_x1 at hF
  refine cE hF (fun h14 hF => ?_) fun h14 hF => ?_
  · refine bE hF fun vr11 h15 hF => ?_
    refine bE hF fun vr12 h16 hF => ?_
    refine bE hF fun vr13 h17 hF => ?_
    refine awp_region ?_
    refine aR 2 ?_
    refine aB h14 ?_
    refine aR 4 ?_
    refine aC (fleetlaw2_when_ok h15) [] [] [] ?_
    refine aR 1 ?_
    refine aL api_Sample.enc vr9 ?_
    refine aR 1 ?_
    refine aC (fleetlaw2_when_ok h16) [] [] [] ?_
    refine aR 1 ?_
    refine aC (fleetlaw2_errs_ok h17) [] [] [12002] ?_
    refine aR 1 ?_
    refine aE ?_
    exact oO hF [] [] rfl
  · refine bE hF fun vr14 h18 hF => ?_
    refine bE hF fun vr15 h19 hF => ?_
    refine bE hF fun vr16 h20 hF => ?_
    refine awp_region ?_
    refine aR 2 ?_
    refine aB h14 ?_
    refine aR 4 ?_
    refine aC (fleetlaw2_when_ok h18) [] [] [] ?_
    refine aR 1 ?_
    refine aL api_Sample.enc vr9 ?_
    refine aR 1 ?_
    refine aC (fleetlaw2_when_ok h19) [] [] [] ?_
    refine aR 1 ?_
    refine aC (fleetlaw2_errs_ok h20) [] [] [12002] ?_
    refine aR 1 ?_
    refine aE ?_
    exact oO hF [] [] rfl

def fleetlaw2_ValuesHeld_x2_k : (Int × api_Fraction) → AEx
  | _ => .normal

def fleetlaw2_ValuesHeld_x2_S (vr9 : List api_Sample) (vr7 : api_Window) (vr : Int) (vr1 : Int) (vr2 : Int) (vr2_1 : api_Fraction) (vr3 : Int) (vr2_2 : Int) (vr3_1 : Int) (vr4 : List api_Window) (vr5 : Int) (vr10 : Int) (vx1 : Int) (vr18 : Int) : (Int × api_Fraction) → St
  | (vx2, vx3) => Mem.st ⟨[], [(0, [.d (.int .i64 vr7.From), .d (.int .i64 vr7.To)]), (1, [.d (.int .i64 vr2_1.Num), .d (.int .i64 vr2_1.Den)]), (2, [.d (.int .i64 vx3.Num), .d (.int .i64 vx3.Den)])]⟩ (tl [(4, .v (.one (.d (.lst (List.map api_Sample.enc vr9))))), (5, .v (.one (.box 0 0))), (6, .v (.one (.d (.int .i64 vr)))), (7, .v (.one (.d (.int .i64 vr1)))), (8, .v (.one (.d (.int .i64 vr2)))), (9, .v (.one (.box 1 0))), (10, .v (.one (.d (.int .i64 vr3)))), (11, .v (.one (.d (.int .i64 vr2_2)))), (12, .v (.one (.d (.int .i64 vr3_1)))), (13, .v (.one (.d (.lst (List.map api_Window.enc vr4))))), (14, .v (.one (.d (.int .i64 vr5)))), (17, .v (.one (.d (.int .i64 vx2)))), (18, .v (.one (.d (.int .i64 vx1)))), (19, .v (.one (.d (.int .i64 vr18)))), (20, .v (.one (.box 2 0)))]) 3

def fleetlaw2_ValuesHeld_x2_I (vr9 : List api_Sample) (vr7 : api_Window) (vr : Int) (vr1 : Int) (vr2 : Int) (vr2_1 : api_Fraction) (vr3 : Int) (vr2_2 : Int) (vr3_1 : Int) (vr4 : List api_Window) (vr5 : Int) (vr10 : Int) (vx1 : Int) (vr18 : Int) : St := Mem.st ⟨[], [(0, [.d (.int .i64 vr7.From), .d (.int .i64 vr7.To)]), (1, [.d (.int .i64 vr2_1.Num), .d (.int .i64 vr2_1.Den)]), (2, [.d (.int .i64 0), .d (.int .i64 0)])]⟩ (tl [(4, .v (.one (.d (.lst (List.map api_Sample.enc vr9))))), (5, .v (.one (.box 0 0))), (6, .v (.one (.d (.int .i64 vr)))), (7, .v (.one (.d (.int .i64 vr1)))), (8, .v (.one (.d (.int .i64 vr2)))), (9, .v (.one (.box 1 0))), (10, .v (.one (.d (.int .i64 vr3)))), (11, .v (.one (.d (.int .i64 vr2_2)))), (12, .v (.one (.d (.int .i64 vr3_1)))), (13, .v (.one (.d (.lst (List.map api_Window.enc vr4))))), (14, .v (.one (.d (.int .i64 vr5)))), (17, .v (.one (.d (.int .i64 vr10)))), (18, .v (.one (.d (.int .i64 vx1)))), (19, .v (.one (.d (.int .i64 vr18)))), (20, .v (.one (.box 2 0)))]) 3

theorem fleetlaw2_ValuesHeld_x2_ok (vr9 : List api_Sample) (vr7 : api_Window) (vr : Int) (vr1 : Int) (vr2 : Int) (vr2_1 : api_Fraction) (vr3 : Int) (vr2_2 : Int) (vr3_1 : Int) (vr4 : List api_Window) (vr5 : Int) (vr10 : Int) (vx1 : Int) (vr18 : Int) {r} (hF : fleetlaw2_ValuesHeld_x2 vr9 vr7 vr10 = some r) : Awp prog 0 155 (cL (cR (cR (cR (cR (cR (cR (cR (cR (cR (cR (cR (cR (cR (cB f13))))))))))))))) (Out 0 fleetlaw2_ValuesHeld_x2_k (fleetlaw2_ValuesHeld_x2_S vr9 vr7 vr vr1 vr2 vr2_1 vr3 vr2_2 vr3_1 vr4 vr5 vr10 vx1 vr18) r) (fleetlaw2_ValuesHeld_x2_I vr9 vr7 vr vr1 vr2 vr2_1 vr3 vr2_2 vr3_1 vr4 vr5 vr10 vx1 vr18) := by
  unfold fleetlaw2_ValuesHeld_x2 at hF
  refine awp_seq ?_
  refine awp_region ?_
  refine aR 2 ?_
  refine aE ?_
  refine cE hF (fun h24 hF => ?_) fun h24 hF => ?_
  · refine awp_true (by kernel_rfl) h24 ?_
    refine awp_seq ?_
    refine bE hF fun x h25 hF => ?_
    obtain ⟨vr2_3, vr3_2⟩ := x
    refine awp_region ?_
    refine aR 2 ?_
    refine aC (fleetref2_HeldOf_ok h25) [] [] [] ?_
    refine aR 6 ?_
    refine aE ?_
    refine bE hF fun vr19 h26 hF => ?_
    refine aD ?_
    refine dR 3 ?_
    refine dC (fleetlaw2_when_ok h26) [] [] [] ?_
    refine dR 2 ?_
    refine dE ?_
    exact oO hF [] [] rfl
  · refine awp_false (by kernel_rfl) h24 ?_
    refine awp_skip ?_
    exact oO hF [] [] rfl

def fleetlaw2_ValuesHeld_x3_k : Int → AEx
  | _ => .normal

def fleetlaw2_ValuesHeld_x3_S (vr9 : List api_Sample) (vr7 : api_Window) (vr : Int) (vr1 : Int) (vr2 : Int) (vr2_1 : api_Fraction) (vr3 : Int) (vr2_2 : Int) (vr3_1 : Int) (vr4 : List api_Window) (vr5 : Int) (vx1 : Int) (vr18 : Int) (vx2_1 : Int) (vx3_1 : api_Fraction) : Int → St
  | vx4 => Mem.st ⟨[], [(0, [.d (.int .i64 vr7.From), .d (.int .i64 vr7.To)]), (1, [.d (.int .i64 vr2_1.Num), .d (.int .i64 vr2_1.Den)]), (2, [.d (.int .i64 vx3_1.Num), .d (.int .i64 vx3_1.Den)])]⟩ (tl [(4, .v (.one (.d (.lst (List.map api_Sample.enc vr9))))), (5, .v (.one (.box 0 0))), (7, .v (.one (.d (.int .i64 vr1)))), (8, .v (.one (.d (.int .i64 vr2)))), (9, .v (.one (.box 1 0))), (10, .v (.one (.d (.int .i64 vr3)))), (11, .v (.one (.d (.int .i64 vr2_2)))), (12, .v (.one (.d (.int .i64 vr3_1)))), (13, .v (.one (.d (.lst (List.map api_Window.enc vr4))))), (14, .v (.one (.d (.int .i64 vr5)))), (17, .v (.one (.d (.int .i64 vx2_1)))), (18, .v (.one (.d (.int .i64 vx1)))), (19, .v (.one (.d (.int .i64 vr18)))), (20, .v (.one (.box 2 0))), (23, .v (.one (.d (.int .i64 vx4))))]) 3

def fleetlaw2_ValuesHeld_x3_I (vr9 : List api_Sample) (vr7 : api_Window) (vr : Int) (vr1 : Int) (vr2 : Int) (vr2_1 : api_Fraction) (vr3 : Int) (vr2_2 : Int) (vr3_1 : Int) (vr4 : List api_Window) (vr5 : Int) (vx1 : Int) (vr18 : Int) (vx2_1 : Int) (vx3_1 : api_Fraction) : St := Mem.st ⟨[], [(0, [.d (.int .i64 vr7.From), .d (.int .i64 vr7.To)]), (1, [.d (.int .i64 vr2_1.Num), .d (.int .i64 vr2_1.Den)]), (2, [.d (.int .i64 vx3_1.Num), .d (.int .i64 vx3_1.Den)])]⟩ (tl [(4, .v (.one (.d (.lst (List.map api_Sample.enc vr9))))), (5, .v (.one (.box 0 0))), (6, .v (.one (.d (.int .i64 vr)))), (7, .v (.one (.d (.int .i64 vr1)))), (8, .v (.one (.d (.int .i64 vr2)))), (9, .v (.one (.box 1 0))), (10, .v (.one (.d (.int .i64 vr3)))), (11, .v (.one (.d (.int .i64 vr2_2)))), (12, .v (.one (.d (.int .i64 vr3_1)))), (13, .v (.one (.d (.lst (List.map api_Window.enc vr4))))), (14, .v (.one (.d (.int .i64 vr5)))), (17, .v (.one (.d (.int .i64 vx2_1)))), (18, .v (.one (.d (.int .i64 vx1)))), (19, .v (.one (.d (.int .i64 vr18)))), (20, .v (.one (.box 2 0))), (23, .v (.one (.d (.int .i64 0))))]) 3

theorem fleetlaw2_ValuesHeld_x3_ok (vr9 : List api_Sample) (vr7 : api_Window) (vr : Int) (vr1 : Int) (vr2 : Int) (vr2_1 : api_Fraction) (vr3 : Int) (vr2_2 : Int) (vr3_1 : Int) (vr4 : List api_Window) (vr5 : Int) (vx1 : Int) (vr18 : Int) (vx2_1 : Int) (vx3_1 : api_Fraction) {r} (hF : fleetlaw2_ValuesHeld_x3 vr9 vr vx1 = some r) : Awp prog 0 155 (cL (cR (cR (cR (cR (cR (cR (cR (cR (cR (cR (cR (cR (cR (cR (cR (cB f13))))))))))))))))) (Out 0 fleetlaw2_ValuesHeld_x3_k (fleetlaw2_ValuesHeld_x3_S vr9 vr7 vr vr1 vr2 vr2_1 vr3 vr2_2 vr3_1 vr4 vr5 vx1 vr18 vx2_1 vx3_1) r) (fleetlaw2_ValuesHeld_x3_I vr9 vr7 vr vr1 vr2 vr2_1 vr3 vr2_2 vr3_1 vr4 vr5 vx1 vr18 vx2_1 vx3_1) := by
  unfold fleetlaw2_ValuesHeld_x3 at hF
  refine awp_seq ?_
  refine awp_region ?_
  refine aR 2 ?_
  refine aE ?_
  refine cE hF (fun h28 hF => ?_) fun h28 hF => ?_
  · refine awp_true (by kernel_rfl) h28 ?_
    refine bE hF fun vr20 h29 hF => ?_
    refine awp_region ?_
    refine aR 2 ?_
    refine aC (fleetref2_QuantileOf_ok h29) [] [] [] ?_
    refine aR 1 ?_
    refine aE ?_
    exact oO hF [] [] rfl
  · refine awp_false (by kernel_rfl) h28 ?_
    refine awp_skip ?_
    exact oO hF [] [] rfl

def fleetlaw2_ValuesHeld_x4_k : (List api_Window) → AEx
  | _ => .normal

def fleetlaw2_ValuesHeld_x4_S (vr9 : List api_Sample) (vr7 : api_Window) (vr1 : Int) (vr2 : Int) (vr2_1 : api_Fraction) (vr3 : Int) (vr2_2 : Int) (vr3_1 : Int) (vr4 : List api_Window) (vr5 : Int) (vx1 : Int) (vr18 : Int) (vx2_1 : Int) (vx3_1 : api_Fraction) (vx4_1 : Int) : (List api_Window) → St
  | vx5 => Mem.st ⟨[], [(0, [.d (.int .i64 vr2_1.Num), .d (.int .i64 vr2_1.Den)]), (1, [.d (.int .i64 vx3_1.Num), .d (.int .i64 vx3_1.Den)])]⟩ (tl [(9, .v (.one (.box 0 0))), (10, .v (.one (.d (.int .i64 vr3)))), (11, .v (.one (.d (.int .i64 vr2_2)))), (12, .v (.one (.d (.int .i64 vr3_1)))), (13, .v (.one (.d (.lst (List.map api_Window.enc vr4))))), (14, .v (.one (.d (.int .i64 vr5)))), (17, .v (.one (.d (.int .i64 vx2_1)))), (18, .v (.one (.d (.int .i64 vx1)))), (19, .v (.one (.d (.int .i64 vr18)))), (20, .v (.one (.box 1 0))), (23, .v (.one (.d (.int .i64 vx4_1)))), (24, .v (.one (.d (.lst (List.map api_Window.enc vx5)))))]) 2

def fleetlaw2_ValuesHeld_x4_I (vr9 : List api_Sample) (vr7 : api_Window) (vr1 : Int) (vr2 : Int) (vr2_1 : api_Fraction) (vr3 : Int) (vr2_2 : Int) (vr3_1 : Int) (vr4 : List api_Window) (vr5 : Int) (vx1 : Int) (vr18 : Int) (vx2_1 : Int) (vx3_1 : api_Fraction) (vx4_1 : Int) : St := Mem.st ⟨[], [(0, [.d (.int .i64 vr7.From), .d (.int .i64 vr7.To)]), (1, [.d (.int .i64 vr2_1.Num), .d (.int .i64 vr2_1.Den)]), (2, [.d (.int .i64 vx3_1.Num), .d (.int .i64 vx3_1.Den)])]⟩ (tl [(4, .v (.one (.d (.lst (List.map api_Sample.enc vr9))))), (5, .v (.one (.box 0 0))), (7, .v (.one (.d (.int .i64 vr1)))), (8, .v (.one (.d (.int .i64 vr2)))), (9, .v (.one (.box 1 0))), (10, .v (.one (.d (.int .i64 vr3)))), (11, .v (.one (.d (.int .i64 vr2_2)))), (12, .v (.one (.d (.int .i64 vr3_1)))), (13, .v (.one (.d (.lst (List.map api_Window.enc vr4))))), (14, .v (.one (.d (.int .i64 vr5)))), (17, .v (.one (.d (.int .i64 vx2_1)))), (18, .v (.one (.d (.int .i64 vx1)))), (19, .v (.one (.d (.int .i64 vr18)))), (20, .v (.one (.box 2 0))), (23, .v (.one (.d (.int .i64 vx4_1)))), (24, .v (.one (.nil)))]) 3

theorem fleetlaw2_ValuesHeld_x4_ok (vr9 : List api_Sample) (vr7 : api_Window) (vr1 : Int) (vr2 : Int) (vr2_1 : api_Fraction) (vr3 : Int) (vr2_2 : Int) (vr3_1 : Int) (vr4 : List api_Window) (vr5 : Int) (vx1 : Int) (vr18 : Int) (vx2_1 : Int) (vx3_1 : api_Fraction) (vx4_1 : Int) {r} (hF : fleetlaw2_ValuesHeld_x4 vr9 vr7 vr1 vr2 vr18 = some r) : Awp prog 0 155 (cL (cR (cR (cR (cR (cR (cR (cR (cR (cR (cR (cR (cR (cR (cR (cR (cR (cR (cB f13))))))))))))))))))) (Out 0 fleetlaw2_ValuesHeld_x4_k (fleetlaw2_ValuesHeld_x4_S vr9 vr7 vr1 vr2 vr2_1 vr3 vr2_2 vr3_1 vr4 vr5 vx1 vr18 vx2_1 vx3_1 vx4_1) r) (fleetlaw2_ValuesHeld_x4_I vr9 vr7 vr1 vr2 vr2_1 vr3 vr2_2 vr3_1 vr4 vr5 vx1 vr18 vx2_1 vx3_1 vx4_1) := by
  unfold fleetlaw2_ValuesHeld_x4 at hF
  refine awp_seq ?_
  refine awp_region ?_
  refine aR 2 ?_
  refine aE ?_
  refine cE hF (fun h31 hF => ?_) fun h31 hF => ?_
  · refine awp_true (by kernel_rfl) h31 ?_
    refine bE hF fun vr3_3 h32 hF => ?_
    refine awp_region ?_
    refine aR 4 ?_
    refine aC (fleetref2_BeyondOf_ok h32) [] [] [] ?_
    refine aR 1 ?_
    refine aE ?_
    exact oO hF [(0, 1), (1, 2)] [] rfl
  · refine awp_false (by kernel_rfl) h31 ?_
    refine awp_skip ?_
    exact oO hF [(0, 1), (1, 2)] [] rfl

def fleetlaw2_ValuesHeld_x5_k : Bool → AEx
  | _ => .normal

def fleetlaw2_ValuesHeld_x5_S (vr2_1 : api_Fraction) (vr3 : Int) (vr2_2 : Int) (vr3_1 : Int) (vr4 : List api_Window) (vr5 : Int) (vx1 : Int) (vr18 : Int) (vx2_1 : Int) (vx3_1 : api_Fraction) (vx4_1 : Int) (vx5_1 : List api_Window) : Bool → St
  | vx6 => Mem.st ⟨[], []⟩ (tl [(2, .v (.one (.d (.bool vx6))))]) 0

def fleetlaw2_ValuesHeld_x5_I (vr2_1 : api_Fraction) (vr3 : Int) (vr2_2 : Int) (vr3_1 : Int) (vr4 : List api_Window) (vr5 : Int) (vx1 : Int) (vr18 : Int) (vx2_1 : Int) (vx3_1 : api_Fraction) (vx4_1 : Int) (vx5_1 : List api_Window) : St := Mem.st ⟨[], [(0, [.d (.int .i64 vr2_1.Num), .d (.int .i64 vr2_1.Den)]), (1, [.d (.int .i64 vx3_1.Num), .d (.int .i64 vx3_1.Den)])]⟩ (tl [(9, .v (.one (.box 0 0))), (10, .v (.one (.d (.int .i64 vr3)))), (11, .v (.one (.d (.int .i64 vr2_2)))), (12, .v (.one (.d (.int .i64 vr3_1)))), (13, .v (.one (.d (.lst (List.map api_Window.enc vr4))))), (14, .v (.one (.d (.int .i64 vr5)))), (17, .v (.one (.d (.int .i64 vx2_1)))), (18, .v (.one (.d (.int .i64 vx1)))), (19, .v (.one (.d (.int .i64 vr18)))), (20, .v (.one (.box 1 0))), (23, .v (.one (.d (.int .i64 vx4_1)))), (24, .v (.one (.d (.lst (List.map api_Window.enc vx5_1)))))]) 2

theorem fleetlaw2_ValuesHeld_x5_ok (vr2_1 : api_Fraction) (vr3 : Int) (vr2_2 : Int) (vr3_1 : Int) (vr4 : List api_Window) (vr5 : Int) (vx1 : Int) (vr18 : Int) (vx2_1 : Int) (vx3_1 : api_Fraction) (vx4_1 : Int) (vx5_1 : List api_Window) {r} (hF : fleetlaw2_ValuesHeld_x5 vr2_1 vr3 vr2_2 vr3_1 vr4 vr5 vx1 vr18 vx2_1 vx3_1 vx4_1 vx5_1 = some r) : Awp prog 0 155 (cL (cR (cR (cR (cR (cR (cR (cR (cR (cR (cR (cR (cR (cR (cR (cR (cR (cR (cR (cB f13)))))))))))))))))))) (Out 0 fleetlaw2_ValuesHeld_x5_k (fleetlaw2_ValuesHeld_x5_S vr2_1 vr3 vr2_2 vr3_1 vr4 vr5 vx1 vr18 vx2_1 vx3_1 vx4_1 vx5_1) r) (fleetlaw2_ValuesHeld_x5_I vr2_1 vr3 vr2_2 vr3_1 vr4 vr5 vx1 vr18 vx2_1 vx3_1 vx4_1 vx5_1) := by
  unfold fleetlaw2_ValuesHeld_x5 at hF
  refine cE hF (fun h34 hF => ?_) fun h34 hF => ?_
  · refine cE hF (fun h35 hF => ?_) fun h35 hF => ?_
    · refine cE hF (fun h36 hF => ?_) fun h36 hF => ?_
      · refine cE hF (fun h37 hF => ?_) fun h37 hF => ?_
        · refine cE hF (fun h38 hF => ?_) fun h38 hF => ?_
          · refine bE hF fun vr21 h39 hF => ?_
            refine cE hF (fun h40 hF => ?_) fun h40 hF => ?_
            · refine bE hF fun vr3_4 h41 hF => ?_
              refine awp_region ?_
              refine aR 2 ?_
              refine aB h34 ?_
              refine aR 3 ?_
              refine aSb (does_eqS (op := .eql) (xs := [.int .i64 vr2_1.Num, .int .i64 vr2_1.Den]) (ys := [.int .i64 vx3_1.Num, .int .i64 vx3_1.Den]) (b := (decide (vr2_1.Num = vx3_1.Num) && (decide (vr2_1.Den = vx3_1.Den) && true))) (c := (decide (vr2_1.Num = vx3_1.Num) && (decide (vr2_1.Den = vx3_1.Den) && true))) rfl (.inl ⟨rfl, rfl⟩) (by kernel_rfl) (by kernel_rfl) (by kernel_rfl) (by kernel_rfl) (by kernel_rfl) (by kernel_rfl)) h35 ?_
              refine aR 4 ?_
              refine aB h36 ?_
              refine aR 4 ?_
              refine aB h37 ?_
              refine aR 4 ?_
              refine aB h38 ?_
              refine aR 4 ?_
              refine aCb (slices_Equal_api_Window_api_Window_ok h39) [] [] [] h40 ?_
              refine aR 2 ?_
              refine aC (fleetlaw2_measured_ok h41) [] [] [] ?_
              refine aR 2 ?_
              refine aE ?_
              exact oO hF [] [] rfl
            · refine awp_region ?_
              refine aR 2 ?_
              refine aB h34 ?_
              refine aR 3 ?_
              refine aSb (does_eqS (op := .eql) (xs := [.int .i64 vr2_1.Num, .int .i64 vr2_1.Den]) (ys := [.int .i64 vx3_1.Num, .int .i64 vx3_1.Den]) (b := (decide (vr2_1.Num = vx3_1.Num) && (decide (vr2_1.Den = vx3_1.Den) && true))) (c := (decide (vr2_1.Num = vx3_1.Num) && (decide (vr2_1.Den = vx3_1.Den) && true))) rfl (.inl ⟨rfl, rfl⟩) (by kernel_rfl) (by kernel_rfl) (by kernel_rfl) (by kernel_rfl) (by kernel_rfl) (by kernel_rfl)) h35 ?_
              refine aR 4 ?_
              refine aB h36 ?_
              refine aR 4 ?_
              refine aB h37 ?_
              refine aR 4 ?_
              refine aB h38 ?_
              refine aR 4 ?_
              refine aCb (slices_Equal_api_Window_api_Window_ok h39) [] [] [] h40 ?_
              refine aR 5 ?_
              refine aE ?_
              exact oO hF [] [] rfl
          · refine awp_region ?_
            refine aR 2 ?_
            refine aB h34 ?_
            refine aR 3 ?_
            refine aSb (does_eqS (op := .eql) (xs := [.int .i64 vr2_1.Num, .int .i64 vr2_1.Den]) (ys := [.int .i64 vx3_1.Num, .int .i64 vx3_1.Den]) (b := (decide (vr2_1.Num = vx3_1.Num) && (decide (vr2_1.Den = vx3_1.Den) && true))) (c := (decide (vr2_1.Num = vx3_1.Num) && (decide (vr2_1.Den = vx3_1.Den) && true))) rfl (.inl ⟨rfl, rfl⟩) (by kernel_rfl) (by kernel_rfl) (by kernel_rfl) (by kernel_rfl) (by kernel_rfl) (by kernel_rfl)) h35 ?_
            refine aR 4 ?_
            refine aB h36 ?_
            refine aR 4 ?_
            refine aB h37 ?_
            refine aR 4 ?_
            refine aB h38 ?_
            refine aR 10 ?_
            refine aE ?_
            exact oO hF [] [] rfl
        · refine awp_region ?_
          refine aR 2 ?_
          refine aB h34 ?_
          refine aR 3 ?_
          refine aSb (does_eqS (op := .eql) (xs := [.int .i64 vr2_1.Num, .int .i64 vr2_1.Den]) (ys := [.int .i64 vx3_1.Num, .int .i64 vx3_1.Den]) (b := (decide (vr2_1.Num = vx3_1.Num) && (decide (vr2_1.Den = vx3_1.Den) && true))) (c := (decide (vr2_1.Num = vx3_1.Num) && (decide (vr2_1.Den = vx3_1.Den) && true))) rfl (.inl ⟨rfl, rfl⟩) (by kernel_rfl) (by kernel_rfl) (by kernel_rfl) (by kernel_rfl) (by kernel_rfl) (by kernel_rfl)) h35 ?_
          refine aR 4 ?_
          refine aB h36 ?_
          refine aR 4 ?_
          refine aB h37 ?_
          refine aR 15 ?_
          refine aE ?_
          exact oO hF [] [] rfl
      · refine awp_region ?_
        refine aR 2 ?_
        refine aB h34 ?_
        refine aR 3 ?_
        refine aSb (does_eqS (op := .eql) (xs := [.int .i64 vr2_1.Num, .int .i64 vr2_1.Den]) (ys := [.int .i64 vx3_1.Num, .int .i64 vx3_1.Den]) (b := (decide (vr2_1.Num = vx3_1.Num) && (decide (vr2_1.Den = vx3_1.Den) && true))) (c := (decide (vr2_1.Num = vx3_1.Num) && (decide (vr2_1.Den = vx3_1.Den) && true))) rfl (.inl ⟨rfl, rfl⟩) (by kernel_rfl) (by kernel_rfl) (by kernel_rfl) (by kernel_rfl) (by kernel_rfl) (by kernel_rfl)) h35 ?_
        refine aR 4 ?_
        refine aB h36 ?_
        refine aR 20 ?_
        refine aE ?_
        exact oO hF [] [] rfl
    · refine awp_region ?_
      refine aR 2 ?_
      refine aB h34 ?_
      refine aR 3 ?_
      refine aSb (does_eqS (op := .eql) (xs := [.int .i64 vr2_1.Num, .int .i64 vr2_1.Den]) (ys := [.int .i64 vx3_1.Num, .int .i64 vx3_1.Den]) (b := (decide (vr2_1.Num = vx3_1.Num) && (decide (vr2_1.Den = vx3_1.Den) && true))) (c := (decide (vr2_1.Num = vx3_1.Num) && (decide (vr2_1.Den = vx3_1.Den) && true))) rfl (.inl ⟨rfl, rfl⟩) (by kernel_rfl) (by kernel_rfl) (by kernel_rfl) (by kernel_rfl) (by kernel_rfl) (by kernel_rfl)) h35 ?_
      refine aR 25 ?_
      refine aE ?_
      exact oO hF [] [] rfl
  · refine awp_region ?_
    refine aR 2 ?_
    refine aB h34 ?_
    refine aR 29 ?_
    refine aE ?_
    exact oO hF [] [] rfl

def fleetlaw2_ValuesHeld_R (qx : List Int) (r : Bool) : TV × Mem := (.v (.one (.d (.bool r))), ⟨[], []⟩)

theorem fleetlaw2_ValuesHeld_ok {qx : List Int} {r} (hF : fleetlaw2_ValuesHeld qx = some r) : Holds prog 13 [.v (.one (.d (.lst (List.map (encI .i64) qx))))] ⟨[], []⟩ (Is (fleetlaw2_ValuesHeld_R qx r)) := by
  unfold fleetlaw2_ValuesHeld at hF
  refine holds_of_awp hΓ (fn := f13) (c := cB f13) (A := 0) (nx := 0) (by kernel_rfl) (by kernel_rfl) (by kernel_rfl) (by kernel_rfl) (by kernel_rfl) (by kernel_rfl) (lowc_of (by kernel_rfl)) ?_
  show Awp prog 0 155 (cB f13) _ _
  refine awp_seq ?_
  refine awp_region ?_
  refine aR 1 ?_
  refine aE ?_
  refine awp_seq ?_
  refine awp_region ?_
  refine aR 4 ?_
  refine aE ?_
  refine awp_seq ?_
  refine bE hF fun x h1 hF => ?_
  obtain ⟨vs6, vr9⟩ := x
  refine bE hF fun x h2 hF => ?_
  obtain ⟨vs5, vr7⟩ := x
  refine bE hF fun vr h3 hF => ?_
  refine awp_region ?_
  refine aR 1 ?_
  refine aC (fleetmake_Stream_Series_ok h1) [(0, 3000)] [] [] ?_
  refine aR 1 ?_
  refine aC (fleetmake_Stream_Frame_ok h2) [(0, 3000)] [] [] ?_
  refine aR 2 ?_
  refine aC (fleetmake_Stream_Pick_o1_ok h3) [(0, 3000), (1, 10000)] [] [] ?_
  refine aR 4 ?_
  refine aE ?_
  refine awp_to (oT (m := ⟨[], [(0, [.d (.lst (List.map (encI .i64) vs5.L)), .d (.int .i64 (IntKind.wrap .i64 (vs5.at_ + 1)))]), (1, [.d (.int .i64 vr7.From), .d (.int .i64 vr7.To)])]⟩) (ts := [(3, .v (.one (.box 0 0))), (4, .v (.one (.d (.lst (List.map api_Sample.enc vr9))))), (5, .v (.one (.box 1 0))), (6, .v (.one (.d (.int .i64 vr))))]) (nx := 2) [(0, 3000), (1, 12000)] []) ?_
  refine awp_seq ?_
  refine bE hF fun vr1 h4 hF => ?_
  refine bE hF fun vr2 h5 hF => ?_
  refine awp_region ?_
  refine aR 2 ?_
  refine aC (fleetmake_Stream_Pick_o1_ok h4) [(1, 1002)] [] [] ?_
  refine aR 2 ?_
  refine aC (fleetmake_Stream_Pick_o1_ok h5) [(1, 4002)] [] [] ?_
  refine aR 2 ?_
  refine aE ?_
  refine awp_seq ?_
  refine bE hF fun x h6 hF => ?_
  obtain ⟨vr2_1, vr3⟩ := x
  refine awp_region ?_
  refine aR 2 ?_
  refine aC (series_Held_ok h6) [] [] [] ?_
  refine aR 6 ?_
  refine aE ?_
  refine awp_seq ?_
  refine bE hF fun x h7 hF => ?_
  obtain ⟨vr2_2, vr3_1⟩ := x
  refine awp_region ?_
  refine aR 2 ?_
  refine aC (series_Quantile_ok h7) [] [] [] ?_
  refine aR 5 ?_
  refine aE ?_
  refine awp_seq ?_
  refine bE hF fun x h8 hF => ?_
  obtain ⟨vr4, vr5⟩ := x
  refine awp_region ?_
  refine aR 4 ?_
  refine aC (series_Beyond_ok h8) [] [] [] ?_
  refine aR 5 ?_
  refine aE ?_
  refine awp_to (oT (m := ⟨[], [(0, [.d (.int .i64 vr7.From), .d (.int .i64 vr7.To)]), (1, [.d (.int .i64 vr2_1.Num), .d (.int .i64 vr2_1.Den)])]⟩) (ts := [(4, .v (.one (.d (.lst (List.map api_Sample.enc vr9))))), (5, .v (.one (.box 0 0))), (6, .v (.one (.d (.int .i64 vr)))), (7, .v (.one (.d (.int .i64 vr1)))), (8, .v (.one (.d (.int .i64 vr2)))), (9, .v (.one (.box 1 0))), (10, .v (.one (.d (.int .i64 vr3)))), (11, .v (.one (.d (.int .i64 vr2_2)))), (12, .v (.one (.d (.int .i64 vr3_1)))), (13, .v (.one (.d (.lst (List.map api_Window.enc vr4))))), (14, .v (.one (.d (.int .i64 vr5))))]) (nx := 2) [(0, 1), (1, 14002)] []) ?_
  refine awp_seq ?_
  refine bE hF fun vr1_1 h9 hF => ?_
  refine awp_region ?_
  refine aR 1 ?_
  refine aC (fleetref2_SeriesFault_ok h9) [] [] [] ?_
  refine aR 1 ?_
  refine aE ?_
  refine awp_seq ?_
  refine bE hF fun vr1_2 h10 hF => ?_
  refine bE hF fun vr6 h11 hF => ?_
  refine awp_region ?_
  refine aR 2 ?_
  refine aC (fleetref2_WindowFault_ok h10) [] [] [] ?_
  refine aR 1 ?_
  refine aC (fleetlaw2_errs_ok h11) [] [] [6002] ?_
  refine aR 1 ?_
  refine aE ?_
  refine awp_seq ?_
  refine bE hF fun vr8 h12 hF => ?_
  refine bE hF fun vr10 h13 hF => ?_
  refine awp_region ?_
  refine aR 7 ?_
  refine aC (fleetlaw2_when_ok h12) [] [] [] ?_
  refine aR 1 ?_
  refine aC (fleetlaw2_errs_ok h13) [] [] [17002] ?_
  refine aR 1 ?_
  refine aE ?_
  refine awp_seq ?_
  refine awp_to (st' := fleetlaw2_ValuesHeld_x1_I vr9 vr7 vr vr1 vr2 vr2_1 vr3 vr2_2 vr3_1 vr4 vr5 vr1_1 vr6 vr10) (oT [] []) ?_
  refine bE hF fun vx1 h21 hF => ?_
  refine awp_sub (fleetlaw2_ValuesHeld_x1_ok vr9 vr7 vr vr1 vr2 vr2_1 vr3 vr2_2 vr3_1 vr4 vr5 vr1_1 vr6 vr10 h21) ?_
  refine awp_seq ?_
  refine bE hF fun vr17 h22 hF => ?_
  refine bE hF fun vr18 h23 hF => ?_
  refine awp_region ?_
  refine aR 4 ?_
  refine aC (fleetlaw2_when_ok h22) [] [] [] ?_
  refine aR 1 ?_
  refine aC (fleetlaw2_errs_ok h23) [] [] [5002] ?_
  refine aR 1 ?_
  refine aE ?_
  refine awp_seq ?_
  refine awp_region ?_
  refine aR 3 ?_
  refine aE ?_
  refine awp_seq ?_
  refine awp_to (st' := fleetlaw2_ValuesHeld_x2_I vr9 vr7 vr vr1 vr2 vr2_1 vr3 vr2_2 vr3_1 vr4 vr5 vr10 vx1 vr18) (oT [(2, 9002)] []) ?_
  refine bE hF fun x h27 hF => ?_
  obtain ⟨vx2_1, vx3_1⟩ := x
  refine awp_sub (fleetlaw2_ValuesHeld_x2_ok vr9 vr7 vr vr1 vr2 vr2_1 vr3 vr2_2 vr3_1 vr4 vr5 vr10 vx1 vr18 h27) ?_
  refine awp_seq ?_
  refine awp_region ?_
  refine aR 1 ?_
  refine aE ?_
  refine awp_seq ?_
  refine awp_to (st' := fleetlaw2_ValuesHeld_x3_I vr9 vr7 vr vr1 vr2 vr2_1 vr3 vr2_2 vr3_1 vr4 vr5 vx1 vr18 vx2_1 vx3_1) (oT [] []) ?_
  refine bE hF fun vx4_1 h30 hF => ?_
  refine awp_sub (fleetlaw2_ValuesHeld_x3_ok vr9 vr7 vr vr1 vr2 vr2_1 vr3 vr2_2 vr3_1 vr4 vr5 vx1 vr18 vx2_1 vx3_1 h30) ?_
  refine awp_seq ?_
  refine awp_region ?_
  refine aR 1 ?_
  refine aE ?_
  refine awp_seq ?_
  refine awp_to (st' := fleetlaw2_ValuesHeld_x4_I vr9 vr7 vr1 vr2 vr2_1 vr3 vr2_2 vr3_1 vr4 vr5 vx1 vr18 vx2_1 vx3_1 vx4_1) (oT [] []) ?_
  refine bE hF fun vx5_1 h33 hF => ?_
  refine awp_sub (fleetlaw2_ValuesHeld_x4_ok vr9 vr7 vr1 vr2 vr2_1 vr3 vr2_2 vr3_1 vr4 vr5 vx1 vr18 vx2_1 vx3_1 vx4_1 h33) ?_
  refine awp_seq ?_
  refine awp_to (st' := fleetlaw2_ValuesHeld_x5_I vr2_1 vr3 vr2_2 vr3_1 vr4 vr5 vx1 vr18 vx2_1 vx3_1 vx4_1 vx5_1) (oT [] []) ?_
  refine bE hF fun vx6_1 h42 hF => ?_
  refine awp_sub (fleetlaw2_ValuesHeld_x5_ok vr2_1 vr3 vr2_2 vr3_1 vr4 vr5 vx1 vr18 vx2_1 vx3_1 vx4_1 vx5_1 h42) ?_
  refine awp_ret ?_
  exact oF hF [] []

end Go.Eng
