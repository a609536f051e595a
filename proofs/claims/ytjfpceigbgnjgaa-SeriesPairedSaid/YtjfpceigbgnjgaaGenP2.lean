/-
The code of the Go functions that the law SeriesPaired reaches does what the plain functions say, part 2.
-/
import Derived.Test.YtjfpceigbgnjgaaGenP1

namespace Go.Eng

open Go Go.Proofs.Try

set_option linter.unusedVariables false

set_option maxRecDepth 20000

set_option maxHeartbeats 0

/-! ### beaconfleet/fleetlaw2.SeriesPaired -/
def fleetlaw2_SeriesPaired_x1_k : Int → AEx
  | _ => .normal

def fleetlaw2_SeriesPaired_x1_S (vr9 : List api_Sample) (vr9_1 : List api_Sample) (vr : Int) (vr1 : Int) (vr5 : List api_Pairing) (vr6 : Int) (vr7 : List api_Sample) (vr8 : Int) : Int → St
  | vx => Mem.st ⟨[], []⟩ (tl [(4, .v (.one (.d (.lst (List.map api_Sample.enc vr9))))), (5, .v (.one (.d (.lst (List.map api_Sample.enc vr9_1))))), (6, .v (.one (.d (.int .i64 vr)))), (7, .v (.one (.d (.int .i64 vr1)))), (8, .v (.one (.d (.lst (List.map api_Pairing.enc vr5))))), (9, .v (.one (.d (.int .i64 vr6)))), (10, .v (.one (.d (.lst (List.map api_Sample.enc vr7))))), (11, .v (.one (.d (.int .i64 vr8)))), (12, .v (.one (.d (.int .i64 vx))))]) 0

def fleetlaw2_SeriesPaired_x1_I (vr9 : List api_Sample) (vr9_1 : List api_Sample) (vr : Int) (vr1 : Int) (vr5 : List api_Pairing) (vr6 : Int) (vr7 : List api_Sample) (vr8 : Int) : St := Mem.st ⟨[], []⟩ (tl [(4, .v (.one (.d (.lst (List.map api_Sample.enc vr9))))), (5, .v (.one (.d (.lst (List.map api_Sample.enc vr9_1))))), (6, .v (.one (.d (.int .i64 vr)))), (7, .v (.one (.d (.int .i64 vr1)))), (8, .v (.one (.d (.lst (List.map api_Pairing.enc vr5))))), (9, .v (.one (.d (.int .i64 vr6)))), (10, .v (.one (.d (.lst (List.map api_Sample.enc vr7))))), (11, .v (.one (.d (.int .i64 vr8))))]) 0

theorem fleetlaw2_SeriesPaired_x1_ok (vr9 : List api_Sample) (vr9_1 : List api_Sample) (vr : Int) (vr1 : Int) (vr5 : List api_Pairing) (vr6 : Int) (vr7 : List api_Sample) (vr8 : Int) {r} (hF : fleetlaw2_SeriesPaired_x1 vr9 vr9_1 vr = some r) : Awp prog 0 101 (cL (cR (cR (cR (cR (cR (cB f8))))))) (Out 0 fleetlaw2_SeriesPaired_x1_k (fleetlaw2_SeriesPaired_x1_S vr9 vr9_1 vr vr1 vr5 vr6 vr7 vr8) r) (fleetlaw2_SeriesPaired_x1_I vr9 vr9_1 vr vr1 vr5 vr6 vr7 vr8) := by
  unfold fleetlaw2_SeriesPaired_x1 at hF
  refine bE hF fun vr1_1 h7 hF => ?_
  refine bE hF fun vr1_2 h8 hF => ?_
  refine cE hF (fun h9 hF => ?_) fun h9 hF => ?_
  · refine bE hF fun vr2 h10 hF => ?_
    refine bE hF fun vr3 h11 hF => ?_
    refine awp_region ?_
    refine aR 1 ?_
    refine aC (fleetref2_SeriesFault_ok h7) [] [] [] ?_
    refine aR 1 ?_
    refine aC (fleetref2_SeriesFault_ok h8) [] [] [] ?_
    refine aR 1 ?_
    refine aB h9 ?_
    refine aR 4 ?_
    refine aC (fleetlaw2_when_ok h10) [] [] [] ?_
    refine aR 1 ?_
    refine aC (fleetlaw2_errs_ok h11) [] [] [11000] ?_
    refine aR 1 ?_
    refine aE ?_
    exact oO hF [] [] rfl
  · refine bE hF fun vr4 h12 hF => ?_
    refine bE hF fun vr10 h13 hF => ?_
    refine awp_region ?_
    refine aR 1 ?_
    refine aC (fleetref2_SeriesFault_ok h7) [] [] [] ?_
    refine aR 1 ?_
    refine aC (fleetref2_SeriesFault_ok h8) [] [] [] ?_
    refine aR 1 ?_
    refine aB h9 ?_
    refine aR 4 ?_
    refine aC (fleetlaw2_when_ok h12) [] [] [] ?_
    refine aR 1 ?_
    refine aC (fleetlaw2_errs_ok h13) [] [] [11000] ?_
    refine aR 1 ?_
    refine aE ?_
    exact oO hF [] [] rfl

def fleetlaw2_SeriesPaired_x2_k : Int → AEx
  | _ => .normal

def fleetlaw2_SeriesPaired_x2_S (vr9 : List api_Sample) (vr9_1 : List api_Sample) (vr : Int) (vr1 : Int) (vr5 : List api_Pairing) (vr6 : Int) (vr7 : List api_Sample) (vr8 : Int) (vx1 : Int) : Int → St
  | vx2 => Mem.st ⟨[], []⟩ (tl [(4, .v (.one (.d (.lst (List.map api_Sample.enc vr9))))), (5, .v (.one (.d (.lst (List.map api_Sample.enc vr9_1))))), (6, .v (.one (.d (.int .i64 vr)))), (7, .v (.one (.d (.int .i64 vr1)))), (8, .v (.one (.d (.lst (List.map api_Pairing.enc vr5))))), (9, .v (.one (.d (.int .i64 vr6)))), (10, .v (.one (.d (.lst (List.map api_Sample.enc vr7))))), (11, .v (.one (.d (.int .i64 vr8)))), (12, .v (.one (.d (.int .i64 vx1)))), (13, .v (.one (.d (.int .i64 vx2))))]) 0

def fleetlaw2_SeriesPaired_x2_I (vr9 : List api_Sample) (vr9_1 : List api_Sample) (vr : Int) (vr1 : Int) (vr5 : List api_Pairing) (vr6 : Int) (vr7 : List api_Sample) (vr8 : Int) (vx1 : Int) : St := Mem.st ⟨[], []⟩ (tl [(4, .v (.one (.d (.lst (List.map api_Sample.enc vr9))))), (5, .v (.one (.d (.lst (List.map api_Sample.enc vr9_1))))), (6, .v (.one (.d (.int .i64 vr)))), (7, .v (.one (.d (.int .i64 vr1)))), (8, .v (.one (.d (.lst (List.map api_Pairing.enc vr5))))), (9, .v (.one (.d (.int .i64 vr6)))), (10, .v (.one (.d (.lst (List.map api_Sample.enc vr7))))), (11, .v (.one (.d (.int .i64 vr8)))), (12, .v (.one (.d (.int .i64 vx1))))]) 0

theorem fleetlaw2_SeriesPaired_x2_ok (vr9 : List api_Sample) (vr9_1 : List api_Sample) (vr : Int) (vr1 : Int) (vr5 : List api_Pairing) (vr6 : Int) (vr7 : List api_Sample) (vr8 : Int) (vx1 : Int) {r} (hF : fleetlaw2_SeriesPaired_x2 vr9 vr1 = some r) : Awp prog 0 101 (cL (cR (cR (cR (cR (cR (cR (cB f8)))))))) (Out 0 fleetlaw2_SeriesPaired_x2_k (fleetlaw2_SeriesPaired_x2_S vr9 vr9_1 vr vr1 vr5 vr6 vr7 vr8 vx1) r) (fleetlaw2_SeriesPaired_x2_I vr9 vr9_1 vr vr1 vr5 vr6 vr7 vr8 vx1) := by
  unfold fleetlaw2_SeriesPaired_x2 at hF
  refine bE hF fun vr1_3 h15 hF => ?_
  refine cE hF (fun h16 hF => ?_) fun h16 hF => ?_
  · refine bE hF fun vr11 h17 hF => ?_
    refine bE hF fun vr12 h18 hF => ?_
    refine awp_region ?_
    refine aR 1 ?_
    refine aC (fleetref2_SeriesFault_ok h15) [] [] [] ?_
    refine aR 1 ?_
    refine aB h16 ?_
    refine aR 4 ?_
    refine aC (fleetlaw2_when_ok h17) [] [] [] ?_
    refine aR 1 ?_
    refine aC (fleetlaw2_errs_ok h18) [] [] [9000] ?_
    refine aR 1 ?_
    refine aE ?_
    exact oO hF [] [] rfl
  · refine bE hF fun vr13 h19 hF => ?_
    refine bE hF fun vr14 h20 hF => ?_
    refine awp_region ?_
    refine aR 1 ?_
    refine aC (fleetref2_SeriesFault_ok h15) [] [] [] ?_
    refine aR 1 ?_
    refine aB h16 ?_
    refine aR 4 ?_
    refine aC (fleetlaw2_when_ok h19) [] [] [] ?_
    refine aR 1 ?_
    refine aC (fleetlaw2_errs_ok h20) [] [] [9000] ?_
    refine aR 1 ?_
    refine aE ?_
    exact oO hF [] [] rfl

def fleetlaw2_SeriesPaired_x3_k : (List api_Pairing) → AEx
  | _ => .normal

def fleetlaw2_SeriesPaired_x3_S (vr9 : List api_Sample) (vr9_1 : List api_Sample) (vr : Int) (vr1 : Int) (vr5 : List api_Pairing) (vr6 : Int) (vr7 : List api_Sample) (vr8 : Int) (vx1 : Int) (vx2_1 : Int) : (List api_Pairing) → St
  | vx3 => Mem.st ⟨[], []⟩ (tl [(4, .v (.one (.d (.lst (List.map api_Sample.enc vr9))))), (7, .v (.one (.d (.int .i64 vr1)))), (8, .v (.one (.d (.lst (List.map api_Pairing.enc vr5))))), (9, .v (.one (.d (.int .i64 vr6)))), (10, .v (.one (.d (.lst (List.map api_Sample.enc vr7))))), (11, .v (.one (.d (.int .i64 vr8)))), (12, .v (.one (.d (.int .i64 vx1)))), (13, .v (.one (.d (.int .i64 vx2_1)))), (14, .v (.one (.d (.lst (List.map api_Pairing.enc vx3)))))]) 0

def fleetlaw2_SeriesPaired_x3_I (vr9 : List api_Sample) (vr9_1 : List api_Sample) (vr : Int) (vr1 : Int) (vr5 : List api_Pairing) (vr6 : Int) (vr7 : List api_Sample) (vr8 : Int) (vx1 : Int) (vx2_1 : Int) : St := Mem.st ⟨[], []⟩ (tl [(4, .v (.one (.d (.lst (List.map api_Sample.enc vr9))))), (5, .v (.one (.d (.lst (List.map api_Sample.enc vr9_1))))), (6, .v (.one (.d (.int .i64 vr)))), (7, .v (.one (.d (.int .i64 vr1)))), (8, .v (.one (.d (.lst (List.map api_Pairing.enc vr5))))), (9, .v (.one (.d (.int .i64 vr6)))), (10, .v (.one (.d (.lst (List.map api_Sample.enc vr7))))), (11, .v (.one (.d (.int .i64 vr8)))), (12, .v (.one (.d (.int .i64 vx1)))), (13, .v (.one (.d (.int .i64 vx2_1)))), (14, .v (.one (.nil)))]) 0

theorem fleetlaw2_SeriesPaired_x3_ok (vr9 : List api_Sample) (vr9_1 : List api_Sample) (vr : Int) (vr1 : Int) (vr5 : List api_Pairing) (vr6 : Int) (vr7 : List api_Sample) (vr8 : Int) (vx1 : Int) (vx2_1 : Int) {r} (hF : fleetlaw2_SeriesPaired_x3 vr9 vr9_1 vr vx1 = some r) : Awp prog 0 101 (cL (cR (cR (cR (cR (cR (cR (cR (cR (cB f8)))))))))) (Out 0 fleetlaw2_SeriesPaired_x3_k (fleetlaw2_SeriesPaired_x3_S vr9 vr9_1 vr vr1 vr5 vr6 vr7 vr8 vx1 vx2_1) r) (fleetlaw2_SeriesPaired_x3_I vr9 vr9_1 vr vr1 vr5 vr6 vr7 vr8 vx1 vx2_1) := by
  unfold fleetlaw2_SeriesPaired_x3 at hF
  refine awp_seq ?_
  refine awp_region ?_
  refine aR 2 ?_
  refine aE ?_
  refine cE hF (fun h22 hF => ?_) fun h22 hF => ?_
  · refine awp_true (by kernel_rfl) h22 ?_
    refine bE hF fun vr15 h23 hF => ?_
    refine awp_region ?_
    refine aR 3 ?_
    refine aC (fleetref2_PairsOf_ok h23) [] [] [] ?_
    refine aR 1 ?_
    refine aE ?_
    exact oO hF [] [] rfl
  · refine awp_false (by kernel_rfl) h22 ?_
    refine awp_skip ?_
    exact oO hF [] [] rfl

def fleetlaw2_SeriesPaired_x4_k : (Int × (List api_Sample)) → AEx
  | _ => .normal

def fleetlaw2_SeriesPaired_x4_S (vr9 : List api_Sample) (vr1 : Int) (vr5 : List api_Pairing) (vr6 : Int) (vr7 : List api_Sample) (vr8 : Int) (vx1 : Int) (vx2_1 : Int) (vx3_1 : List api_Pairing) : (Int × (List api_Sample)) → St
  | (vx4, vx5) => Mem.st ⟨[], []⟩ (tl [(8, .v (.one (.d (.lst (List.map api_Pairing.enc vr5))))), (9, .v (.one (.d (.int .i64 vr6)))), (10, .v (.one (.d (.lst (List.map api_Sample.enc vr7))))), (11, .v (.one (.d (.int .i64 vr8)))), (12, .v (.one (.d (.int .i64 vx1)))), (13, .v (.one (.d (.int .i64 vx4)))), (14, .v (.one (.d (.lst (List.map api_Pairing.enc vx3_1))))), (15, .v (.one (.d (.lst (List.map api_Sample.enc vx5)))))]) 0

def fleetlaw2_SeriesPaired_x4_I (vr9 : List api_Sample) (vr1 : Int) (vr5 : List api_Pairing) (vr6 : Int) (vr7 : List api_Sample) (vr8 : Int) (vx1 : Int) (vx2_1 : Int) (vx3_1 : List api_Pairing) : St := Mem.st ⟨[], []⟩ (tl [(4, .v (.one (.d (.lst (List.map api_Sample.enc vr9))))), (7, .v (.one (.d (.int .i64 vr1)))), (8, .v (.one (.d (.lst (List.map api_Pairing.enc vr5))))), (9, .v (.one (.d (.int .i64 vr6)))), (10, .v (.one (.d (.lst (List.map api_Sample.enc vr7))))), (11, .v (.one (.d (.int .i64 vr8)))), (12, .v (.one (.d (.int .i64 vx1)))), (13, .v (.one (.d (.int .i64 vx2_1)))), (14, .v (.one (.d (.lst (List.map api_Pairing.enc vx3_1))))), (15, .v (.one (.nil)))]) 0

theorem fleetlaw2_SeriesPaired_x4_ok (vr9 : List api_Sample) (vr1 : Int) (vr5 : List api_Pairing) (vr6 : Int) (vr7 : List api_Sample) (vr8 : Int) (vx1 : Int) (vx2_1 : Int) (vx3_1 : List api_Pairing) {r} (hF : fleetlaw2_SeriesPaired_x4 vr9 vr1 vx2_1 = some r) : Awp prog 0 101 (cL (cR (cR (cR (cR (cR (cR (cR (cR (cR (cR (cB f8)))))))))))) (Out 0 fleetlaw2_SeriesPaired_x4_k (fleetlaw2_SeriesPaired_x4_S vr9 vr1 vr5 vr6 vr7 vr8 vx1 vx2_1 vx3_1) r) (fleetlaw2_SeriesPaired_x4_I vr9 vr1 vr5 vr6 vr7 vr8 vx1 vx2_1 vx3_1) := by
  unfold fleetlaw2_SeriesPaired_x4 at hF
  refine awp_seq ?_
  refine awp_region ?_
  refine aR 2 ?_
  refine aE ?_
  refine cE hF (fun h25 hF => ?_) fun h25 hF => ?_
  · refine awp_true (by kernel_rfl) h25 ?_
    refine bE hF fun x h26 hF => ?_
    obtain ⟨vr5_1, vr6_1⟩ := x
    refine awp_region ?_
    refine aR 2 ?_
    refine aC (fleetref2_ThinOf_ok h26) [] [] [] ?_
    refine aR 5 ?_
    refine aE ?_
    exact oO hF [] [] rfl
  · refine awp_false (by kernel_rfl) h25 ?_
    refine awp_skip ?_
    exact oO hF [] [] rfl

def fleetlaw2_SeriesPaired_x5_k : Bool → AEx
  | _ => .normal

def fleetlaw2_SeriesPaired_x5_S (vr5 : List api_Pairing) (vr6 : Int) (vr7 : List api_Sample) (vr8 : Int) (vx1 : Int) (vx3_1 : List api_Pairing) (vx4_1 : Int) (vx5_1 : List api_Sample) : Bool → St
  | vx6 => Mem.st ⟨[], []⟩ (tl [(2, .v (.one (.d (.bool vx6))))]) 0

def fleetlaw2_SeriesPaired_x5_I (vr5 : List api_Pairing) (vr6 : Int) (vr7 : List api_Sample) (vr8 : Int) (vx1 : Int) (vx3_1 : List api_Pairing) (vx4_1 : Int) (vx5_1 : List api_Sample) : St := Mem.st ⟨[], []⟩ (tl [(8, .v (.one (.d (.lst (List.map api_Pairing.enc vr5))))), (9, .v (.one (.d (.int .i64 vr6)))), (10, .v (.one (.d (.lst (List.map api_Sample.enc vr7))))), (11, .v (.one (.d (.int .i64 vr8)))), (12, .v (.one (.d (.int .i64 vx1)))), (13, .v (.one (.d (.int .i64 vx4_1)))), (14, .v (.one (.d (.lst (List.map api_Pairing.enc vx3_1))))), (15, .v (.one (.d (.lst (List.map api_Sample.enc vx5_1)))))]) 0

theorem fleetlaw2_SeriesPaired_x5_ok (vr5 : List api_Pairing) (vr6 : Int) (vr7 : List api_Sample) (vr8 : Int) (vx1 : Int) (vx3_1 : List api_Pairing) (vx4_1 : Int) (vx5_1 : List api_Sample) {r} (hF : fleetlaw2_SeriesPaired_x5 vr5 vr6 vr7 vr8 vx1 vx3_1 vx4_1 vx5_1 = some r) : Awp prog 0 101 (cL (cR (cR (cR (cR (cR (cR (cR (cR (cR (cR (cR (cB f8))))))))))))) (Out 0 fleetlaw2_SeriesPaired_x5_k (fleetlaw2_SeriesPaired_x5_S vr5 vr6 vr7 vr8 vx1 vx3_1 vx4_1 vx5_1) r) (fleetlaw2_SeriesPaired_x5_I vr5 vr6 vr7 vr8 vx1 vx3_1 vx4_1 vx5_1) := by
  unfold fleetlaw2_SeriesPaired_x5 at hF
  refine cE hF (fun h28 hF => ?_) fun h28 hF => ?_
  · refine bE hF fun vr16 h29 hF => ?_
    refine cE hF (fun h30 hF => ?_) fun h30 hF => ?_
    · refine cE hF (fun h31 hF => ?_) fun h31 hF => ?_
      · refine bE hF fun vr17 h32 hF => ?_
        refine cE hF (fun h33 hF => ?_) fun h33 hF => ?_
        · refine bE hF fun vr3_1 h34 hF => ?_
          refine awp_region ?_
          refine aR 2 ?_
          refine aB h28 ?_
          refine aR 3 ?_
          refine aCb (slices_Equal_api_Pairing_api_Pairing_ok h29) [] [] [] h30 ?_
          refine aR 4 ?_
          refine aB h31 ?_
          refine aR 4 ?_
          refine aCb (slices_Equal_api_Sample_api_Sample_ok h32) [] [] [] h33 ?_
          refine aR 2 ?_
          refine aC (fleetlaw2_measured_ok h34) [] [] [] ?_
          refine aR 2 ?_
          refine aE ?_
          exact oO hF [] [] rfl
        · refine awp_region ?_
          refine aR 2 ?_
          refine aB h28 ?_
          refine aR 3 ?_
          refine aCb (slices_Equal_api_Pairing_api_Pairing_ok h29) [] [] [] h30 ?_
          refine aR 4 ?_
          refine aB h31 ?_
          refine aR 4 ?_
          refine aCb (slices_Equal_api_Sample_api_Sample_ok h32) [] [] [] h33 ?_
          refine aR 5 ?_
          refine aE ?_
          exact oO hF [] [] rfl
      · refine awp_region ?_
        refine aR 2 ?_
        refine aB h28 ?_
        refine aR 3 ?_
        refine aCb (slices_Equal_api_Pairing_api_Pairing_ok h29) [] [] [] h30 ?_
        refine aR 4 ?_
        refine aB h31 ?_
        refine aR 10 ?_
        refine aE ?_
        exact oO hF [] [] rfl
    · refine awp_region ?_
      refine aR 2 ?_
      refine aB h28 ?_
      refine aR 3 ?_
      refine aCb (slices_Equal_api_Pairing_api_Pairing_ok h29) [] [] [] h30 ?_
      refine aR 15 ?_
      refine aE ?_
      exact oO hF [] [] rfl
  · refine awp_region ?_
    refine aR 2 ?_
    refine aB h28 ?_
    refine aR 19 ?_
    refine aE ?_
    exact oO hF [] [] rfl

def fleetlaw2_SeriesPaired_R (qx : List Int) (r : Bool) : TV × Mem := (.v (.one (.d (.bool r))), ⟨[], []⟩)

theorem fleetlaw2_SeriesPaired_ok {qx : List Int} {r} (hF : fleetlaw2_SeriesPaired qx = some r) : Holds prog 8 [.v (.one (.d (.lst (List.map (encI .i64) qx))))] ⟨[], []⟩ (Is (fleetlaw2_SeriesPaired_R qx r)) := by
  unfold fleetlaw2_SeriesPaired at hF
  refine holds_of_awp hΓ (fn := f8) (c := cB f8) (A := 0) (nx := 0) (by kernel_rfl) (by kernel_rfl) (by kernel_rfl) (by kernel_rfl) (by kernel_rfl) (by kernel_rfl) (lowc_of (by kernel_rfl)) ?_
  show Awp prog 0 101 (cB f8) _ _
  refine awp_seq ?_
  refine awp_region ?_
  refine aR 1 ?_
  refine aE ?_
  refine awp_seq ?_
  refine awp_region ?_
  refine aR 4 ?_
  refine aE ?_
  refine awp_seq ?_
  refine bE hF fun x h1 hF => ?_
  obtain ⟨vs6, vr9⟩ := x
  refine bE hF fun x h2 hF => ?_
  obtain ⟨vs6_1, vr9_1⟩ := x
  refine bE hF fun vr h3 hF => ?_
  refine bE hF fun vr1 h4 hF => ?_
  refine awp_region ?_
  refine aR 1 ?_
  refine aC (fleetmake_Stream_Series_ok h1) [(0, 3000)] [] [] ?_
  refine aR 1 ?_
  refine aC (fleetmake_Stream_Series_ok h2) [(0, 3000)] [] [] ?_
  refine aR 2 ?_
  refine aC (fleetmake_Stream_Pick_o1_ok h3) [(0, 3000), (1, 10000)] [] [] ?_
  refine aR 2 ?_
  refine aC (fleetmake_Stream_Pick_o1_ok h4) [(0, 3000), (1, 13000)] [] [] ?_
  refine aR 4 ?_
  refine aE ?_
  refine awp_to (oT (m := ⟨[], []⟩) (ts := [(4, .v (.one (.d (.lst (List.map api_Sample.enc vr9))))), (5, .v (.one (.d (.lst (List.map api_Sample.enc vr9_1))))), (6, .v (.one (.d (.int .i64 vr)))), (7, .v (.one (.d (.int .i64 vr1))))]) (nx := 0) [] []) ?_
  refine awp_seq ?_
  refine bE hF fun x h5 hF => ?_
  obtain ⟨vr5, vr6⟩ := x
  refine awp_region ?_
  refine aR 3 ?_
  refine aC (series_Pair_ok h5) [] [] [] ?_
  refine aR 5 ?_
  refine aE ?_
  refine awp_to (oT (m := ⟨[], []⟩) (ts := [(4, .v (.one (.d (.lst (List.map api_Sample.enc vr9))))), (5, .v (.one (.d (.lst (List.map api_Sample.enc vr9_1))))), (6, .v (.one (.d (.int .i64 vr)))), (7, .v (.one (.d (.int .i64 vr1)))), (8, .v (.one (.d (.lst (List.map api_Pairing.enc vr5))))), (9, .v (.one (.d (.int .i64 vr6))))]) (nx := 0) [] []) ?_
  refine awp_seq ?_
  refine bE hF fun x h6 hF => ?_
  obtain ⟨vr7, vr8⟩ := x
  refine awp_region ?_
  refine aR 2 ?_
  refine aC (series_Thin_ok h6) [] [] [] ?_
  refine aR 5 ?_
  refine aE ?_
  refine awp_to (oT (m := ⟨[], []⟩) (ts := [(4, .v (.one (.d (.lst (List.map api_Sample.enc vr9))))), (5, .v (.one (.d (.lst (List.map api_Sample.enc vr9_1))))), (6, .v (.one (.d (.int .i64 vr)))), (7, .v (.one (.d (.int .i64 vr1)))), (8, .v (.one (.d (.lst (List.map api_Pairing.enc vr5))))), (9, .v (.one (.d (.int .i64 vr6)))), (10, .v (.one (.d (.lst (List.map api_Sample.enc vr7))))), (11, .v (.one (.d (.int .i64 vr8))))]) (nx := 0) [] []) ?_
  refine awp_seq ?_
  refine awp_to (st' := fleetlaw2_SeriesPaired_x1_I vr9 vr9_1 vr vr1 vr5 vr6 vr7 vr8) (oT [] []) ?_
  refine bE hF fun vx1 h14 hF => ?_
  refine awp_sub (fleetlaw2_SeriesPaired_x1_ok vr9 vr9_1 vr vr1 vr5 vr6 vr7 vr8 h14) ?_
  refine awp_seq ?_
  refine awp_to (st' := fleetlaw2_SeriesPaired_x2_I vr9 vr9_1 vr vr1 vr5 vr6 vr7 vr8 vx1) (oT [] []) ?_
  refine bE hF fun vx2_1 h21 hF => ?_
  refine awp_sub (fleetlaw2_SeriesPaired_x2_ok vr9 vr9_1 vr vr1 vr5 vr6 vr7 vr8 vx1 h21) ?_
  refine awp_seq ?_
  refine awp_region ?_
  refine aR 1 ?_
  refine aE ?_
  refine awp_seq ?_
  refine awp_to (st' := fleetlaw2_SeriesPaired_x3_I vr9 vr9_1 vr vr1 vr5 vr6 vr7 vr8 vx1 vx2_1) (oT [] []) ?_
  refine bE hF fun vx3_1 h24 hF => ?_
  refine awp_sub (fleetlaw2_SeriesPaired_x3_ok vr9 vr9_1 vr vr1 vr5 vr6 vr7 vr8 vx1 vx2_1 h24) ?_
  refine awp_seq ?_
  refine awp_region ?_
  refine aR 1 ?_
  refine aE ?_
  refine awp_seq ?_
  refine awp_to (st' := fleetlaw2_SeriesPaired_x4_I vr9 vr1 vr5 vr6 vr7 vr8 vx1 vx2_1 vx3_1) (oT [] []) ?_
  refine bE hF fun x h27 hF => ?_
  obtain ⟨vx4_1, vx5_1⟩ := x
  refine awp_sub (fleetlaw2_SeriesPaired_x4_ok vr9 vr1 vr5 vr6 vr7 vr8 vx1 vx2_1 vx3_1 h27) ?_
  refine awp_seq ?_
  refine awp_to (st' := fleetlaw2_SeriesPaired_x5_I vr5 vr6 vr7 vr8 vx1 vx3_1 vx4_1 vx5_1) (oT [] []) ?_
  refine bE hF fun vx6_1 h35 hF => ?_
  refine awp_sub (fleetlaw2_SeriesPaired_x5_ok vr5 vr6 vr7 vr8 vx1 vx3_1 vx4_1 vx5_1 h35) ?_
  refine awp_ret ?_
  exact oF hF [] []

end Go.Eng
