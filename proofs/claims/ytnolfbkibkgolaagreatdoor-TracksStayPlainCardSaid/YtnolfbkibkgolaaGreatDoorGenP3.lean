/-
The code of the Go functions that the law TracksStayPlain reaches does what the plain functions say, part 3.
-/
import Derived.Test.YtnolfbkibkgolaaGreatDoorGenP2

namespace Go.Eng

open Go Go.Proofs.Tryz

set_option linter.unusedVariables false

set_option maxRecDepth 20000

set_option maxHeartbeats 0

/-! ### beaconfleet/command.Order -/
def command_Order_o0_x1_k : Unit ⊕ Int → AEx
  | .inl _ => .exit 0
  | .inr _ => .ret

def command_Order_o0_x1_S (ql : List api_Letter) : Unit ⊕ Int → St
  | .inl _ => Mem.st ⟨[], []⟩ (tl [(0, .v (.one (.d (.lst (List.map api_Letter.enc ql)))))]) 1
  | .inr vx1 => Mem.st ⟨[], []⟩ (tl [(2, .v (.one (.nil))), (3, .v (.one (.d (.int .i64 vx1))))]) 1

def command_Order_o0_x1_H (ql : List api_Letter) : Int → St
  | vx => Mem.st ⟨[], []⟩ (tl [(0, .v (.one (.d (.lst (List.map api_Letter.enc ql))))), (11, .v (.one (.d (.lst (List.map api_Letter.enc ql))))), (12, .v (.one (.d (.int .i64 (ql.length : Int))))), (13, .v (.one (.d (.int .i64 vx))))]) 1

theorem command_Order_o0_x1_ok (ql : List api_Letter) (vx : Int) (r : (Int) ⊕ (Unit ⊕ Int)) (hF : command_Order_o0_x1 ql vx = some r) : Awp prog 1 34 (cL (cL (cR (cL (cR (cR (cB f49))))))) (Out 1 (kk command_Order_o0_x1_k) (SS (command_Order_o0_x1_H ql) (command_Order_o0_x1_S ql)) r) (command_Order_o0_x1_H ql vx) := by
  unfold command_Order_o0_x1 at hF
  refine awp_seq ?_
  refine awp_region ?_
  refine aR 1 ?_
  refine aE ?_
  refine awp_seq ?_
  refine cE hF (fun h2 hF => ?_) fun h2 hF => ?_
  · refine awp_true (by kernel_rfl) h2 ?_
    refine awp_skip ?_
    refine awp_seq ?_
    refine awp_block ?_
    refine awp_seq ?_
    refine bE hF fun vy1 h3 hF => ?_
    refine awp_region ?_
    refine aR 1 ?_
    refine aX (x_idx api_Letter.enc h3) ?_
    refine aR 4 ?_
    refine aE ?_
    refine awp_seq ?_
    refine awp_seq ?_
    refine bE hF fun vr4_1 h4 hF => ?_
    refine awp_region ?_
    refine aR 1 ?_
    refine aC (command_CheckLetter_ok h4) [] [] [] ?_
    refine aR 1 ?_
    refine aE ?_
    refine awp_seq ?_
    refine awp_region ?_
    refine aR 2 ?_
    refine aE ?_
    refine cE hF (fun h5 hF => ?_) fun h5 hF => ?_
    · refine awp_true (by kernel_rfl) h5 ?_
      refine awp_seq ?_
      refine awp_region ?_
      refine aR 3 ?_
      refine aE ?_
      refine awp_ret ?_
      exact oO hF [] [] rfl
    · refine awp_false (by kernel_rfl) h5 ?_
      refine awp_skip ?_
      refine awp_seq ?_
      refine bE hF fun vl1 h6 hF => ?_
      refine bE hF fun vr1_1 h7 hF => ?_
      refine awp_region ?_
      refine aR 2 ?_
      refine aX (x_slice api_Letter.enc h6) ?_
      refine aR 1 ?_
      refine aC (slices_ContainsFunc_api_Letter_api_Letter_f1_command_Order_1_ok h7) [(0, 4001)] [] [] ?_
      refine aE ?_
      refine cE hF (fun h8 hF => ?_) fun h8 hF => ?_
      · refine awp_true (by kernel_rfl) h8 ?_
        refine awp_seq ?_
        refine awp_region ?_
        refine aR 2 ?_
        refine aE ?_
        refine awp_ret ?_
        exact oO hF [] [] rfl
      · refine awp_false (by kernel_rfl) h8 ?_
        refine awp_skip ?_
        refine awp_region ?_
        refine aR 2 ?_
        refine aE ?_
        exact oO hF [] [] rfl
  · refine awp_false (by kernel_rfl) h2 ?_
    refine awp_exit ?_
    exact oO hF [] [] rfl

def command_Order_o0_R (ql : List api_Letter) (r : (List api_Letter) × Int) : TV × Mem := (.tup [.one (.own 1 none), .one (.d (.int .i64 r.2))], ⟨[(1, ⟨109, 6, List.map api_Letter.enc r.1⟩)], []⟩)

theorem command_Order_o0_ok {ql : List api_Letter} {r} (hF : command_Order_o0 ql = some r) : Holds prog 49 [.v (.one (.own 0 none))] ⟨[(0, ⟨109, 6, List.map api_Letter.enc ql⟩)], []⟩ (Is (command_Order_o0_R ql r)) := by
  unfold command_Order_o0 at hF
  refine holds_of_awp hΓ (fn := f49) (c := cB f49) (A := 1) (nx := 1) (by kernel_rfl) (by kernel_rfl) (by kernel_rfl) (by kernel_rfl) (by kernel_rfl) (by kernel_rfl) (lowc_of (by kernel_rfl)) ?_
  show Awp prog 1 34 (cB f49) _ _
  refine awp_seq ?_
  refine awp_region ?_
  refine aR 2 ?_
  refine aE ?_
  refine awp_to (oT (m := ⟨[], []⟩) (ts := [(0, .v (.one (.d (.lst (List.map api_Letter.enc ql)))))]) (nx := 1) [] []) ?_
  refine awp_seq ?_
  refine awp_seq ?_
  refine awp_region ?_
  refine aR 1 ?_
  refine aL api_Letter.enc ql ?_
  refine aR 1 ?_
  refine aE ?_
  refine cE hF (fun h1 hF => ?_) fun h1 hF => ?_
  · refine awp_true (by kernel_rfl) h1 ?_
    refine awp_seq ?_
    refine awp_region ?_
    refine aR 2 ?_
    refine aE ?_
    refine awp_ret ?_
    exact oF hF [] [1]
  · refine awp_false (by kernel_rfl) h1 ?_
    refine awp_skip ?_
    refine awp_seq ?_
    refine awp_seq ?_
    refine awp_region ?_
    refine aR 1 ?_
    refine aL api_Letter.enc ql ?_
    refine aR 1 ?_
    refine aE ?_
    refine awp_block ?_
    refine awp_to (st' := command_Order_o0_x1_H ql 0) (oT [] []) ?_
    refine bE hF fun x h9 hF => ?_
    rcases x with _ | vx1_1
    · refine awp_sub (awp_loop' (command_Order_o0_x1_H ql) command_Order_o0_x1_k (command_Order_o0_x1_S ql) (by intro x; rcases x with x | x <;> exact fun h => nomatch h) h9 (command_Order_o0_x1_ok ql)) ?_
      refine awp_seq ?_
      refine bE hF fun vr h10 hF => ?_
      refine awp_region ?_
      refine aR 1 ?_
      refine aC (slices_Clone_api_Letter_api_Letter_ok h10) [] [] [] ?_
      refine aR 1 ?_
      refine aE ?_
      refine awp_seq ?_
      refine bE hF fun vl2 h11 hF => ?_
      refine gE hF fun h12 hF => ?_
      refine awp_region ?_
      refine aR 1 ?_
      refine aCp (slices_SortFunc_api_Letter_api_Letter_o0_f1_command_byOrder_ok h11) ⟨⟨rfl, rfl, pin1 h12⟩, trivial⟩ [(0, 1001)] [] [] ?_
      refine aE ?_
      refine awp_seq ?_
      refine awp_region ?_
      refine aR 3 ?_
      refine aE ?_
      refine awp_ret ?_
      exact oF hF [(1, 1001)] []
    · refine awp_sub (awp_loop' (command_Order_o0_x1_H ql) command_Order_o0_x1_k (command_Order_o0_x1_S ql) (by intro x; rcases x with x | x <;> exact fun h => nomatch h) h9 (command_Order_o0_x1_ok ql)) ?_
      exact oF hF [] [1]

/-! ### beaconfleet/fleetkeep2.errs -/
def fleetkeep2_errs_x1_k : Unit ⊕ Int → AEx
  | .inl _ => .exit 0
  | .inr _ => .ret

def fleetkeep2_errs_x1_S (ql : List Int) : Unit ⊕ Int → St
  | .inl _ => Mem.st ⟨[], []⟩ (tl []) 0
  | .inr vx1 => Mem.st ⟨[], []⟩ (tl [(2, .v (.one (.d (.int .i64 vx1))))]) 0

def fleetkeep2_errs_x1_H (ql : List Int) : Int → St
  | vx => Mem.st ⟨[], []⟩ (tl [(5, .v (.one (.d (.lst (List.map (encI .i64) ql))))), (6, .v (.one (.d (.int .i64 (ql.length : Int))))), (7, .v (.one (.d (.int .i64 vx))))]) 0

theorem fleetkeep2_errs_x1_ok (ql : List Int) (vx : Int) (r : (Int) ⊕ (Unit ⊕ Int)) (hF : fleetkeep2_errs_x1 ql vx = some r) : Awp prog 0 15 (cL (cL (cR (cL (cR (cB f50)))))) (Out 0 (kk fleetkeep2_errs_x1_k) (SS (fleetkeep2_errs_x1_H ql) (fleetkeep2_errs_x1_S ql)) r) (fleetkeep2_errs_x1_H ql vx) := by
  unfold fleetkeep2_errs_x1 at hF
  refine awp_seq ?_
  refine awp_region ?_
  refine aR 1 ?_
  refine aE ?_
  refine awp_seq ?_
  refine cE hF (fun h1 hF => ?_) fun h1 hF => ?_
  · refine awp_true (by kernel_rfl) h1 ?_
    refine awp_skip ?_
    refine awp_seq ?_
    refine awp_block ?_
    refine awp_seq ?_
    refine bE hF fun vy1 h2 hF => ?_
    refine awp_region ?_
    refine aX (x_idx (encI .i64) h2) ?_
    refine aR 2 ?_
    refine aE ?_
    refine awp_seq ?_
    refine awp_region ?_
    refine aR 2 ?_
    refine aE ?_
    refine cE hF (fun h3 hF => ?_) fun h3 hF => ?_
    · refine awp_true (by kernel_rfl) h3 ?_
      refine awp_seq ?_
      refine awp_region ?_
      refine aR 2 ?_
      refine aE ?_
      refine awp_ret ?_
      exact oO hF [] [] rfl
    · refine awp_false (by kernel_rfl) h3 ?_
      refine awp_skip ?_
      refine awp_region ?_
      refine aR 2 ?_
      refine aE ?_
      exact oO hF [] [] rfl
  · refine awp_false (by kernel_rfl) h1 ?_
    refine awp_exit ?_
    exact oO hF [] [] rfl

def fleetkeep2_errs_R (ql : List Int) (r : Int) : TV × Mem := (.v (.one (.d (.int .i64 r))), ⟨[], []⟩)

theorem fleetkeep2_errs_ok {ql : List Int} {r} (hF : fleetkeep2_errs ql = some r) : Holds prog 50 [.v (.one (.d (.lst (List.map (encI .i64) ql))))] ⟨[], []⟩ (Is (fleetkeep2_errs_R ql r)) := by
  unfold fleetkeep2_errs at hF
  refine holds_of_awp hΓ (fn := f50) (c := cB f50) (A := 0) (nx := 0) (by kernel_rfl) (by kernel_rfl) (by kernel_rfl) (by kernel_rfl) (by kernel_rfl) (by kernel_rfl) (lowc_of (by kernel_rfl)) ?_
  show Awp prog 0 15 (cB f50) _ _
  refine awp_seq ?_
  refine awp_region ?_
  refine aR 1 ?_
  refine aE ?_
  refine awp_seq ?_
  refine awp_seq ?_
  refine awp_region ?_
  refine aR 1 ?_
  refine aL (encI .i64) ql ?_
  refine aR 1 ?_
  refine aE ?_
  refine awp_block ?_
  refine awp_to (st' := fleetkeep2_errs_x1_H ql 0) (oT [] []) ?_
  refine bE hF fun x h4 hF => ?_
  rcases x with _ | vx1_1
  · refine awp_sub (awp_loop' (fleetkeep2_errs_x1_H ql) fleetkeep2_errs_x1_k (fleetkeep2_errs_x1_S ql) (by intro x; rcases x with x | x <;> exact fun h => nomatch h) h4 (fleetkeep2_errs_x1_ok ql)) ?_
    refine awp_seq ?_
    refine awp_region ?_
    refine aR 1 ?_
    refine aE ?_
    refine awp_ret ?_
    exact oF hF [] []
  · refine awp_sub (awp_loop' (fleetkeep2_errs_x1_H ql) fleetkeep2_errs_x1_k (fleetkeep2_errs_x1_S ql) (by intro x; rcases x with x | x <;> exact fun h => nomatch h) h4 (fleetkeep2_errs_x1_ok ql)) ?_
    exact oF hF [] []

/-! ### beaconfleet/fleetkeep2.ready -/
def fleetkeep2_ready_x1_k : Bool → AEx
  | _ => .normal

def fleetkeep2_ready_x1_S (vr5 : List api_Change) (vr6 : Int) (vr : List Int) (vr2 : Int) (vr2_1 : api_Version) (vr4 : Int) (vr1 : List UInt8) (vr3 : Int) (vr2_2 : List api_Letter) (vr3_1 : Int) : Bool → St
  | vx => Mem.st ⟨[], []⟩ (tl [(0, .v (.one (.d (.bool vx))))]) 0

def fleetkeep2_ready_x1_I (vr5 : List api_Change) (vr6 : Int) (vr : List Int) (vr2 : Int) (vr2_1 : api_Version) (vr4 : Int) (vr1 : List UInt8) (vr3 : Int) (vr2_2 : List api_Letter) (vr3_1 : Int) : St := Mem.st ⟨[], [(0, [.d (.int .i64 vr2_1.Major), .d (.int .i64 vr2_1.Minor), .d (.int .i64 vr2_1.Patch)])]⟩ (tl [(1, .v (.one (.d (.lst (List.map api_Change.enc vr5))))), (2, .v (.one (.d (.int .i64 vr6)))), (3, .v (.one (.d (.lst (List.map (encI .u8) vr))))), (4, .v (.one (.d (.int .i64 vr2)))), (5, .v (.one (.box 0 0))), (6, .v (.one (.d (.int .i64 vr4)))), (7, .v (.one (.d (.str vr1)))), (8, .v (.one (.d (.int .i64 vr3)))), (9, .v (.one (.d (.lst (List.map api_Letter.enc vr2_2))))), (10, .v (.one (.d (.int .i64 vr3_1))))]) 1

theorem fleetkeep2_ready_x1_ok (vr5 : List api_Change) (vr6 : Int) (vr : List Int) (vr2 : Int) (vr2_1 : api_Version) (vr4 : Int) (vr1 : List UInt8) (vr3 : Int) (vr2_2 : List api_Letter) (vr3_1 : Int) {r} (hF : fleetkeep2_ready_x1 vr5 vr6 vr vr2 vr2_1 vr4 vr1 vr3 vr2_2 vr3_1 = some r) : Awp prog 0 71 (cL (cR (cR (cR (cR (cR (cR (cB f17)))))))) (Out 0 fleetkeep2_ready_x1_k (fleetkeep2_ready_x1_S vr5 vr6 vr vr2 vr2_1 vr4 vr1 vr3 vr2_2 vr3_1) r) (fleetkeep2_ready_x1_I vr5 vr6 vr vr2 vr2_1 vr4 vr1 vr3 vr2_2 vr3_1) := by
  unfold fleetkeep2_ready_x1 at hF
  refine bE hF fun vr7 h6 hF => ?_
  refine cE hF (fun h7 hF => ?_) fun h7 hF => ?_
  · refine cE hF (fun h8 hF => ?_) fun h8 hF => ?_
    · refine bE hF fun vr8 h9 hF => ?_
      refine cE hF (fun h10 hF => ?_) fun h10 hF => ?_
      · refine cE hF (fun h11 hF => ?_) fun h11 hF => ?_
        · refine cE hF (fun h12 hF => ?_) fun h12 hF => ?_
          · refine awp_region ?_
            refine aR 6 ?_
            refine aC (fleetkeep2_errs_ok h6) [] [] [5001] ?_
            refine aB h7 ?_
            refine aR 2 ?_
            refine aL api_Change.enc vr5 ?_
            refine aB h8 ?_
            refine aR 4 ?_
            refine aCb (slices_Equal_byte_byte_ok h9) [] [] [15001] h10 ?_
            refine aR 4 ?_
            refine aB h11 ?_
            refine aR 3 ?_
            refine aB h12 ?_
            refine aR 3 ?_
            refine aL api_Letter.enc vr2_2 ?_
            refine aR 3 ?_
            refine aE ?_
            exact oO hF [] [] rfl
          · refine awp_region ?_
            refine aR 6 ?_
            refine aC (fleetkeep2_errs_ok h6) [] [] [5001] ?_
            refine aB h7 ?_
            refine aR 2 ?_
            refine aL api_Change.enc vr5 ?_
            refine aB h8 ?_
            refine aR 4 ?_
            refine aCb (slices_Equal_byte_byte_ok h9) [] [] [15001] h10 ?_
            refine aR 4 ?_
            refine aB h11 ?_
            refine aR 3 ?_
            refine aB h12 ?_
            refine aR 7 ?_
            refine aE ?_
            exact oO hF [] [] rfl
        · refine awp_region ?_
          refine aR 6 ?_
          refine aC (fleetkeep2_errs_ok h6) [] [] [5001] ?_
          refine aB h7 ?_
          refine aR 2 ?_
          refine aL api_Change.enc vr5 ?_
          refine aB h8 ?_
          refine aR 4 ?_
          refine aCb (slices_Equal_byte_byte_ok h9) [] [] [15001] h10 ?_
          refine aR 4 ?_
          refine aB h11 ?_
          refine aR 11 ?_
          refine aE ?_
          exact oO hF [] [] rfl
      · refine awp_region ?_
        refine aR 6 ?_
        refine aC (fleetkeep2_errs_ok h6) [] [] [5001] ?_
        refine aB h7 ?_
        refine aR 2 ?_
        refine aL api_Change.enc vr5 ?_
        refine aB h8 ?_
        refine aR 4 ?_
        refine aCb (slices_Equal_byte_byte_ok h9) [] [] [15001] h10 ?_
        refine aR 16 ?_
        refine aE ?_
        exact oO hF [] [] rfl
    · refine awp_region ?_
      refine aR 6 ?_
      refine aC (fleetkeep2_errs_ok h6) [] [] [5001] ?_
      refine aB h7 ?_
      refine aR 2 ?_
      refine aL api_Change.enc vr5 ?_
      refine aB h8 ?_
      refine aR 21 ?_
      refine aE ?_
      exact oO hF [] [] rfl
  · refine awp_region ?_
    refine aR 6 ?_
    refine aC (fleetkeep2_errs_ok h6) [] [] [5001] ?_
    refine aB h7 ?_
    refine aR 25 ?_
    refine aE ?_
    exact oO hF [] [] rfl

def fleetkeep2_ready_R (r : Bool) : TV × Mem := (.v (.one (.d (.bool r))), ⟨[], []⟩)

theorem fleetkeep2_ready_ok {r} (hF : fleetkeep2_ready = some r) : Holds prog 17 [] ⟨[], []⟩ (Is (fleetkeep2_ready_R  r)) := by
  unfold fleetkeep2_ready at hF
  refine holds_of_awp hΓ (fn := f17) (c := cB f17) (A := 0) (nx := 0) (by kernel_rfl) (by kernel_rfl) (by kernel_rfl) (by kernel_rfl) (by kernel_rfl) (by kernel_rfl) (lowc_of (by kernel_rfl)) ?_
  show Awp prog 0 71 (cB f17) _ _
  refine awp_seq ?_
  refine awp_region ?_
  refine aR 1 ?_
  refine aE ?_
  refine awp_seq ?_
  refine bE hF fun x h1 hF => ?_
  obtain ⟨vr5, vr6⟩ := x
  refine awp_region ?_
  refine aR 3 ?_
  refine aC (twin_Differ_n0_o1_ok h1) [(0, 3000)] [] [] ?_
  refine aR 5 ?_
  refine aE ?_
  refine awp_to (oT (m := ⟨[], []⟩) (ts := [(1, .v (.one (.d (.lst (List.map api_Change.enc vr5))))), (2, .v (.one (.d (.int .i64 vr6))))]) (nx := 0) [] []) ?_
  refine awp_seq ?_
  refine bE hF fun x h2 hF => ?_
  obtain ⟨vr, vr2⟩ := x
  refine awp_region ?_
  refine aR 2 ?_
  refine aC (series_Pack_o0_ok h2) [(0, 1000)] [] [] ?_
  refine aR 5 ?_
  refine aE ?_
  refine awp_to (oT (m := ⟨[], []⟩) (ts := [(1, .v (.one (.d (.lst (List.map api_Change.enc vr5))))), (2, .v (.one (.d (.int .i64 vr6)))), (3, .v (.one (.d (.lst (List.map (encI .u8) vr))))), (4, .v (.one (.d (.int .i64 vr2))))]) (nx := 0) [] []) ?_
  refine awp_seq ?_
  refine bE hF fun x h3 hF => ?_
  obtain ⟨vr2_1, vr4⟩ := x
  refine awp_region ?_
  refine aC (campaign_ParseVersion_ok h3) [] [] [] ?_
  refine aR 6 ?_
  refine aE ?_
  refine awp_seq ?_
  refine bE hF fun x h4 hF => ?_
  obtain ⟨vr1, vr3⟩ := x
  refine awp_region ?_
  refine aR 1 ?_
  refine aC (place_Cell_ok h4) [] [] [] ?_
  refine aR 5 ?_
  refine aE ?_
  refine awp_seq ?_
  refine bE hF fun x h5 hF => ?_
  obtain ⟨vr2_2, vr3_1⟩ := x
  refine awp_region ?_
  refine aR 2 ?_
  refine aC (command_Order_o0_ok h5) [(0, 15000)] [] [] ?_
  refine aR 5 ?_
  refine aE ?_
  refine awp_to (oT (m := ⟨[], [(0, [.d (.int .i64 vr2_1.Major), .d (.int .i64 vr2_1.Minor), .d (.int .i64 vr2_1.Patch)])]⟩) (ts := [(1, .v (.one (.d (.lst (List.map api_Change.enc vr5))))), (2, .v (.one (.d (.int .i64 vr6)))), (3, .v (.one (.d (.lst (List.map (encI .u8) vr))))), (4, .v (.one (.d (.int .i64 vr2)))), (5, .v (.one (.box 0 0))), (6, .v (.one (.d (.int .i64 vr4)))), (7, .v (.one (.d (.str vr1)))), (8, .v (.one (.d (.int .i64 vr3)))), (9, .v (.one (.d (.lst (List.map api_Letter.enc vr2_2))))), (10, .v (.one (.d (.int .i64 vr3_1))))]) (nx := 1) [(0, 4000)] []) ?_
  refine awp_seq ?_
  refine awp_to (st' := fleetkeep2_ready_x1_I vr5 vr6 vr vr2 vr2_1 vr4 vr1 vr3 vr2_2 vr3_1) (oT [] []) ?_
  refine bE hF fun vx1 h13 hF => ?_
  refine awp_sub (fleetkeep2_ready_x1_ok vr5 vr6 vr vr2 vr2_1 vr4 vr1 vr3 vr2_2 vr3_1 h13) ?_
  refine awp_ret ?_
  exact oF hF [] []

/-! ### beaconfleet/fleetkeep2.TracksStayPlain -/
def fleetkeep2_TracksStayPlain_x1_k : Bool → AEx
  | _ => .normal

def fleetkeep2_TracksStayPlain_x1_S (vr16 : List api_Fix) (vr : Int) (vr2 : List Int) (vr3 : Int) : Bool → St
  | vx => Mem.st ⟨[], []⟩ (tl [(4, .v (.one (.d (.lst (List.map api_Fix.enc vr16))))), (5, .v (.one (.d (.int .i64 vr)))), (6, .v (.one (.d (.lst (List.map (encI .i64) vr2))))), (64, .v (.one (.d (.bool vx))))]) 0

def fleetkeep2_TracksStayPlain_x1_I (vr16 : List api_Fix) (vr : Int) (vr2 : List Int) (vr3 : Int) : St := Mem.st ⟨[], []⟩ (tl [(4, .v (.one (.d (.lst (List.map api_Fix.enc vr16))))), (5, .v (.one (.d (.int .i64 vr)))), (6, .v (.one (.d (.lst (List.map (encI .i64) vr2))))), (7, .v (.one (.d (.int .i64 vr3))))]) 0

theorem fleetkeep2_TracksStayPlain_x1_ok (vr16 : List api_Fix) (vr : Int) (vr2 : List Int) (vr3 : Int) {r} (hF : fleetkeep2_TracksStayPlain_x1 vr16 vr2 vr3 = some r) : Awp prog 0 154 (cL (cL (cR (cR (cR (cR (cB f4))))))) (Out 0 fleetkeep2_TracksStayPlain_x1_k (fleetkeep2_TracksStayPlain_x1_S vr16 vr vr2 vr3) r) (fleetkeep2_TracksStayPlain_x1_I vr16 vr vr2 vr3) := by
  unfold fleetkeep2_TracksStayPlain_x1 at hF
  refine cE hF (fun h4 hF => ?_) fun h4 hF => ?_
  · refine awp_region ?_
    refine aR 1 ?_
    refine aB h4 ?_
    refine aR 33 ?_
    refine aE ?_
    exact oO hF [] [] rfl
  · refine bE hF fun vr2_1 h5 hF => ?_
    refine cE hF (fun h6 hF => ?_) fun h6 hF => ?_
    · refine awp_region ?_
      refine aR 1 ?_
      refine aB h4 ?_
      refine aR 2 ?_
      refine aC (slices_IsSorted_int_int_ok h5) [] [] [] ?_
      refine aB h6 ?_
      refine aR 29 ?_
      refine aE ?_
      exact oO hF [] [] rfl
    · refine cE hF (fun h7 hF => ?_) fun h7 hF => ?_
      · refine cE hF (fun h8 hF => ?_) fun h8 hF => ?_
        · refine awp_region ?_
          refine aR 1 ?_
          refine aB h4 ?_
          refine aR 2 ?_
          refine aC (slices_IsSorted_int_int_ok h5) [] [] [] ?_
          refine aB h6 ?_
          refine aR 3 ?_
          refine aL api_Fix.enc vr16 ?_
          refine aB h7 ?_
          refine aR 2 ?_
          refine aL (encI .i64) vr2 ?_
          refine aB h8 ?_
          refine aR 20 ?_
          refine aE ?_
          exact oO hF [] [] rfl
        · refine bE hF fun vy h9 hF => ?_
          refine cE hF (fun h10 hF => ?_) fun h10 hF => ?_
          · refine awp_region ?_
            refine aR 1 ?_
            refine aB h4 ?_
            refine aR 2 ?_
            refine aC (slices_IsSorted_int_int_ok h5) [] [] [] ?_
            refine aB h6 ?_
            refine aR 3 ?_
            refine aL api_Fix.enc vr16 ?_
            refine aB h7 ?_
            refine aR 2 ?_
            refine aL (encI .i64) vr2 ?_
            refine aB h8 ?_
            refine aR 2 ?_
            refine aX (x_idx (encI .i64) h9) ?_
            refine aR 1 ?_
            refine aB h10 ?_
            refine aR 15 ?_
            refine aE ?_
            exact oO hF [] [] rfl
          · refine bE hF fun vy1 h11 hF => ?_
            refine awp_region ?_
            refine aR 1 ?_
            refine aB h4 ?_
            refine aR 2 ?_
            refine aC (slices_IsSorted_int_int_ok h5) [] [] [] ?_
            refine aB h6 ?_
            refine aR 3 ?_
            refine aL api_Fix.enc vr16 ?_
            refine aB h7 ?_
            refine aR 2 ?_
            refine aL (encI .i64) vr2 ?_
            refine aB h8 ?_
            refine aR 2 ?_
            refine aX (x_idx (encI .i64) h9) ?_
            refine aR 1 ?_
            refine aB h10 ?_
            refine aR 4 ?_
            refine aL (encI .i64) vr2 ?_
            refine aR 1 ?_
            refine aX (x_idx (encI .i64) h11) ?_
            refine aR 2 ?_
            refine aL api_Fix.enc vr16 ?_
            refine aR 5 ?_
            refine aE ?_
            exact oO hF [] [] rfl
      · refine awp_region ?_
        refine aR 1 ?_
        refine aB h4 ?_
        refine aR 2 ?_
        refine aC (slices_IsSorted_int_int_ok h5) [] [] [] ?_
        refine aB h6 ?_
        refine aR 3 ?_
        refine aL api_Fix.enc vr16 ?_
        refine aB h7 ?_
        refine aR 24 ?_
        refine aE ?_
        exact oO hF [] [] rfl

def fleetkeep2_TracksStayPlain_x2_k : (List api_Fix) → AEx
  | _ => .exit 0

def fleetkeep2_TracksStayPlain_x2_S (vr16 : List api_Fix) (vr : Int) (vr2 : List Int) : (List api_Fix) → St
  | vx4 => Mem.st ⟨[(0, ⟨33, 5, List.map api_Fix.enc vx4⟩)], []⟩ (tl [(4, .v (.one (.d (.lst (List.map api_Fix.enc vr16))))), (5, .v (.one (.d (.int .i64 vr)))), (6, .v (.one (.d (.lst (List.map (encI .i64) vr2))))), (8, .v (.one (.own 0 none)))]) 1

def fleetkeep2_TracksStayPlain_x2_H (vr16 : List api_Fix) (vr : Int) (vr2 : List Int) : (List api_Fix) × Int → St
  | (vx2, vx3) => Mem.st ⟨[(0, ⟨33, 5, List.map api_Fix.enc vx2⟩)], []⟩ (tl [(4, .v (.one (.d (.lst (List.map api_Fix.enc vr16))))), (5, .v (.one (.d (.int .i64 vr)))), (6, .v (.one (.d (.lst (List.map (encI .i64) vr2))))), (8, .v (.one (.own 0 none))), (65, .v (.one (.d (.lst (List.map (encI .i64) vr2))))), (66, .v (.one (.d (.int .i64 (vr2.length : Int))))), (67, .v (.one (.d (.int .i64 vx3))))]) 1

theorem fleetkeep2_TracksStayPlain_x2_ok (vr16 : List api_Fix) (vr : Int) (vr2 : List Int) (s : (List api_Fix) × Int) (r : ((List api_Fix) × Int) ⊕ ((List api_Fix))) (hF : fleetkeep2_TracksStayPlain_x2 vr16 vr2 s = some r) : Awp prog 0 154 (cL (cL (cR (cL (cR (cR (cR (cR (cR (cR (cB f4))))))))))) (Out 0 (kk fleetkeep2_TracksStayPlain_x2_k) (SS (fleetkeep2_TracksStayPlain_x2_H vr16 vr vr2) (fleetkeep2_TracksStayPlain_x2_S vr16 vr vr2)) r) (fleetkeep2_TracksStayPlain_x2_H vr16 vr vr2 s) := by
  obtain ⟨vx2, vx3⟩ := s
  unfold fleetkeep2_TracksStayPlain_x2 at hF
  refine awp_seq ?_
  refine awp_region ?_
  refine aR 1 ?_
  refine aE ?_
  refine awp_seq ?_
  refine cE hF (fun h14 hF => ?_) fun h14 hF => ?_
  · refine awp_true (by kernel_rfl) h14 ?_
    refine awp_skip ?_
    refine awp_seq ?_
    refine awp_block ?_
    refine awp_seq ?_
    refine bE hF fun vy4 h15 hF => ?_
    refine awp_region ?_
    refine aX (x_idx (encI .i64) h15) ?_
    refine aR 2 ?_
    refine aE ?_
    refine bE hF fun vy5 h16 hF => ?_
    refine gE hF fun h17 hF => ?_
    refine awp_region ?_
    refine aR 3 ?_
    refine aX (x_idx api_Fix.enc h16) ?_
    refine aR 2 ?_
    refine aX (x_app api_Fix.enc 0 h17) ?_
    refine aR 1 ?_
    refine aE ?_
    refine awp_region ?_
    refine aR 2 ?_
    refine aE ?_
    exact oO hF [(0, 10001)] [] rfl
  · refine awp_false (by kernel_rfl) h14 ?_
    refine awp_exit ?_
    exact oO hF [] [] rfl

def fleetkeep2_TracksStayPlain_x4_k : Bool → AEx
  | _ => .normal

def fleetkeep2_TracksStayPlain_x4_S (vr16 : List api_Fix) (vr : Int) (vr2 : List Int) (vx4_1 : List api_Fix) (vx5 : Int) (vr5 : Int) : Bool → St
  | vx7 => Mem.st ⟨[(0, ⟨33, 5, List.map api_Fix.enc vx4_1⟩)], []⟩ (tl [(4, .v (.one (.d (.lst (List.map api_Fix.enc vr16))))), (5, .v (.one (.d (.int .i64 vr)))), (6, .v (.one (.d (.lst (List.map (encI .i64) vr2))))), (8, .v (.one (.own 0 none))), (80, .v (.one (.d (.int .i64 (vr16.length : Int))))), (81, .v (.one (.d (.int .i64 vx5)))), (124, .v (.one (.d (.bool vx7))))]) 1

def fleetkeep2_TracksStayPlain_x4_I (vr16 : List api_Fix) (vr : Int) (vr2 : List Int) (vx4_1 : List api_Fix) (vx5 : Int) (vr5 : Int) : St := Mem.st ⟨[(1, ⟨33, 5, List.map api_Fix.enc vx4_1⟩)], [(0, [.d (.int .i64 vx5)])]⟩ (tl [(4, .v (.one (.d (.lst (List.map api_Fix.enc vr16))))), (5, .v (.one (.d (.int .i64 vr)))), (6, .v (.one (.d (.lst (List.map (encI .i64) vr2))))), (8, .v (.one (.own 1 none))), (11, .v (.one (.box 0 0))), (12, .v (.one (.d (.int .i64 vr5)))), (80, .v (.one (.d (.int .i64 (vr16.length : Int))))), (81, .v (.one (.d (.int .i64 vx5))))]) 2

theorem fleetkeep2_TracksStayPlain_x4_ok (vr16 : List api_Fix) (vr : Int) (vr2 : List Int) (vx4_1 : List api_Fix) (vx5 : Int) (vr5 : Int) {r} (hF : fleetkeep2_TracksStayPlain_x4 vr16 vr vr2 vx5 vr5 = some r) : Awp prog 0 154 (cL (cR (cR (cL (cL (cR (cR (cL (cL (cR (cL (cR (cR (cR (cR (cR (cR (cR (cB f4))))))))))))))))))) (Out 0 fleetkeep2_TracksStayPlain_x4_k (fleetkeep2_TracksStayPlain_x4_S vr16 vr vr2 vx4_1 vx5 vr5) r) (fleetkeep2_TracksStayPlain_x4_I vr16 vr vr2 vx4_1 vx5 vr5) := by
  unfold fleetkeep2_TracksStayPlain_x4 at hF
  refine cE hF (fun h21 hF => ?_) fun h21 hF => ?_
  · refine aD ?_
    refine dR 1 ?_
    refine dB h21 ?_
    refine dR 36 ?_
    refine dE ?_
    exact oO hF [(0, 1)] [] rfl
  · refine bE hF fun vy11 h22 hF => ?_
    refine cE hF (fun h23 hF => ?_) fun h23 hF => ?_
    · refine cE hF (fun h24 hF => ?_) fun h24 hF => ?_
      · refine aD ?_
        refine dR 1 ?_
        refine dB h21 ?_
        refine dR 3 ?_
        refine dX (x_idx (encI .i64) h22) ?_
        refine dR 2 ?_
        refine dB h23 ?_
        refine dR 2 ?_
        refine dB h24 ?_
        refine dR 26 ?_
        refine dE ?_
        exact oO hF [(0, 1)] [] rfl
      · refine bE hF fun vy12 h25 hF => ?_
        refine bE hF fun vy13 h26 hF => ?_
        refine bE hF fun vy14 h27 hF => ?_
        refine bE hF fun vy15 h28 hF => ?_
        refine bE hF fun vr6 h29 hF => ?_
        refine aD ?_
        refine dR 1 ?_
        refine dB h21 ?_
        refine dR 3 ?_
        refine dX (x_idx (encI .i64) h22) ?_
        refine dR 2 ?_
        refine dB h23 ?_
        refine dR 2 ?_
        refine dB h24 ?_
        refine dR 5 ?_
        refine dX (x_idx (encI .i64) h25) ?_
        refine dR 1 ?_
        refine dX (x_idx api_Fix.enc h26) ?_
        refine dR 4 ?_
        refine dX (x_idx (encI .i64) h22) ?_
        refine dR 1 ?_
        refine dX (x_idx api_Fix.enc h27) ?_
        refine dR 3 ?_
        refine dX (x_idx api_Fix.enc h28) ?_
        refine dR 2 ?_
        refine dC (fleetkeep2_nearWay_ok h29) [] [] [] ?_
        refine dR 4 ?_
        refine dE ?_
        exact oO hF [(0, 1)] [] rfl
    · refine aD ?_
      refine dR 1 ?_
      refine dB h21 ?_
      refine dR 3 ?_
      refine dX (x_idx (encI .i64) h22) ?_
      refine dR 2 ?_
      refine dB h23 ?_
      refine dR 29 ?_
      refine dE ?_
      exact oO hF [(0, 1)] [] rfl

def fleetkeep2_TracksStayPlain_x3_k : Unit ⊕ Unit → AEx
  | .inl _ => .exit 2
  | .inr _ => .ret

def fleetkeep2_TracksStayPlain_x3_S (vr16 : List api_Fix) (vr : Int) (vr2 : List Int) (vx4_1 : List api_Fix) : Unit ⊕ Unit → St
  | .inl _ => Mem.st ⟨[(0, ⟨33, 5, List.map api_Fix.enc vx4_1⟩)], []⟩ (tl [(4, .v (.one (.d (.lst (List.map api_Fix.enc vr16))))), (8, .v (.one (.own 0 none)))]) 1
  | .inr _ => Mem.st ⟨[], []⟩ (tl [(2, .v (.one (.d (.bool false))))]) 0

def fleetkeep2_TracksStayPlain_x3_H (vr16 : List api_Fix) (vr : Int) (vr2 : List Int) (vx4_1 : List api_Fix) : Int → St
  | vx5 => Mem.st ⟨[(0, ⟨33, 5, List.map api_Fix.enc vx4_1⟩)], []⟩ (tl [(4, .v (.one (.d (.lst (List.map api_Fix.enc vr16))))), (5, .v (.one (.d (.int .i64 vr)))), (6, .v (.one (.d (.lst (List.map (encI .i64) vr2))))), (8, .v (.one (.own 0 none))), (80, .v (.one (.d (.int .i64 (vr16.length : Int))))), (81, .v (.one (.d (.int .i64 vx5))))]) 1

theorem fleetkeep2_TracksStayPlain_x3_ok (vr16 : List api_Fix) (vr : Int) (vr2 : List Int) (vx4_1 : List api_Fix) (vx5 : Int) (r : (Int) ⊕ (Unit ⊕ Unit)) (hF : fleetkeep2_TracksStayPlain_x3 vr16 vr vr2 vx5 = some r) : Awp prog 0 154 (cL (cL (cR (cL (cR (cR (cR (cR (cR (cR (cR (cB f4)))))))))))) (Out 0 (kk fleetkeep2_TracksStayPlain_x3_k) (SS (fleetkeep2_TracksStayPlain_x3_H vr16 vr vr2 vx4_1) (fleetkeep2_TracksStayPlain_x3_S vr16 vr vr2 vx4_1)) r) (fleetkeep2_TracksStayPlain_x3_H vr16 vr vr2 vx4_1 vx5) := by
  unfold fleetkeep2_TracksStayPlain_x3 at hF
  refine awp_seq ?_
  refine awp_region ?_
  refine aR 1 ?_
  refine aE ?_
  refine awp_seq ?_
  refine cE hF (fun h19 hF => ?_) fun h19 hF => ?_
  · refine awp_true (by kernel_rfl) h19 ?_
    refine awp_skip ?_
    refine awp_seq ?_
    refine awp_block ?_
    refine awp_seq ?_
    refine awp_region ?_
    refine aR 3 ?_
    refine aE ?_
    refine awp_seq ?_
    refine bE hF fun vr5 h20 hF => ?_
    refine awp_region ?_
    refine aR 2 ?_
    refine aC (slices_IndexFunc_int_int_f1_fleetkeep2_TracksStayPlain_1_ok h20) [(0, 2001)] [] [] ?_
    refine aR 1 ?_
    refine aE ?_
    refine awp_seq ?_
    refine awp_to (st' := fleetkeep2_TracksStayPlain_x4_I vr16 vr vr2 vx4_1 vx5 vr5) (oT [(0, 2001), (1, 0)] []) ?_
    refine bE hF fun vx7_1 h30 hF => ?_
    refine awp_sub (fleetkeep2_TracksStayPlain_x4_ok vr16 vr vr2 vx4_1 vx5 vr5 h30) ?_
    refine cE hF (fun h31 hF => ?_) fun h31 hF => ?_
    · refine awp_true (by kernel_rfl) h31 ?_
      refine awp_seq ?_
      refine awp_region ?_
      refine aR 1 ?_
      refine aE ?_
      refine awp_ret ?_
      exact oO hF [] [] rfl
    · refine awp_false (by kernel_rfl) h31 ?_
      refine awp_skip ?_
      refine awp_region ?_
      refine aR 2 ?_
      refine aE ?_
      exact oO hF [] [] rfl
  · refine awp_false (by kernel_rfl) h19 ?_
    refine awp_exit ?_
    exact oO hF [] [] rfl

def fleetkeep2_TracksStayPlain_x5_k : Bool → AEx
  | _ => .normal

def fleetkeep2_TracksStayPlain_x5_S (vr16 : List api_Fix) (vr3_1 : Int) (vr4_1 : Int) (vr3_2 : Int) (vr4_2 : Int) : Bool → St
  | vx8 => Mem.st ⟨[], []⟩ (tl [(2, .v (.one (.d (.bool vx8))))]) 0

def fleetkeep2_TracksStayPlain_x5_I (vr16 : List api_Fix) (vr3_1 : Int) (vr4_1 : Int) (vr3_2 : Int) (vr4_2 : Int) : St := Mem.st ⟨[], []⟩ (tl [(4, .v (.one (.d (.lst (List.map api_Fix.enc vr16))))), (13, .v (.one (.d (.int .i64 vr3_1)))), (14, .v (.one (.d (.int .i64 vr4_1)))), (15, .v (.one (.d (.int .i64 vr3_2)))), (16, .v (.one (.d (.int .i64 vr4_2))))]) 0

theorem fleetkeep2_TracksStayPlain_x5_ok (vr16 : List api_Fix) (vr3_1 : Int) (vr4_1 : Int) (vr3_2 : Int) (vr4_2 : Int) {r} (hF : fleetkeep2_TracksStayPlain_x5 vr16 vr3_1 vr4_1 vr3_2 vr4_2 = some r) : Awp prog 0 154 (cL (cR (cR (cR (cR (cR (cR (cR (cR (cR (cR (cB f4)))))))))))) (Out 0 fleetkeep2_TracksStayPlain_x5_k (fleetkeep2_TracksStayPlain_x5_S vr16 vr3_1 vr4_1 vr3_2 vr4_2) r) (fleetkeep2_TracksStayPlain_x5_I vr16 vr3_1 vr4_1 vr3_2 vr4_2) := by
  unfold fleetkeep2_TracksStayPlain_x5 at hF
  refine cE hF (fun h35 hF => ?_) fun h35 hF => ?_
  · refine cE hF (fun h36 hF => ?_) fun h36 hF => ?_
    · refine cE hF (fun h37 hF => ?_) fun h37 hF => ?_
      · refine bE hF fun vr9 h38 hF => ?_
        refine awp_region ?_
        refine aR 1 ?_
        refine aB h35 ?_
        refine aR 2 ?_
        refine aB h36 ?_
        refine aR 5 ?_
        refine aL api_Fix.enc vr16 ?_
        refine aR 2 ?_
        refine aB h37 ?_
        refine aR 2 ?_
        refine aC (fleetkeep2_ready_ok h38) [] [] [] ?_
        refine aR 2 ?_
        refine aE ?_
        exact oO hF [] [] rfl
      · refine awp_region ?_
        refine aR 1 ?_
        refine aB h35 ?_
        refine aR 2 ?_
        refine aB h36 ?_
        refine aR 5 ?_
        refine aL api_Fix.enc vr16 ?_
        refine aR 2 ?_
        refine aB h37 ?_
        refine aR 5 ?_
        refine aE ?_
        exact oO hF [] [] rfl
    · refine awp_region ?_
      refine aR 1 ?_
      refine aB h35 ?_
      refine aR 2 ?_
      refine aB h36 ?_
      refine aR 14 ?_
      refine aE ?_
      exact oO hF [] [] rfl
  · refine awp_region ?_
    refine aR 1 ?_
    refine aB h35 ?_
    refine aR 17 ?_
    refine aE ?_
    exact oO hF [] [] rfl

def fleetkeep2_TracksStayPlain_R (qx : List Int) (r : Bool) : TV × Mem := (.v (.one (.d (.bool r))), ⟨[], []⟩)

theorem fleetkeep2_TracksStayPlain_ok {qx : List Int} {r} (hF : fleetkeep2_TracksStayPlain qx = some r) : Holds prog 4 [.v (.one (.d (.lst (List.map (encI .i64) qx))))] ⟨[], []⟩ (Is (fleetkeep2_TracksStayPlain_R qx r)) := by
  unfold fleetkeep2_TracksStayPlain at hF
  refine holds_of_awp hΓ (fn := f4) (c := cB f4) (A := 0) (nx := 0) (by kernel_rfl) (by kernel_rfl) (by kernel_rfl) (by kernel_rfl) (by kernel_rfl) (by kernel_rfl) (lowc_of (by kernel_rfl)) ?_
  show Awp prog 0 154 (cB f4) _ _
  refine awp_seq ?_
  refine awp_region ?_
  refine aR 1 ?_
  refine aE ?_
  refine awp_seq ?_
  refine awp_region ?_
  refine aR 4 ?_
  refine aE ?_
  refine awp_seq ?_
  refine bE hF fun x h1 hF => ?_
  obtain ⟨vs11, vr16⟩ := x
  refine bE hF fun x h2 hF => ?_
  obtain ⟨vs, vr⟩ := x
  refine awp_region ?_
  refine aR 1 ?_
  refine aC (fleetmake_Stream_RightTrack_ok h1) [(0, 3000)] [] [] ?_
  refine aR 1 ?_
  refine aC (fleetmake_Stream_Range_ok h2) [(0, 3000)] [] [] ?_
  refine aR 2 ?_
  refine aE ?_
  refine awp_to (oT (m := ⟨[], []⟩) (ts := [(4, .v (.one (.d (.lst (List.map api_Fix.enc vr16))))), (5, .v (.one (.d (.int .i64 vr))))]) (nx := 0) [] []) ?_
  refine awp_seq ?_
  refine bE hF fun x h3 hF => ?_
  obtain ⟨vr2, vr3⟩ := x
  refine awp_region ?_
  refine aR 2 ?_
  refine aC (place_Plain_ok h3) [] [] [] ?_
  refine aR 5 ?_
  refine aE ?_
  refine awp_to (oT (m := ⟨[], []⟩) (ts := [(4, .v (.one (.d (.lst (List.map api_Fix.enc vr16))))), (5, .v (.one (.d (.int .i64 vr)))), (6, .v (.one (.d (.lst (List.map (encI .i64) vr2))))), (7, .v (.one (.d (.int .i64 vr3))))]) (nx := 0) [] []) ?_
  refine awp_seq ?_
  refine awp_seq ?_
  refine awp_to (st' := fleetkeep2_TracksStayPlain_x1_I vr16 vr vr2 vr3) (oT [] []) ?_
  refine bE hF fun vx1 h12 hF => ?_
  refine awp_sub (fleetkeep2_TracksStayPlain_x1_ok vr16 vr vr2 vr3 h12) ?_
  refine cE hF (fun h13 hF => ?_) fun h13 hF => ?_
  · refine awp_true (by kernel_rfl) h13 ?_
    refine awp_seq ?_
    refine awp_region ?_
    refine aR 1 ?_
    refine aE ?_
    refine awp_ret ?_
    exact oF hF [] []
  · refine awp_false (by kernel_rfl) h13 ?_
    refine awp_skip ?_
    refine awp_seq ?_
    refine awp_region ?_
    refine aR 1 ?_
    refine aE ?_
    refine awp_seq ?_
    refine awp_seq ?_
    refine awp_region ?_
    refine aR 1 ?_
    refine aL (encI .i64) vr2 ?_
    refine aR 1 ?_
    refine aE ?_
    refine awp_block ?_
    refine awp_to (st' := fleetkeep2_TracksStayPlain_x2_H vr16 vr vr2 ([], 0)) (oT [] [0]) ?_
    refine bE hF fun vx4_1 h18 hF => ?_
    refine awp_sub (awp_loop' (fleetkeep2_TracksStayPlain_x2_H vr16 vr vr2) fleetkeep2_TracksStayPlain_x2_k (fleetkeep2_TracksStayPlain_x2_S vr16 vr vr2) (by intro x; exact fun h => nomatch h) h18 (fleetkeep2_TracksStayPlain_x2_ok vr16 vr vr2)) ?_
    refine awp_seq ?_
    refine awp_seq ?_
    refine awp_region ?_
    refine aR 1 ?_
    refine aL api_Fix.enc vr16 ?_
    refine aR 1 ?_
    refine aE ?_
    refine awp_block ?_
    refine awp_to (st' := fleetkeep2_TracksStayPlain_x3_H vr16 vr vr2 vx4_1 0) (oT [] []) ?_
    refine bE hF fun x h32 hF => ?_
    rcases x with _ | _
    · refine awp_sub (awp_loop' (fleetkeep2_TracksStayPlain_x3_H vr16 vr vr2 vx4_1) fleetkeep2_TracksStayPlain_x3_k (fleetkeep2_TracksStayPlain_x3_S vr16 vr vr2 vx4_1) (by intro x; rcases x with x | x <;> exact fun h => nomatch h) h32 (fleetkeep2_TracksStayPlain_x3_ok vr16 vr vr2 vx4_1)) ?_
      refine awp_seq ?_
      refine bE hF fun x h33 hF => ?_
      obtain ⟨vr3_1, vr4_1⟩ := x
      refine awp_region ?_
      refine aR 1 ?_
      refine aC (place_Length_ok h33) [] [] [] ?_
      refine aR 5 ?_
      refine aE ?_
      refine awp_seq ?_
      refine bE hF fun x h34 hF => ?_
      obtain ⟨vr3_2, vr4_2⟩ := x
      refine awp_region ?_
      refine aR 1 ?_
      refine aC (place_Length_ok h34) [] [] [0] ?_
      refine aR 5 ?_
      refine aE ?_
      refine awp_seq ?_
      refine awp_to (st' := fleetkeep2_TracksStayPlain_x5_I vr16 vr3_1 vr4_1 vr3_2 vr4_2) (oT [] []) ?_
      refine bE hF fun vx8_1 h39 hF => ?_
      refine awp_sub (fleetkeep2_TracksStayPlain_x5_ok vr16 vr3_1 vr4_1 vr3_2 vr4_2 h39) ?_
      refine awp_ret ?_
      exact oF hF [] []
    · refine awp_sub (awp_loop' (fleetkeep2_TracksStayPlain_x3_H vr16 vr vr2 vx4_1) fleetkeep2_TracksStayPlain_x3_k (fleetkeep2_TracksStayPlain_x3_S vr16 vr vr2 vx4_1) (by intro x; rcases x with x | x <;> exact fun h => nomatch h) h32 (fleetkeep2_TracksStayPlain_x3_ok vr16 vr vr2 vx4_1)) ?_
      exact oF hF [] []

end Go.Eng
