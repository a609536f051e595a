/-
The code of the Go functions that the law AgesInSteps reaches does what the plain functions say, part 3.
-/
import Derived.Test.YtigejlfinklddaaGreatDoorGenP2

namespace Go.Eng

open Go Go.Proofs.Tryz

set_option linter.unusedVariables false

set_option maxRecDepth 20000

set_option maxHeartbeats 0

/-! ### slices.Equal[[]byte,byte] -/
def z578 : Unit ⊕ Unit → AEx
  | .inl _ => .exit 0
  | .inr _ => .ret

def z577 (qs1 : List Int) (qs2 : List Int) : Unit ⊕ Unit → St
  | .inl _ => Mem.st ⟨[], []⟩ (tl []) 0
  | .inr _ => Mem.st ⟨[], []⟩ (tl [(4, .v (.one (.d (.bool false))))]) 0

def z576 (qs1 : List Int) (qs2 : List Int) : Int → St
  | vx => Mem.st ⟨[], []⟩ (tl [(0, .v (.one (.d (.lst (List.map (encI .u8) qs1))))), (1, .v (.one (.d (.lst (List.map (encI .u8) qs2))))), (12, .v (.one (.d (.int .i64 (qs1.length : Int))))), (13, .v (.one (.d (.int .i64 vx))))]) 0

theorem z579 (qs1 : List Int) (qs2 : List Int) (vx : Int) (r : (Int) ⊕ (Unit ⊕ Unit)) (hF : z575 qs1 qs2 vx = some r) : Awp prog 0 26 (cL (cL (cR (cL (cR (cR (cB f44))))))) (Out 0 (kk z578) (SS (z576 qs1 qs2) (z577 qs1 qs2)) r) (z576 qs1 qs2 vx) := by
  unfold z575 at hF
  refine awp_seq ?_
  refine awp_region ?_
  refine aR 1 ?_
  refine aE ?_
  refine awp_seq ?_
  refine cE hF (fun h2 hF => ?_) fun h2 hF => ?_
  · refine awp_true (by kernel_rfl) h2 ?_
    refine awp_skip ?_
    refine awp_seq ?_
    refine awp_block ?_
    refine awp_seq ?_
    refine awp_region ?_
    refine aR 2 ?_
    refine aE ?_
    refine awp_seq ?_
    refine bE hF fun vy2 h3 hF => ?_
    refine bE hF fun vy3 h4 hF => ?_
    refine aD ?_
    refine dR 2 ?_
    refine dX (x_idx (encI .u8) h3) ?_
    refine dR 3 ?_
    refine dX (x_idx (encI .u8) h4) ?_
    refine dR 2 ?_
    refine dE ?_
    refine cE hF (fun h5 hF => ?_) fun h5 hF => ?_
    · refine awp_true (by kernel_rfl) h5 ?_
      refine awp_seq ?_
      refine awp_region ?_
      refine aR 1 ?_
      refine aE ?_
      refine awp_ret ?_
      exact oO hF [] [] rfl
    · refine awp_false (by kernel_rfl) h5 ?_
      refine awp_skip ?_
      refine awp_region ?_
      refine aR 2 ?_
      refine aE ?_
      exact oO hF [] [] rfl
  · refine awp_false (by kernel_rfl) h2 ?_
    refine awp_exit ?_
    exact oO hF [] [] rfl

def z573 (qs1 : List Int) (qs2 : List Int) (r : Bool) : TV × Mem := (.v (.one (.d (.bool r))), ⟨[], []⟩)

theorem z574 {qs1 : List Int} {qs2 : List Int} {r} (hF : z572 qs1 qs2 = some r) : Holds prog 44 [.v (.one (.d (.lst (List.map (encI .u8) qs1)))), .v (.one (.d (.lst (List.map (encI .u8) qs2))))] ⟨[], []⟩ (Is (z573 qs1 qs2 r)) := by
  unfold z572 at hF
  refine holds_of_awp hΓ (fn := f44) (c := cB f44) (A := 0) (nx := 0) (by kernel_rfl) (by kernel_rfl) (by kernel_rfl) (by kernel_rfl) (by kernel_rfl) (by kernel_rfl) (lowc_of (by kernel_rfl)) ?_
  show Awp prog 0 26 (cB f44) _ _
  refine awp_seq ?_
  refine awp_region ?_
  refine aR 1 ?_
  refine aE ?_
  refine awp_seq ?_
  refine awp_seq ?_
  refine awp_region ?_
  refine aR 1 ?_
  refine aL (encI .u8) qs1 ?_
  refine aR 1 ?_
  refine aL (encI .u8) qs2 ?_
  refine aR 1 ?_
  refine aE ?_
  refine cE hF (fun h1 hF => ?_) fun h1 hF => ?_
  · refine awp_true (by kernel_rfl) h1 ?_
    refine awp_seq ?_
    refine awp_region ?_
    refine aR 1 ?_
    refine aE ?_
    refine awp_ret ?_
    exact oF hF [] []
  · refine awp_false (by kernel_rfl) h1 ?_
    refine awp_skip ?_
    refine awp_seq ?_
    refine awp_seq ?_
    refine awp_region ?_
    refine aR 1 ?_
    refine aL (encI .u8) qs1 ?_
    refine aR 1 ?_
    refine aE ?_
    refine awp_block ?_
    refine awp_to (st' := z576 qs1 qs2 0) (oT [] []) ?_
    refine bE hF fun x h6 hF => ?_
    rcases x with _ | _
    · refine awp_sub (awp_loop' (z576 qs1 qs2) z578 (z577 qs1 qs2) (by intro x; rcases x with x | x <;> exact fun h => nomatch h) h6 (z579 qs1 qs2)) ?_
      refine awp_seq ?_
      refine awp_region ?_
      refine aR 1 ?_
      refine aE ?_
      refine awp_ret ?_
      exact oF hF [] []
    · refine awp_sub (awp_loop' (z576 qs1 qs2) z578 (z577 qs1 qs2) (by intro x; rcases x with x | x <;> exact fun h => nomatch h) h6 (z579 qs1 qs2)) ?_
      exact oF hF [] []

/-! ### beaconfleet/fleetkeep2.ready -/
def z386 : Bool → AEx
  | _ => .normal

def z385 (vr5 : List api_Change) (vr6 : Int) (vr : List Int) (vr2 : Int) (vr2_1 : api_Version) (vr4 : Int) (vr1 : List UInt8) (vr3 : Int) (vr2_2 : List api_Letter) (vr4_1 : Int) : Bool → St
  | vx => Mem.st ⟨[], []⟩ (tl [(0, .v (.one (.d (.bool vx))))]) 0

def z384 (vr5 : List api_Change) (vr6 : Int) (vr : List Int) (vr2 : Int) (vr2_1 : api_Version) (vr4 : Int) (vr1 : List UInt8) (vr3 : Int) (vr2_2 : List api_Letter) (vr4_1 : Int) : St := Mem.st ⟨[], [(0, [.d (.int .i64 vr2_1.Major), .d (.int .i64 vr2_1.Minor), .d (.int .i64 vr2_1.Patch)])]⟩ (tl [(1, .v (.one (.d (.lst (List.map api_Change.enc vr5))))), (2, .v (.one (.d (.int .i64 vr6)))), (3, .v (.one (.d (.lst (List.map (encI .u8) vr))))), (4, .v (.one (.d (.int .i64 vr2)))), (5, .v (.one (.box 0 0))), (6, .v (.one (.d (.int .i64 vr4)))), (7, .v (.one (.d (.str vr1)))), (8, .v (.one (.d (.int .i64 vr3)))), (9, .v (.one (.d (.lst (List.map api_Letter.enc vr2_2))))), (10, .v (.one (.d (.int .i64 vr4_1))))]) 1

theorem z387 (vr5 : List api_Change) (vr6 : Int) (vr : List Int) (vr2 : Int) (vr2_1 : api_Version) (vr4 : Int) (vr1 : List UInt8) (vr3 : Int) (vr2_2 : List api_Letter) (vr4_1 : Int) {r} (hF : z383 vr5 vr6 vr vr2 vr2_1 vr4 vr1 vr3 vr2_2 vr4_1 = some r) : Awp prog 0 71 (cL (cR (cR (cR (cR (cR (cR (cB f14)))))))) (Out 0 z386 (z385 vr5 vr6 vr vr2 vr2_1 vr4 vr1 vr3 vr2_2 vr4_1) r) (z384 vr5 vr6 vr vr2 vr2_1 vr4 vr1 vr3 vr2_2 vr4_1) := by
  unfold z383 at hF
  refine bE hF fun vr7 h6 hF => ?_
  refine cE hF (fun h7 hF => ?_) fun h7 hF => ?_
  · refine cE hF (fun h8 hF => ?_) fun h8 hF => ?_
    · refine bE hF fun vr8 h9 hF => ?_
      refine cE hF (fun h10 hF => ?_) fun h10 hF => ?_
      · refine cE hF (fun h11 hF => ?_) fun h11 hF => ?_
        · refine cE hF (fun h12 hF => ?_) fun h12 hF => ?_
          · refine awp_region ?_
            refine aR 6 ?_
            refine aC (z374 h6) [] [] [5001] ?_
            refine aB h7 ?_
            refine aR 2 ?_
            refine aL api_Change.enc vr5 ?_
            refine aB h8 ?_
            refine aR 4 ?_
            refine aCb (z574 h9) [] [] [15001] h10 ?_
            refine aR 4 ?_
            refine aB h11 ?_
            refine aR 3 ?_
            refine aB h12 ?_
            refine aR 3 ?_
            refine aL api_Letter.enc vr2_2 ?_
            refine aR 3 ?_
            refine aE ?_
            exact oO hF [] [] rfl
          · refine awp_region ?_
            refine aR 6 ?_
            refine aC (z374 h6) [] [] [5001] ?_
            refine aB h7 ?_
            refine aR 2 ?_
            refine aL api_Change.enc vr5 ?_
            refine aB h8 ?_
            refine aR 4 ?_
            refine aCb (z574 h9) [] [] [15001] h10 ?_
            refine aR 4 ?_
            refine aB h11 ?_
            refine aR 3 ?_
            refine aB h12 ?_
            refine aR 7 ?_
            refine aE ?_
            exact oO hF [] [] rfl
        · refine awp_region ?_
          refine aR 6 ?_
          refine aC (z374 h6) [] [] [5001] ?_
          refine aB h7 ?_
          refine aR 2 ?_
          refine aL api_Change.enc vr5 ?_
          refine aB h8 ?_
          refine aR 4 ?_
          refine aCb (z574 h9) [] [] [15001] h10 ?_
          refine aR 4 ?_
          refine aB h11 ?_
          refine aR 11 ?_
          refine aE ?_
          exact oO hF [] [] rfl
      · refine awp_region ?_
        refine aR 6 ?_
        refine aC (z374 h6) [] [] [5001] ?_
        refine aB h7 ?_
        refine aR 2 ?_
        refine aL api_Change.enc vr5 ?_
        refine aB h8 ?_
        refine aR 4 ?_
        refine aCb (z574 h9) [] [] [15001] h10 ?_
        refine aR 16 ?_
        refine aE ?_
        exact oO hF [] [] rfl
    · refine awp_region ?_
      refine aR 6 ?_
      refine aC (z374 h6) [] [] [5001] ?_
      refine aB h7 ?_
      refine aR 2 ?_
      refine aL api_Change.enc vr5 ?_
      refine aB h8 ?_
      refine aR 21 ?_
      refine aE ?_
      exact oO hF [] [] rfl
  · refine awp_region ?_
    refine aR 6 ?_
    refine aC (z374 h6) [] [] [5001] ?_
    refine aB h7 ?_
    refine aR 25 ?_
    refine aE ?_
    exact oO hF [] [] rfl

def z381 (r : Bool) : TV × Mem := (.v (.one (.d (.bool r))), ⟨[], []⟩)

theorem z382 {r} (hF : z380 = some r) : Holds prog 14 [] ⟨[], []⟩ (Is (z381  r)) := by
  unfold z380 at hF
  refine holds_of_awp hΓ (fn := f14) (c := cB f14) (A := 0) (nx := 0) (by kernel_rfl) (by kernel_rfl) (by kernel_rfl) (by kernel_rfl) (by kernel_rfl) (by kernel_rfl) (lowc_of (by kernel_rfl)) ?_
  show Awp prog 0 71 (cB f14) _ _
  refine awp_seq ?_
  refine awp_region ?_
  refine aR 1 ?_
  refine aE ?_
  refine awp_seq ?_
  refine bE hF fun x h1 hF => ?_
  obtain ⟨vr5, vr6⟩ := x
  refine awp_region ?_
  refine aR 3 ?_
  refine aC (z1015 h1) [(0, 3000)] [] [] ?_
  refine aR 5 ?_
  refine aE ?_
  refine awp_to (oT (m := ⟨[], []⟩) (ts := [(1, .v (.one (.d (.lst (List.map api_Change.enc vr5))))), (2, .v (.one (.d (.int .i64 vr6))))]) (nx := 0) [] []) ?_
  refine awp_seq ?_
  refine bE hF fun x h2 hF => ?_
  obtain ⟨vr, vr2⟩ := x
  refine awp_region ?_
  refine aR 2 ?_
  refine aC (z472 h2) [(0, 1000)] [] [] ?_
  refine aR 5 ?_
  refine aE ?_
  refine awp_to (oT (m := ⟨[], []⟩) (ts := [(1, .v (.one (.d (.lst (List.map api_Change.enc vr5))))), (2, .v (.one (.d (.int .i64 vr6)))), (3, .v (.one (.d (.lst (List.map (encI .u8) vr))))), (4, .v (.one (.d (.int .i64 vr2))))]) (nx := 0) [] []) ?_
  refine awp_seq ?_
  refine bE hF fun x h3 hF => ?_
  obtain ⟨vr2_1, vr4⟩ := x
  refine awp_region ?_
  refine aC (z126 h3) [] [] [] ?_
  refine aR 6 ?_
  refine aE ?_
  refine awp_seq ?_
  refine bE hF fun x h4 hF => ?_
  obtain ⟨vr1, vr3⟩ := x
  refine awp_region ?_
  refine aR 1 ?_
  refine aC (z417 h4) [] [] [] ?_
  refine aR 5 ?_
  refine aE ?_
  refine awp_seq ?_
  refine bE hF fun x h5 hF => ?_
  obtain ⟨vr2_2, vr4_1⟩ := x
  refine awp_region ?_
  refine aR 2 ?_
  refine aC (z281 h5) [(0, 15000)] [] [] ?_
  refine aR 5 ?_
  refine aE ?_
  refine awp_to (oT (m := ⟨[], [(0, [.d (.int .i64 vr2_1.Major), .d (.int .i64 vr2_1.Minor), .d (.int .i64 vr2_1.Patch)])]⟩) (ts := [(1, .v (.one (.d (.lst (List.map api_Change.enc vr5))))), (2, .v (.one (.d (.int .i64 vr6)))), (3, .v (.one (.d (.lst (List.map (encI .u8) vr))))), (4, .v (.one (.d (.int .i64 vr2)))), (5, .v (.one (.box 0 0))), (6, .v (.one (.d (.int .i64 vr4)))), (7, .v (.one (.d (.str vr1)))), (8, .v (.one (.d (.int .i64 vr3)))), (9, .v (.one (.d (.lst (List.map api_Letter.enc vr2_2))))), (10, .v (.one (.d (.int .i64 vr4_1))))]) (nx := 1) [(0, 4000)] []) ?_
  refine awp_seq ?_
  refine awp_to (st' := z384 vr5 vr6 vr vr2 vr2_1 vr4 vr1 vr3 vr2_2 vr4_1) (oT [] []) ?_
  refine bE hF fun vx1 h13 hF => ?_
  refine awp_sub (z387 vr5 vr6 vr vr2 vr2_1 vr4 vr1 vr3 vr2_2 vr4_1 h13) ?_
  refine awp_ret ?_
  exact oF hF [] []

/-! ### beaconfleet/fleetkeep2.AgesInSteps -/
def z330 : Unit → AEx
  | _ => .normal

def z329 (qx : List Int) (vr : Int) : Unit → St
  | _ => Mem.st ⟨[], [(0, [.d (.lst (List.map (encI .i64) qx)), .d (.int .i64 (IntKind.wrap .i64 ((IntKind.wrap .i64 ((IntKind.wrap .i64 ((IntKind.wrap .i64 (0 + 1)) + 1)) + 1)) + 1)))])]⟩ (tl [(3, .v (.one (.box 0 0))), (5, .v (.one (.nilp))), (7, .v (.one (.nilp))), (49, .v (.one (.d (.bool true))))]) 1

def z328 (qx : List Int) (vr : Int) : St := Mem.st ⟨[], [(0, [.d (.lst (List.map (encI .i64) qx)), .d (.int .i64 (IntKind.wrap .i64 ((IntKind.wrap .i64 ((IntKind.wrap .i64 ((IntKind.wrap .i64 (0 + 1)) + 1)) + 1)) + 1)))])]⟩ (tl [(3, .v (.one (.box 0 0))), (5, .v (.one (.nilp))), (6, .v (.one (.d (.int .i64 vr)))), (7, .v (.one (.nilp))), (8, .v (.one (.d (.int .i64 vr))))]) 1

theorem z331 (qx : List Int) (vr : Int) {r} (hF : z302 vr = some r) : Awp prog 0 153 (cL (cL (cR (cR (cR (cR (cR (cB f4)))))))) (Out 0 z330 (z329 qx vr) r) (z328 qx vr) := by
  unfold z302 at hF
  refine cE hF (fun h3 hF => ?_) fun h3 hF => ?_
  · refine awp_region ?_
    refine aR 1 ?_
    refine aB h3 ?_
    refine aR 12 ?_
    refine aE ?_
    exact oO hF [] [] rfl
  · refine awp_region ?_
    refine aR 1 ?_
    refine aB h3 ?_
    refine aR 2 ?_
    refine aB h3 ?_
    refine aR 9 ?_
    refine aE ?_
    exact oO hF [] [] rfl

def z335 : Bool → AEx
  | _ => .normal

def z334 (qx : List Int) (vr4 : api_Post) : Bool → St
  | vx => Mem.st ⟨[], [(0, [.d (.lst (List.map (encI .i64) qx)), .d (.int .i64 (IntKind.wrap .i64 ((IntKind.wrap .i64 ((IntKind.wrap .i64 ((IntKind.wrap .i64 (0 + 1)) + 1)) + 1)) + 1)))]), (1, [.d (.int .i64 vr4.Room), .d (.int .i64 vr4.Timeout), .d (.int .i64 vr4.Tries), .d (.int .i64 vr4.Kept), .mapp 2, .d (.int .i64 0)]), (2, [.mapc .str true (List.map (encM D.str api_Note.enc) ([] : List (List UInt8 × api_Note)))]), (3, [.d (.int .i64 vr4.Room), .d (.int .i64 vr4.Timeout), .d (.int .i64 vr4.Tries), .d (.int .i64 vr4.Kept), .mapp 4, .d (.int .i64 0)]), (4, [.mapc .str true (List.map (encM D.str api_Note.enc) ([] : List (List UInt8 × api_Note)))])]⟩ (tl [(3, .v (.one (.box 0 0))), (5, .v (.one (.box 1 0))), (7, .v (.one (.box 3 0))), (49, .v (.one (.d (.bool vx))))]) 5

def z333 (qx : List Int) (vr4 : api_Post) : St := Mem.st ⟨[], [(0, [.d (.lst (List.map (encI .i64) qx)), .d (.int .i64 (IntKind.wrap .i64 ((IntKind.wrap .i64 ((IntKind.wrap .i64 ((IntKind.wrap .i64 (0 + 1)) + 1)) + 1)) + 1)))]), (1, [.d (.int .i64 vr4.Room), .d (.int .i64 vr4.Timeout), .d (.int .i64 vr4.Tries), .d (.int .i64 vr4.Kept), .mapp 2, .d (.int .i64 0)]), (2, [.mapc .str true (List.map (encM D.str api_Note.enc) ([] : List (List UInt8 × api_Note)))]), (3, [.d (.int .i64 vr4.Room), .d (.int .i64 vr4.Timeout), .d (.int .i64 vr4.Tries), .d (.int .i64 vr4.Kept), .mapp 4, .d (.int .i64 0)]), (4, [.mapc .str true (List.map (encM D.str api_Note.enc) ([] : List (List UInt8 × api_Note)))])]⟩ (tl [(3, .v (.one (.box 0 0))), (5, .v (.one (.box 1 0))), (6, .v (.one (.d (.int .i64 0)))), (7, .v (.one (.box 3 0))), (8, .v (.one (.d (.int .i64 0))))]) 5

theorem z336 (qx : List Int) (vr4 : api_Post) {r} (hF : z332  = some r) : Awp prog 0 153 (cL (cL (cR (cR (cR (cR (cR (cB f4)))))))) (Out 0 z335 (z334 qx vr4) r) (z333 qx vr4) := by
  unfold z332 at hF
  refine cE hF (fun h5 hF => ?_) fun h5 hF => ?_
  · refine awp_region ?_
    refine aR 1 ?_
    refine aB h5 ?_
    refine aR 12 ?_
    refine aE ?_
    exact oO hF [] [] rfl
  · refine awp_region ?_
    refine aR 1 ?_
    refine aB h5 ?_
    refine aR 2 ?_
    refine aB h5 ?_
    refine aR 9 ?_
    refine aE ?_
    exact oO hF [] [] rfl

def z345 : ((List (List UInt8 × api_Note)) × Int × (List (List UInt8 × api_Note)) × Int × Bool) → AEx
  | _ => .normal

def z344 (vr4 : api_Post) (vr1 : Int) (vm : List (List UInt8 × api_Note)) (vx3 : Int) (vm1 : List (List UInt8 × api_Note)) (vx4 : Int) (vx5 : Int) (vx6 : Int) (vr5_1 : api_Letter) (vs2 : z396) (vr8 : Int) : ((List (List UInt8 × api_Note)) × Int × (List (List UInt8 × api_Note)) × Int × Bool) → St
  | (vm13, vx31, vm14, vx32, vx33) => Mem.st ⟨[], [(0, [.d (.lst (List.map (encI .i64) vs2.L)), .d (.int .i64 vs2.at_)]), (1, [.d (.int .i64 vr4.Room), .d (.int .i64 vr4.Timeout), .d (.int .i64 vr4.Tries), .d (.int .i64 vr4.Kept), .mapp 2, .d (.int .i64 vx31)]), (2, [.mapc .str true (List.map (encM D.str api_Note.enc) vm13)]), (3, [.d (.int .i64 vr4.Room), .d (.int .i64 vr4.Timeout), .d (.int .i64 vr4.Tries), .d (.int .i64 vr4.Kept), .mapp 4, .d (.int .i64 vx32)]), (4, [.mapc .str true (List.map (encM D.str api_Note.enc) vm14)])]⟩ (tl [(3, .v (.one (.box 0 0))), (5, .v (.one (.box 1 0))), (7, .v (.one (.box 3 0))), (9, .v (.one (.d (.int .i64 vx5)))), (11, .v (.one (.d (.int .i64 vr8)))), (51, .v (.one (.d (.int .i64 vr1)))), (52, .v (.one (.d (.int .i64 vx6)))), (65, .v (.one (.d (.bool vx33))))]) 5

def z343 (vr4 : api_Post) (vr1 : Int) (vm : List (List UInt8 × api_Note)) (vx3 : Int) (vm1 : List (List UInt8 × api_Note)) (vx4 : Int) (vx5 : Int) (vx6 : Int) (vr5_1 : api_Letter) (vs2 : z396) (vr8 : Int) : St := Mem.st ⟨[], [(0, [.d (.lst (List.map (encI .i64) vs2.L)), .d (.int .i64 vs2.at_)]), (1, [.d (.int .i64 vr4.Room), .d (.int .i64 vr4.Timeout), .d (.int .i64 vr4.Tries), .d (.int .i64 vr4.Kept), .mapp 2, .d (.int .i64 vx3)]), (2, [.mapc .str true (List.map (encM D.str api_Note.enc) vm)]), (3, [.d (.int .i64 vr4.Room), .d (.int .i64 vr4.Timeout), .d (.int .i64 vr4.Tries), .d (.int .i64 vr4.Kept), .mapp 4, .d (.int .i64 vx4)]), (4, [.mapc .str true (List.map (encM D.str api_Note.enc) vm1)]), (5, [.d (.str vr5_1.Id), .d (.str vr5_1.Slot), .d (.str vr5_1.Body), .d (.int .i64 vr5_1.Prio), .d (.int .i64 vr5_1.At), .d (.int .i64 vr5_1.Until)])]⟩ (tl [(3, .v (.one (.box 0 0))), (5, .v (.one (.box 1 0))), (7, .v (.one (.box 3 0))), (9, .v (.one (.d (.int .i64 vx5)))), (10, .v (.one (.box 5 0))), (11, .v (.one (.d (.int .i64 vr8)))), (51, .v (.one (.d (.int .i64 vr1)))), (52, .v (.one (.d (.int .i64 vx6))))]) 6

theorem z346 (vr4 : api_Post) (vr1 : Int) (vm : List (List UInt8 × api_Note)) (vx3 : Int) (vm1 : List (List UInt8 × api_Note)) (vx4 : Int) (vx5 : Int) (vx6 : Int) (vr5_1 : api_Letter) (vs2 : z396) (vr8 : Int) {r} (hF : z342 vr4 vm vx3 vm1 vx4 vr5_1 = some r) : Awp prog 0 153 (cL (cL (cR (cL (cL (cR (cR (cL (cL (cR (cL (cR (cR (cR (cR (cR (cR (cR (cB f4))))))))))))))))))) (Out 0 z345 (z344 vr4 vr1 vm vx3 vm1 vx4 vx5 vx6 vr5_1 vs2 vr8) r) (z343 vr4 vr1 vm vx3 vm1 vx4 vx5 vx6 vr5_1 vs2 vr8) := by
  unfold z342 at hF
  refine bE hF fun x h12 hF => ?_
  rcases x with vr4_8 | vm2_6
  · refine bE hF fun x h13 hF => ?_
    rcases x with vr4_9 | vm2_5
    · refine aD ?_
      refine dR 2 ?_
      refine dC (z209 h12) [(0, 1), (1, 2)] [] [] ?_
      refine dR 2 ?_
      refine dC (z209 h13) [(0, 3), (1, 4)] [] [] ?_
      refine dR 1 ?_
      refine dE ?_
      exact oO hF [] [] rfl
    · refine aD ?_
      refine dR 2 ?_
      refine dC (z209 h12) [(0, 1), (1, 2)] [] [] ?_
      refine dR 2 ?_
      refine dC (z209 h13) [(0, 3), (1, 4)] [] [] ?_
      refine dR 1 ?_
      refine dE ?_
      exact oO hF [(4, 5008)] [] rfl
  · refine bE hF fun x h14 hF => ?_
    rcases x with vr4_10 | vm2_7
    · refine aD ?_
      refine dR 2 ?_
      refine dC (z209 h12) [(0, 1), (1, 2)] [] [] ?_
      refine dR 2 ?_
      refine dC (z209 h14) [(0, 3), (1, 4)] [] [] ?_
      refine dR 1 ?_
      refine dE ?_
      exact oO hF [(2, 2008)] [] rfl
    · refine aD ?_
      refine dR 2 ?_
      refine dC (z209 h12) [(0, 1), (1, 2)] [] [] ?_
      refine dR 2 ?_
      refine dC (z209 h14) [(0, 3), (1, 4)] [] [] ?_
      refine dR 1 ?_
      refine dE ?_
      exact oO hF [(2, 2008), (4, 5008)] [] rfl

def z350 : ((List (List UInt8 × api_Note)) × Int × (List api_Letter) × Int) → AEx
  | _ => .normal

def z349 (vr4 : api_Post) (vr1 : Int) (vx5 : Int) (vx6 : Int) (vs2 : z396) (vr8 : Int) (vm13_1 : List (List UInt8 × api_Note)) (vx31_1 : Int) (vm14_1 : List (List UInt8 × api_Note)) (vx32_1 : Int) : ((List (List UInt8 × api_Note)) × Int × (List api_Letter) × Int) → St
  | (vm15, vx34, vx35, vx36) => Mem.st ⟨[], [(0, [.d (.lst (List.map (encI .i64) vs2.L)), .d (.int .i64 vs2.at_)]), (1, [.d (.int .i64 vr4.Room), .d (.int .i64 vr4.Timeout), .d (.int .i64 vr4.Tries), .d (.int .i64 vr4.Kept), .mapp 2, .d (.int .i64 vx34)]), (2, [.mapc .str true (List.map (encM D.str api_Note.enc) vm15)]), (3, [.d (.int .i64 vr4.Room), .d (.int .i64 vr4.Timeout), .d (.int .i64 vr4.Tries), .d (.int .i64 vr4.Kept), .mapp 4, .d (.int .i64 vx32_1)]), (4, [.mapc .str true (List.map (encM D.str api_Note.enc) vm14_1)])]⟩ (tl [(3, .v (.one (.box 0 0))), (5, .v (.one (.box 1 0))), (7, .v (.one (.box 3 0))), (9, .v (.one (.d (.int .i64 vx5)))), (11, .v (.one (.d (.int .i64 vr8)))), (12, .v (.one (.d (.lst (List.map api_Letter.enc vx35))))), (13, .v (.one (.d (.int .i64 vx36)))), (51, .v (.one (.d (.int .i64 vr1)))), (52, .v (.one (.d (.int .i64 vx6))))]) 5

def z348 (vr4 : api_Post) (vr1 : Int) (vx5 : Int) (vx6 : Int) (vs2 : z396) (vr8 : Int) (vm13_1 : List (List UInt8 × api_Note)) (vx31_1 : Int) (vm14_1 : List (List UInt8 × api_Note)) (vx32_1 : Int) : St := Mem.st ⟨[], [(0, [.d (.lst (List.map (encI .i64) vs2.L)), .d (.int .i64 vs2.at_)]), (1, [.d (.int .i64 vr4.Room), .d (.int .i64 vr4.Timeout), .d (.int .i64 vr4.Tries), .d (.int .i64 vr4.Kept), .mapp 2, .d (.int .i64 vx31_1)]), (2, [.mapc .str true (List.map (encM D.str api_Note.enc) vm13_1)]), (3, [.d (.int .i64 vr4.Room), .d (.int .i64 vr4.Timeout), .d (.int .i64 vr4.Tries), .d (.int .i64 vr4.Kept), .mapp 4, .d (.int .i64 vx32_1)]), (4, [.mapc .str true (List.map (encM D.str api_Note.enc) vm14_1)])]⟩ (tl [(3, .v (.one (.box 0 0))), (5, .v (.one (.box 1 0))), (7, .v (.one (.box 3 0))), (9, .v (.one (.d (.int .i64 vx5)))), (11, .v (.one (.d (.int .i64 vr8)))), (51, .v (.one (.d (.int .i64 vr1)))), (52, .v (.one (.d (.int .i64 vx6))))]) 5

theorem z351 (vr4 : api_Post) (vr1 : Int) (vx5 : Int) (vx6 : Int) (vs2 : z396) (vr8 : Int) (vm13_1 : List (List UInt8 × api_Note)) (vx31_1 : Int) (vm14_1 : List (List UInt8 × api_Note)) (vx32_1 : Int) {r} (hF : z347 vr4 vx5 vr8 vm13_1 vx31_1 = some r) : Awp prog 0 153 (cL (cR (cR (cL (cL (cR (cR (cL (cL (cR (cL (cR (cR (cR (cR (cR (cR (cR (cB f4))))))))))))))))))) (Out 0 z350 (z349 vr4 vr1 vx5 vx6 vs2 vr8 vm13_1 vx31_1 vm14_1 vx32_1) r) (z348 vr4 vr1 vx5 vx6 vs2 vr8 vm13_1 vx31_1 vm14_1 vx32_1) := by
  unfold z347 at hF
  refine bE hF fun x h17 hF => ?_
  rcases x with vr3_4 | ⟨vm2_8, vr4_11⟩
  · refine awp_region ?_
    refine aR 3 ?_
    refine aC (z185 h17) [(0, 1), (1, 2)] [] [] ?_
    refine aR 5 ?_
    refine aE ?_
    exact oO hF [] [] rfl
  · refine awp_region ?_
    refine aR 3 ?_
    refine aC (z185 h17) [(0, 1), (1, 2)] [] [] ?_
    refine aR 5 ?_
    refine aE ?_
    exact oO hF [(2, 3007)] [] rfl

def z355 : ((List (List UInt8 × api_Note)) × Int × (List api_Letter) × Int) → AEx
  | _ => .normal

def z354 (vr4 : api_Post) (vr1 : Int) (vx5 : Int) (vx6 : Int) (vs2 : z396) (vr8 : Int) (vm14_1 : List (List UInt8 × api_Note)) (vx32_1 : Int) (vm15_1 : List (List UInt8 × api_Note)) (vx34_1 : Int) (vx35_1 : List api_Letter) (vx36_1 : Int) : ((List (List UInt8 × api_Note)) × Int × (List api_Letter) × Int) → St
  | (vm16, vx37, vx38, vx39) => Mem.st ⟨[], [(0, [.d (.lst (List.map (encI .i64) vs2.L)), .d (.int .i64 vs2.at_)]), (1, [.d (.int .i64 vr4.Room), .d (.int .i64 vr4.Timeout), .d (.int .i64 vr4.Tries), .d (.int .i64 vr4.Kept), .mapp 2, .d (.int .i64 vx34_1)]), (2, [.mapc .str true (List.map (encM D.str api_Note.enc) vm15_1)]), (3, [.d (.int .i64 vr4.Room), .d (.int .i64 vr4.Timeout), .d (.int .i64 vr4.Tries), .d (.int .i64 vr4.Kept), .mapp 4, .d (.int .i64 vx37)]), (4, [.mapc .str true (List.map (encM D.str api_Note.enc) vm16)])]⟩ (tl [(3, .v (.one (.box 0 0))), (5, .v (.one (.box 1 0))), (7, .v (.one (.box 3 0))), (9, .v (.one (.d (.int .i64 vx5)))), (12, .v (.one (.d (.lst (List.map api_Letter.enc vx35_1))))), (13, .v (.one (.d (.int .i64 vx36_1)))), (14, .v (.one (.d (.lst (List.map api_Letter.enc vx38))))), (15, .v (.one (.d (.int .i64 vx39)))), (51, .v (.one (.d (.int .i64 vr1)))), (52, .v (.one (.d (.int .i64 vx6))))]) 5

def z353 (vr4 : api_Post) (vr1 : Int) (vx5 : Int) (vx6 : Int) (vs2 : z396) (vr8 : Int) (vm14_1 : List (List UInt8 × api_Note)) (vx32_1 : Int) (vm15_1 : List (List UInt8 × api_Note)) (vx34_1 : Int) (vx35_1 : List api_Letter) (vx36_1 : Int) : St := Mem.st ⟨[], [(0, [.d (.lst (List.map (encI .i64) vs2.L)), .d (.int .i64 vs2.at_)]), (1, [.d (.int .i64 vr4.Room), .d (.int .i64 vr4.Timeout), .d (.int .i64 vr4.Tries), .d (.int .i64 vr4.Kept), .mapp 2, .d (.int .i64 vx34_1)]), (2, [.mapc .str true (List.map (encM D.str api_Note.enc) vm15_1)]), (3, [.d (.int .i64 vr4.Room), .d (.int .i64 vr4.Timeout), .d (.int .i64 vr4.Tries), .d (.int .i64 vr4.Kept), .mapp 4, .d (.int .i64 vx32_1)]), (4, [.mapc .str true (List.map (encM D.str api_Note.enc) vm14_1)])]⟩ (tl [(3, .v (.one (.box 0 0))), (5, .v (.one (.box 1 0))), (7, .v (.one (.box 3 0))), (9, .v (.one (.d (.int .i64 vx5)))), (11, .v (.one (.d (.int .i64 vr8)))), (12, .v (.one (.d (.lst (List.map api_Letter.enc vx35_1))))), (13, .v (.one (.d (.int .i64 vx36_1)))), (51, .v (.one (.d (.int .i64 vr1)))), (52, .v (.one (.d (.int .i64 vx6))))]) 5

theorem z356 (vr4 : api_Post) (vr1 : Int) (vx5 : Int) (vx6 : Int) (vs2 : z396) (vr8 : Int) (vm14_1 : List (List UInt8 × api_Note)) (vx32_1 : Int) (vm15_1 : List (List UInt8 × api_Note)) (vx34_1 : Int) (vx35_1 : List api_Letter) (vx36_1 : Int) {r} (hF : z352 vr4 vx5 vr8 vm14_1 vx32_1 = some r) : Awp prog 0 153 (cL (cR (cR (cR (cL (cL (cR (cR (cL (cL (cR (cL (cR (cR (cR (cR (cR (cR (cR (cB f4)))))))))))))))))))) (Out 0 z355 (z354 vr4 vr1 vx5 vx6 vs2 vr8 vm14_1 vx32_1 vm15_1 vx34_1 vx35_1 vx36_1) r) (z353 vr4 vr1 vx5 vx6 vs2 vr8 vm14_1 vx32_1 vm15_1 vx34_1 vx35_1 vx36_1) := by
  unfold z352 at hF
  refine bE hF fun x h19 hF => ?_
  rcases x with vr3_5 | ⟨vm2_9, vr4_12⟩
  · refine awp_region ?_
    refine aR 3 ?_
    refine aC (z185 h19) [(0, 3), (1, 4)] [] [] ?_
    refine aR 5 ?_
    refine aE ?_
    exact oO hF [] [] rfl
  · refine awp_region ?_
    refine aR 3 ?_
    refine aC (z185 h19) [(0, 3), (1, 4)] [] [] ?_
    refine aR 5 ?_
    refine aE ?_
    exact oO hF [(4, 3007)] [] rfl

def z360 : Bool → AEx
  | _ => .normal

def z359 (vr4 : api_Post) (vr1 : Int) (vx5 : Int) (vx6 : Int) (vs2 : z396) (vm15_1 : List (List UInt8 × api_Note)) (vx34_1 : Int) (vx35_1 : List api_Letter) (vx36_1 : Int) (vm16_1 : List (List UInt8 × api_Note)) (vx37_1 : Int) (vx38_1 : List api_Letter) (vx39_1 : Int) : Bool → St
  | vx40 => Mem.st ⟨[], [(0, [.d (.lst (List.map (encI .i64) vs2.L)), .d (.int .i64 vs2.at_)]), (1, [.d (.int .i64 vr4.Room), .d (.int .i64 vr4.Timeout), .d (.int .i64 vr4.Tries), .d (.int .i64 vr4.Kept), .mapp 2, .d (.int .i64 vx34_1)]), (2, [.mapc .str true (List.map (encM D.str api_Note.enc) vm15_1)]), (3, [.d (.int .i64 vr4.Room), .d (.int .i64 vr4.Timeout), .d (.int .i64 vr4.Tries), .d (.int .i64 vr4.Kept), .mapp 4, .d (.int .i64 vx37_1)]), (4, [.mapc .str true (List.map (encM D.str api_Note.enc) vm16_1)])]⟩ (tl [(3, .v (.one (.box 0 0))), (5, .v (.one (.box 1 0))), (7, .v (.one (.box 3 0))), (9, .v (.one (.d (.int .i64 vx5)))), (51, .v (.one (.d (.int .i64 vr1)))), (52, .v (.one (.d (.int .i64 vx6)))), (91, .v (.one (.d (.bool vx40))))]) 5

def z358 (vr4 : api_Post) (vr1 : Int) (vx5 : Int) (vx6 : Int) (vs2 : z396) (vm15_1 : List (List UInt8 × api_Note)) (vx34_1 : Int) (vx35_1 : List api_Letter) (vx36_1 : Int) (vm16_1 : List (List UInt8 × api_Note)) (vx37_1 : Int) (vx38_1 : List api_Letter) (vx39_1 : Int) : St := Mem.st ⟨[], [(0, [.d (.lst (List.map (encI .i64) vs2.L)), .d (.int .i64 vs2.at_)]), (1, [.d (.int .i64 vr4.Room), .d (.int .i64 vr4.Timeout), .d (.int .i64 vr4.Tries), .d (.int .i64 vr4.Kept), .mapp 2, .d (.int .i64 vx34_1)]), (2, [.mapc .str true (List.map (encM D.str api_Note.enc) vm15_1)]), (3, [.d (.int .i64 vr4.Room), .d (.int .i64 vr4.Timeout), .d (.int .i64 vr4.Tries), .d (.int .i64 vr4.Kept), .mapp 4, .d (.int .i64 vx37_1)]), (4, [.mapc .str true (List.map (encM D.str api_Note.enc) vm16_1)])]⟩ (tl [(3, .v (.one (.box 0 0))), (5, .v (.one (.box 1 0))), (7, .v (.one (.box 3 0))), (9, .v (.one (.d (.int .i64 vx5)))), (12, .v (.one (.d (.lst (List.map api_Letter.enc vx35_1))))), (13, .v (.one (.d (.int .i64 vx36_1)))), (14, .v (.one (.d (.lst (List.map api_Letter.enc vx38_1))))), (15, .v (.one (.d (.int .i64 vx39_1)))), (51, .v (.one (.d (.int .i64 vr1)))), (52, .v (.one (.d (.int .i64 vx6))))]) 5

theorem z361 (vr4 : api_Post) (vr1 : Int) (vx5 : Int) (vx6 : Int) (vs2 : z396) (vm15_1 : List (List UInt8 × api_Note)) (vx34_1 : Int) (vx35_1 : List api_Letter) (vx36_1 : Int) (vm16_1 : List (List UInt8 × api_Note)) (vx37_1 : Int) (vx38_1 : List api_Letter) (vx39_1 : Int) {r} (hF : z357 vx35_1 vx36_1 vx38_1 vx39_1 = some r) : Awp prog 0 153 (cL (cL (cR (cR (cR (cR (cL (cL (cR (cR (cL (cL (cR (cL (cR (cR (cR (cR (cR (cR (cR (cB f4)))))))))))))))))))))) (Out 0 z360 (z359 vr4 vr1 vx5 vx6 vs2 vm15_1 vx34_1 vx35_1 vx36_1 vm16_1 vx37_1 vx38_1 vx39_1) r) (z358 vr4 vr1 vx5 vx6 vs2 vm15_1 vx34_1 vx35_1 vx36_1 vm16_1 vx37_1 vx38_1 vx39_1) := by
  unfold z357 at hF
  refine cE hF (fun h21 hF => ?_) fun h21 hF => ?_
  · refine awp_region ?_
    refine aR 1 ?_
    refine aB h21 ?_
    refine aR 10 ?_
    refine aE ?_
    exact oO hF [] [] rfl
  · refine cE hF (fun h22 hF => ?_) fun h22 hF => ?_
    · refine awp_region ?_
      refine aR 1 ?_
      refine aB h21 ?_
      refine aR 2 ?_
      refine aB h22 ?_
      refine aR 7 ?_
      refine aE ?_
      exact oO hF [] [] rfl
    · refine bE hF fun vr9 h23 hF => ?_
      refine awp_region ?_
      refine aR 1 ?_
      refine aB h21 ?_
      refine aR 2 ?_
      refine aB h22 ?_
      refine aR 4 ?_
      refine aC (z558 h23) [] [] [] ?_
      refine aR 2 ?_
      refine aE ?_
      exact oO hF [] [] rfl

def z370 : ((List (List UInt8 × api_Note)) × Int × Int × Int) → AEx
  | _ => .normal

def z369 (vr4 : api_Post) (vr1 : Int) (vx5 : Int) (vx6 : Int) (vs2 : z396) (vm16_1 : List (List UInt8 × api_Note)) (vx37_1 : Int) (vr10 : Int) (vm17 : List (List UInt8 × api_Note)) (vx41 : Int) (vx42 : Int) (vx43 : Int) : ((List (List UInt8 × api_Note)) × Int × Int × Int) → St
  | (vm21, vx49, vx50, vx51) => Mem.st ⟨[], [(0, [.d (.lst (List.map (encI .i64) vs2.L)), .d (.int .i64 (IntKind.wrap .i64 (vs2.at_ + 1)))]), (1, [.d (.int .i64 vr4.Room), .d (.int .i64 vr4.Timeout), .d (.int .i64 vr4.Tries), .d (.int .i64 vr4.Kept), .mapp 2, .d (.int .i64 vx49)]), (2, [.mapc .str true (List.map (encM D.str api_Note.enc) vm21)]), (3, [.d (.int .i64 vr4.Room), .d (.int .i64 vr4.Timeout), .d (.int .i64 vr4.Tries), .d (.int .i64 vr4.Kept), .mapp 4, .d (.int .i64 vx37_1)]), (4, [.mapc .str true (List.map (encM D.str api_Note.enc) vm16_1)])]⟩ (tl [(3, .v (.one (.box 0 0))), (5, .v (.one (.box 1 0))), (7, .v (.one (.box 3 0))), (9, .v (.one (.d (.int .i64 vx42)))), (16, .v (.one (.d (.int .i64 (IntKind.wrap .i64 (vx5 + vr10)))))), (17, .v (.one (.d (.int .i64 vx50)))), (18, .v (.one (.d (.int .i64 vx51)))), (51, .v (.one (.d (.int .i64 vr1)))), (52, .v (.one (.d (.int .i64 vx6)))), (97, .v (.one (.d (.int .i64 vx43))))]) 5

def z368 (vr4 : api_Post) (vr1 : Int) (vx5 : Int) (vx6 : Int) (vs2 : z396) (vm16_1 : List (List UInt8 × api_Note)) (vx37_1 : Int) (vr10 : Int) (vm17 : List (List UInt8 × api_Note)) (vx41 : Int) (vx42 : Int) (vx43 : Int) : St := Mem.st ⟨[], [(0, [.d (.lst (List.map (encI .i64) vs2.L)), .d (.int .i64 (IntKind.wrap .i64 (vs2.at_ + 1)))]), (1, [.d (.int .i64 vr4.Room), .d (.int .i64 vr4.Timeout), .d (.int .i64 vr4.Tries), .d (.int .i64 vr4.Kept), .mapp 2, .d (.int .i64 vx41)]), (2, [.mapc .str true (List.map (encM D.str api_Note.enc) vm17)]), (3, [.d (.int .i64 vr4.Room), .d (.int .i64 vr4.Timeout), .d (.int .i64 vr4.Tries), .d (.int .i64 vr4.Kept), .mapp 4, .d (.int .i64 vx37_1)]), (4, [.mapc .str true (List.map (encM D.str api_Note.enc) vm16_1)])]⟩ (tl [(3, .v (.one (.box 0 0))), (5, .v (.one (.box 1 0))), (7, .v (.one (.box 3 0))), (9, .v (.one (.d (.int .i64 vx42)))), (16, .v (.one (.d (.int .i64 (IntKind.wrap .i64 (vx5 + vr10)))))), (51, .v (.one (.d (.int .i64 vr1)))), (52, .v (.one (.d (.int .i64 vx6)))), (97, .v (.one (.d (.int .i64 vx43))))]) 5

theorem z371 (vr4 : api_Post) (vr1 : Int) (vx5 : Int) (vx6 : Int) (vs2 : z396) (vm16_1 : List (List UInt8 × api_Note)) (vx37_1 : Int) (vr10 : Int) (vm17 : List (List UInt8 × api_Note)) (vx41 : Int) (vx42 : Int) (vx43 : Int) {r} (hF : z367 vr4 vm17 vx41 vx42 = some r) : Awp prog 0 153 (cL (cL (cL (cR (cR (cL (cL (cR (cL (cR (cR (cR (cR (cR (cR (cL (cL (cR (cR (cL (cL (cR (cL (cR (cR (cR (cR (cR (cR (cR (cB f4))))))))))))))))))))))))))))))) (Out 0 z370 (z369 vr4 vr1 vx5 vx6 vs2 vm16_1 vx37_1 vr10 vm17 vx41 vx42 vx43) r) (z368 vr4 vr1 vx5 vx6 vs2 vm16_1 vx37_1 vr10 vm17 vx41 vx42 vx43) := by
  unfold z367 at hF
  refine bE hF fun x h28 hF => ?_
  rcases x with vr3_7 | ⟨vm20, vr4_14⟩
  · refine awp_region ?_
    refine aR 2 ?_
    refine aC (z232 h28) [(0, 1), (1, 2)] [] [] ?_
    refine aR 5 ?_
    refine aE ?_
    exact oO hF [] [] rfl
  · refine awp_region ?_
    refine aR 2 ?_
    refine aC (z232 h28) [(0, 1), (1, 2)] [] [] ?_
    refine aR 5 ?_
    refine aE ?_
    exact oO hF [(2, 2007)] [] rfl

def z306 : Bool → AEx
  | _ => .normal

def z305 (vr4 : api_Post) (vr1 : Int) (vx5 : Int) (vx6 : Int) (vs2 : z396) (vm16_1 : List (List UInt8 × api_Note)) (vx37_1 : Int) (vr10 : Int) (vx42 : Int) (vx43 : Int) (vm21_1 : List (List UInt8 × api_Note)) (vx49_1 : Int) (vx50_1 : Int) (vx51_1 : Int) : Bool → St
  | vx52 => Mem.st ⟨[], [(0, [.d (.lst (List.map (encI .i64) vs2.L)), .d (.int .i64 (IntKind.wrap .i64 (vs2.at_ + 1)))]), (1, [.d (.int .i64 vr4.Room), .d (.int .i64 vr4.Timeout), .d (.int .i64 vr4.Tries), .d (.int .i64 vr4.Kept), .mapp 2, .d (.int .i64 vx49_1)]), (2, [.mapc .str true (List.map (encM D.str api_Note.enc) vm21_1)]), (3, [.d (.int .i64 vr4.Room), .d (.int .i64 vr4.Timeout), .d (.int .i64 vr4.Tries), .d (.int .i64 vr4.Kept), .mapp 4, .d (.int .i64 vx37_1)]), (4, [.mapc .str true (List.map (encM D.str api_Note.enc) vm16_1)])]⟩ (tl [(3, .v (.one (.box 0 0))), (5, .v (.one (.box 1 0))), (7, .v (.one (.box 3 0))), (16, .v (.one (.d (.int .i64 (IntKind.wrap .i64 (vx5 + vr10)))))), (17, .v (.one (.d (.int .i64 vx50_1)))), (51, .v (.one (.d (.int .i64 vr1)))), (52, .v (.one (.d (.int .i64 vx6)))), (97, .v (.one (.d (.int .i64 vx43)))), (115, .v (.one (.d (.bool vx52))))]) 5

def z304 (vr4 : api_Post) (vr1 : Int) (vx5 : Int) (vx6 : Int) (vs2 : z396) (vm16_1 : List (List UInt8 × api_Note)) (vx37_1 : Int) (vr10 : Int) (vx42 : Int) (vx43 : Int) (vm21_1 : List (List UInt8 × api_Note)) (vx49_1 : Int) (vx50_1 : Int) (vx51_1 : Int) : St := Mem.st ⟨[], [(0, [.d (.lst (List.map (encI .i64) vs2.L)), .d (.int .i64 (IntKind.wrap .i64 (vs2.at_ + 1)))]), (1, [.d (.int .i64 vr4.Room), .d (.int .i64 vr4.Timeout), .d (.int .i64 vr4.Tries), .d (.int .i64 vr4.Kept), .mapp 2, .d (.int .i64 vx49_1)]), (2, [.mapc .str true (List.map (encM D.str api_Note.enc) vm21_1)]), (3, [.d (.int .i64 vr4.Room), .d (.int .i64 vr4.Timeout), .d (.int .i64 vr4.Tries), .d (.int .i64 vr4.Kept), .mapp 4, .d (.int .i64 vx37_1)]), (4, [.mapc .str true (List.map (encM D.str api_Note.enc) vm16_1)])]⟩ (tl [(3, .v (.one (.box 0 0))), (5, .v (.one (.box 1 0))), (7, .v (.one (.box 3 0))), (9, .v (.one (.d (.int .i64 vx42)))), (16, .v (.one (.d (.int .i64 (IntKind.wrap .i64 (vx5 + vr10)))))), (17, .v (.one (.d (.int .i64 vx50_1)))), (18, .v (.one (.d (.int .i64 vx51_1)))), (51, .v (.one (.d (.int .i64 vr1)))), (52, .v (.one (.d (.int .i64 vx6)))), (97, .v (.one (.d (.int .i64 vx43))))]) 5

theorem z307 (vr4 : api_Post) (vr1 : Int) (vx5 : Int) (vx6 : Int) (vs2 : z396) (vm16_1 : List (List UInt8 × api_Note)) (vx37_1 : Int) (vr10 : Int) (vx42 : Int) (vx43 : Int) (vm21_1 : List (List UInt8 × api_Note)) (vx49_1 : Int) (vx50_1 : Int) (vx51_1 : Int) {r} (hF : z303 vx42 vx50_1 vx51_1 = some r) : Awp prog 0 153 (cL (cL (cR (cL (cL (cR (cR (cL (cL (cR (cL (cR (cR (cR (cR (cR (cR (cL (cL (cR (cR (cL (cL (cR (cL (cR (cR (cR (cR (cR (cR (cR (cB f4))))))))))))))))))))))))))))))))) (Out 0 z306 (z305 vr4 vr1 vx5 vx6 vs2 vm16_1 vx37_1 vr10 vx42 vx43 vm21_1 vx49_1 vx50_1 vx51_1) r) (z304 vr4 vr1 vx5 vx6 vs2 vm16_1 vx37_1 vr10 vx42 vx43 vm21_1 vx49_1 vx50_1 vx51_1) := by
  unfold z303 at hF
  refine cE hF (fun h30 hF => ?_) fun h30 hF => ?_
  · refine awp_region ?_
    refine aR 1 ?_
    refine aB h30 ?_
    refine aR 9 ?_
    refine aE ?_
    exact oO hF [] [] rfl
  · refine cE hF (fun h31 hF => ?_) fun h31 hF => ?_
    · refine awp_region ?_
      refine aR 1 ?_
      refine aB h30 ?_
      refine aR 2 ?_
      refine aB h31 ?_
      refine aR 6 ?_
      refine aE ?_
      exact oO hF [] [] rfl
    · refine awp_region ?_
      refine aR 1 ?_
      refine aB h30 ?_
      refine aR 2 ?_
      refine aB h31 ?_
      refine aR 6 ?_
      refine aE ?_
      exact oO hF [] [] rfl

def z311 : Bool → AEx
  | _ => .normal

def z310 (vr4 : api_Post) (vr1 : Int) (vx5 : Int) (vx6 : Int) (vs2 : z396) (vm16_1 : List (List UInt8 × api_Note)) (vx37_1 : Int) (vr10 : Int) (vx43 : Int) (vm21_1 : List (List UInt8 × api_Note)) (vx49_1 : Int) (vx50_1 : Int) : Bool → St
  | vx53 => Mem.st ⟨[], [(0, [.d (.lst (List.map (encI .i64) vs2.L)), .d (.int .i64 (IntKind.wrap .i64 (vs2.at_ + 1)))]), (1, [.d (.int .i64 vr4.Room), .d (.int .i64 vr4.Timeout), .d (.int .i64 vr4.Tries), .d (.int .i64 vr4.Kept), .mapp 2, .d (.int .i64 vx49_1)]), (2, [.mapc .str true (List.map (encM D.str api_Note.enc) vm21_1)]), (3, [.d (.int .i64 vr4.Room), .d (.int .i64 vr4.Timeout), .d (.int .i64 vr4.Tries), .d (.int .i64 vr4.Kept), .mapp 4, .d (.int .i64 vx37_1)]), (4, [.mapc .str true (List.map (encM D.str api_Note.enc) vm16_1)])]⟩ (tl [(3, .v (.one (.box 0 0))), (5, .v (.one (.box 1 0))), (7, .v (.one (.box 3 0))), (16, .v (.one (.d (.int .i64 (IntKind.wrap .i64 (vx5 + vr10)))))), (17, .v (.one (.d (.int .i64 vx50_1)))), (51, .v (.one (.d (.int .i64 vr1)))), (52, .v (.one (.d (.int .i64 vx6)))), (97, .v (.one (.d (.int .i64 vx43)))), (122, .v (.one (.d (.bool vx53))))]) 5

def z309 (vr4 : api_Post) (vr1 : Int) (vx5 : Int) (vx6 : Int) (vs2 : z396) (vm16_1 : List (List UInt8 × api_Note)) (vx37_1 : Int) (vr10 : Int) (vx43 : Int) (vm21_1 : List (List UInt8 × api_Note)) (vx49_1 : Int) (vx50_1 : Int) : St := Mem.st ⟨[], [(0, [.d (.lst (List.map (encI .i64) vs2.L)), .d (.int .i64 (IntKind.wrap .i64 (vs2.at_ + 1)))]), (1, [.d (.int .i64 vr4.Room), .d (.int .i64 vr4.Timeout), .d (.int .i64 vr4.Tries), .d (.int .i64 vr4.Kept), .mapp 2, .d (.int .i64 vx49_1)]), (2, [.mapc .str true (List.map (encM D.str api_Note.enc) vm21_1)]), (3, [.d (.int .i64 vr4.Room), .d (.int .i64 vr4.Timeout), .d (.int .i64 vr4.Tries), .d (.int .i64 vr4.Kept), .mapp 4, .d (.int .i64 vx37_1)]), (4, [.mapc .str true (List.map (encM D.str api_Note.enc) vm16_1)])]⟩ (tl [(3, .v (.one (.box 0 0))), (5, .v (.one (.box 1 0))), (7, .v (.one (.box 3 0))), (16, .v (.one (.d (.int .i64 (IntKind.wrap .i64 (vx5 + vr10)))))), (17, .v (.one (.d (.int .i64 vx50_1)))), (51, .v (.one (.d (.int .i64 vr1)))), (52, .v (.one (.d (.int .i64 vx6)))), (97, .v (.one (.d (.int .i64 vx43))))]) 5

theorem z312 (vr4 : api_Post) (vr1 : Int) (vx5 : Int) (vx6 : Int) (vs2 : z396) (vm16_1 : List (List UInt8 × api_Note)) (vx37_1 : Int) (vr10 : Int) (vx43 : Int) (vm21_1 : List (List UInt8 × api_Note)) (vx49_1 : Int) (vx50_1 : Int) {r} (hF : z308 vx5 vr10 vx50_1 = some r) : Awp prog 0 153 (cL (cL (cR (cR (cL (cL (cR (cR (cL (cL (cR (cL (cR (cR (cR (cR (cR (cR (cL (cL (cR (cR (cL (cL (cR (cL (cR (cR (cR (cR (cR (cR (cR (cB f4)))))))))))))))))))))))))))))))))) (Out 0 z311 (z310 vr4 vr1 vx5 vx6 vs2 vm16_1 vx37_1 vr10 vx43 vm21_1 vx49_1 vx50_1) r) (z309 vr4 vr1 vx5 vx6 vs2 vm16_1 vx37_1 vr10 vx43 vm21_1 vx49_1 vx50_1) := by
  unfold z308 at hF
  refine cE hF (fun h34 hF => ?_) fun h34 hF => ?_
  · refine awp_region ?_
    refine aR 1 ?_
    refine aB h34 ?_
    refine aR 5 ?_
    refine aE ?_
    exact oO hF [] [] rfl
  · refine awp_region ?_
    refine aR 1 ?_
    refine aB h34 ?_
    refine aR 5 ?_
    refine aE ?_
    exact oO hF [] [] rfl

def z365 : ((List (List UInt8 × api_Note)) × Int) ⊕ Unit → AEx
  | .inl _ => .exit 2
  | .inr _ => .ret

def z364 (vr4 : api_Post) (vr1 : Int) (vx5 : Int) (vx6 : Int) (vs2 : z396) (vm16_1 : List (List UInt8 × api_Note)) (vx37_1 : Int) (vr10 : Int) : ((List (List UInt8 × api_Note)) × Int) ⊕ Unit → St
  | .inl (vm22, vx54) => Mem.st ⟨[], [(0, [.d (.lst (List.map (encI .i64) vs2.L)), .d (.int .i64 (IntKind.wrap .i64 (vs2.at_ + 1)))]), (1, [.d (.int .i64 vr4.Room), .d (.int .i64 vr4.Timeout), .d (.int .i64 vr4.Tries), .d (.int .i64 vr4.Kept), .mapp 2, .d (.int .i64 vx54)]), (2, [.mapc .str true (List.map (encM D.str api_Note.enc) vm22)]), (3, [.d (.int .i64 vr4.Room), .d (.int .i64 vr4.Timeout), .d (.int .i64 vr4.Tries), .d (.int .i64 vr4.Kept), .mapp 4, .d (.int .i64 vx37_1)]), (4, [.mapc .str true (List.map (encM D.str api_Note.enc) vm16_1)])]⟩ (tl [(3, .v (.one (.box 0 0))), (5, .v (.one (.box 1 0))), (7, .v (.one (.box 3 0))), (16, .v (.one (.d (.int .i64 (IntKind.wrap .i64 (vx5 + vr10)))))), (51, .v (.one (.d (.int .i64 vr1)))), (52, .v (.one (.d (.int .i64 vx6))))]) 5
  | .inr _ => Mem.st ⟨[], []⟩ (tl [(2, .v (.one (.d (.bool false))))]) 0

def z363 (vr4 : api_Post) (vr1 : Int) (vx5 : Int) (vx6 : Int) (vs2 : z396) (vm16_1 : List (List UInt8 × api_Note)) (vx37_1 : Int) (vr10 : Int) : (List (List UInt8 × api_Note)) × Int × Int × Int → St
  | (vm17, vx41, vx42, vx43) => Mem.st ⟨[], [(0, [.d (.lst (List.map (encI .i64) vs2.L)), .d (.int .i64 (IntKind.wrap .i64 (vs2.at_ + 1)))]), (1, [.d (.int .i64 vr4.Room), .d (.int .i64 vr4.Timeout), .d (.int .i64 vr4.Tries), .d (.int .i64 vr4.Kept), .mapp 2, .d (.int .i64 vx41)]), (2, [.mapc .str true (List.map (encM D.str api_Note.enc) vm17)]), (3, [.d (.int .i64 vr4.Room), .d (.int .i64 vr4.Timeout), .d (.int .i64 vr4.Tries), .d (.int .i64 vr4.Kept), .mapp 4, .d (.int .i64 vx37_1)]), (4, [.mapc .str true (List.map (encM D.str api_Note.enc) vm16_1)])]⟩ (tl [(3, .v (.one (.box 0 0))), (5, .v (.one (.box 1 0))), (7, .v (.one (.box 3 0))), (9, .v (.one (.d (.int .i64 vx42)))), (16, .v (.one (.d (.int .i64 (IntKind.wrap .i64 (vx5 + vr10)))))), (51, .v (.one (.d (.int .i64 vr1)))), (52, .v (.one (.d (.int .i64 vx6)))), (97, .v (.one (.d (.int .i64 vx43))))]) 5

theorem z366 (vr4 : api_Post) (vr1 : Int) (vx5 : Int) (vx6 : Int) (vs2 : z396) (vm16_1 : List (List UInt8 × api_Note)) (vx37_1 : Int) (vr10 : Int) (s : (List (List UInt8 × api_Note)) × Int × Int × Int) (r : ((List (List UInt8 × api_Note)) × Int × Int × Int) ⊕ (((List (List UInt8 × api_Note)) × Int) ⊕ Unit)) (hF : z362 vr4 vx5 vr10 s = some r) : Awp prog 0 153 (cL (cL (cR (cL (cR (cR (cR (cR (cR (cR (cL (cL (cR (cR (cL (cL (cR (cL (cR (cR (cR (cR (cR (cR (cR (cB f4)))))))))))))))))))))))))) (Out 0 (kk z365) (SS (z363 vr4 vr1 vx5 vx6 vs2 vm16_1 vx37_1 vr10) (z364 vr4 vr1 vx5 vx6 vs2 vm16_1 vx37_1 vr10)) r) (z363 vr4 vr1 vx5 vx6 vs2 vm16_1 vx37_1 vr10 s) := by
  obtain ⟨vm17, vx41, vx42, vx43⟩ := s
  unfold z362 at hF
  refine awp_seq ?_
  refine awp_region ?_
  refine aR 1 ?_
  refine aE ?_
  refine awp_seq ?_
  refine cE hF (fun h27 hF => ?_) fun h27 hF => ?_
  · refine awp_true (by kernel_rfl) h27 ?_
    refine awp_skip ?_
    refine awp_seq ?_
    refine awp_block ?_
    refine awp_seq ?_
    refine awp_to (st' := z368 vr4 vr1 vx5 vx6 vs2 vm16_1 vx37_1 vr10 vm17 vx41 vx42 vx43) (oT [] []) ?_
    refine bE hF fun x h29 hF => ?_
    obtain ⟨vm21_1, vx49_1, vx50_1, vx51_1⟩ := x
    refine awp_sub (z371 vr4 vr1 vx5 vx6 vs2 vm16_1 vx37_1 vr10 vm17 vx41 vx42 vx43 h29) ?_
    refine awp_seq ?_
    refine awp_seq ?_
    refine awp_to (st' := z304 vr4 vr1 vx5 vx6 vs2 vm16_1 vx37_1 vr10 vx42 vx43 vm21_1 vx49_1 vx50_1 vx51_1) (oT [] []) ?_
    refine bE hF fun vx52_1 h32 hF => ?_
    refine awp_sub (z307 vr4 vr1 vx5 vx6 vs2 vm16_1 vx37_1 vr10 vx42 vx43 vm21_1 vx49_1 vx50_1 vx51_1 h32) ?_
    refine cE hF (fun h33 hF => ?_) fun h33 hF => ?_
    · refine awp_true (by kernel_rfl) h33 ?_
      refine awp_seq ?_
      refine awp_region ?_
      refine aR 1 ?_
      refine aE ?_
      refine awp_ret ?_
      exact oO hF [] [] rfl
    · refine awp_false (by kernel_rfl) h33 ?_
      refine awp_skip ?_
      refine awp_seq ?_
      refine awp_seq ?_
      refine awp_to (st' := z309 vr4 vr1 vx5 vx6 vs2 vm16_1 vx37_1 vr10 vx43 vm21_1 vx49_1 vx50_1) (oT [] []) ?_
      refine bE hF fun vx53_1 h35 hF => ?_
      refine awp_sub (z312 vr4 vr1 vx5 vx6 vs2 vm16_1 vx37_1 vr10 vx43 vm21_1 vx49_1 vx50_1 h35) ?_
      refine cE hF (fun h36 hF => ?_) fun h36 hF => ?_
      · refine awp_true (by kernel_rfl) h36 ?_
        refine awp_exit ?_
        exact oO hF [] [] rfl
      · refine awp_false (by kernel_rfl) h36 ?_
        refine awp_skip ?_
        refine awp_region ?_
        refine aR 2 ?_
        refine aE ?_
        refine awp_region ?_
        refine aR 2 ?_
        refine aE ?_
        exact oO hF [] [] rfl
  · refine awp_false (by kernel_rfl) h27 ?_
    refine awp_exit ?_
    exact oO hF [] [] rfl

def z340 : ((List (List UInt8 × api_Note)) × Int × (List (List UInt8 × api_Note)) × Int × Int) ⊕ Unit → AEx
  | .inl _ => .exit 0
  | .inr _ => .ret

def z339 (vr4 : api_Post) (vr1 : Int) : ((List (List UInt8 × api_Note)) × Int × (List (List UInt8 × api_Note)) × Int × Int) ⊕ Unit → St
  | .inl (vm23, vx55, vm24, vx56, vx57) => Mem.st ⟨[], [(0, [.d (.int .i64 vr4.Room), .d (.int .i64 vr4.Timeout), .d (.int .i64 vr4.Tries), .d (.int .i64 vr4.Kept), .mapp 1, .d (.int .i64 vx55)]), (1, [.mapc .str true (List.map (encM D.str api_Note.enc) vm23)]), (2, [.d (.int .i64 vr4.Room), .d (.int .i64 vr4.Timeout), .d (.int .i64 vr4.Tries), .d (.int .i64 vr4.Kept), .mapp 3, .d (.int .i64 vx56)]), (3, [.mapc .str true (List.map (encM D.str api_Note.enc) vm24)])]⟩ (tl [(5, .v (.one (.box 0 0))), (7, .v (.one (.box 2 0))), (9, .v (.one (.d (.int .i64 vx57))))]) 4
  | .inr _ => Mem.st ⟨[], []⟩ (tl [(2, .v (.one (.d (.bool false))))]) 0

def z338 (vr4 : api_Post) (vr1 : Int) : z396 × (List (List UInt8 × api_Note)) × Int × (List (List UInt8 × api_Note)) × Int × Int × Int → St
  | (vx2, vm, vx3, vm1, vx4, vx5, vx6) => Mem.st ⟨[], [(0, [.d (.lst (List.map (encI .i64) vx2.L)), .d (.int .i64 vx2.at_)]), (1, [.d (.int .i64 vr4.Room), .d (.int .i64 vr4.Timeout), .d (.int .i64 vr4.Tries), .d (.int .i64 vr4.Kept), .mapp 2, .d (.int .i64 vx3)]), (2, [.mapc .str true (List.map (encM D.str api_Note.enc) vm)]), (3, [.d (.int .i64 vr4.Room), .d (.int .i64 vr4.Timeout), .d (.int .i64 vr4.Tries), .d (.int .i64 vr4.Kept), .mapp 4, .d (.int .i64 vx4)]), (4, [.mapc .str true (List.map (encM D.str api_Note.enc) vm1)])]⟩ (tl [(3, .v (.one (.box 0 0))), (5, .v (.one (.box 1 0))), (7, .v (.one (.box 3 0))), (9, .v (.one (.d (.int .i64 vx5)))), (51, .v (.one (.d (.int .i64 vr1)))), (52, .v (.one (.d (.int .i64 vx6))))]) 5

theorem z341 (vr4 : api_Post) (vr1 : Int) (s : z396 × (List (List UInt8 × api_Note)) × Int × (List (List UInt8 × api_Note)) × Int × Int × Int) (r : (z396 × (List (List UInt8 × api_Note)) × Int × (List (List UInt8 × api_Note)) × Int × Int × Int) ⊕ (((List (List UInt8 × api_Note)) × Int × (List (List UInt8 × api_Note)) × Int × Int) ⊕ Unit)) (hF : z337 vr4 vr1 s = some r) : Awp prog 0 153 (cL (cL (cR (cL (cR (cR (cR (cR (cR (cR (cR (cB f4)))))))))))) (Out 0 (kk z340) (SS (z338 vr4 vr1) (z339 vr4 vr1)) r) (z338 vr4 vr1 s) := by
  obtain ⟨vx2, vm, vx3, vm1, vx4, vx5, vx6⟩ := s
  unfold z337 at hF
  refine awp_seq ?_
  refine awp_region ?_
  refine aR 1 ?_
  refine aE ?_
  refine awp_seq ?_
  refine cE hF (fun h9 hF => ?_) fun h9 hF => ?_
  · refine awp_true (by kernel_rfl) h9 ?_
    refine awp_skip ?_
    refine awp_seq ?_
    refine awp_block ?_
    refine awp_seq ?_
    refine bE hF fun vr5_1 h10 hF => ?_
    refine bE hF fun x h11 hF => ?_
    obtain ⟨vs2, vr8⟩ := x
    refine awp_region ?_
    refine aR 2 ?_
    refine aC (z408 h10) [] [] [] ?_
    refine aR 1 ?_
    refine aC (z405 h11) [] [] [] ?_
    refine aR 3 ?_
    refine aE ?_
    refine awp_seq ?_
    refine awp_seq ?_
    refine awp_to (st' := z343 vr4 vr1 vm vx3 vm1 vx4 vx5 vx6 vr5_1 vs2 vr8) (oT [(5, 6005)] []) ?_
    refine bE hF fun x h15 hF => ?_
    obtain ⟨vm13_1, vx31_1, vm14_1, vx32_1, vx33_1⟩ := x
    refine awp_sub (z346 vr4 vr1 vm vx3 vm1 vx4 vx5 vx6 vr5_1 vs2 vr8 h15) ?_
    refine cE hF (fun h16 hF => ?_) fun h16 hF => ?_
    · refine awp_true (by kernel_rfl) h16 ?_
      refine awp_seq ?_
      refine awp_region ?_
      refine aR 1 ?_
      refine aE ?_
      refine awp_ret ?_
      exact oO hF [] [] rfl
    · refine awp_false (by kernel_rfl) h16 ?_
      refine awp_skip ?_
      refine awp_seq ?_
      refine awp_to (st' := z348 vr4 vr1 vx5 vx6 vs2 vr8 vm13_1 vx31_1 vm14_1 vx32_1) (oT [] []) ?_
      refine bE hF fun x h18 hF => ?_
      obtain ⟨vm15_1, vx34_1, vx35_1, vx36_1⟩ := x
      refine awp_sub (z351 vr4 vr1 vx5 vx6 vs2 vr8 vm13_1 vx31_1 vm14_1 vx32_1 h18) ?_
      refine awp_seq ?_
      refine awp_to (st' := z353 vr4 vr1 vx5 vx6 vs2 vr8 vm14_1 vx32_1 vm15_1 vx34_1 vx35_1 vx36_1) (oT [] []) ?_
      refine bE hF fun x h20 hF => ?_
      obtain ⟨vm16_1, vx37_1, vx38_1, vx39_1⟩ := x
      refine awp_sub (z356 vr4 vr1 vx5 vx6 vs2 vr8 vm14_1 vx32_1 vm15_1 vx34_1 vx35_1 vx36_1 h20) ?_
      refine awp_seq ?_
      refine awp_seq ?_
      refine awp_to (st' := z358 vr4 vr1 vx5 vx6 vs2 vm15_1 vx34_1 vx35_1 vx36_1 vm16_1 vx37_1 vx38_1 vx39_1) (oT [] []) ?_
      refine bE hF fun vx40_1 h24 hF => ?_
      refine awp_sub (z361 vr4 vr1 vx5 vx6 vs2 vm15_1 vx34_1 vx35_1 vx36_1 vm16_1 vx37_1 vx38_1 vx39_1 h24) ?_
      refine cE hF (fun h25 hF => ?_) fun h25 hF => ?_
      · refine awp_true (by kernel_rfl) h25 ?_
        refine awp_seq ?_
        refine awp_region ?_
        refine aR 1 ?_
        refine aE ?_
        refine awp_ret ?_
        exact oO hF [] [] rfl
      · refine awp_false (by kernel_rfl) h25 ?_
        refine awp_skip ?_
        refine awp_seq ?_
        refine bE hF fun vr10 h26 hF => ?_
        refine awp_region ?_
        refine aR 3 ?_
        refine aC (z402 h26) [(1, 2005)] [] [] ?_
        refine aR 2 ?_
        refine aE ?_
        refine awp_seq ?_
        refine awp_seq ?_
        refine awp_region ?_
        refine aR 1 ?_
        refine aE ?_
        refine awp_block ?_
        refine awp_to (st' := z363 vr4 vr1 vx5 vx6 vs2 vm16_1 vx37_1 vr10 (vm15_1, vx34_1, vx5, 0)) (oT [] []) ?_
        refine bE hF fun x h37 hF => ?_
        rcases x with ⟨vm22_1, vx54_1⟩ | _
        · refine awp_sub (awp_loop' (z363 vr4 vr1 vx5 vx6 vs2 vm16_1 vx37_1 vr10) z365 (z364 vr4 vr1 vx5 vx6 vs2 vm16_1 vx37_1 vr10) (by intro x; rcases x with x | x <;> exact fun h => nomatch h) h37 (z366 vr4 vr1 vx5 vx6 vs2 vm16_1 vx37_1 vr10)) ?_
          refine awp_region ?_
          refine aR 2 ?_
          refine aE ?_
          refine awp_region ?_
          refine aR 2 ?_
          refine aE ?_
          exact oO hF [] [] rfl
        · refine awp_sub (awp_loop' (z363 vr4 vr1 vx5 vx6 vs2 vm16_1 vx37_1 vr10) z365 (z364 vr4 vr1 vx5 vx6 vs2 vm16_1 vx37_1 vr10) (by intro x; rcases x with x | x <;> exact fun h => nomatch h) h37 (z366 vr4 vr1 vx5 vx6 vs2 vm16_1 vx37_1 vr10)) ?_
          exact oO hF [] [] rfl
  · refine awp_false (by kernel_rfl) h9 ?_
    refine awp_exit ?_
    exact oO hF [(0, 1), (1, 2), (2, 3), (3, 4)] [] rfl

def z316 : (Int × (List api_Note)) → AEx
  | _ => .normal

def z315 (vr4 : api_Post) (vm23_1 : List (List UInt8 × api_Note)) (vx55_1 : Int) (vm24_1 : List (List UInt8 × api_Note)) (vx56_1 : Int) (vx57_1 : Int) : (Int × (List api_Note)) → St
  | (vx58, vx59) => Mem.st ⟨[], [(0, [.d (.int .i64 vr4.Room), .d (.int .i64 vr4.Timeout), .d (.int .i64 vr4.Tries), .d (.int .i64 vr4.Kept), .mapp 1, .d (.int .i64 vx56_1)]), (1, [.mapc .str true (List.map (encM D.str api_Note.enc) vm24_1)])]⟩ (tl [(6, .v (.one (.d (.int .i64 vx58)))), (7, .v (.one (.box 0 0))), (9, .v (.one (.d (.int .i64 vx57_1)))), (19, .v (.one (.d (.lst (List.map api_Note.enc vx59)))))]) 2

def z314 (vr4 : api_Post) (vm23_1 : List (List UInt8 × api_Note)) (vx55_1 : Int) (vm24_1 : List (List UInt8 × api_Note)) (vx56_1 : Int) (vx57_1 : Int) : St := Mem.st ⟨[], [(0, [.d (.int .i64 vr4.Room), .d (.int .i64 vr4.Timeout), .d (.int .i64 vr4.Tries), .d (.int .i64 vr4.Kept), .mapp 1, .d (.int .i64 vx55_1)]), (1, [.mapc .str true (List.map (encM D.str api_Note.enc) vm23_1)]), (2, [.d (.int .i64 vr4.Room), .d (.int .i64 vr4.Timeout), .d (.int .i64 vr4.Tries), .d (.int .i64 vr4.Kept), .mapp 3, .d (.int .i64 vx56_1)]), (3, [.mapc .str true (List.map (encM D.str api_Note.enc) vm24_1)])]⟩ (tl [(5, .v (.one (.box 0 0))), (7, .v (.one (.box 2 0))), (9, .v (.one (.d (.int .i64 vx57_1))))]) 4

theorem z317 (vr4 : api_Post) (vm23_1 : List (List UInt8 × api_Note)) (vx55_1 : Int) (vm24_1 : List (List UInt8 × api_Note)) (vx56_1 : Int) (vx57_1 : Int) {r} (hF : z313 vr4 vm23_1 vx55_1 vx57_1 = some r) : Awp prog 0 153 (cL (cR (cR (cR (cR (cR (cR (cR (cR (cB f4)))))))))) (Out 0 z316 (z315 vr4 vm23_1 vx55_1 vm24_1 vx56_1 vx57_1) r) (z314 vr4 vm23_1 vx55_1 vm24_1 vx56_1 vx57_1) := by
  unfold z313 at hF
  refine bE hF fun x h39 hF => ?_
  rcases x with vr1_1 | ⟨vm25, vr2_1⟩
  · refine awp_region ?_
    refine aR 2 ?_
    refine aC (z201 h39) [] [] [] ?_
    refine aR 5 ?_
    refine aE ?_
    exact oO hF [(0, 2), (1, 3)] [] rfl
  · refine awp_region ?_
    refine aR 2 ?_
    refine aC (z201 h39) [] [] [] ?_
    refine aR 5 ?_
    refine aE ?_
    exact oO hF [(0, 2), (1, 3)] [] rfl

def z321 : (Int × (List api_Note)) → AEx
  | _ => .normal

def z320 (vr4 : api_Post) (vm24_1 : List (List UInt8 × api_Note)) (vx56_1 : Int) (vx57_1 : Int) (vx58_1 : Int) (vx59_1 : List api_Note) : (Int × (List api_Note)) → St
  | (vx60, vx61) => Mem.st ⟨[], []⟩ (tl [(6, .v (.one (.d (.int .i64 vx58_1)))), (8, .v (.one (.d (.int .i64 vx60)))), (19, .v (.one (.d (.lst (List.map api_Note.enc vx59_1))))), (20, .v (.one (.d (.lst (List.map api_Note.enc vx61)))))]) 0

def z319 (vr4 : api_Post) (vm24_1 : List (List UInt8 × api_Note)) (vx56_1 : Int) (vx57_1 : Int) (vx58_1 : Int) (vx59_1 : List api_Note) : St := Mem.st ⟨[], [(0, [.d (.int .i64 vr4.Room), .d (.int .i64 vr4.Timeout), .d (.int .i64 vr4.Tries), .d (.int .i64 vr4.Kept), .mapp 1, .d (.int .i64 vx56_1)]), (1, [.mapc .str true (List.map (encM D.str api_Note.enc) vm24_1)])]⟩ (tl [(6, .v (.one (.d (.int .i64 vx58_1)))), (7, .v (.one (.box 0 0))), (9, .v (.one (.d (.int .i64 vx57_1)))), (19, .v (.one (.d (.lst (List.map api_Note.enc vx59_1)))))]) 2

theorem z322 (vr4 : api_Post) (vm24_1 : List (List UInt8 × api_Note)) (vx56_1 : Int) (vx57_1 : Int) (vx58_1 : Int) (vx59_1 : List api_Note) {r} (hF : z318 vr4 vm24_1 vx56_1 vx57_1 = some r) : Awp prog 0 153 (cL (cR (cR (cR (cR (cR (cR (cR (cR (cR (cB f4))))))))))) (Out 0 z321 (z320 vr4 vm24_1 vx56_1 vx57_1 vx58_1 vx59_1) r) (z319 vr4 vm24_1 vx56_1 vx57_1 vx58_1 vx59_1) := by
  unfold z318 at hF
  refine bE hF fun x h41 hF => ?_
  rcases x with vr1_2 | ⟨vm26, vr2_2⟩
  · refine awp_region ?_
    refine aR 2 ?_
    refine aC (z201 h41) [] [] [] ?_
    refine aR 5 ?_
    refine aE ?_
    exact oO hF [] [] rfl
  · refine awp_region ?_
    refine aR 2 ?_
    refine aC (z201 h41) [] [] [] ?_
    refine aR 5 ?_
    refine aE ?_
    exact oO hF [] [] rfl

def z326 : Bool → AEx
  | _ => .normal

def z325 (vx58_1 : Int) (vx59_1 : List api_Note) (vx60_1 : Int) (vx61_1 : List api_Note) : Bool → St
  | vx62 => Mem.st ⟨[], []⟩ (tl [(2, .v (.one (.d (.bool vx62))))]) 0

def z324 (vx58_1 : Int) (vx59_1 : List api_Note) (vx60_1 : Int) (vx61_1 : List api_Note) : St := Mem.st ⟨[], []⟩ (tl [(6, .v (.one (.d (.int .i64 vx58_1)))), (8, .v (.one (.d (.int .i64 vx60_1)))), (19, .v (.one (.d (.lst (List.map api_Note.enc vx59_1))))), (20, .v (.one (.d (.lst (List.map api_Note.enc vx61_1)))))]) 0

theorem z327 (vx58_1 : Int) (vx59_1 : List api_Note) (vx60_1 : Int) (vx61_1 : List api_Note) {r} (hF : z323 vx58_1 vx59_1 vx60_1 vx61_1 = some r) : Awp prog 0 153 (cL (cR (cR (cR (cR (cR (cR (cR (cR (cR (cR (cB f4)))))))))))) (Out 0 z326 (z325 vx58_1 vx59_1 vx60_1 vx61_1) r) (z324 vx58_1 vx59_1 vx60_1 vx61_1) := by
  unfold z323 at hF
  refine cE hF (fun h43 hF => ?_) fun h43 hF => ?_
  · refine cE hF (fun h44 hF => ?_) fun h44 hF => ?_
    · refine bE hF fun vr11 h45 hF => ?_
      refine cE hF (fun h46 hF => ?_) fun h46 hF => ?_
      · refine bE hF fun vr9_1 h47 hF => ?_
        refine awp_region ?_
        refine aR 1 ?_
        refine aB h43 ?_
        refine aR 2 ?_
        refine aB h44 ?_
        refine aR 4 ?_
        refine aCb (z566 h45) [] [] [] h46 ?_
        refine aR 2 ?_
        refine aC (z382 h47) [] [] [] ?_
        refine aR 2 ?_
        refine aE ?_
        exact oO hF [] [] rfl
      · refine awp_region ?_
        refine aR 1 ?_
        refine aB h43 ?_
        refine aR 2 ?_
        refine aB h44 ?_
        refine aR 4 ?_
        refine aCb (z566 h45) [] [] [] h46 ?_
        refine aR 5 ?_
        refine aE ?_
        exact oO hF [] [] rfl
    · refine awp_region ?_
      refine aR 1 ?_
      refine aB h43 ?_
      refine aR 2 ?_
      refine aB h44 ?_
      refine aR 10 ?_
      refine aE ?_
      exact oO hF [] [] rfl
  · refine awp_region ?_
    refine aR 1 ?_
    refine aB h43 ?_
    refine aR 13 ?_
    refine aE ?_
    exact oO hF [] [] rfl

def z301 (qx : List Int) (r : Bool) : TV × Mem := (.v (.one (.d (.bool r))), ⟨[], []⟩)

theorem fleetkeep2_AgesInSteps_ok {qx : List Int} {r} (hF : fleetkeep2_AgesInSteps qx = some r) : Holds prog 4 [.v (.one (.d (.lst (List.map (encI .i64) qx))))] ⟨[], []⟩ (Is (z301 qx r)) := by
  unfold fleetkeep2_AgesInSteps at hF
  refine holds_of_awp hΓ (fn := f4) (c := cB f4) (A := 0) (nx := 0) (by kernel_rfl) (by kernel_rfl) (by kernel_rfl) (by kernel_rfl) (by kernel_rfl) (by kernel_rfl) (lowc_of (by kernel_rfl)) ?_
  show Awp prog 0 153 (cB f4) _ _
  refine awp_seq ?_
  refine awp_region ?_
  refine aR 1 ?_
  refine aE ?_
  refine awp_seq ?_
  refine awp_region ?_
  refine aR 4 ?_
  refine aE ?_
  refine awp_seq ?_
  refine bE hF fun vr4 h1 hF => ?_
  refine awp_region ?_
  refine aR 1 ?_
  refine aC (z411 h1) [(0, 3000)] [] [] ?_
  refine aR 2 ?_
  refine aE ?_
  refine awp_seq ?_
  refine bE hF fun x h2 hF => ?_
  rcases x with vr | _
  · refine awp_region ?_
    refine aR 1 ?_
    refine aC (z182 h2) [] [] [] ?_
    refine aR 5 ?_
    refine aE ?_
    refine awp_seq ?_
    refine awp_region ?_
    refine aR 1 ?_
    refine aC (z182 h2) [] [] [] ?_
    refine aR 5 ?_
    refine aE ?_
    refine awp_seq ?_
    refine awp_seq ?_
    refine awp_to (st' := z328 qx vr) (oT [(0, 3000)] []) ?_
    refine bE hF fun _ h4 hF => ?_
    refine awp_sub (z331 qx vr h4) ?_
    refine awp_true (by kernel_rfl) rfl ?_
    refine awp_seq ?_
    refine awp_region ?_
    refine aR 1 ?_
    refine aE ?_
    refine awp_ret ?_
    exact oF hF [] []
  · refine awp_region ?_
    refine aR 1 ?_
    refine aC (z182 h2) [] [] [] ?_
    refine aR 5 ?_
    refine aE ?_
    refine awp_seq ?_
    refine awp_region ?_
    refine aR 1 ?_
    refine aC (z182 h2) [] [] [] ?_
    refine aR 5 ?_
    refine aE ?_
    refine awp_seq ?_
    refine awp_seq ?_
    refine awp_to (st' := z333 qx vr4) (oT [(0, 3000), (1, 10000), (2, 10001), (3, 17000), (4, 17001)] []) ?_
    refine bE hF fun vx1 h6 hF => ?_
    refine awp_sub (z336 qx vr4 h6) ?_
    refine cE hF (fun h7 hF => ?_) fun h7 hF => ?_
    · refine awp_true (by kernel_rfl) h7 ?_
      refine awp_seq ?_
      refine awp_region ?_
      refine aR 1 ?_
      refine aE ?_
      refine awp_ret ?_
      exact oF hF [] []
    · refine awp_false (by kernel_rfl) h7 ?_
      refine awp_skip ?_
      refine awp_seq ?_
      refine awp_region ?_
      refine aR 1 ?_
      refine aE ?_
      refine awp_seq ?_
      refine awp_seq ?_
      refine bE hF fun x h8 hF => ?_
      obtain ⟨vs, vr1⟩ := x
      refine awp_region ?_
      refine aR 1 ?_
      refine aC (z405 h8) [] [] [] ?_
      refine aR 1 ?_
      refine aE ?_
      refine awp_block ?_
      refine awp_to (st' := z338 vr4 vr1 (vs, ([] : List (List UInt8 × api_Note)), 0, ([] : List (List UInt8 × api_Note)), 0, 0, 0)) (oT [] []) ?_
      refine bE hF fun x h38 hF => ?_
      rcases x with ⟨vm23_1, vx55_1, vm24_1, vx56_1, vx57_1⟩ | _
      · refine awp_sub (awp_loop' (z338 vr4 vr1) z340 (z339 vr4 vr1) (by intro x; rcases x with x | x <;> exact fun h => nomatch h) h38 (z341 vr4 vr1)) ?_
        refine awp_seq ?_
        refine awp_to (st' := z314 vr4 vm23_1 vx55_1 vm24_1 vx56_1 vx57_1) (oT [] []) ?_
        refine bE hF fun x h40 hF => ?_
        obtain ⟨vx58_1, vx59_1⟩ := x
        refine awp_sub (z317 vr4 vm23_1 vx55_1 vm24_1 vx56_1 vx57_1 h40) ?_
        refine awp_seq ?_
        refine awp_to (st' := z319 vr4 vm24_1 vx56_1 vx57_1 vx58_1 vx59_1) (oT [] []) ?_
        refine bE hF fun x h42 hF => ?_
        obtain ⟨vx60_1, vx61_1⟩ := x
        refine awp_sub (z322 vr4 vm24_1 vx56_1 vx57_1 vx58_1 vx59_1 h42) ?_
        refine awp_seq ?_
        refine awp_to (st' := z324 vx58_1 vx59_1 vx60_1 vx61_1) (oT [] []) ?_
        refine bE hF fun vx62_1 h48 hF => ?_
        refine awp_sub (z327 vx58_1 vx59_1 vx60_1 vx61_1 h48) ?_
        refine awp_ret ?_
        exact oF hF [] []
      · refine awp_sub (awp_loop' (z338 vr4 vr1) z340 (z339 vr4 vr1) (by intro x; rcases x with x | x <;> exact fun h => nomatch h) h38 (z341 vr4 vr1)) ?_
        exact oF hF [] []

end Go.Eng
