/-
The code of the Go functions that the law DevicesRemember reaches does what the plain functions say, part 2.
-/
import Derived.Test.YtfbeijbgfhelfaaGreatDoorGenP1

namespace Go.Eng

open Go Go.Proofs.Tryz

set_option linter.unusedVariables false

set_option maxRecDepth 20000

set_option maxHeartbeats 0

/-! ### (*beaconfleet/fleetref2.Hand).Done -/
def fleetref2_Hand_Done_x1_k : (List (List UInt8)) → AEx
  | _ => .exit 0

def fleetref2_Hand_Done_x1_S (qh : fleetref2_Hand) : (List (List UInt8)) → St
  | vout1 => Mem.st ⟨[(1, ⟨9, 1, List.map encS vout1⟩)], [(0, [.d (.int .i64 qh.Most), .d (.lst (List.map api_Letter.enc qh.L)), .d (.int .i64 qh.time_)])]⟩ (tl [(3, .v (.one (.own 1 none)))]) 2

def fleetref2_Hand_Done_x1_H (qh : fleetref2_Hand) : (List (List UInt8)) × Int → St
  | (vout, vx) => Mem.st ⟨[(1, ⟨9, 1, List.map encS vout⟩)], [(0, [.d (.int .i64 qh.Most), .d (.lst (List.map api_Letter.enc qh.L)), .d (.int .i64 qh.time_)])]⟩ (tl [(3, .v (.one (.own 1 none))), (9, .v (.one (.d (.lst (List.map api_Letter.enc qh.L))))), (10, .v (.one (.d (.int .i64 (qh.L.length : Int))))), (11, .v (.one (.d (.int .i64 vx))))]) 2

theorem fleetref2_Hand_Done_x1_ok (qh : fleetref2_Hand) (s : (List (List UInt8)) × Int) (r : ((List (List UInt8)) × Int) ⊕ ((List (List UInt8)))) (hF : fleetref2_Hand_Done_x1 qh s = some r) : Awp prog 1 22 (cL (cL (cR (cL (cR (cR (cB f20))))))) (Out 1 (kk fleetref2_Hand_Done_x1_k) (SS (fleetref2_Hand_Done_x1_H qh) (fleetref2_Hand_Done_x1_S qh)) r) (fleetref2_Hand_Done_x1_H qh s) := by
  obtain ⟨vout, vx⟩ := s
  unfold fleetref2_Hand_Done_x1 at hF
  refine awp_seq ?_
  refine awp_region ?_
  refine aR 1 ?_
  refine aE ?_
  refine awp_seq ?_
  refine cE hF (fun h1 hF => ?_) fun h1 hF => ?_
  · refine awp_true (by kernel_rfl) h1 ?_
    refine awp_skip ?_
    refine awp_seq ?_
    refine awp_block ?_
    refine awp_seq ?_
    refine bE hF fun vy1 h2 hF => ?_
    refine awp_region ?_
    refine aX (x_idx api_Letter.enc h2) ?_
    refine aR 3 ?_
    refine aE ?_
    refine gE hF fun h3 hF => ?_
    refine awp_region ?_
    refine aR 4 ?_
    refine aX (x_app encS 1 h3) ?_
    refine aR 1 ?_
    refine aE ?_
    refine awp_region ?_
    refine aR 2 ?_
    refine aE ?_
    exact oO hF [(1, 9002)] [] rfl
  · refine awp_false (by kernel_rfl) h1 ?_
    refine awp_exit ?_
    exact oO hF [] [] rfl

def fleetref2_Hand_Done_R (qh : fleetref2_Hand) (r : (List (List UInt8))) : TV × Mem := (.v (.one (.own 1 none)), ⟨[(1, ⟨9, 1, List.map encS r⟩)], [(0, [.d (.int .i64 qh.Most), .d (.lst (List.map api_Letter.enc qh.L)), .d (.int .i64 qh.time_)])]⟩)

theorem fleetref2_Hand_Done_ok {qh : fleetref2_Hand} {r} (hF : fleetref2_Hand_Done qh = some r) : Holds prog 20 [.v (.one (.box 0 0))] ⟨[], [(0, [.d (.int .i64 qh.Most), .d (.lst (List.map api_Letter.enc qh.L)), .d (.int .i64 qh.time_)])]⟩ (Is (fleetref2_Hand_Done_R qh r)) := by
  unfold fleetref2_Hand_Done at hF
  refine holds_of_awp hΓ (fn := f20) (c := cB f20) (A := 1) (nx := 1) (by kernel_rfl) (by kernel_rfl) (by kernel_rfl) (by kernel_rfl) (by kernel_rfl) (by kernel_rfl) (lowc_of (by kernel_rfl)) ?_
  show Awp prog 1 22 (cB f20) _ _
  refine awp_seq ?_
  refine awp_region ?_
  refine aR 1 ?_
  refine aE ?_
  refine awp_seq ?_
  refine awp_region ?_
  refine aR 1 ?_
  refine aE ?_
  refine awp_seq ?_
  refine awp_seq ?_
  refine awp_region ?_
  refine aR 4 ?_
  refine aL api_Letter.enc qh.L ?_
  refine aR 1 ?_
  refine aE ?_
  refine awp_block ?_
  refine awp_to (st' := fleetref2_Hand_Done_x1_H qh ([], 0)) (oT [] [1]) ?_
  refine bE hF fun vout1_1 h4 hF => ?_
  refine awp_sub (awp_loop' (fleetref2_Hand_Done_x1_H qh) fleetref2_Hand_Done_x1_k (fleetref2_Hand_Done_x1_S qh) (by intro x; exact fun h => nomatch h) h4 (fleetref2_Hand_Done_x1_ok qh)) ?_
  refine awp_seq ?_
  refine awp_region ?_
  refine aR 2 ?_
  refine aE ?_
  refine awp_ret ?_
  exact oF hF [] []

/-! ### slices.Equal[[]string,string] -/
def slices_Equal_string_string_x1_k : Unit ⊕ Unit → AEx
  | .inl _ => .exit 0
  | .inr _ => .ret

def slices_Equal_string_string_x1_S (qs1 : List (List UInt8)) (qs2 : List (List UInt8)) : Unit ⊕ Unit → St
  | .inl _ => Mem.st ⟨[], []⟩ (tl []) 0
  | .inr _ => Mem.st ⟨[], []⟩ (tl [(4, .v (.one (.d (.bool false))))]) 0

def slices_Equal_string_string_x1_H (qs1 : List (List UInt8)) (qs2 : List (List UInt8)) : Int → St
  | vx => Mem.st ⟨[], []⟩ (tl [(0, .v (.one (.d (.lst (List.map encS qs1))))), (1, .v (.one (.d (.lst (List.map encS qs2))))), (12, .v (.one (.d (.int .i64 (qs1.length : Int))))), (13, .v (.one (.d (.int .i64 vx))))]) 0

theorem slices_Equal_string_string_x1_ok (qs1 : List (List UInt8)) (qs2 : List (List UInt8)) (vx : Int) (r : (Int) ⊕ (Unit ⊕ Unit)) (hF : slices_Equal_string_string_x1 qs1 qs2 vx = some r) : Awp prog 0 26 (cL (cL (cR (cL (cR (cR (cB f18))))))) (Out 0 (kk slices_Equal_string_string_x1_k) (SS (slices_Equal_string_string_x1_H qs1 qs2) (slices_Equal_string_string_x1_S qs1 qs2)) r) (slices_Equal_string_string_x1_H qs1 qs2 vx) := by
  unfold slices_Equal_string_string_x1 at hF
  refine awp_seq ?_
  refine awp_region ?_
  refine aR 1 ?_
  refine aE ?_
  refine awp_seq ?_
  refine cE hF (fun h2 hF => ?_) fun h2 hF => ?_
  · refine awp_true (by kernel_rfl) h2 ?_
    refine awp_skip ?_
    refine awp_seq ?_
    refine awp_block ?_
    refine awp_seq ?_
    refine awp_region ?_
    refine aR 2 ?_
    refine aE ?_
    refine awp_seq ?_
    refine bE hF fun vy2 h3 hF => ?_
    refine bE hF fun vy3 h4 hF => ?_
    refine aD ?_
    refine dR 2 ?_
    refine dX (x_idx encS h3) ?_
    refine dR 3 ?_
    refine dX (x_idx encS h4) ?_
    refine dR 2 ?_
    refine dE ?_
    refine cE hF (fun h5 hF => ?_) fun h5 hF => ?_
    · refine awp_true (by kernel_rfl) h5 ?_
      refine awp_seq ?_
      refine awp_region ?_
      refine aR 1 ?_
      refine aE ?_
      refine awp_ret ?_
      exact oO hF [] [] rfl
    · refine awp_false (by kernel_rfl) h5 ?_
      refine awp_skip ?_
      refine awp_region ?_
      refine aR 2 ?_
      refine aE ?_
      exact oO hF [] [] rfl
  · refine awp_false (by kernel_rfl) h2 ?_
    refine awp_exit ?_
    exact oO hF [] [] rfl

def slices_Equal_string_string_R (qs1 : List (List UInt8)) (qs2 : List (List UInt8)) (r : Bool) : TV × Mem := (.v (.one (.d (.bool r))), ⟨[], []⟩)

theorem slices_Equal_string_string_ok {qs1 : List (List UInt8)} {qs2 : List (List UInt8)} {r} (hF : slices_Equal_string_string qs1 qs2 = some r) : Holds prog 18 [.v (.one (.d (.lst (List.map encS qs1)))), .v (.one (.d (.lst (List.map encS qs2))))] ⟨[], []⟩ (Is (slices_Equal_string_string_R qs1 qs2 r)) := by
  unfold slices_Equal_string_string at hF
  refine holds_of_awp hΓ (fn := f18) (c := cB f18) (A := 0) (nx := 0) (by kernel_rfl) (by kernel_rfl) (by kernel_rfl) (by kernel_rfl) (by kernel_rfl) (by kernel_rfl) (lowc_of (by kernel_rfl)) ?_
  show Awp prog 0 26 (cB f18) _ _
  refine awp_seq ?_
  refine awp_region ?_
  refine aR 1 ?_
  refine aE ?_
  refine awp_seq ?_
  refine awp_seq ?_
  refine awp_region ?_
  refine aR 1 ?_
  refine aL encS qs1 ?_
  refine aR 1 ?_
  refine aL encS qs2 ?_
  refine aR 1 ?_
  refine aE ?_
  refine cE hF (fun h1 hF => ?_) fun h1 hF => ?_
  · refine awp_true (by kernel_rfl) h1 ?_
    refine awp_seq ?_
    refine awp_region ?_
    refine aR 1 ?_
    refine aE ?_
    refine awp_ret ?_
    exact oF hF [] []
  · refine awp_false (by kernel_rfl) h1 ?_
    refine awp_skip ?_
    refine awp_seq ?_
    refine awp_seq ?_
    refine awp_region ?_
    refine aR 1 ?_
    refine aL encS qs1 ?_
    refine aR 1 ?_
    refine aE ?_
    refine awp_block ?_
    refine awp_to (st' := slices_Equal_string_string_x1_H qs1 qs2 0) (oT [] []) ?_
    refine bE hF fun x h6 hF => ?_
    rcases x with _ | _
    · refine awp_sub (awp_loop' (slices_Equal_string_string_x1_H qs1 qs2) slices_Equal_string_string_x1_k (slices_Equal_string_string_x1_S qs1 qs2) (by intro x; rcases x with x | x <;> exact fun h => nomatch h) h6 (slices_Equal_string_string_x1_ok qs1 qs2)) ?_
      refine awp_seq ?_
      refine awp_region ?_
      refine aR 1 ?_
      refine aE ?_
      refine awp_ret ?_
      exact oF hF [] []
    · refine awp_sub (awp_loop' (slices_Equal_string_string_x1_H qs1 qs2) slices_Equal_string_string_x1_k (slices_Equal_string_string_x1_S qs1 qs2) (by intro x; rcases x with x | x <;> exact fun h => nomatch h) h6 (slices_Equal_string_string_x1_ok qs1 qs2)) ?_
      exact oF hF [] []

/-! ### beaconfleet/fleetlaw2.DevicesRemember -/
def fleetlaw2_DevicesRemember_x1_k : Int → AEx
  | _ => .normal

def fleetlaw2_DevicesRemember_x1_S (qx : List Int) (vr : Int) : Int → St
  | vx => Mem.st ⟨[], [(0, [.d (.lst (List.map (encI .i64) qx)), .d (.int .i64 (IntKind.wrap .i64 (0 + 1)))])]⟩ (tl [(3, .v (.one (.box 0 0))), (4, .v (.one (.d (.int .i64 vr)))), (5, .v (.one (.nilp))), (6, .v (.one (.d (.int .i64 1)))), (7, .v (.one (.d (.int .i64 vx))))]) 1

def fleetlaw2_DevicesRemember_x1_I (qx : List Int) (vr : Int) : St := Mem.st ⟨[], [(0, [.d (.lst (List.map (encI .i64) qx)), .d (.int .i64 (IntKind.wrap .i64 (0 + 1)))])]⟩ (tl [(3, .v (.one (.box 0 0))), (4, .v (.one (.d (.int .i64 vr)))), (5, .v (.one (.nilp))), (6, .v (.one (.d (.int .i64 1))))]) 1

theorem fleetlaw2_DevicesRemember_x1_ok (qx : List Int) (vr : Int) {r} (hF : fleetlaw2_DevicesRemember_x1 vr = some r) : Awp prog 0 113 (cL (cL (cR (cR (cR (cR (cB f3))))))) (Out 0 fleetlaw2_DevicesRemember_x1_k (fleetlaw2_DevicesRemember_x1_S qx vr) r) (fleetlaw2_DevicesRemember_x1_I qx vr) := by
  unfold fleetlaw2_DevicesRemember_x1 at hF
  refine cE hF (fun h3 hF => ?_) fun h3 hF => ?_
  · refine bE hF fun vr1 h4 hF => ?_
    refine awp_region ?_
    refine aR 1 ?_
    refine aB h3 ?_
    refine aR 4 ?_
    refine aC (fleetlaw2_when_ok h4) [] [] [] ?_
    refine aR 1 ?_
    refine aE ?_
    exact oO hF [] [] rfl
  · refine bE hF fun vr2 h5 hF => ?_
    refine awp_region ?_
    refine aR 1 ?_
    refine aB h3 ?_
    refine aR 4 ?_
    refine aC (fleetlaw2_when_ok h5) [] [] [] ?_
    refine aR 1 ?_
    refine aE ?_
    exact oO hF [] [] rfl

def fleetlaw2_DevicesRemember_x2_k : Bool → AEx
  | _ => .normal

def fleetlaw2_DevicesRemember_x2_S (qx : List Int) (vr : Int) (vx1 : Int) : Bool → St
  | vx2 => Mem.st ⟨[], [(0, [.d (.lst (List.map (encI .i64) qx)), .d (.int .i64 (IntKind.wrap .i64 (0 + 1)))])]⟩ (tl [(3, .v (.one (.box 0 0))), (4, .v (.one (.d (.int .i64 vr)))), (5, .v (.one (.nilp))), (6, .v (.one (.d (.int .i64 1)))), (7, .v (.one (.d (.int .i64 vx1)))), (40, .v (.one (.d (.bool vx2))))]) 1

def fleetlaw2_DevicesRemember_x2_I (qx : List Int) (vr : Int) (vx1 : Int) : St := Mem.st ⟨[], [(0, [.d (.lst (List.map (encI .i64) qx)), .d (.int .i64 (IntKind.wrap .i64 (0 + 1)))])]⟩ (tl [(3, .v (.one (.box 0 0))), (4, .v (.one (.d (.int .i64 vr)))), (5, .v (.one (.nilp))), (6, .v (.one (.d (.int .i64 1)))), (7, .v (.one (.d (.int .i64 vx1))))]) 1

theorem fleetlaw2_DevicesRemember_x2_ok (qx : List Int) (vr : Int) (vx1 : Int) {r} (hF : fleetlaw2_DevicesRemember_x2 vx1 = some r) : Awp prog 0 113 (cL (cR (cL (cR (cR (cR (cR (cB f3)))))))) (Out 0 fleetlaw2_DevicesRemember_x2_k (fleetlaw2_DevicesRemember_x2_S qx vr vx1) r) (fleetlaw2_DevicesRemember_x2_I qx vr vx1) := by
  unfold fleetlaw2_DevicesRemember_x2 at hF
  refine cE hF (fun h7 hF => ?_) fun h7 hF => ?_
  · refine awp_region ?_
    refine aR 2 ?_
    refine aB h7 ?_
    refine aR 4 ?_
    refine aE ?_
    exact oO hF [] [] rfl
  · refine awp_region ?_
    refine aR 2 ?_
    refine aB h7 ?_
    refine aR 4 ?_
    refine aE ?_
    exact oO hF [] [] rfl

def fleetlaw2_DevicesRemember_x3_k : Bool → AEx
  | _ => .normal

def fleetlaw2_DevicesRemember_x3_S (vx1 : Int) : Bool → St
  | vx3 => Mem.st ⟨[], []⟩ (tl [(2, .v (.one (.d (.bool vx3))))]) 0

def fleetlaw2_DevicesRemember_x3_I (vx1 : Int) : St := Mem.st ⟨[], []⟩ (tl [(5, .v (.one (.nilp))), (6, .v (.one (.d (.int .i64 1)))), (7, .v (.one (.d (.int .i64 vx1))))]) 0

theorem fleetlaw2_DevicesRemember_x3_ok (vx1 : Int) {r} (hF : fleetlaw2_DevicesRemember_x3 vx1 = some r) : Awp prog 0 113 (cL (cL (cR (cR (cL (cR (cR (cR (cR (cB f3)))))))))) (Out 0 fleetlaw2_DevicesRemember_x3_k (fleetlaw2_DevicesRemember_x3_S vx1) r) (fleetlaw2_DevicesRemember_x3_I vx1) := by
  unfold fleetlaw2_DevicesRemember_x3 at hF
  refine cE hF (fun h10 hF => ?_) fun h10 hF => ?_
  · refine bE hF fun vr1_1 h11 hF => ?_
    refine awp_region ?_
    refine aR 2 ?_
    refine aB h10 ?_
    refine aR 5 ?_
    refine aC (fleetlaw2_posted_ok h11) [] [] [] ?_
    refine aR 2 ?_
    refine aE ?_
    exact oO hF [] [] rfl
  · refine awp_region ?_
    refine aR 2 ?_
    refine aB h10 ?_
    refine aR 8 ?_
    refine aE ?_
    exact oO hF [] [] rfl

def fleetlaw2_DevicesRemember_x4_k : Int → AEx
  | _ => .normal

def fleetlaw2_DevicesRemember_x4_S (qx : List Int) (vr : Int) : Int → St
  | vx4 => Mem.st ⟨[], [(0, [.d (.lst (List.map (encI .i64) qx)), .d (.int .i64 (IntKind.wrap .i64 (0 + 1)))]), (1, [.d (.int .i64 vr), .nil, .d (.int .i64 0)])]⟩ (tl [(3, .v (.one (.box 0 0))), (4, .v (.one (.d (.int .i64 vr)))), (5, .v (.one (.box 1 0))), (6, .v (.one (.d (.int .i64 0)))), (7, .v (.one (.d (.int .i64 vx4))))]) 2

def fleetlaw2_DevicesRemember_x4_I (qx : List Int) (vr : Int) : St := Mem.st ⟨[], [(0, [.d (.lst (List.map (encI .i64) qx)), .d (.int .i64 (IntKind.wrap .i64 (0 + 1)))]), (1, [.d (.int .i64 vr), .nil, .d (.int .i64 0)])]⟩ (tl [(3, .v (.one (.box 0 0))), (4, .v (.one (.d (.int .i64 vr)))), (5, .v (.one (.box 1 0))), (6, .v (.one (.d (.int .i64 0))))]) 2

theorem fleetlaw2_DevicesRemember_x4_ok (qx : List Int) (vr : Int) {r} (hF : fleetlaw2_DevicesRemember_x4 vr = some r) : Awp prog 0 113 (cL (cL (cR (cR (cR (cR (cB f3))))))) (Out 0 fleetlaw2_DevicesRemember_x4_k (fleetlaw2_DevicesRemember_x4_S qx vr) r) (fleetlaw2_DevicesRemember_x4_I qx vr) := by
  unfold fleetlaw2_DevicesRemember_x4 at hF
  refine cE hF (fun h13 hF => ?_) fun h13 hF => ?_
  · refine bE hF fun vr3 h14 hF => ?_
    refine awp_region ?_
    refine aR 1 ?_
    refine aB h13 ?_
    refine aR 4 ?_
    refine aC (fleetlaw2_when_ok h14) [] [] [] ?_
    refine aR 1 ?_
    refine aE ?_
    exact oO hF [] [] rfl
  · refine bE hF fun vr4 h15 hF => ?_
    refine awp_region ?_
    refine aR 1 ?_
    refine aB h13 ?_
    refine aR 4 ?_
    refine aC (fleetlaw2_when_ok h15) [] [] [] ?_
    refine aR 1 ?_
    refine aE ?_
    exact oO hF [] [] rfl

def fleetlaw2_DevicesRemember_x5_k : Bool → AEx
  | _ => .normal

def fleetlaw2_DevicesRemember_x5_S (qx : List Int) (vr : Int) (vx4_1 : Int) : Bool → St
  | vx5 => Mem.st ⟨[], [(0, [.d (.lst (List.map (encI .i64) qx)), .d (.int .i64 (IntKind.wrap .i64 (0 + 1)))]), (1, [.d (.int .i64 vr), .nil, .d (.int .i64 0)])]⟩ (tl [(3, .v (.one (.box 0 0))), (4, .v (.one (.d (.int .i64 vr)))), (5, .v (.one (.box 1 0))), (6, .v (.one (.d (.int .i64 0)))), (7, .v (.one (.d (.int .i64 vx4_1)))), (40, .v (.one (.d (.bool vx5))))]) 2

def fleetlaw2_DevicesRemember_x5_I (qx : List Int) (vr : Int) (vx4_1 : Int) : St := Mem.st ⟨[], [(0, [.d (.lst (List.map (encI .i64) qx)), .d (.int .i64 (IntKind.wrap .i64 (0 + 1)))]), (1, [.d (.int .i64 vr), .nil, .d (.int .i64 0)])]⟩ (tl [(3, .v (.one (.box 0 0))), (4, .v (.one (.d (.int .i64 vr)))), (5, .v (.one (.box 1 0))), (6, .v (.one (.d (.int .i64 0)))), (7, .v (.one (.d (.int .i64 vx4_1))))]) 2

theorem fleetlaw2_DevicesRemember_x5_ok (qx : List Int) (vr : Int) (vx4_1 : Int) {r} (hF : fleetlaw2_DevicesRemember_x5 vx4_1 = some r) : Awp prog 0 113 (cL (cR (cL (cR (cR (cR (cR (cB f3)))))))) (Out 0 fleetlaw2_DevicesRemember_x5_k (fleetlaw2_DevicesRemember_x5_S qx vr vx4_1) r) (fleetlaw2_DevicesRemember_x5_I qx vr vx4_1) := by
  unfold fleetlaw2_DevicesRemember_x5 at hF
  refine cE hF (fun h17 hF => ?_) fun h17 hF => ?_
  · refine awp_region ?_
    refine aR 2 ?_
    refine aB h17 ?_
    refine aR 4 ?_
    refine aE ?_
    exact oO hF [] [] rfl
  · refine awp_region ?_
    refine aR 2 ?_
    refine aB h17 ?_
    refine aR 4 ?_
    refine aE ?_
    exact oO hF [] [] rfl

def fleetlaw2_DevicesRemember_x6_k : Unit → AEx
  | _ => .normal

def fleetlaw2_DevicesRemember_x6_S (vr : Int) (vx4_1 : Int) : Unit → St
  | _ => Mem.st ⟨[], []⟩ (tl [(2, .v (.one (.d (.bool false))))]) 0

def fleetlaw2_DevicesRemember_x6_I (vr : Int) (vx4_1 : Int) : St := Mem.st ⟨[], [(0, [.d (.int .i64 vr), .nil, .d (.int .i64 0)])]⟩ (tl [(5, .v (.one (.box 0 0))), (6, .v (.one (.d (.int .i64 0)))), (7, .v (.one (.d (.int .i64 vx4_1))))]) 1

theorem fleetlaw2_DevicesRemember_x6_ok (vr : Int) (vx4_1 : Int) {r} (hF : fleetlaw2_DevicesRemember_x6 vx4_1 = some r) : Awp prog 0 113 (cL (cL (cR (cR (cL (cR (cR (cR (cR (cB f3)))))))))) (Out 0 fleetlaw2_DevicesRemember_x6_k (fleetlaw2_DevicesRemember_x6_S vr vx4_1) r) (fleetlaw2_DevicesRemember_x6_I vr vx4_1) := by
  unfold fleetlaw2_DevicesRemember_x6 at hF
  refine cE hF (fun h20 hF => ?_) fun h20 hF => ?_
  · refine awp_region ?_
    refine aR 2 ?_
    refine aB h20 ?_
    refine aR 8 ?_
    refine aE ?_
    exact oO hF [] [] rfl
  · refine awp_region ?_
    refine aR 2 ?_
    refine aB h20 ?_
    refine aR 8 ?_
    refine aE ?_
    exact oO hF [] [] rfl

def fleetlaw2_DevicesRemember_x8_k : (fleetmake_Stream × Int) → AEx
  | _ => .normal

def fleetlaw2_DevicesRemember_x8_S (vr5 : Int) (vx6 : fleetmake_Stream) (vx7 : command_Doer) (vx8 : fleetref2_Hand) (vx9 : Int) (vx10 : Int) (vr13 : Int) : (fleetmake_Stream × Int) → St
  | (vx14, vx15) => Mem.st ⟨[], [(0, [.d (.lst (List.map (encI .i64) vx14.L)), .d (.int .i64 vx14.at_)]), (1, [.d (.int .i64 vx7.most_), .d (.lst (List.map command_done.enc vx7.l_)), .d (.int .i64 vx7.time_)]), (2, [.d (.int .i64 vx8.Most), .d (.lst (List.map api_Letter.enc vx8.L)), .d (.int .i64 vx8.time_)])]⟩ (tl [(3, .v (.one (.box 0 0))), (5, .v (.one (.box 1 0))), (8, .v (.one (.box 2 0))), (9, .v (.one (.d (.int .i64 (IntKind.wrap .i64 (vx9 + vr13)))))), (10, .v (.one (.d (.int .i64 vx15)))), (57, .v (.one (.d (.int .i64 vr5)))), (58, .v (.one (.d (.int .i64 vx10))))]) 3

def fleetlaw2_DevicesRemember_x8_I (vr5 : Int) (vx6 : fleetmake_Stream) (vx7 : command_Doer) (vx8 : fleetref2_Hand) (vx9 : Int) (vx10 : Int) (vr13 : Int) : St := Mem.st ⟨[], [(0, [.d (.lst (List.map (encI .i64) vx6.L)), .d (.int .i64 (IntKind.wrap .i64 (vx6.at_ + 1)))]), (1, [.d (.int .i64 vx7.most_), .d (.lst (List.map command_done.enc vx7.l_)), .d (.int .i64 vx7.time_)]), (2, [.d (.int .i64 vx8.Most), .d (.lst (List.map api_Letter.enc vx8.L)), .d (.int .i64 vx8.time_)])]⟩ (tl [(3, .v (.one (.box 0 0))), (5, .v (.one (.box 1 0))), (8, .v (.one (.box 2 0))), (9, .v (.one (.d (.int .i64 (IntKind.wrap .i64 (vx9 + vr13)))))), (10, .v (.one (.d (.int .i64 (IntKind.wrap .i64 (vx9 + vr13)))))), (57, .v (.one (.d (.int .i64 vr5)))), (58, .v (.one (.d (.int .i64 vx10))))]) 3

theorem fleetlaw2_DevicesRemember_x8_ok (vr5 : Int) (vx6 : fleetmake_Stream) (vx7 : command_Doer) (vx8 : fleetref2_Hand) (vx9 : Int) (vx10 : Int) (vr13 : Int) {r} (hF : fleetlaw2_DevicesRemember_x8 vx6 vx9 vr13 = some r) : Awp prog 0 113 (cL (cR (cR (cL (cL (cR (cR (cL (cL (cR (cL (cR (cR (cR (cR (cR (cR (cR (cR (cB f3)))))))))))))))))))) (Out 0 fleetlaw2_DevicesRemember_x8_k (fleetlaw2_DevicesRemember_x8_S vr5 vx6 vx7 vx8 vx9 vx10 vr13) r) (fleetlaw2_DevicesRemember_x8_I vr5 vx6 vx7 vx8 vx9 vx10 vr13) := by
  unfold fleetlaw2_DevicesRemember_x8 at hF
  refine awp_seq ?_
  refine bE hF fun vr14 h25 hF => ?_
  refine awp_region ?_
  refine aR 1 ?_
  refine aC (fleetmake_Stream_Flip_ok h25) [] [] [] ?_
  refine aE ?_
  refine cE hF (fun h26 hF => ?_) fun h26 hF => ?_
  · refine awp_true (by kernel_rfl) h26 ?_
    refine bE hF fun vr15 h27 hF => ?_
    refine awp_region ?_
    refine aR 4 ?_
    refine aC (fleetmake_Stream_Pick_o1_ok h27) [(1, 5003)] [] [] ?_
    refine aR 1 ?_
    refine aE ?_
    exact oO hF [] [] rfl
  · refine awp_false (by kernel_rfl) h26 ?_
    refine awp_skip ?_
    exact oO hF [] [] rfl

def fleetlaw2_DevicesRemember_x9_k : Bool → AEx
  | _ => .normal

def fleetlaw2_DevicesRemember_x9_S (vr5 : Int) (vx7 : command_Doer) (vx8 : fleetref2_Hand) (vx9 : Int) (vx10 : Int) (vr13 : Int) (vs3_1 : fleetmake_Stream) (vs4 : List command_done) (vs1_3 : Int) (vr5_3 : Bool) (vr6_3 : Int) (vs5 : List api_Letter) (vs1_4 : Int) (vr5_4 : Bool) (vr6_4 : Int) : Bool → St
  | vx16 => Mem.st ⟨[], [(0, [.d (.lst (List.map (encI .i64) vs3_1.L)), .d (.int .i64 vs3_1.at_)]), (1, [.d (.int .i64 vx7.most_), .d (.lst (List.map command_done.enc vs4)), .d (.int .i64 vs1_3)]), (2, [.d (.int .i64 vx8.Most), .d (.lst (List.map api_Letter.enc vs5)), .d (.int .i64 vs1_4)])]⟩ (tl [(3, .v (.one (.box 0 0))), (5, .v (.one (.box 1 0))), (8, .v (.one (.box 2 0))), (9, .v (.one (.d (.int .i64 (IntKind.wrap .i64 (vx9 + vr13)))))), (57, .v (.one (.d (.int .i64 vr5)))), (58, .v (.one (.d (.int .i64 vx10)))), (110, .v (.one (.d (.bool vx16))))]) 3

def fleetlaw2_DevicesRemember_x9_I (vr5 : Int) (vx7 : command_Doer) (vx8 : fleetref2_Hand) (vx9 : Int) (vx10 : Int) (vr13 : Int) (vs3_1 : fleetmake_Stream) (vs4 : List command_done) (vs1_3 : Int) (vr5_3 : Bool) (vr6_3 : Int) (vs5 : List api_Letter) (vs1_4 : Int) (vr5_4 : Bool) (vr6_4 : Int) : St := Mem.st ⟨[], [(0, [.d (.lst (List.map (encI .i64) vs3_1.L)), .d (.int .i64 vs3_1.at_)]), (1, [.d (.int .i64 vx7.most_), .d (.lst (List.map command_done.enc vs4)), .d (.int .i64 vs1_3)]), (2, [.d (.int .i64 vx8.Most), .d (.lst (List.map api_Letter.enc vs5)), .d (.int .i64 vs1_4)])]⟩ (tl [(3, .v (.one (.box 0 0))), (5, .v (.one (.box 1 0))), (8, .v (.one (.box 2 0))), (9, .v (.one (.d (.int .i64 (IntKind.wrap .i64 (vx9 + vr13)))))), (12, .v (.one (.d (.bool vr5_3)))), (13, .v (.one (.d (.int .i64 vr6_3)))), (14, .v (.one (.d (.bool vr5_4)))), (15, .v (.one (.d (.int .i64 vr6_4)))), (57, .v (.one (.d (.int .i64 vr5)))), (58, .v (.one (.d (.int .i64 vx10))))]) 3

theorem fleetlaw2_DevicesRemember_x9_ok (vr5 : Int) (vx7 : command_Doer) (vx8 : fleetref2_Hand) (vx9 : Int) (vx10 : Int) (vr13 : Int) (vs3_1 : fleetmake_Stream) (vs4 : List command_done) (vs1_3 : Int) (vr5_3 : Bool) (vr6_3 : Int) (vs5 : List api_Letter) (vs1_4 : Int) (vr5_4 : Bool) (vr6_4 : Int) {r} (hF : fleetlaw2_DevicesRemember_x9 vx7 vx8 vs4 vs1_3 vr5_3 vr6_3 vs5 vs1_4 vr5_4 vr6_4 = some r) : Awp prog 0 113 (cL (cR (cR (cR (cR (cR (cR (cL (cL (cR (cR (cL (cL (cR (cL (cR (cR (cR (cR (cR (cR (cR (cR (cB f3)))))))))))))))))))))))) (Out 0 fleetlaw2_DevicesRemember_x9_k (fleetlaw2_DevicesRemember_x9_S vr5 vx7 vx8 vx9 vx10 vr13 vs3_1 vs4 vs1_3 vr5_3 vr6_3 vs5 vs1_4 vr5_4 vr6_4) r) (fleetlaw2_DevicesRemember_x9_I vr5 vx7 vx8 vx9 vx10 vr13 vs3_1 vs4 vs1_3 vr5_3 vr6_3 vs5 vs1_4 vr5_4 vr6_4) := by
  unfold fleetlaw2_DevicesRemember_x9 at hF
  refine cE hF (fun h33 hF => ?_) fun h33 hF => ?_
  · refine awp_region ?_
    refine aR 2 ?_
    refine aB h33 ?_
    refine aR 13 ?_
    refine aE ?_
    exact oO hF [] [] rfl
  · refine cE hF (fun h34 hF => ?_) fun h34 hF => ?_
    · refine awp_region ?_
      refine aR 2 ?_
      refine aB h33 ?_
      refine aR 3 ?_
      refine aB h34 ?_
      refine aR 9 ?_
      refine aE ?_
      exact oO hF [] [] rfl
    · refine bE hF fun vr17 h35 hF => ?_
      refine bE hF fun vr18 h36 hF => ?_
      refine bE hF fun vr19 h37 hF => ?_
      refine awp_region ?_
      refine aR 2 ?_
      refine aB h33 ?_
      refine aR 3 ?_
      refine aB h34 ?_
      refine aR 3 ?_
      refine aC (command_Doer_Done_ok h35) [(0, 1)] [] [] ?_
      refine aR 1 ?_
      refine aC (fleetref2_Hand_Done_ok h36) [(0, 2)] [] [] ?_
      refine aC (slices_Equal_string_string_ok h37) [] [] [10004, 12004] ?_
      refine aR 2 ?_
      refine aE ?_
      exact oO hF [] [] rfl

def fleetlaw2_DevicesRemember_x7_k : Unit ⊕ Unit → AEx
  | .inl _ => .exit 0
  | .inr _ => .ret

def fleetlaw2_DevicesRemember_x7_S (vr5 : Int) : Unit ⊕ Unit → St
  | .inl _ => Mem.st ⟨[], []⟩ (tl []) 0
  | .inr _ => Mem.st ⟨[], []⟩ (tl [(2, .v (.one (.d (.bool false))))]) 0

def fleetlaw2_DevicesRemember_x7_H (vr5 : Int) : fleetmake_Stream × command_Doer × fleetref2_Hand × Int × Int → St
  | (vx6, vx7, vx8, vx9, vx10) => Mem.st ⟨[], [(0, [.d (.lst (List.map (encI .i64) vx6.L)), .d (.int .i64 vx6.at_)]), (1, [.d (.int .i64 vx7.most_), .d (.lst (List.map command_done.enc vx7.l_)), .d (.int .i64 vx7.time_)]), (2, [.d (.int .i64 vx8.Most), .d (.lst (List.map api_Letter.enc vx8.L)), .d (.int .i64 vx8.time_)])]⟩ (tl [(3, .v (.one (.box 0 0))), (5, .v (.one (.box 1 0))), (8, .v (.one (.box 2 0))), (9, .v (.one (.d (.int .i64 vx9)))), (57, .v (.one (.d (.int .i64 vr5)))), (58, .v (.one (.d (.int .i64 vx10))))]) 3

theorem fleetlaw2_DevicesRemember_x7_ok (vr5 : Int) (s : fleetmake_Stream × command_Doer × fleetref2_Hand × Int × Int) (r : (fleetmake_Stream × command_Doer × fleetref2_Hand × Int × Int) ⊕ (Unit ⊕ Unit)) (hF : fleetlaw2_DevicesRemember_x7 vr5 s = some r) : Awp prog 0 113 (cL (cL (cR (cL (cR (cR (cR (cR (cR (cR (cR (cR (cB f3))))))))))))) (Out 0 (kk fleetlaw2_DevicesRemember_x7_k) (SS (fleetlaw2_DevicesRemember_x7_H vr5) (fleetlaw2_DevicesRemember_x7_S vr5)) r) (fleetlaw2_DevicesRemember_x7_H vr5 s) := by
  obtain ⟨vx6, vx7, vx8, vx9, vx10⟩ := s
  unfold fleetlaw2_DevicesRemember_x7 at hF
  refine awp_seq ?_
  refine awp_region ?_
  refine aR 1 ?_
  refine aE ?_
  refine awp_seq ?_
  refine cE hF (fun h23 hF => ?_) fun h23 hF => ?_
  · refine awp_true (by kernel_rfl) h23 ?_
    refine awp_skip ?_
    refine awp_seq ?_
    refine awp_block ?_
    refine awp_seq ?_
    refine bE hF fun vr13 h24 hF => ?_
    refine awp_region ?_
    refine aR 3 ?_
    refine aC (fleetmake_Stream_Pick_o1_ok h24) [(1, 3003)] [] [] ?_
    refine aR 2 ?_
    refine aE ?_
    refine awp_seq ?_
    refine awp_region ?_
    refine aR 2 ?_
    refine aE ?_
    refine awp_seq ?_
    refine awp_to (st' := fleetlaw2_DevicesRemember_x8_I vr5 vx6 vx7 vx8 vx9 vx10 vr13) (oT [] []) ?_
    refine bE hF fun x h28 hF => ?_
    obtain ⟨vx14_1, vx15_1⟩ := x
    refine awp_sub (fleetlaw2_DevicesRemember_x8_ok vr5 vx6 vx7 vx8 vx9 vx10 vr13 h28) ?_
    refine awp_seq ?_
    refine bE hF fun vr16 h29 hF => ?_
    refine bE hF fun x h30 hF => ?_
    obtain ⟨vs3_1, vr7_2⟩ := x
    refine awp_region ?_
    refine aR 4 ?_
    refine aC (fleetmake_Stream_Pick_o1_ok h29) [(1, 3003)] [] [] ?_
    refine aR 2 ?_
    refine aC (fleetmake_Stream_Letter_ok h30) [] [] [] ?_
    refine aR 2 ?_
    refine aE ?_
    refine awp_seq ?_
    refine bE hF fun x h31 hF => ?_
    obtain ⟨vs4, vs1_3, vr5_3, vr6_3⟩ := x
    refine awp_region ?_
    refine aR 3 ?_
    refine aC (command_Doer_Do_ok h31) [(0, 1)] [] [] ?_
    refine aR 5 ?_
    refine aE ?_
    refine awp_seq ?_
    refine bE hF fun x h32 hF => ?_
    obtain ⟨vs5, vs1_4, vr5_4, vr6_4⟩ := x
    refine awp_region ?_
    refine aR 3 ?_
    refine aC (fleetref2_Hand_Do_ok h32) [(0, 2)] [] [] ?_
    refine aR 5 ?_
    refine aE ?_
    refine awp_seq ?_
    refine awp_to (st' := fleetlaw2_DevicesRemember_x9_I vr5 vx7 vx8 vx9 vx10 vr13 vs3_1 vs4 vs1_3 vr5_3 vr6_3 vs5 vs1_4 vr5_4 vr6_4) (oT [] []) ?_
    refine bE hF fun vx16_1 h38 hF => ?_
    refine awp_sub (fleetlaw2_DevicesRemember_x9_ok vr5 vx7 vx8 vx9 vx10 vr13 vs3_1 vs4 vs1_3 vr5_3 vr6_3 vs5 vs1_4 vr5_4 vr6_4 h38) ?_
    refine cE hF (fun h39 hF => ?_) fun h39 hF => ?_
    · refine awp_true (by kernel_rfl) h39 ?_
      refine awp_seq ?_
      refine awp_region ?_
      refine aR 1 ?_
      refine aE ?_
      refine awp_ret ?_
      exact oO hF [] [] rfl
    · refine awp_false (by kernel_rfl) h39 ?_
      refine awp_skip ?_
      refine awp_region ?_
      refine aR 2 ?_
      refine aE ?_
      exact oO hF [] [] rfl
  · refine awp_false (by kernel_rfl) h23 ?_
    refine awp_exit ?_
    exact oO hF [] [] rfl

def fleetlaw2_DevicesRemember_R (qx : List Int) (r : Bool) : TV × Mem := (.v (.one (.d (.bool r))), ⟨[], []⟩)

theorem fleetlaw2_DevicesRemember_ok {qx : List Int} {r} (hF : fleetlaw2_DevicesRemember qx = some r) : Holds prog 3 [.v (.one (.d (.lst (List.map (encI .i64) qx))))] ⟨[], []⟩ (Is (fleetlaw2_DevicesRemember_R qx r)) := by
  unfold fleetlaw2_DevicesRemember at hF
  refine holds_of_awp hΓ (fn := f3) (c := cB f3) (A := 0) (nx := 0) (by kernel_rfl) (by kernel_rfl) (by kernel_rfl) (by kernel_rfl) (by kernel_rfl) (by kernel_rfl) (lowc_of (by kernel_rfl)) ?_
  show Awp prog 0 113 (cB f3) _ _
  refine awp_seq ?_
  refine awp_region ?_
  refine aR 1 ?_
  refine aE ?_
  refine awp_seq ?_
  refine awp_region ?_
  refine aR 4 ?_
  refine aE ?_
  refine awp_seq ?_
  refine bE hF fun vr h1 hF => ?_
  refine awp_region ?_
  refine aR 2 ?_
  refine aC (fleetmake_Stream_Pick_o1_ok h1) [(0, 3000), (1, 6000)] [] [] ?_
  refine aR 1 ?_
  refine aE ?_
  refine awp_seq ?_
  refine bE hF fun x h2 hF => ?_
  rcases x with _ | _
  · refine awp_region ?_
    refine aR 1 ?_
    refine aC (command_NewDoer_ok h2) [] [] [] ?_
    refine aR 5 ?_
    refine aE ?_
    refine awp_seq ?_
    refine awp_seq ?_
    refine awp_to (st' := fleetlaw2_DevicesRemember_x1_I qx vr) (oT [(0, 3000)] []) ?_
    refine bE hF fun vx1 h6 hF => ?_
    refine awp_sub (fleetlaw2_DevicesRemember_x1_ok qx vr h6) ?_
    refine awp_seq ?_
    refine awp_to (st' := fleetlaw2_DevicesRemember_x2_I qx vr vx1) (oT [] []) ?_
    refine bE hF fun vx2_1 h8 hF => ?_
    refine awp_sub (fleetlaw2_DevicesRemember_x2_ok qx vr vx1 h8) ?_
    refine cE hF (fun h9 hF => ?_) fun h9 hF => ?_
    · refine awp_true (by kernel_rfl) h9 ?_
      refine awp_seq ?_
      refine awp_to (st' := fleetlaw2_DevicesRemember_x3_I vx1) (oT [] []) ?_
      refine bE hF fun vx3_1 h12 hF => ?_
      refine awp_sub (fleetlaw2_DevicesRemember_x3_ok vx1 h12) ?_
      refine awp_ret ?_
      exact oF hF [] []
    · refine awp_false (by kernel_rfl) h9 ?_
      refine awp_skip ?_
      refine awp_seq ?_
      refine awp_seq ?_
      refine awp_region ?_
      refine aR 2 ?_
      refine aE ?_
      refine awp_true (by kernel_rfl) rfl ?_
      refine awp_seq ?_
      refine awp_region ?_
      refine aR 1 ?_
      refine aE ?_
      refine awp_ret ?_
      exact oF hF [] []
  · refine awp_region ?_
    refine aR 1 ?_
    refine aC (command_NewDoer_ok h2) [] [] [] ?_
    refine aR 5 ?_
    refine aE ?_
    refine awp_seq ?_
    refine awp_seq ?_
    refine awp_to (st' := fleetlaw2_DevicesRemember_x4_I qx vr) (oT [(0, 3000), (1, 10000)] []) ?_
    refine bE hF fun vx4_1 h16 hF => ?_
    refine awp_sub (fleetlaw2_DevicesRemember_x4_ok qx vr h16) ?_
    refine awp_seq ?_
    refine awp_to (st' := fleetlaw2_DevicesRemember_x5_I qx vr vx4_1) (oT [] []) ?_
    refine bE hF fun vx5_1 h18 hF => ?_
    refine awp_sub (fleetlaw2_DevicesRemember_x5_ok qx vr vx4_1 h18) ?_
    refine cE hF (fun h19 hF => ?_) fun h19 hF => ?_
    · refine awp_true (by kernel_rfl) h19 ?_
      refine awp_seq ?_
      refine awp_to (st' := fleetlaw2_DevicesRemember_x6_I vr vx4_1) (oT [(0, 1)] []) ?_
      refine bE hF fun _ h21 hF => ?_
      refine awp_sub (fleetlaw2_DevicesRemember_x6_ok vr vx4_1 h21) ?_
      refine awp_ret ?_
      exact oF hF [] []
    · refine awp_false (by kernel_rfl) h19 ?_
      refine awp_skip ?_
      refine awp_seq ?_
      refine awp_seq ?_
      refine awp_region ?_
      refine aR 2 ?_
      refine aE ?_
      refine awp_false (by kernel_rfl) rfl ?_
      refine awp_skip ?_
      refine awp_seq ?_
      refine awp_region ?_
      refine aR 4 ?_
      refine aE ?_
      refine awp_seq ?_
      refine awp_region ?_
      refine aR 1 ?_
      refine aE ?_
      refine awp_seq ?_
      refine awp_seq ?_
      refine bE hF fun x h22 hF => ?_
      obtain ⟨vs, vr5⟩ := x
      refine awp_region ?_
      refine aR 1 ?_
      refine aC (fleetmake_Stream_Range_ok h22) [] [] [] ?_
      refine aR 1 ?_
      refine aE ?_
      refine awp_block ?_
      refine awp_to (st' := fleetlaw2_DevicesRemember_x7_H vr5 (vs, command_Doer.mk vr [] 0, fleetref2_Hand.mk vr [] 0, 0, 0)) (oT [(2, 4002)] []) ?_
      refine bE hF fun x h40 hF => ?_
      rcases x with _ | _
      · refine awp_sub (awp_loop' (fleetlaw2_DevicesRemember_x7_H vr5) fleetlaw2_DevicesRemember_x7_k (fleetlaw2_DevicesRemember_x7_S vr5) (by intro x; rcases x with x | x <;> exact fun h => nomatch h) h40 (fleetlaw2_DevicesRemember_x7_ok vr5)) ?_
        refine awp_seq ?_
        refine bE hF fun vr1_2 h41 hF => ?_
        refine awp_region ?_
        refine aC (fleetlaw2_posted_ok h41) [] [] [] ?_
        refine aR 1 ?_
        refine aE ?_
        refine awp_ret ?_
        exact oF hF [] []
      · refine awp_sub (awp_loop' (fleetlaw2_DevicesRemember_x7_H vr5) fleetlaw2_DevicesRemember_x7_k (fleetlaw2_DevicesRemember_x7_S vr5) (by intro x; rcases x with x | x <;> exact fun h => nomatch h) h40 (fleetlaw2_DevicesRemember_x7_ok vr5)) ?_
        exact oF hF [] []

end Go.Eng
