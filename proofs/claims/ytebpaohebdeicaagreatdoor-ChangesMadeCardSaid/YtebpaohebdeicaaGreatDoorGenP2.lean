/-
The code of the Go functions that the law ChangesMade reaches does what the plain functions say, part 2.
-/
import Derived.Test.YtebpaohebdeicaaGreatDoorGenP1

namespace Go.Eng

open Go Go.Proofs.Tryz

set_option linter.unusedVariables false

set_option maxRecDepth 20000

set_option maxHeartbeats 0

/-! ### beaconfleet/fleetref2.PropsFault -/
def fleetref2_PropsFault_x2_k : Bool → AEx
  | _ => .normal

def fleetref2_PropsFault_x2_S (ql : List api_Prop) (vx : Int) (vy2 : api_Prop) : Bool → St
  | vx2 => Mem.st ⟨[], []⟩ (tl [(0, .v (.one (.d (.lst (List.map api_Prop.enc ql))))), (11, .v (.one (.d (.lst (List.map api_Prop.enc ql))))), (12, .v (.one (.d (.int .i64 (ql.length : Int))))), (13, .v (.one (.d (.int .i64 vx)))), (33, .v (.one (.d (.bool vx2))))]) 0

def fleetref2_PropsFault_x2_I (ql : List api_Prop) (vx : Int) (vy2 : api_Prop) : St := Mem.st ⟨[], [(0, [.d (.str vy2.Name), .d (.int .i64 vy2.Value.Kind), .d (.bool vy2.Value.Flag), .d (.int .i64 vy2.Value.Number), .d (.str vy2.Value.Words)])]⟩ (tl [(0, .v (.one (.d (.lst (List.map api_Prop.enc ql))))), (3, .v (.one (.d (.int .i64 vx)))), (4, .v (.one (.box 0 0))), (11, .v (.one (.d (.lst (List.map api_Prop.enc ql))))), (12, .v (.one (.d (.int .i64 (ql.length : Int))))), (13, .v (.one (.d (.int .i64 vx))))]) 1

theorem fleetref2_PropsFault_x2_ok (ql : List api_Prop) (vx : Int) (vy2 : api_Prop) {r} (hF : fleetref2_PropsFault_x2 ql vx vy2 = some r) : Awp prog 0 58 (cL (cR (cR (cL (cR (cR (cR (cL (cL (cR (cR (cL (cL (cR (cL (cR (cR (cB f23)))))))))))))))))) (Out 0 fleetref2_PropsFault_x2_k (fleetref2_PropsFault_x2_S ql vx vy2) r) (fleetref2_PropsFault_x2_I ql vx vy2) := by
  unfold fleetref2_PropsFault_x2 at hF
  refine cE hF (fun h9 hF => ?_) fun h9 hF => ?_
  · refine bE hF fun vy3 h10 hF => ?_
    refine aD ?_
    refine dR 1 ?_
    refine dB h9 ?_
    refine dR 6 ?_
    refine dX (x_idx api_Prop.enc h10) ?_
    refine dR 5 ?_
    refine dE ?_
    exact oO hF [] [] rfl
  · refine aD ?_
    refine dR 1 ?_
    refine dB h9 ?_
    refine dR 12 ?_
    refine dE ?_
    exact oO hF [] [] rfl

def fleetref2_PropsFault_x1_k : Unit ⊕ Int → AEx
  | .inl _ => .exit 0
  | .inr _ => .ret

def fleetref2_PropsFault_x1_S (ql : List api_Prop) : Unit ⊕ Int → St
  | .inl _ => Mem.st ⟨[], []⟩ (tl [(0, .v (.one (.d (.lst (List.map api_Prop.enc ql)))))]) 0
  | .inr vx3 => Mem.st ⟨[], []⟩ (tl [(2, .v (.one (.d (.int .i64 vx3))))]) 0

def fleetref2_PropsFault_x1_H (ql : List api_Prop) : Int → St
  | vx => Mem.st ⟨[], []⟩ (tl [(0, .v (.one (.d (.lst (List.map api_Prop.enc ql))))), (11, .v (.one (.d (.lst (List.map api_Prop.enc ql))))), (12, .v (.one (.d (.int .i64 (ql.length : Int))))), (13, .v (.one (.d (.int .i64 vx))))]) 0

theorem fleetref2_PropsFault_x1_ok (ql : List api_Prop) (vx : Int) (r : (Int) ⊕ (Unit ⊕ Int)) (hF : fleetref2_PropsFault_x1 ql vx = some r) : Awp prog 0 58 (cL (cL (cR (cL (cR (cR (cB f23))))))) (Out 0 (kk fleetref2_PropsFault_x1_k) (SS (fleetref2_PropsFault_x1_H ql) (fleetref2_PropsFault_x1_S ql)) r) (fleetref2_PropsFault_x1_H ql vx) := by
  unfold fleetref2_PropsFault_x1 at hF
  refine awp_seq ?_
  refine awp_region ?_
  refine aR 1 ?_
  refine aE ?_
  refine awp_seq ?_
  refine cE hF (fun h2 hF => ?_) fun h2 hF => ?_
  · refine awp_true (by kernel_rfl) h2 ?_
    refine awp_skip ?_
    refine awp_seq ?_
    refine awp_block ?_
    refine awp_seq ?_
    refine bE hF fun vy2 h3 hF => ?_
    refine awp_region ?_
    refine aR 1 ?_
    refine aX (x_idx api_Prop.enc h3) ?_
    refine aR 4 ?_
    refine aE ?_
    refine awp_seq ?_
    refine awp_seq ?_
    refine bE hF fun vr2_1 h4 hF => ?_
    refine awp_region ?_
    refine aR 2 ?_
    refine aC (fleetref2_PropName_ok h4) [] [] [] ?_
    refine aR 1 ?_
    refine aE ?_
    refine cE hF (fun h5 hF => ?_) fun h5 hF => ?_
    · refine awp_true (by kernel_rfl) h5 ?_
      refine awp_seq ?_
      refine awp_region ?_
      refine aR 1 ?_
      refine aE ?_
      refine awp_ret ?_
      exact oO hF [] [] rfl
    · refine awp_false (by kernel_rfl) h5 ?_
      refine awp_skip ?_
      refine awp_seq ?_
      refine awp_seq ?_
      refine bE hF fun vr3_1 h6 hF => ?_
      refine awp_region ?_
      refine aR 2 ?_
      refine aC (fleetref2_ValueFault_ok h6) [] [] [] ?_
      refine aR 1 ?_
      refine aE ?_
      refine awp_seq ?_
      refine awp_region ?_
      refine aR 2 ?_
      refine aE ?_
      refine cE hF (fun h7 hF => ?_) fun h7 hF => ?_
      · refine awp_true (by kernel_rfl) h7 ?_
        refine awp_seq ?_
        refine awp_region ?_
        refine aR 2 ?_
        refine aE ?_
        refine awp_ret ?_
        exact oO hF [] [] rfl
      · refine awp_false (by kernel_rfl) h7 ?_
        refine awp_skip ?_
        refine awp_block ?_
        refine awp_seq ?_
        refine awp_region ?_
        refine aR 5 ?_
        refine aE ?_
        refine cE hF (fun h8 hF => ?_) fun h8 hF => ?_
        · refine awp_true (by kernel_rfl) h8 ?_
          refine awp_seq ?_
          refine awp_region ?_
          refine aR 1 ?_
          refine aE ?_
          refine awp_ret ?_
          exact oO hF [] [] rfl
        · refine awp_false (by kernel_rfl) h8 ?_
          refine awp_seq ?_
          refine awp_to (st' := fleetref2_PropsFault_x2_I ql vx vy2) (oT [(0, 4000)] []) ?_
          refine bE hF fun vx2_1 h11 hF => ?_
          refine awp_sub (fleetref2_PropsFault_x2_ok ql vx vy2 h11) ?_
          refine cE hF (fun h12 hF => ?_) fun h12 hF => ?_
          · refine awp_true (by kernel_rfl) h12 ?_
            refine awp_seq ?_
            refine awp_region ?_
            refine aR 1 ?_
            refine aE ?_
            refine awp_ret ?_
            exact oO hF [] [] rfl
          · refine awp_false (by kernel_rfl) h12 ?_
            refine awp_skip ?_
            refine awp_region ?_
            refine aR 2 ?_
            refine aE ?_
            exact oO hF [] [] rfl
  · refine awp_false (by kernel_rfl) h2 ?_
    refine awp_exit ?_
    exact oO hF [] [] rfl

def fleetref2_PropsFault_x3_k : Unit ⊕ Unit → AEx
  | .inl _ => .exit 3
  | .inr _ => .ret

def fleetref2_PropsFault_x3_S (ql : List api_Prop) : Unit ⊕ Unit → St
  | .inl _ => Mem.st ⟨[], []⟩ (tl []) 0
  | .inr _ => Mem.st ⟨[], []⟩ (tl [(2, .v (.one (.d (.int .i64 13))))]) 0

def fleetref2_PropsFault_x3_H (ql : List api_Prop) : Int → St
  | vx4 => Mem.st ⟨[], []⟩ (tl [(0, .v (.one (.d (.lst (List.map api_Prop.enc ql))))), (48, .v (.one (.d (.lst (List.map api_Prop.enc ql))))), (49, .v (.one (.d (.int .i64 (ql.length : Int))))), (50, .v (.one (.d (.int .i64 vx4))))]) 0

theorem fleetref2_PropsFault_x3_ok (ql : List api_Prop) (vx4 : Int) (r : (Int) ⊕ (Unit ⊕ Unit)) (hF : fleetref2_PropsFault_x3 ql vx4 = some r) : Awp prog 0 58 (cL (cL (cR (cL (cR (cR (cR (cB f23)))))))) (Out 0 (kk fleetref2_PropsFault_x3_k) (SS (fleetref2_PropsFault_x3_H ql) (fleetref2_PropsFault_x3_S ql)) r) (fleetref2_PropsFault_x3_H ql vx4) := by
  unfold fleetref2_PropsFault_x3 at hF
  refine awp_seq ?_
  refine awp_region ?_
  refine aR 1 ?_
  refine aE ?_
  refine awp_seq ?_
  refine cE hF (fun h14 hF => ?_) fun h14 hF => ?_
  · refine awp_true (by kernel_rfl) h14 ?_
    refine awp_skip ?_
    refine awp_seq ?_
    refine awp_block ?_
    refine awp_seq ?_
    refine bE hF fun vy5 h15 hF => ?_
    refine awp_region ?_
    refine aX (x_idx api_Prop.enc h15) ?_
    refine aR 3 ?_
    refine aE ?_
    refine awp_seq ?_
    refine bE hF fun vr1_1 h16 hF => ?_
    refine awp_region ?_
    refine aR 2 ?_
    refine aC (slices_ContainsFunc_api_Prop_api_Prop_f1_fleetref2_PropsFault_1_ok h16) [(0, 3000)] [] [] ?_
    refine aE ?_
    refine cE hF (fun h17 hF => ?_) fun h17 hF => ?_
    · refine awp_true (by kernel_rfl) h17 ?_
      refine awp_seq ?_
      refine awp_region ?_
      refine aR 1 ?_
      refine aE ?_
      refine awp_ret ?_
      exact oO hF [] [] rfl
    · refine awp_false (by kernel_rfl) h17 ?_
      refine awp_skip ?_
      refine awp_region ?_
      refine aR 2 ?_
      refine aE ?_
      exact oO hF [] [] rfl
  · refine awp_false (by kernel_rfl) h14 ?_
    refine awp_exit ?_
    exact oO hF [] [] rfl

def fleetref2_PropsFault_R (ql : List api_Prop) (r : Int) : TV × Mem := (.v (.one (.d (.int .i64 r))), ⟨[], []⟩)

theorem fleetref2_PropsFault_ok {ql : List api_Prop} {r} (hF : fleetref2_PropsFault ql = some r) : Holds prog 23 [.v (.one (.d (.lst (List.map api_Prop.enc ql))))] ⟨[], []⟩ (Is (fleetref2_PropsFault_R ql r)) := by
  unfold fleetref2_PropsFault at hF
  refine holds_of_awp hΓ (fn := f23) (c := cB f23) (A := 0) (nx := 0) (by kernel_rfl) (by kernel_rfl) (by kernel_rfl) (by kernel_rfl) (by kernel_rfl) (by kernel_rfl) (lowc_of (by kernel_rfl)) ?_
  show Awp prog 0 58 (cB f23) _ _
  refine awp_seq ?_
  refine awp_region ?_
  refine aR 1 ?_
  refine aE ?_
  refine awp_seq ?_
  refine awp_seq ?_
  refine awp_region ?_
  refine aR 1 ?_
  refine aL api_Prop.enc ql ?_
  refine aR 1 ?_
  refine aE ?_
  refine cE hF (fun h1 hF => ?_) fun h1 hF => ?_
  · refine awp_true (by kernel_rfl) h1 ?_
    refine awp_seq ?_
    refine awp_region ?_
    refine aR 1 ?_
    refine aE ?_
    refine awp_ret ?_
    exact oF hF [] []
  · refine awp_false (by kernel_rfl) h1 ?_
    refine awp_skip ?_
    refine awp_seq ?_
    refine awp_seq ?_
    refine awp_region ?_
    refine aR 1 ?_
    refine aL api_Prop.enc ql ?_
    refine aR 1 ?_
    refine aE ?_
    refine awp_block ?_
    refine awp_to (st' := fleetref2_PropsFault_x1_H ql 0) (oT [] []) ?_
    refine bE hF fun x h13 hF => ?_
    rcases x with _ | vx3_1
    · refine awp_sub (awp_loop' (fleetref2_PropsFault_x1_H ql) fleetref2_PropsFault_x1_k (fleetref2_PropsFault_x1_S ql) (by intro x; rcases x with x | x <;> exact fun h => nomatch h) h13 (fleetref2_PropsFault_x1_ok ql)) ?_
      refine awp_seq ?_
      refine awp_seq ?_
      refine awp_region ?_
      refine aR 1 ?_
      refine aL api_Prop.enc ql ?_
      refine aR 1 ?_
      refine aE ?_
      refine awp_block ?_
      refine awp_to (st' := fleetref2_PropsFault_x3_H ql 0) (oT [] []) ?_
      refine bE hF fun x h18 hF => ?_
      rcases x with _ | _
      · refine awp_sub (awp_loop' (fleetref2_PropsFault_x3_H ql) fleetref2_PropsFault_x3_k (fleetref2_PropsFault_x3_S ql) (by intro x; rcases x with x | x <;> exact fun h => nomatch h) h18 (fleetref2_PropsFault_x3_ok ql)) ?_
        refine awp_seq ?_
        refine awp_region ?_
        refine aR 1 ?_
        refine aE ?_
        refine awp_ret ?_
        exact oF hF [] []
      · refine awp_sub (awp_loop' (fleetref2_PropsFault_x3_H ql) fleetref2_PropsFault_x3_k (fleetref2_PropsFault_x3_S ql) (by intro x; rcases x with x | x <;> exact fun h => nomatch h) h18 (fleetref2_PropsFault_x3_ok ql)) ?_
        exact oF hF [] []
    · refine awp_sub (awp_loop' (fleetref2_PropsFault_x1_H ql) fleetref2_PropsFault_x1_k (fleetref2_PropsFault_x1_S ql) (by intro x; rcases x with x | x <;> exact fun h => nomatch h) h13 (fleetref2_PropsFault_x1_ok ql)) ?_
      exact oF hF [] []

/-! ### (*beaconfleet/fleetmake.Stream).RightProps -/
def fleetmake_Stream_RightProps_x2_k : (List api_Prop) → AEx
  | _ => .normal

def fleetmake_Stream_RightProps_x2_S (vr : Int) (vs1 : fleetmake_Stream) (vout : List api_Prop) (vx : Int) : (List api_Prop) → St
  | vout2 => Mem.st ⟨[(1, ⟨44, 5, List.map api_Prop.enc vout2⟩)], [(0, [.d (.lst (List.map (encI .i64) vs1.L)), .d (.int .i64 (IntKind.wrap .i64 ((IntKind.wrap .i64 ((IntKind.wrap .i64 (vs1.at_ + 1)) + 1)) + 1)))])]⟩ (tl [(0, .v (.one (.box 0 0))), (3, .v (.one (.own 1 none))), (6, .v (.one (.d (.int .i64 vr)))), (7, .v (.one (.d (.int .i64 vx))))]) 2

def fleetmake_Stream_RightProps_x2_I (vr : Int) (vs1 : fleetmake_Stream) (vout : List api_Prop) (vx : Int) : St := Mem.st ⟨[(1, ⟨44, 5, List.map api_Prop.enc vout⟩)], [(0, [.d (.lst (List.map (encI .i64) vs1.L)), .d (.int .i64 vs1.at_)])]⟩ (tl [(0, .v (.one (.box 0 0))), (3, .v (.one (.own 1 none))), (6, .v (.one (.d (.int .i64 vr)))), (7, .v (.one (.d (.int .i64 vx))))]) 2

theorem fleetmake_Stream_RightProps_x2_ok (vr : Int) (vs1 : fleetmake_Stream) (vout : List api_Prop) (vx : Int) {r} (hF : fleetmake_Stream_RightProps_x2 vs1 vout = some r) : Awp prog 1 27 (cL (cR (cR (cL (cL (cR (cL (cR (cR (cB f64)))))))))) (Out 1 fleetmake_Stream_RightProps_x2_k (fleetmake_Stream_RightProps_x2_S vr vs1 vout vx) r) (fleetmake_Stream_RightProps_x2_I vr vs1 vout vx) := by
  unfold fleetmake_Stream_RightProps_x2 at hF
  refine awp_block ?_
  refine awp_seq ?_
  refine bE hF fun vr5 h3 hF => ?_
  refine bE hF fun vr6 h4 hF => ?_
  refine bE hF fun vr4_1 h5 hF => ?_
  refine gE hF fun h6 hF => ?_
  refine awp_region ?_
  refine aR 1 ?_
  refine aCf (slices_Clone_api_Prop_api_Prop_ok h3) (plainO_one (f := api_Prop.enc) fun _ => by kernel_rfl) [] [] [1] ?_
  refine aR 2 ?_
  refine aC (fleetmake_Stream_Some_o1_ok h4) [(1, 3002)] [] [] ?_
  refine aR 1 ?_
  refine aC (fleetmake_Stream_RightValue_ok h5) [] [] [] ?_
  refine aR 2 ?_
  refine aX (x_app api_Prop.enc 1002 h6) ?_
  refine aR 1 ?_
  refine aE ?_
  refine awp_seq ?_
  refine bE hF fun vl1 h7 hF => ?_
  refine gE hF fun h8 hF => ?_
  refine awp_region ?_
  refine aR 1 ?_
  refine aCp (slices_SortFunc_api_Prop_api_Prop_o0_f1_fleetmake_propOrder_ok h7) ⟨⟨rfl, rfl, pin1 h8⟩, trivial⟩ [(0, 9002)] [] [] ?_
  refine aE ?_
  refine awp_seq ?_
  refine bE hF fun vr7 h9 hF => ?_
  refine awp_region ?_
  refine aR 1 ?_
  refine aC (fleetref2_PropsFault_ok h9) [] [] [9002] ?_
  refine aR 1 ?_
  refine aE ?_
  refine cE hF (fun h10 hF => ?_) fun h10 hF => ?_
  · refine awp_true (by kernel_rfl) h10 ?_
    refine awp_region ?_
    refine aR 2 ?_
    refine aE ?_
    exact oO hF [(1, 9002)] [] rfl
  · refine awp_false (by kernel_rfl) h10 ?_
    refine awp_skip ?_
    exact oO hF [] [] rfl

def fleetmake_Stream_RightProps_x1_k : (fleetmake_Stream × (List api_Prop)) → AEx
  | _ => .exit 0

def fleetmake_Stream_RightProps_x1_S (vr : Int) : (fleetmake_Stream × (List api_Prop)) → St
  | (vs2, vout3) => Mem.st ⟨[(1, ⟨44, 5, List.map api_Prop.enc vout3⟩)], [(0, [.d (.lst (List.map (encI .i64) vs2.L)), .d (.int .i64 vs2.at_)])]⟩ (tl [(3, .v (.one (.own 1 none)))]) 2

def fleetmake_Stream_RightProps_x1_H (vr : Int) : fleetmake_Stream × (List api_Prop) × Int → St
  | (vs1, vout, vx) => Mem.st ⟨[(1, ⟨44, 5, List.map api_Prop.enc vout⟩)], [(0, [.d (.lst (List.map (encI .i64) vs1.L)), .d (.int .i64 vs1.at_)])]⟩ (tl [(0, .v (.one (.box 0 0))), (3, .v (.one (.own 1 none))), (6, .v (.one (.d (.int .i64 vr)))), (7, .v (.one (.d (.int .i64 vx))))]) 2

theorem fleetmake_Stream_RightProps_x1_ok (vr : Int) (s : fleetmake_Stream × (List api_Prop) × Int) (r : (fleetmake_Stream × (List api_Prop) × Int) ⊕ ((fleetmake_Stream × (List api_Prop)))) (hF : fleetmake_Stream_RightProps_x1 vr s = some r) : Awp prog 1 27 (cL (cL (cR (cL (cR (cR (cB f64))))))) (Out 1 (kk fleetmake_Stream_RightProps_x1_k) (SS (fleetmake_Stream_RightProps_x1_H vr) (fleetmake_Stream_RightProps_x1_S vr)) r) (fleetmake_Stream_RightProps_x1_H vr s) := by
  obtain ⟨vs1, vout, vx⟩ := s
  unfold fleetmake_Stream_RightProps_x1 at hF
  refine awp_seq ?_
  refine awp_region ?_
  refine aR 1 ?_
  refine aE ?_
  refine awp_seq ?_
  refine cE hF (fun h2 hF => ?_) fun h2 hF => ?_
  · refine awp_true (by kernel_rfl) h2 ?_
    refine awp_skip ?_
    refine awp_seq ?_
    refine awp_to (st' := fleetmake_Stream_RightProps_x2_I vr vs1 vout vx) (oT [] []) ?_
    refine bE hF fun vout2_1 h11 hF => ?_
    refine awp_sub (fleetmake_Stream_RightProps_x2_ok vr vs1 vout vx h11) ?_
    refine awp_region ?_
    refine aR 2 ?_
    refine aE ?_
    exact oO hF [] [] rfl
  · refine awp_false (by kernel_rfl) h2 ?_
    refine awp_exit ?_
    exact oO hF [] [] rfl

def fleetmake_Stream_RightProps_R (qs : fleetmake_Stream) (r : fleetmake_Stream × (List api_Prop)) : TV × Mem := (.v (.one (.own 1 none)), ⟨[(1, ⟨44, 5, List.map api_Prop.enc r.2⟩)], [(0, [.d (.lst (List.map (encI .i64) r.1.L)), .d (.int .i64 r.1.at_)])]⟩)

theorem fleetmake_Stream_RightProps_ok {qs : fleetmake_Stream} {r} (hF : fleetmake_Stream_RightProps qs = some r) : Holds prog 64 [.v (.one (.box 0 0))] ⟨[], [(0, [.d (.lst (List.map (encI .i64) qs.L)), .d (.int .i64 qs.at_)])]⟩ (Is (fleetmake_Stream_RightProps_R qs r)) := by
  unfold fleetmake_Stream_RightProps at hF
  refine holds_of_awp hΓ (fn := f64) (c := cB f64) (A := 1) (nx := 1) (by kernel_rfl) (by kernel_rfl) (by kernel_rfl) (by kernel_rfl) (by kernel_rfl) (by kernel_rfl) (lowc_of (by kernel_rfl)) ?_
  show Awp prog 1 27 (cB f64) _ _
  refine awp_seq ?_
  refine awp_region ?_
  refine aR 1 ?_
  refine aE ?_
  refine awp_seq ?_
  refine awp_region ?_
  refine aR 1 ?_
  refine aE ?_
  refine awp_seq ?_
  refine awp_seq ?_
  refine bE hF fun x h1 hF => ?_
  obtain ⟨vs, vr⟩ := x
  refine awp_region ?_
  refine aR 1 ?_
  refine aC (fleetmake_Stream_Range_ok h1) [] [] [] ?_
  refine aR 1 ?_
  refine aE ?_
  refine awp_block ?_
  refine awp_to (st' := fleetmake_Stream_RightProps_x1_H vr (vs, [], 0)) (oT [] [1]) ?_
  refine bE hF fun x h12 hF => ?_
  obtain ⟨vs2_1, vout3_1⟩ := x
  refine awp_sub (awp_loop' (fleetmake_Stream_RightProps_x1_H vr) fleetmake_Stream_RightProps_x1_k (fleetmake_Stream_RightProps_x1_S vr) (by intro x; exact fun h => nomatch h) h12 (fleetmake_Stream_RightProps_x1_ok vr)) ?_
  refine awp_seq ?_
  refine awp_region ?_
  refine aR 2 ?_
  refine aE ?_
  refine awp_ret ?_
  exact oF hF [] []

/-! ### (*beaconfleet/fleetmake.Stream).Props -/
def fleetmake_Stream_Props_x1_k : (fleetmake_Stream × (List api_Prop)) → AEx
  | _ => .normal

def fleetmake_Stream_Props_x1_S (vs3 : fleetmake_Stream) (vr8 : List api_Prop) : (fleetmake_Stream × (List api_Prop)) → St
  | (vs, vout) => Mem.st ⟨[(1, ⟨44, 5, List.map api_Prop.enc vout⟩)], [(0, [.d (.lst (List.map (encI .i64) vs.L)), .d (.int .i64 vs.at_)])]⟩ (tl [(3, .v (.one (.own 1 none)))]) 2

def fleetmake_Stream_Props_x1_I (vs3 : fleetmake_Stream) (vr8 : List api_Prop) : St := Mem.st ⟨[(1, ⟨44, 5, List.map api_Prop.enc vr8⟩)], [(0, [.d (.lst (List.map (encI .i64) vs3.L)), .d (.int .i64 vs3.at_)])]⟩ (tl [(0, .v (.one (.box 0 0))), (3, .v (.one (.own 1 none)))]) 2

theorem fleetmake_Stream_Props_x1_ok (vs3 : fleetmake_Stream) (vr8 : List api_Prop) {r} (hF : fleetmake_Stream_Props_x1 vs3 vr8 = some r) : Awp prog 1 21 (cL (cR (cR (cB f19)))) (Out 1 fleetmake_Stream_Props_x1_k (fleetmake_Stream_Props_x1_S vs3 vr8) r) (fleetmake_Stream_Props_x1_I vs3 vr8) := by
  unfold fleetmake_Stream_Props_x1 at hF
  refine awp_seq ?_
  refine bE hF fun vr h2 hF => ?_
  refine awp_region ?_
  refine aR 1 ?_
  refine aC (fleetmake_Stream_Flip_ok h2) [] [] [] ?_
  refine aE ?_
  refine cE hF (fun h3 hF => ?_) fun h3 hF => ?_
  · refine awp_true (by kernel_rfl) h3 ?_
    refine awp_seq ?_
    refine bE hF fun vr4 h4 hF => ?_
    refine bE hF fun x h5 hF => ?_
    obtain ⟨vs3_1, vr7⟩ := x
    refine gE hF fun h6 hF => ?_
    refine awp_region ?_
    refine aR 2 ?_
    refine aC (fleetmake_Stream_PropName_ok h4) [] [] [] ?_
    refine aR 1 ?_
    refine aC (fleetmake_Stream_Value_ok h5) [] [] [] ?_
    refine aR 2 ?_
    refine aX (x_app api_Prop.enc 1 h6) ?_
    refine aR 1 ?_
    refine aE ?_
    refine awp_seq ?_
    refine bE hF fun vr1 h7 hF => ?_
    refine awp_region ?_
    refine aR 1 ?_
    refine aC (fleetmake_Stream_Flip_ok h7) [] [] [] ?_
    refine aE ?_
    refine cE hF (fun h8 hF => ?_) fun h8 hF => ?_
    · refine awp_true (by kernel_rfl) h8 ?_
      refine bE hF fun vl h9 hF => ?_
      refine gE hF fun h10 hF => ?_
      refine awp_region ?_
      refine aR 1 ?_
      refine aCp (slices_SortFunc_api_Prop_api_Prop_o0_f1_fleetmake_propOrder_ok h9) ⟨⟨rfl, rfl, pin1 h10⟩, trivial⟩ [(0, 9002)] [] [] ?_
      refine aE ?_
      exact oO hF [(1, 9002)] [] rfl
    · refine awp_false (by kernel_rfl) h8 ?_
      refine awp_skip ?_
      exact oO hF [(1, 9002)] [] rfl
  · refine awp_false (by kernel_rfl) h3 ?_
    refine awp_skip ?_
    exact oO hF [] [] rfl

def fleetmake_Stream_Props_R (qs : fleetmake_Stream) (r : fleetmake_Stream × (List api_Prop)) : TV × Mem := (.v (.one (.own 1 none)), ⟨[(1, ⟨44, 5, List.map api_Prop.enc r.2⟩)], [(0, [.d (.lst (List.map (encI .i64) r.1.L)), .d (.int .i64 r.1.at_)])]⟩)

theorem fleetmake_Stream_Props_ok {qs : fleetmake_Stream} {r} (hF : fleetmake_Stream_Props qs = some r) : Holds prog 19 [.v (.one (.box 0 0))] ⟨[], [(0, [.d (.lst (List.map (encI .i64) qs.L)), .d (.int .i64 qs.at_)])]⟩ (Is (fleetmake_Stream_Props_R qs r)) := by
  unfold fleetmake_Stream_Props at hF
  refine holds_of_awp hΓ (fn := f19) (c := cB f19) (A := 1) (nx := 1) (by kernel_rfl) (by kernel_rfl) (by kernel_rfl) (by kernel_rfl) (by kernel_rfl) (by kernel_rfl) (lowc_of (by kernel_rfl)) ?_
  show Awp prog 1 21 (cB f19) _ _
  refine awp_seq ?_
  refine awp_region ?_
  refine aR 1 ?_
  refine aE ?_
  refine awp_seq ?_
  refine bE hF fun x h1 hF => ?_
  obtain ⟨vs3, vr8⟩ := x
  refine awp_region ?_
  refine aR 1 ?_
  refine aC (fleetmake_Stream_RightProps_ok h1) [] [] [] ?_
  refine aR 1 ?_
  refine aE ?_
  refine awp_seq ?_
  refine awp_to (st' := fleetmake_Stream_Props_x1_I vs3 vr8) (oT [(1, 2002)] []) ?_
  refine bE hF fun x h11 hF => ?_
  obtain ⟨vs1, vout1⟩ := x
  refine awp_sub (fleetmake_Stream_Props_x1_ok vs3 vr8 h11) ?_
  refine awp_seq ?_
  refine awp_region ?_
  refine aR 2 ?_
  refine aE ?_
  refine awp_ret ?_
  exact oF hF [] []

/-! ### beaconfleet/fleetref2.ValueOf -/
def fleetref2_ValueOf_x1_k : Unit ⊕ api_Value → AEx
  | .inl _ => .exit 0
  | .inr _ => .ret

def fleetref2_ValueOf_x1_S (ql : List api_Prop) (qname : List UInt8) : Unit ⊕ api_Value → St
  | .inl _ => Mem.st ⟨[], [(0, [.d (.int .i64 0), .d (.bool false), .d (.int .i64 0), .d (.str ([] : List UInt8))])]⟩ (tl [(4, .v (.one (.box 0 0)))]) 1
  | .inr vx1 => Mem.st ⟨[], [(0, [.d (.int .i64 vx1.Kind), .d (.bool vx1.Flag), .d (.int .i64 vx1.Number), .d (.str vx1.Words)])]⟩ (tl [(4, .v (.one (.box 0 0)))]) 1

def fleetref2_ValueOf_x1_H (ql : List api_Prop) (qname : List UInt8) : Int → St
  | vx => Mem.st ⟨[], [(0, [.d (.int .i64 0), .d (.bool false), .d (.int .i64 0), .d (.str ([] : List UInt8))])]⟩ (tl [(1, .v (.one (.d (.str qname)))), (4, .v (.one (.box 0 0))), (7, .v (.one (.d (.lst (List.map api_Prop.enc ql))))), (8, .v (.one (.d (.int .i64 (ql.length : Int))))), (9, .v (.one (.d (.int .i64 vx))))]) 1

theorem fleetref2_ValueOf_x1_ok (ql : List api_Prop) (qname : List UInt8) (vx : Int) (r : (Int) ⊕ (Unit ⊕ api_Value)) (hF : fleetref2_ValueOf_x1 ql qname vx = some r) : Awp prog 0 21 (cL (cL (cR (cL (cR (cB f26)))))) (Out 0 (kk fleetref2_ValueOf_x1_k) (SS (fleetref2_ValueOf_x1_H ql qname) (fleetref2_ValueOf_x1_S ql qname)) r) (fleetref2_ValueOf_x1_H ql qname vx) := by
  unfold fleetref2_ValueOf_x1 at hF
  refine awp_seq ?_
  refine awp_region ?_
  refine aR 1 ?_
  refine aE ?_
  refine awp_seq ?_
  refine cE hF (fun h1 hF => ?_) fun h1 hF => ?_
  · refine awp_true (by kernel_rfl) h1 ?_
    refine awp_skip ?_
    refine awp_seq ?_
    refine awp_block ?_
    refine awp_seq ?_
    refine bE hF fun vy1 h2 hF => ?_
    refine awp_region ?_
    refine aX (x_idx api_Prop.enc h2) ?_
    refine aR 3 ?_
    refine aE ?_
    refine awp_seq ?_
    refine awp_region ?_
    refine aR 4 ?_
    refine aE ?_
    refine cE hF (fun h3 hF => ?_) fun h3 hF => ?_
    · refine awp_true (by kernel_rfl) h3 ?_
      refine awp_seq ?_
      refine awp_region ?_
      refine aR 3 ?_
      refine aE ?_
      refine awp_ret ?_
      exact oO hF [] [] rfl
    · refine awp_false (by kernel_rfl) h3 ?_
      refine awp_skip ?_
      refine awp_region ?_
      refine aR 2 ?_
      refine aE ?_
      exact oO hF [] [] rfl
  · refine awp_false (by kernel_rfl) h1 ?_
    refine awp_exit ?_
    exact oO hF [] [] rfl

def fleetref2_ValueOf_R (ql : List api_Prop) (qname : List UInt8) (r : api_Value) : TV × Mem := (.v (.agg [.d (.int .i64 r.Kind), .d (.bool r.Flag), .d (.int .i64 r.Number), .d (.str r.Words)]), ⟨[], []⟩)

theorem fleetref2_ValueOf_ok {ql : List api_Prop} {qname : List UInt8} {r} (hF : fleetref2_ValueOf ql qname = some r) : Holds prog 26 [.v (.one (.d (.lst (List.map api_Prop.enc ql)))), .v (.one (.d (.str qname)))] ⟨[], []⟩ (Is (fleetref2_ValueOf_R ql qname r)) := by
  unfold fleetref2_ValueOf at hF
  refine holds_of_awp hΓ (fn := f26) (c := cB f26) (A := 0) (nx := 0) (by kernel_rfl) (by kernel_rfl) (by kernel_rfl) (by kernel_rfl) (by kernel_rfl) (by kernel_rfl) (lowc_of (by kernel_rfl)) ?_
  show Awp prog 0 21 (cB f26) _ _
  refine awp_seq ?_
  refine awp_region ?_
  refine aR 1 ?_
  refine aE ?_
  refine awp_seq ?_
  refine awp_seq ?_
  refine awp_region ?_
  refine aR 1 ?_
  refine aL api_Prop.enc ql ?_
  refine aR 1 ?_
  refine aE ?_
  refine awp_block ?_
  refine awp_to (st' := fleetref2_ValueOf_x1_H ql qname 0) (oT [] []) ?_
  refine bE hF fun x h4 hF => ?_
  rcases x with _ | vx1_1
  · refine awp_sub (awp_loop' (fleetref2_ValueOf_x1_H ql qname) fleetref2_ValueOf_x1_k (fleetref2_ValueOf_x1_S ql qname) (by intro x; rcases x with x | x <;> exact fun h => nomatch h) h4 (fleetref2_ValueOf_x1_ok ql qname)) ?_
    refine awp_seq ?_
    refine awp_region ?_
    refine aR 2 ?_
    refine aE ?_
    refine awp_ret ?_
    exact oF hF [] []
  · refine awp_sub (awp_loop' (fleetref2_ValueOf_x1_H ql qname) fleetref2_ValueOf_x1_k (fleetref2_ValueOf_x1_S ql qname) (by intro x; rcases x with x | x <;> exact fun h => nomatch h) h4 (fleetref2_ValueOf_x1_ok ql qname)) ?_
    exact oF hF [] []

/-! ### beaconfleet/fleetref2.namesOf -/
def fleetref2_namesOf_o0_x2_k : (List (List UInt8)) → AEx
  | _ => .exit 2

def fleetref2_namesOf_o0_x2_S (qlists : List (List api_Prop)) (vx : Int) (vy3 : List api_Prop) : (List (List UInt8)) → St
  | vout4 => Mem.st ⟨[(1, ⟨9, 1, List.map encS vout4⟩)], []⟩ (tl [(3, .v (.one (.own 1 none))), (8, .v (.one (.d (.lst (List.map (encL api_Prop.enc) qlists))))), (9, .v (.one (.d (.int .i64 (qlists.length : Int))))), (10, .v (.one (.d (.int .i64 vx))))]) 2

def fleetref2_namesOf_o0_x2_H (qlists : List (List api_Prop)) (vx : Int) (vy3 : List api_Prop) : (List (List UInt8)) × Int → St
  | (vout3, vx2) => Mem.st ⟨[(1, ⟨9, 1, List.map encS vout3⟩)], []⟩ (tl [(3, .v (.one (.own 1 none))), (8, .v (.one (.d (.lst (List.map (encL api_Prop.enc) qlists))))), (9, .v (.one (.d (.int .i64 (qlists.length : Int))))), (10, .v (.one (.d (.int .i64 vx)))), (14, .v (.one (.d (.lst (List.map api_Prop.enc vy3))))), (15, .v (.one (.d (.int .i64 (vy3.length : Int))))), (16, .v (.one (.d (.int .i64 vx2))))]) 2

theorem fleetref2_namesOf_o0_x2_ok (qlists : List (List api_Prop)) (vx : Int) (vy3 : List api_Prop) (s : (List (List UInt8)) × Int) (r : ((List (List UInt8)) × Int) ⊕ ((List (List UInt8)))) (hF : fleetref2_namesOf_o0_x2 vy3 s = some r) : Awp prog 1 31 (cL (cL (cR (cR (cL (cL (cR (cR (cL (cL (cR (cL (cR (cR (cB f88))))))))))))))) (Out 1 (kk fleetref2_namesOf_o0_x2_k) (SS (fleetref2_namesOf_o0_x2_H qlists vx vy3) (fleetref2_namesOf_o0_x2_S qlists vx vy3)) r) (fleetref2_namesOf_o0_x2_H qlists vx vy3 s) := by
  obtain ⟨vout3, vx2⟩ := s
  unfold fleetref2_namesOf_o0_x2 at hF
  refine awp_seq ?_
  refine awp_region ?_
  refine aR 1 ?_
  refine aE ?_
  refine awp_seq ?_
  refine cE hF (fun h3 hF => ?_) fun h3 hF => ?_
  · refine awp_true (by kernel_rfl) h3 ?_
    refine awp_skip ?_
    refine awp_seq ?_
    refine awp_block ?_
    refine awp_seq ?_
    refine bE hF fun vy5 h4 hF => ?_
    refine awp_region ?_
    refine aX (x_idx api_Prop.enc h4) ?_
    refine aR 3 ?_
    refine aE ?_
    refine gE hF fun h5 hF => ?_
    refine awp_region ?_
    refine aR 4 ?_
    refine aX (x_app encS 1 h5) ?_
    refine aR 1 ?_
    refine aE ?_
    refine awp_region ?_
    refine aR 2 ?_
    refine aE ?_
    exact oO hF [(1, 9002)] [] rfl
  · refine awp_false (by kernel_rfl) h3 ?_
    refine awp_exit ?_
    exact oO hF [] [] rfl

def fleetref2_namesOf_o0_x1_k : (List (List UInt8)) → AEx
  | _ => .exit 0

def fleetref2_namesOf_o0_x1_S (qlists : List (List api_Prop)) : (List (List UInt8)) → St
  | vout5 => Mem.st ⟨[(1, ⟨9, 1, List.map encS vout5⟩)], []⟩ (tl [(3, .v (.one (.own 1 none)))]) 2

def fleetref2_namesOf_o0_x1_H (qlists : List (List api_Prop)) : (List (List UInt8)) × Int → St
  | (vout, vx) => Mem.st ⟨[(1, ⟨9, 1, List.map encS vout⟩)], []⟩ (tl [(3, .v (.one (.own 1 none))), (8, .v (.one (.d (.lst (List.map (encL api_Prop.enc) qlists))))), (9, .v (.one (.d (.int .i64 (qlists.length : Int))))), (10, .v (.one (.d (.int .i64 vx))))]) 2

theorem fleetref2_namesOf_o0_x1_ok (qlists : List (List api_Prop)) (s : (List (List UInt8)) × Int) (r : ((List (List UInt8)) × Int) ⊕ ((List (List UInt8)))) (hF : fleetref2_namesOf_o0_x1 qlists s = some r) : Awp prog 1 31 (cL (cL (cR (cL (cR (cR (cB f88))))))) (Out 1 (kk fleetref2_namesOf_o0_x1_k) (SS (fleetref2_namesOf_o0_x1_H qlists) (fleetref2_namesOf_o0_x1_S qlists)) r) (fleetref2_namesOf_o0_x1_H qlists s) := by
  obtain ⟨vout, vx⟩ := s
  unfold fleetref2_namesOf_o0_x1 at hF
  refine awp_seq ?_
  refine awp_region ?_
  refine aR 1 ?_
  refine aE ?_
  refine awp_seq ?_
  refine cE hF (fun h1 hF => ?_) fun h1 hF => ?_
  · refine awp_true (by kernel_rfl) h1 ?_
    refine awp_skip ?_
    refine awp_seq ?_
    refine awp_block ?_
    refine awp_seq ?_
    refine bE hF fun vy3 h2 hF => ?_
    refine awp_region ?_
    refine aX (x_idx (encL api_Prop.enc) h2) ?_
    refine aR 2 ?_
    refine aE ?_
    refine awp_seq ?_
    refine awp_region ?_
    refine aR 1 ?_
    refine aL api_Prop.enc vy3 ?_
    refine aR 1 ?_
    refine aE ?_
    refine awp_block ?_
    refine awp_to (st' := fleetref2_namesOf_o0_x2_H qlists vx vy3 (vout, 0)) (oT [] []) ?_
    refine bE hF fun vout4_1 h6 hF => ?_
    refine awp_sub (awp_loop' (fleetref2_namesOf_o0_x2_H qlists vx vy3) fleetref2_namesOf_o0_x2_k (fleetref2_namesOf_o0_x2_S qlists vx vy3) (by intro x; exact fun h => nomatch h) h6 (fleetref2_namesOf_o0_x2_ok qlists vx vy3)) ?_
    refine awp_region ?_
    refine aR 2 ?_
    refine aE ?_
    exact oO hF [] [] rfl
  · refine awp_false (by kernel_rfl) h1 ?_
    refine awp_exit ?_
    exact oO hF [] [] rfl

def fleetref2_namesOf_o0_R (qlists : List (List api_Prop)) (r : (List (List UInt8))) : TV × Mem := (.v (.one (.own 1 none)), ⟨[(1, ⟨9, 1, List.map encS r⟩)], []⟩)

theorem fleetref2_namesOf_o0_ok {qlists : List (List api_Prop)} {r} (hF : fleetref2_namesOf_o0 qlists = some r) : Holds prog 88 [.v (.one (.own 0 none))] ⟨[(0, ⟨29, 1, List.map (encL api_Prop.enc) qlists⟩)], []⟩ (Is (fleetref2_namesOf_o0_R qlists r)) := by
  unfold fleetref2_namesOf_o0 at hF
  refine holds_of_awp hΓ (fn := f88) (c := cB f88) (A := 1) (nx := 1) (by kernel_rfl) (by kernel_rfl) (by kernel_rfl) (by kernel_rfl) (by kernel_rfl) (by kernel_rfl) (lowc_of (by kernel_rfl)) ?_
  show Awp prog 1 31 (cB f88) _ _
  refine awp_seq ?_
  refine awp_region ?_
  refine aR 1 ?_
  refine aE ?_
  refine awp_to (oT (m := ⟨[], []⟩) (ts := [(0, .v (.one (.d (.lst (List.map (encL api_Prop.enc) qlists)))))]) (nx := 1) [] []) ?_
  refine awp_seq ?_
  refine awp_region ?_
  refine aR 1 ?_
  refine aE ?_
  refine awp_seq ?_
  refine awp_seq ?_
  refine awp_region ?_
  refine aR 1 ?_
  refine aL (encL api_Prop.enc) qlists ?_
  refine aR 1 ?_
  refine aE ?_
  refine awp_block ?_
  refine awp_to (st' := fleetref2_namesOf_o0_x1_H qlists ([], 0)) (oT [] [1]) ?_
  refine bE hF fun vout5_1 h7 hF => ?_
  refine awp_sub (awp_loop' (fleetref2_namesOf_o0_x1_H qlists) fleetref2_namesOf_o0_x1_k (fleetref2_namesOf_o0_x1_S qlists) (by intro x; exact fun h => nomatch h) h7 (fleetref2_namesOf_o0_x1_ok qlists)) ?_
  refine awp_seq ?_
  refine bE hF fun vl h8 hF => ?_
  refine gE hF fun h9 hF => ?_
  refine awp_region ?_
  refine aR 1 ?_
  refine aCp (slices_Sort_string_string_o0_ok h8) ⟨⟨rfl, rfl, pin1 h9⟩, trivial⟩ [(0, 1)] [] [] ?_
  refine aE ?_
  refine awp_seq ?_
  refine bE hF fun vr h10 hF => ?_
  refine awp_region ?_
  refine aR 1 ?_
  refine aC (slices_Compact_string_string_o0_ok h10) [(0, 1)] [] [] ?_
  refine aR 1 ?_
  refine aE ?_
  refine awp_ret ?_
  exact oF hF [(1, 3003)] []

/-! ### beaconfleet/fleetref2.DifferOf -/
def fleetref2_DifferOf_o1_x2_k : (List api_Change) → AEx
  | _ => .normal

def fleetref2_DifferOf_o1_x2_S (qa : List api_Prop) (qb : List api_Prop) (vr1 : List (List UInt8)) (vout : List api_Change) (vx : Int) : (List api_Change) → St
  | vout2 => Mem.st ⟨[(1, ⟨72, 9, List.map api_Change.enc vout2⟩)], []⟩ (tl [(0, .v (.one (.d (.lst (List.map api_Prop.enc qa))))), (1, .v (.one (.d (.lst (List.map api_Prop.enc qb))))), (5, .v (.one (.own 1 none))), (13, .v (.one (.d (.lst (List.map encS vr1))))), (14, .v (.one (.d (.int .i64 (vr1.length : Int))))), (15, .v (.one (.d (.int .i64 vx))))]) 2

def fleetref2_DifferOf_o1_x2_I (qa : List api_Prop) (qb : List api_Prop) (vr1 : List (List UInt8)) (vout : List api_Change) (vx : Int) : St := Mem.st ⟨[(1, ⟨72, 9, List.map api_Change.enc vout⟩)], []⟩ (tl [(0, .v (.one (.d (.lst (List.map api_Prop.enc qa))))), (1, .v (.one (.d (.lst (List.map api_Prop.enc qb))))), (5, .v (.one (.own 1 none))), (13, .v (.one (.d (.lst (List.map encS vr1))))), (14, .v (.one (.d (.int .i64 (vr1.length : Int))))), (15, .v (.one (.d (.int .i64 vx))))]) 2

theorem fleetref2_DifferOf_o1_x2_ok (qa : List api_Prop) (qb : List api_Prop) (vr1 : List (List UInt8)) (vout : List api_Change) (vx : Int) {r} (hF : fleetref2_DifferOf_o1_x2 qa qb vr1 vout vx = some r) : Awp prog 1 37 (cL (cR (cR (cL (cL (cR (cL (cR (cR (cB f34)))))))))) (Out 1 fleetref2_DifferOf_o1_x2_k (fleetref2_DifferOf_o1_x2_S qa qb vr1 vout vx) r) (fleetref2_DifferOf_o1_x2_I qa qb vr1 vout vx) := by
  unfold fleetref2_DifferOf_o1_x2 at hF
  refine awp_block ?_
  refine awp_seq ?_
  refine bE hF fun vy1 h3 hF => ?_
  refine awp_region ?_
  refine aX (x_idx encS h3) ?_
  refine aR 2 ?_
  refine aE ?_
  refine awp_seq ?_
  refine bE hF fun vr3 h4 hF => ?_
  refine bE hF fun vr4 h5 hF => ?_
  refine awp_region ?_
  refine aR 2 ?_
  refine aC (fleetref2_ValueOf_ok h4) [] [] [] ?_
  refine aR 2 ?_
  refine aC (fleetref2_ValueOf_ok h5) [] [] [] ?_
  refine aR 4 ?_
  refine aE ?_
  refine awp_seq ?_
  refine awp_region ?_
  refine aR 2 ?_
  refine aS (does_eqS (op := .neq) (xs := [.int .i64 vr3.Kind, .bool vr3.Flag, .int .i64 vr3.Number, .str vr3.Words]) (ys := [.int .i64 vr4.Kind, .bool vr4.Flag, .int .i64 vr4.Number, .str vr4.Words]) (b := (decide (vr3.Kind = vr4.Kind) && ((vr3.Flag == vr4.Flag) && (decide (vr3.Number = vr4.Number) && (decide (vr3.Words = vr4.Words) && true))))) (c := (!(decide (vr3.Kind = vr4.Kind) && ((vr3.Flag == vr4.Flag) && (decide (vr3.Number = vr4.Number) && (decide (vr3.Words = vr4.Words) && true)))))) rfl (.inr ⟨rfl, rfl⟩) (by kernel_rfl) (by kernel_rfl) (by kernel_rfl) (by kernel_rfl) (by kernel_rfl) (by kernel_rfl)) ?_
  refine aE ?_
  refine cE hF (fun h6 hF => ?_) fun h6 hF => ?_
  · refine awp_true (by kernel_rfl) h6 ?_
    refine gE hF fun h7 hF => ?_
    refine awp_region ?_
    refine aR 6 ?_
    refine aX (x_app api_Change.enc 1 h7) ?_
    refine aR 1 ?_
    refine aE ?_
    exact oO hF [(1, 22002)] [] rfl
  · refine awp_false (by kernel_rfl) h6 ?_
    refine awp_skip ?_
    exact oO hF [] [] rfl

def fleetref2_DifferOf_o1_x1_k : (List api_Change) → AEx
  | _ => .exit 0

def fleetref2_DifferOf_o1_x1_S (qa : List api_Prop) (qb : List api_Prop) (vr1 : List (List UInt8)) : (List api_Change) → St
  | vout3 => Mem.st ⟨[(1, ⟨72, 9, List.map api_Change.enc vout3⟩)], []⟩ (tl [(5, .v (.one (.own 1 none)))]) 2

def fleetref2_DifferOf_o1_x1_H (qa : List api_Prop) (qb : List api_Prop) (vr1 : List (List UInt8)) : (List api_Change) × Int → St
  | (vout, vx) => Mem.st ⟨[(1, ⟨72, 9, List.map api_Change.enc vout⟩)], []⟩ (tl [(0, .v (.one (.d (.lst (List.map api_Prop.enc qa))))), (1, .v (.one (.d (.lst (List.map api_Prop.enc qb))))), (5, .v (.one (.own 1 none))), (13, .v (.one (.d (.lst (List.map encS vr1))))), (14, .v (.one (.d (.int .i64 (vr1.length : Int))))), (15, .v (.one (.d (.int .i64 vx))))]) 2

theorem fleetref2_DifferOf_o1_x1_ok (qa : List api_Prop) (qb : List api_Prop) (vr1 : List (List UInt8)) (s : (List api_Change) × Int) (r : ((List api_Change) × Int) ⊕ ((List api_Change))) (hF : fleetref2_DifferOf_o1_x1 qa qb vr1 s = some r) : Awp prog 1 37 (cL (cL (cR (cL (cR (cR (cB f34))))))) (Out 1 (kk fleetref2_DifferOf_o1_x1_k) (SS (fleetref2_DifferOf_o1_x1_H qa qb vr1) (fleetref2_DifferOf_o1_x1_S qa qb vr1)) r) (fleetref2_DifferOf_o1_x1_H qa qb vr1 s) := by
  obtain ⟨vout, vx⟩ := s
  unfold fleetref2_DifferOf_o1_x1 at hF
  refine awp_seq ?_
  refine awp_region ?_
  refine aR 1 ?_
  refine aE ?_
  refine awp_seq ?_
  refine cE hF (fun h2 hF => ?_) fun h2 hF => ?_
  · refine awp_true (by kernel_rfl) h2 ?_
    refine awp_skip ?_
    refine awp_seq ?_
    refine awp_to (st' := fleetref2_DifferOf_o1_x2_I qa qb vr1 vout vx) (oT [] []) ?_
    refine bE hF fun vout2_1 h8 hF => ?_
    refine awp_sub (fleetref2_DifferOf_o1_x2_ok qa qb vr1 vout vx h8) ?_
    refine awp_region ?_
    refine aR 2 ?_
    refine aE ?_
    exact oO hF [] [] rfl
  · refine awp_false (by kernel_rfl) h2 ?_
    refine awp_exit ?_
    exact oO hF [] [] rfl

def fleetref2_DifferOf_o1_R (qa : List api_Prop) (qb : List api_Prop) (r : (List api_Change)) : TV × Mem := (.v (.one (.own 1 none)), ⟨[(1, ⟨72, 9, List.map api_Change.enc r⟩)], []⟩)

theorem fleetref2_DifferOf_o1_ok {qa : List api_Prop} {qb : List api_Prop} {r} (hF : fleetref2_DifferOf_o1 qa qb = some r) : Holds prog 34 [.v (.one (.d (.lst (List.map api_Prop.enc qa)))), .v (.one (.own 0 none))] ⟨[(0, ⟨44, 5, List.map api_Prop.enc qb⟩)], []⟩ (Is (fleetref2_DifferOf_o1_R qa qb r)) := by
  unfold fleetref2_DifferOf_o1 at hF
  refine holds_of_awp hΓ (fn := f34) (c := cB f34) (A := 1) (nx := 1) (by kernel_rfl) (by kernel_rfl) (by kernel_rfl) (by kernel_rfl) (by kernel_rfl) (by kernel_rfl) (lowc_of (by kernel_rfl)) ?_
  show Awp prog 1 37 (cB f34) _ _
  refine awp_seq ?_
  refine awp_region ?_
  refine aR 1 ?_
  refine aE ?_
  refine awp_to (oT (m := ⟨[], []⟩) (ts := [(0, .v (.one (.d (.lst (List.map api_Prop.enc qa))))), (1, .v (.one (.d (.lst (List.map api_Prop.enc qb)))))]) (nx := 1) [] []) ?_
  refine awp_seq ?_
  refine awp_region ?_
  refine aR 1 ?_
  refine aE ?_
  refine awp_seq ?_
  refine awp_seq ?_
  refine bE hF fun vr1 h1 hF => ?_
  refine awp_region ?_
  refine aR 3 ?_
  refine aC (fleetref2_namesOf_o0_ok h1) [(0, 3001)] [] [] ?_
  refine aL encS vr1 ?_
  refine aR 1 ?_
  refine aE ?_
  refine awp_to (oT (m := ⟨[], []⟩) (ts := [(0, .v (.one (.d (.lst (List.map api_Prop.enc qa))))), (1, .v (.one (.d (.lst (List.map api_Prop.enc qb))))), (5, .v (.one (.nil))), (13, .v (.one (.d (.lst (List.map encS vr1))))), (14, .v (.one (.d (.int .i64 (vr1.length : Int))))), (15, .v (.one (.d (.int .i64 0))))]) (nx := 1) [] []) ?_
  refine awp_block ?_
  refine awp_to (st' := fleetref2_DifferOf_o1_x1_H qa qb vr1 ([], 0)) (oT [] [1]) ?_
  refine bE hF fun vout3_1 h9 hF => ?_
  refine awp_sub (awp_loop' (fleetref2_DifferOf_o1_x1_H qa qb vr1) fleetref2_DifferOf_o1_x1_k (fleetref2_DifferOf_o1_x1_S qa qb vr1) (by intro x; exact fun h => nomatch h) h9 (fleetref2_DifferOf_o1_x1_ok qa qb vr1)) ?_
  refine awp_seq ?_
  refine awp_region ?_
  refine aR 2 ?_
  refine aE ?_
  refine awp_ret ?_
  exact oF hF [] []

/-! ### (*beaconfleet/fleetmake.Stream).Changes -/
def fleetmake_Stream_Changes_x2_k : (fleetmake_Stream × Bool) → AEx
  | _ => .normal

def fleetmake_Stream_Changes_x2_S (vs3 : fleetmake_Stream) (vr5 : List api_Change) : (fleetmake_Stream × Bool) → St
  | (vs, vx) => Mem.st ⟨[(1, ⟨72, 9, List.map api_Change.enc vr5⟩)], [(0, [.d (.lst (List.map (encI .i64) vs.L)), .d (.int .i64 vs.at_)])]⟩ (tl [(0, .v (.one (.box 0 0))), (5, .v (.one (.own 1 none))), (17, .v (.one (.d (.bool vx))))]) 2

def fleetmake_Stream_Changes_x2_I (vs3 : fleetmake_Stream) (vr5 : List api_Change) : St := Mem.st ⟨[(1, ⟨72, 9, List.map api_Change.enc vr5⟩)], [(0, [.d (.lst (List.map (encI .i64) vs3.L)), .d (.int .i64 vs3.at_)])]⟩ (tl [(0, .v (.one (.box 0 0))), (5, .v (.one (.own 1 none)))]) 2

theorem fleetmake_Stream_Changes_x2_ok (vs3 : fleetmake_Stream) (vr5 : List api_Change) {r} (hF : fleetmake_Stream_Changes_x2 vs3 vr5 = some r) : Awp prog 1 55 (cL (cL (cR (cR (cB f28))))) (Out 1 fleetmake_Stream_Changes_x2_k (fleetmake_Stream_Changes_x2_S vs3 vr5) r) (fleetmake_Stream_Changes_x2_I vs3 vr5) := by
  unfold fleetmake_Stream_Changes_x2 at hF
  refine cE hF (fun h3 hF => ?_) fun h3 hF => ?_
  · refine bE hF fun vr h4 hF => ?_
    refine awp_region ?_
    refine aR 1 ?_
    refine aL api_Change.enc vr5 ?_
    refine aB h3 ?_
    refine aR 2 ?_
    refine aC (fleetmake_Stream_Flip_ok h4) [] [] [] ?_
    refine aR 1 ?_
    refine aE ?_
    exact oO hF [] [] rfl
  · refine awp_region ?_
    refine aR 1 ?_
    refine aL api_Change.enc vr5 ?_
    refine aB h3 ?_
    refine aR 4 ?_
    refine aE ?_
    exact oO hF [] [] rfl

def fleetmake_Stream_Changes_x1_k : (fleetmake_Stream × (List api_Change)) → AEx
  | _ => .normal

def fleetmake_Stream_Changes_x1_S (vs3 : fleetmake_Stream) (vr5 : List api_Change) : (fleetmake_Stream × (List api_Change)) → St
  | (vs2, vout) => Mem.st ⟨[(1, ⟨72, 9, List.map api_Change.enc vout⟩)], [(0, [.d (.lst (List.map (encI .i64) vs2.L)), .d (.int .i64 vs2.at_)])]⟩ (tl [(5, .v (.one (.own 1 none)))]) 2

def fleetmake_Stream_Changes_x1_I (vs3 : fleetmake_Stream) (vr5 : List api_Change) : St := Mem.st ⟨[(1, ⟨72, 9, List.map api_Change.enc vr5⟩)], [(0, [.d (.lst (List.map (encI .i64) vs3.L)), .d (.int .i64 vs3.at_)])]⟩ (tl [(0, .v (.one (.box 0 0))), (5, .v (.one (.own 1 none)))]) 2

theorem fleetmake_Stream_Changes_x1_ok (vs3 : fleetmake_Stream) (vr5 : List api_Change) {r} (hF : fleetmake_Stream_Changes_x1 vs3 vr5 = some r) : Awp prog 1 55 (cL (cR (cR (cB f28)))) (Out 1 fleetmake_Stream_Changes_x1_k (fleetmake_Stream_Changes_x1_S vs3 vr5) r) (fleetmake_Stream_Changes_x1_I vs3 vr5) := by
  unfold fleetmake_Stream_Changes_x1 at hF
  refine awp_seq ?_
  refine awp_to (st' := fleetmake_Stream_Changes_x2_I vs3 vr5) (oT [] []) ?_
  refine bE hF fun x h5 hF => ?_
  obtain ⟨vs1, vx1⟩ := x
  refine awp_sub (fleetmake_Stream_Changes_x2_ok vs3 vr5 h5) ?_
  refine cE hF (fun h6 hF => ?_) fun h6 hF => ?_
  · refine awp_true (by kernel_rfl) h6 ?_
    refine awp_seq ?_
    refine bE hF fun vr3 h7 hF => ?_
    refine bE hF fun vy h8 hF => ?_
    refine awp_region ?_
    refine aR 3 ?_
    refine aL api_Change.enc vr5 ?_
    refine aC (fleetmake_Stream_Next_ok h7) [] [] [] ?_
    refine aX (x_idxO api_Change.enc 1 h8) ?_
    refine aR 1 ?_
    refine aE ?_
    refine awp_seq ?_
    refine bE hF fun vr3_1 h9 hF => ?_
    refine awp_region ?_
    refine aR 1 ?_
    refine aC (fleetmake_Stream_Next_ok h9) [] [] [] ?_
    refine aE ?_
    refine awp_block ?_
    refine awp_seq ?_
    refine awp_region ?_
    refine aR 2 ?_
    refine aE ?_
    refine cE hF (fun h10 hF => ?_) fun h10 hF => ?_
    · refine awp_true (by kernel_rfl) h10 ?_
      refine bE hF fun vr4 h11 hF => ?_
      refine awp_region ?_
      refine aR 2 ?_
      refine aC (fleetmake_Stream_PropName_ok h11) [] [] [] ?_
      refine aR 2 ?_
      refine aX (x_stE api_Change.enc (api_Change.mk vr4 (api_Value.mk vy.From.Kind vy.From.Flag vy.From.Number vy.From.Words) (api_Value.mk vy.To.Kind vy.To.Flag vy.To.Number vy.To.Words)) h8) ?_
      refine aE ?_
      exact oO hF [] [] rfl
    · refine awp_false (by kernel_rfl) h10 ?_
      refine awp_seq ?_
      refine awp_region ?_
      refine aR 2 ?_
      refine aE ?_
      refine cE hF (fun h12 hF => ?_) fun h12 hF => ?_
      · refine awp_true (by kernel_rfl) h12 ?_
        refine bE hF fun x h13 hF => ?_
        obtain ⟨vs3_1, vr7⟩ := x
        refine awp_region ?_
        refine aR 2 ?_
        refine aC (fleetmake_Stream_Value_ok h13) [] [] [] ?_
        refine aR 2 ?_
        refine aX (x_stE api_Change.enc (api_Change.mk vy.Name vr7 (api_Value.mk vy.To.Kind vy.To.Flag vy.To.Number vy.To.Words)) h8) ?_
        refine aE ?_
        exact oO hF [] [] rfl
      · refine awp_false (by kernel_rfl) h12 ?_
        refine awp_seq ?_
        refine awp_region ?_
        refine aR 2 ?_
        refine aE ?_
        refine cE hF (fun h14 hF => ?_) fun h14 hF => ?_
        · refine awp_true (by kernel_rfl) h14 ?_
          refine bE hF fun x h15 hF => ?_
          obtain ⟨vs3_2, vr7_1⟩ := x
          refine awp_region ?_
          refine aR 2 ?_
          refine aC (fleetmake_Stream_Value_ok h15) [] [] [] ?_
          refine aR 2 ?_
          refine aX (x_stE api_Change.enc (api_Change.mk vy.Name (api_Value.mk vy.From.Kind vy.From.Flag vy.From.Number vy.From.Words) vr7_1) h8) ?_
          refine aE ?_
          exact oO hF [] [] rfl
        · refine awp_false (by kernel_rfl) h14 ?_
          refine awp_region ?_
          refine aR 4 ?_
          refine aX (x_ldE api_Change.enc h8) ?_
          refine aR 2 ?_
          refine aX (x_stE api_Change.enc (api_Change.mk vy.Name (api_Value.mk vy.To.Kind vy.To.Flag vy.To.Number vy.To.Words) (api_Value.mk vy.To.Kind vy.To.Flag vy.To.Number vy.To.Words)) h8) ?_
          refine aE ?_
          exact oO hF [] [] rfl
  · refine awp_false (by kernel_rfl) h6 ?_
    refine awp_skip ?_
    exact oO hF [] [] rfl

def fleetmake_Stream_Changes_R (qs : fleetmake_Stream) (ql : List api_Prop) (r : fleetmake_Stream × (List api_Change)) : TV × Mem := (.v (.one (.own 1 none)), ⟨[(1, ⟨72, 9, List.map api_Change.enc r.2⟩)], [(0, [.d (.lst (List.map (encI .i64) r.1.L)), .d (.int .i64 r.1.at_)])]⟩)

theorem fleetmake_Stream_Changes_ok {qs : fleetmake_Stream} {ql : List api_Prop} {r} (hF : fleetmake_Stream_Changes qs ql = some r) : Holds prog 28 [.v (.one (.box 0 0)), .v (.one (.d (.lst (List.map api_Prop.enc ql))))] ⟨[], [(0, [.d (.lst (List.map (encI .i64) qs.L)), .d (.int .i64 qs.at_)])]⟩ (Is (fleetmake_Stream_Changes_R qs ql r)) := by
  unfold fleetmake_Stream_Changes at hF
  refine holds_of_awp hΓ (fn := f28) (c := cB f28) (A := 1) (nx := 1) (by kernel_rfl) (by kernel_rfl) (by kernel_rfl) (by kernel_rfl) (by kernel_rfl) (by kernel_rfl) (lowc_of (by kernel_rfl)) ?_
  show Awp prog 1 55 (cB f28) _ _
  refine awp_seq ?_
  refine awp_region ?_
  refine aR 1 ?_
  refine aE ?_
  refine awp_seq ?_
  refine bE hF fun x h1 hF => ?_
  obtain ⟨vs3, vr8⟩ := x
  refine bE hF fun vr5 h2 hF => ?_
  refine awp_region ?_
  refine aR 2 ?_
  refine aC (fleetmake_Stream_RightProps_ok h1) [] [] [] ?_
  refine aC (fleetref2_DifferOf_o1_ok h2) [(0, 3002)] [] [] ?_
  refine aR 1 ?_
  refine aE ?_
  refine awp_seq ?_
  refine awp_to (st' := fleetmake_Stream_Changes_x1_I vs3 vr5) (oT [(1, 4002)] []) ?_
  refine bE hF fun x h16 hF => ?_
  obtain ⟨vs2_1, vout1⟩ := x
  refine awp_sub (fleetmake_Stream_Changes_x1_ok vs3 vr5 h16) ?_
  refine awp_seq ?_
  refine awp_region ?_
  refine aR 2 ?_
  refine aE ?_
  refine awp_ret ?_
  exact oF hF [] []

/-! ### beaconfleet/twin.Differ -/
def twin_Differ_x2_k : (List api_Change) → AEx
  | _ => .normal

def twin_Differ_x2_S (qa : List api_Prop) (qb : List api_Prop) (vr1 : List (List UInt8)) (vout : List api_Change) (vx : Int) : (List api_Change) → St
  | vout2 => Mem.st ⟨[(0, ⟨72, 9, List.map api_Change.enc vout2⟩)], []⟩ (tl [(0, .v (.one (.d (.lst (List.map api_Prop.enc qa))))), (1, .v (.one (.d (.lst (List.map api_Prop.enc qb))))), (7, .v (.one (.own 0 none))), (24, .v (.one (.d (.lst (List.map encS vr1))))), (25, .v (.one (.d (.int .i64 (vr1.length : Int))))), (26, .v (.one (.d (.int .i64 vx))))]) 1

def twin_Differ_x2_I (qa : List api_Prop) (qb : List api_Prop) (vr1 : List (List UInt8)) (vout : List api_Change) (vx : Int) : St := Mem.st ⟨[(0, ⟨72, 9, List.map api_Change.enc vout⟩)], []⟩ (tl [(0, .v (.one (.d (.lst (List.map api_Prop.enc qa))))), (1, .v (.one (.d (.lst (List.map api_Prop.enc qb))))), (7, .v (.one (.own 0 none))), (24, .v (.one (.d (.lst (List.map encS vr1))))), (25, .v (.one (.d (.int .i64 (vr1.length : Int))))), (26, .v (.one (.d (.int .i64 vx))))]) 1

theorem twin_Differ_x2_ok (qa : List api_Prop) (qb : List api_Prop) (vr1 : List (List UInt8)) (vout : List api_Change) (vx : Int) {r} (hF : twin_Differ_x2 qa qb vr1 vout vx = some r) : Awp prog 0 48 (cL (cR (cR (cL (cL (cR (cL (cR (cR (cR (cB f29))))))))))) (Out 0 twin_Differ_x2_k (twin_Differ_x2_S qa qb vr1 vout vx) r) (twin_Differ_x2_I qa qb vr1 vout vx) := by
  unfold twin_Differ_x2 at hF
  refine awp_block ?_
  refine awp_seq ?_
  refine bE hF fun vy1 h7 hF => ?_
  refine awp_region ?_
  refine aX (x_idx encS h7) ?_
  refine aR 2 ?_
  refine aE ?_
  refine awp_seq ?_
  refine bE hF fun vr5 h8 hF => ?_
  refine bE hF fun vr6 h9 hF => ?_
  refine awp_region ?_
  refine aR 2 ?_
  refine aC (twin_valueOf_ok h8) [] [] [] ?_
  refine aR 2 ?_
  refine aC (twin_valueOf_ok h9) [] [] [] ?_
  refine aR 4 ?_
  refine aE ?_
  refine awp_seq ?_
  refine awp_region ?_
  refine aR 2 ?_
  refine aS (does_eqS (op := .neq) (xs := [.int .i64 vr5.Kind, .bool vr5.Flag, .int .i64 vr5.Number, .str vr5.Words]) (ys := [.int .i64 vr6.Kind, .bool vr6.Flag, .int .i64 vr6.Number, .str vr6.Words]) (b := (decide (vr5.Kind = vr6.Kind) && ((vr5.Flag == vr6.Flag) && (decide (vr5.Number = vr6.Number) && (decide (vr5.Words = vr6.Words) && true))))) (c := (!(decide (vr5.Kind = vr6.Kind) && ((vr5.Flag == vr6.Flag) && (decide (vr5.Number = vr6.Number) && (decide (vr5.Words = vr6.Words) && true)))))) rfl (.inr ⟨rfl, rfl⟩) (by kernel_rfl) (by kernel_rfl) (by kernel_rfl) (by kernel_rfl) (by kernel_rfl) (by kernel_rfl)) ?_
  refine aE ?_
  refine cE hF (fun h10 hF => ?_) fun h10 hF => ?_
  · refine awp_true (by kernel_rfl) h10 ?_
    refine gE hF fun h11 hF => ?_
    refine awp_region ?_
    refine aR 6 ?_
    refine aX (x_app api_Change.enc 0 h11) ?_
    refine aR 1 ?_
    refine aE ?_
    exact oO hF [(0, 22001)] [] rfl
  · refine awp_false (by kernel_rfl) h10 ?_
    refine awp_skip ?_
    exact oO hF [] [] rfl

def twin_Differ_x1_k : (List api_Change) → AEx
  | _ => .exit 0

def twin_Differ_x1_S (qa : List api_Prop) (qb : List api_Prop) (vr1 : List (List UInt8)) : (List api_Change) → St
  | vout3 => Mem.st ⟨[(0, ⟨72, 9, List.map api_Change.enc vout3⟩)], []⟩ (tl [(7, .v (.one (.own 0 none)))]) 1

def twin_Differ_x1_H (qa : List api_Prop) (qb : List api_Prop) (vr1 : List (List UInt8)) : (List api_Change) × Int → St
  | (vout, vx) => Mem.st ⟨[(0, ⟨72, 9, List.map api_Change.enc vout⟩)], []⟩ (tl [(0, .v (.one (.d (.lst (List.map api_Prop.enc qa))))), (1, .v (.one (.d (.lst (List.map api_Prop.enc qb))))), (7, .v (.one (.own 0 none))), (24, .v (.one (.d (.lst (List.map encS vr1))))), (25, .v (.one (.d (.int .i64 (vr1.length : Int))))), (26, .v (.one (.d (.int .i64 vx))))]) 1

theorem twin_Differ_x1_ok (qa : List api_Prop) (qb : List api_Prop) (vr1 : List (List UInt8)) (s : (List api_Change) × Int) (r : ((List api_Change) × Int) ⊕ ((List api_Change))) (hF : twin_Differ_x1 qa qb vr1 s = some r) : Awp prog 0 48 (cL (cL (cR (cL (cR (cR (cR (cB f29)))))))) (Out 0 (kk twin_Differ_x1_k) (SS (twin_Differ_x1_H qa qb vr1) (twin_Differ_x1_S qa qb vr1)) r) (twin_Differ_x1_H qa qb vr1 s) := by
  obtain ⟨vout, vx⟩ := s
  unfold twin_Differ_x1 at hF
  refine awp_seq ?_
  refine awp_region ?_
  refine aR 1 ?_
  refine aE ?_
  refine awp_seq ?_
  refine cE hF (fun h6 hF => ?_) fun h6 hF => ?_
  · refine awp_true (by kernel_rfl) h6 ?_
    refine awp_skip ?_
    refine awp_seq ?_
    refine awp_to (st' := twin_Differ_x2_I qa qb vr1 vout vx) (oT [] []) ?_
    refine bE hF fun vout2_1 h12 hF => ?_
    refine awp_sub (twin_Differ_x2_ok qa qb vr1 vout vx h12) ?_
    refine awp_region ?_
    refine aR 2 ?_
    refine aE ?_
    exact oO hF [] [] rfl
  · refine awp_false (by kernel_rfl) h6 ?_
    refine awp_exit ?_
    exact oO hF [] [] rfl

def twin_Differ_R (qa : List api_Prop) (qb : List api_Prop) (r : (List api_Change) × Int) : TV × Mem := (.tup [.one (.own 0 none), .one (.d (.int .i64 r.2))], ⟨[(0, ⟨72, 9, List.map api_Change.enc r.1⟩)], []⟩)

theorem twin_Differ_ok {qa : List api_Prop} {qb : List api_Prop} {r} (hF : twin_Differ qa qb = some r) : Holds prog 29 [.v (.one (.d (.lst (List.map api_Prop.enc qa)))), .v (.one (.d (.lst (List.map api_Prop.enc qb))))] ⟨[], []⟩ (Is (twin_Differ_R qa qb r)) := by
  unfold twin_Differ at hF
  refine holds_of_awp hΓ (fn := f29) (c := cB f29) (A := 0) (nx := 0) (by kernel_rfl) (by kernel_rfl) (by kernel_rfl) (by kernel_rfl) (by kernel_rfl) (by kernel_rfl) (lowc_of (by kernel_rfl)) ?_
  show Awp prog 0 48 (cB f29) _ _
  refine awp_seq ?_
  refine awp_region ?_
  refine aR 2 ?_
  refine aE ?_
  refine awp_seq ?_
  refine awp_seq ?_
  refine bE hF fun vr3 h1 hF => ?_
  refine bE hF fun vr3_1 h2 hF => ?_
  refine bE hF fun vr h3 hF => ?_
  refine awp_region ?_
  refine aR 1 ?_
  refine aC (twin_CheckProps_ok h1) [] [] [] ?_
  refine aR 1 ?_
  refine aC (twin_CheckProps_ok h2) [] [] [] ?_
  refine aR 1 ?_
  refine aC (base_First_ok h3) [] [] [6000] ?_
  refine aR 1 ?_
  refine aE ?_
  refine awp_seq ?_
  refine awp_region ?_
  refine aR 2 ?_
  refine aE ?_
  refine cE hF (fun h4 hF => ?_) fun h4 hF => ?_
  · refine awp_true (by kernel_rfl) h4 ?_
    refine awp_seq ?_
    refine awp_region ?_
    refine aR 3 ?_
    refine aE ?_
    refine awp_ret ?_
    exact oF hF [] [0]
  · refine awp_false (by kernel_rfl) h4 ?_
    refine awp_skip ?_
    refine awp_seq ?_
    refine awp_region ?_
    refine aR 1 ?_
    refine aE ?_
    refine awp_seq ?_
    refine awp_seq ?_
    refine bE hF fun vr1 h5 hF => ?_
    refine awp_region ?_
    refine aR 3 ?_
    refine aC (twin_names_o0_ok h5) [(0, 14000)] [] [] ?_
    refine aL encS vr1 ?_
    refine aR 1 ?_
    refine aE ?_
    refine awp_to (oT (m := ⟨[], []⟩) (ts := [(0, .v (.one (.d (.lst (List.map api_Prop.enc qa))))), (1, .v (.one (.d (.lst (List.map api_Prop.enc qb))))), (7, .v (.one (.nil))), (24, .v (.one (.d (.lst (List.map encS vr1))))), (25, .v (.one (.d (.int .i64 (vr1.length : Int))))), (26, .v (.one (.d (.int .i64 0))))]) (nx := 0) [] []) ?_
    refine awp_block ?_
    refine awp_to (st' := twin_Differ_x1_H qa qb vr1 ([], 0)) (oT [] [0]) ?_
    refine bE hF fun vout3_1 h13 hF => ?_
    refine awp_sub (awp_loop' (twin_Differ_x1_H qa qb vr1) twin_Differ_x1_k (twin_Differ_x1_S qa qb vr1) (by intro x; exact fun h => nomatch h) h13 (twin_Differ_x1_ok qa qb vr1)) ?_
    refine awp_seq ?_
    refine awp_region ?_
    refine aR 3 ?_
    refine aE ?_
    refine awp_ret ?_
    exact oF hF [] []

/-! ### beaconfleet/twin.CheckChanges -/
def twin_CheckChanges_x2_k : Bool → AEx
  | _ => .normal

def twin_CheckChanges_x2_S (ql : List api_Change) (vx : Int) (vy2 : api_Change) : Bool → St
  | vx2 => Mem.st ⟨[], []⟩ (tl [(0, .v (.one (.d (.lst (List.map api_Change.enc ql))))), (9, .v (.one (.d (.lst (List.map api_Change.enc ql))))), (10, .v (.one (.d (.int .i64 (ql.length : Int))))), (11, .v (.one (.d (.int .i64 vx)))), (48, .v (.one (.d (.bool vx2))))]) 0

def twin_CheckChanges_x2_I (ql : List api_Change) (vx : Int) (vy2 : api_Change) : St := Mem.st ⟨[], [(0, [.d (.str vy2.Name), .d (.int .i64 vy2.From.Kind), .d (.bool vy2.From.Flag), .d (.int .i64 vy2.From.Number), .d (.str vy2.From.Words), .d (.int .i64 vy2.To.Kind), .d (.bool vy2.To.Flag), .d (.int .i64 vy2.To.Number), .d (.str vy2.To.Words)])]⟩ (tl [(0, .v (.one (.d (.lst (List.map api_Change.enc ql))))), (3, .v (.one (.d (.int .i64 vx)))), (4, .v (.one (.box 0 0))), (9, .v (.one (.d (.lst (List.map api_Change.enc ql))))), (10, .v (.one (.d (.int .i64 (ql.length : Int))))), (11, .v (.one (.d (.int .i64 vx))))]) 1

theorem twin_CheckChanges_x2_ok (ql : List api_Change) (vx : Int) (vy2 : api_Change) {r} (hF : twin_CheckChanges_x2 ql vx vy2 = some r) : Awp prog 0 50 (cL (cR (cR (cR (cR (cL (cL (cR (cR (cL (cL (cR (cL (cR (cR (cB f33)))))))))))))))) (Out 0 twin_CheckChanges_x2_k (twin_CheckChanges_x2_S ql vx vy2) r) (twin_CheckChanges_x2_I ql vx vy2) := by
  unfold twin_CheckChanges_x2 at hF
  refine cE hF (fun h11 hF => ?_) fun h11 hF => ?_
  · refine bE hF fun vy3 h12 hF => ?_
    refine aD ?_
    refine dR 1 ?_
    refine dB h11 ?_
    refine dR 6 ?_
    refine dX (x_idx api_Change.enc h12) ?_
    refine dR 4 ?_
    refine dE ?_
    exact oO hF [] [] rfl
  · refine aD ?_
    refine dR 1 ?_
    refine dB h11 ?_
    refine dR 11 ?_
    refine dE ?_
    exact oO hF [] [] rfl

def twin_CheckChanges_x1_k : Unit ⊕ Int → AEx
  | .inl _ => .exit 0
  | .inr _ => .ret

def twin_CheckChanges_x1_S (ql : List api_Change) : Unit ⊕ Int → St
  | .inl _ => Mem.st ⟨[], []⟩ (tl []) 0
  | .inr vx3 => Mem.st ⟨[], []⟩ (tl [(2, .v (.one (.d (.int .i64 vx3))))]) 0

def twin_CheckChanges_x1_H (ql : List api_Change) : Int → St
  | vx => Mem.st ⟨[], []⟩ (tl [(0, .v (.one (.d (.lst (List.map api_Change.enc ql))))), (9, .v (.one (.d (.lst (List.map api_Change.enc ql))))), (10, .v (.one (.d (.int .i64 (ql.length : Int))))), (11, .v (.one (.d (.int .i64 vx))))]) 0

theorem twin_CheckChanges_x1_ok (ql : List api_Change) (vx : Int) (r : (Int) ⊕ (Unit ⊕ Int)) (hF : twin_CheckChanges_x1 ql vx = some r) : Awp prog 0 50 (cL (cL (cR (cL (cR (cR (cB f33))))))) (Out 0 (kk twin_CheckChanges_x1_k) (SS (twin_CheckChanges_x1_H ql) (twin_CheckChanges_x1_S ql)) r) (twin_CheckChanges_x1_H ql vx) := by
  unfold twin_CheckChanges_x1 at hF
  refine awp_seq ?_
  refine awp_region ?_
  refine aR 1 ?_
  refine aE ?_
  refine awp_seq ?_
  refine cE hF (fun h2 hF => ?_) fun h2 hF => ?_
  · refine awp_true (by kernel_rfl) h2 ?_
    refine awp_skip ?_
    refine awp_seq ?_
    refine awp_block ?_
    refine awp_seq ?_
    refine bE hF fun vy2 h3 hF => ?_
    refine awp_region ?_
    refine aR 1 ?_
    refine aX (x_idx api_Change.enc h3) ?_
    refine aR 4 ?_
    refine aE ?_
    refine awp_seq ?_
    refine awp_seq ?_
    refine bE hF fun vr3 h4 hF => ?_
    refine awp_region ?_
    refine aR 2 ?_
    refine aC (twin_isName_ok h4) [] [] [] ?_
    refine aR 1 ?_
    refine aE ?_
    refine cE hF (fun h5 hF => ?_) fun h5 hF => ?_
    · refine awp_true (by kernel_rfl) h5 ?_
      refine awp_seq ?_
      refine awp_region ?_
      refine aR 1 ?_
      refine aE ?_
      refine awp_ret ?_
      exact oO hF [] [] rfl
    · refine awp_false (by kernel_rfl) h5 ?_
      refine awp_skip ?_
      refine awp_seq ?_
      refine awp_seq ?_
      refine bE hF fun vr2_2 h6 hF => ?_
      refine bE hF fun vr2_3 h7 hF => ?_
      refine bE hF fun vr4 h8 hF => ?_
      refine aD ?_
      refine dR 2 ?_
      refine dC (twin_valueFault_ok h6) [] [] [] ?_
      refine dR 2 ?_
      refine dC (twin_valueFault_ok h7) [] [] [] ?_
      refine dR 1 ?_
      refine dC (base_First_ok h8) [] [] [17000] ?_
      refine dR 1 ?_
      refine dE ?_
      refine awp_seq ?_
      refine awp_region ?_
      refine aR 2 ?_
      refine aE ?_
      refine cE hF (fun h9 hF => ?_) fun h9 hF => ?_
      · refine awp_true (by kernel_rfl) h9 ?_
        refine awp_seq ?_
        refine awp_region ?_
        refine aR 2 ?_
        refine aE ?_
        refine awp_ret ?_
        exact oO hF [] [] rfl
      · refine awp_false (by kernel_rfl) h9 ?_
        refine awp_skip ?_
        refine awp_seq ?_
        refine awp_seq ?_
        refine awp_region ?_
        refine aR 4 ?_
        refine aS (does_eqS (op := .eql) (xs := [.int .i64 vy2.From.Kind, .bool vy2.From.Flag, .int .i64 vy2.From.Number, .str vy2.From.Words]) (ys := [.int .i64 vy2.To.Kind, .bool vy2.To.Flag, .int .i64 vy2.To.Number, .str vy2.To.Words]) (b := (decide (vy2.From.Kind = vy2.To.Kind) && ((vy2.From.Flag == vy2.To.Flag) && (decide (vy2.From.Number = vy2.To.Number) && (decide (vy2.From.Words = vy2.To.Words) && true))))) (c := (decide (vy2.From.Kind = vy2.To.Kind) && ((vy2.From.Flag == vy2.To.Flag) && (decide (vy2.From.Number = vy2.To.Number) && (decide (vy2.From.Words = vy2.To.Words) && true))))) rfl (.inl ⟨rfl, rfl⟩) (by kernel_rfl) (by kernel_rfl) (by kernel_rfl) (by kernel_rfl) (by kernel_rfl) (by kernel_rfl)) ?_
        refine aE ?_
        refine cE hF (fun h10 hF => ?_) fun h10 hF => ?_
        · refine awp_true (by kernel_rfl) h10 ?_
          refine awp_seq ?_
          refine awp_region ?_
          refine aR 1 ?_
          refine aE ?_
          refine awp_ret ?_
          exact oO hF [] [] rfl
        · refine awp_false (by kernel_rfl) h10 ?_
          refine awp_skip ?_
          refine awp_seq ?_
          refine awp_to (st' := twin_CheckChanges_x2_I ql vx vy2) (oT [(0, 4000)] []) ?_
          refine bE hF fun vx2_1 h13 hF => ?_
          refine awp_sub (twin_CheckChanges_x2_ok ql vx vy2 h13) ?_
          refine cE hF (fun h14 hF => ?_) fun h14 hF => ?_
          · refine awp_true (by kernel_rfl) h14 ?_
            refine awp_seq ?_
            refine awp_region ?_
            refine aR 1 ?_
            refine aE ?_
            refine awp_ret ?_
            exact oO hF [] [] rfl
          · refine awp_false (by kernel_rfl) h14 ?_
            refine awp_skip ?_
            refine awp_region ?_
            refine aR 2 ?_
            refine aE ?_
            exact oO hF [] [] rfl
  · refine awp_false (by kernel_rfl) h2 ?_
    refine awp_exit ?_
    exact oO hF [] [] rfl

def twin_CheckChanges_R (ql : List api_Change) (r : Int) : TV × Mem := (.v (.one (.d (.int .i64 r))), ⟨[], []⟩)

theorem twin_CheckChanges_ok {ql : List api_Change} {r} (hF : twin_CheckChanges ql = some r) : Holds prog 33 [.v (.one (.d (.lst (List.map api_Change.enc ql))))] ⟨[], []⟩ (Is (twin_CheckChanges_R ql r)) := by
  unfold twin_CheckChanges at hF
  refine holds_of_awp hΓ (fn := f33) (c := cB f33) (A := 0) (nx := 0) (by kernel_rfl) (by kernel_rfl) (by kernel_rfl) (by kernel_rfl) (by kernel_rfl) (by kernel_rfl) (lowc_of (by kernel_rfl)) ?_
  show Awp prog 0 50 (cB f33) _ _
  refine awp_seq ?_
  refine awp_region ?_
  refine aR 1 ?_
  refine aE ?_
  refine awp_seq ?_
  refine awp_seq ?_
  refine awp_region ?_
  refine aR 1 ?_
  refine aL api_Change.enc ql ?_
  refine aR 1 ?_
  refine aE ?_
  refine cE hF (fun h1 hF => ?_) fun h1 hF => ?_
  · refine awp_true (by kernel_rfl) h1 ?_
    refine awp_seq ?_
    refine awp_region ?_
    refine aR 1 ?_
    refine aE ?_
    refine awp_ret ?_
    exact oF hF [] []
  · refine awp_false (by kernel_rfl) h1 ?_
    refine awp_skip ?_
    refine awp_seq ?_
    refine awp_seq ?_
    refine awp_region ?_
    refine aR 1 ?_
    refine aL api_Change.enc ql ?_
    refine aR 1 ?_
    refine aE ?_
    refine awp_block ?_
    refine awp_to (st' := twin_CheckChanges_x1_H ql 0) (oT [] []) ?_
    refine bE hF fun x h15 hF => ?_
    rcases x with _ | vx3_1
    · refine awp_sub (awp_loop' (twin_CheckChanges_x1_H ql) twin_CheckChanges_x1_k (twin_CheckChanges_x1_S ql) (by intro x; rcases x with x | x <;> exact fun h => nomatch h) h15 (twin_CheckChanges_x1_ok ql)) ?_
      refine awp_seq ?_
      refine awp_region ?_
      refine aR 1 ?_
      refine aE ?_
      refine awp_ret ?_
      exact oF hF [] []
    · refine awp_sub (awp_loop' (twin_CheckChanges_x1_H ql) twin_CheckChanges_x1_k (twin_CheckChanges_x1_S ql) (by intro x; rcases x with x | x <;> exact fun h => nomatch h) h15 (twin_CheckChanges_x1_ok ql)) ?_
      exact oF hF [] []

/-! ### beaconfleet/twin.Apply$1 -/
def twin_Apply_1_R (qa : api_Prop) (qb : api_Prop) (r : Unit) : TV × Mem := (.v (.one (.d (.int .i64 (Lib.compareBytes qa.Name qb.Name)))), ⟨[], []⟩)

theorem twin_Apply_1_ok {qa : api_Prop} {qb : api_Prop} {r} (hF : twin_Apply_1 qa qb = some r) : Holds prog 86 [.v (.agg [.d (.str qa.Name), .d (.int .i64 qa.Value.Kind), .d (.bool qa.Value.Flag), .d (.int .i64 qa.Value.Number), .d (.str qa.Value.Words)]), .v (.agg [.d (.str qb.Name), .d (.int .i64 qb.Value.Kind), .d (.bool qb.Value.Flag), .d (.int .i64 qb.Value.Number), .d (.str qb.Value.Words)])] ⟨[], []⟩ (Is (twin_Apply_1_R qa qb r)) := by
  unfold twin_Apply_1 at hF
  refine holds_of_awp hΓ (fn := f86) (c := cB f86) (A := 0) (nx := 0) (by kernel_rfl) (by kernel_rfl) (by kernel_rfl) (by kernel_rfl) (by kernel_rfl) (by kernel_rfl) (lowc_of (by kernel_rfl)) ?_
  show Awp prog 0 10 (cB f86) _ _
  refine awp_seq ?_
  refine awp_region ?_
  refine aR 3 ?_
  refine aE ?_
  refine awp_seq ?_
  refine bE hF fun _ h1 hF => ?_
  refine awp_region ?_
  refine aR 4 ?_
  refine aC (strings_Compare_ok h1) [] [] [] ?_
  refine aR 1 ?_
  refine aE ?_
  refine awp_ret ?_
  exact oF hF [] []

/-! ### slices.insertionSortCmpFunc[beaconfleet/api.Prop] -/
def slices_insertionSortCmpFunc_api_Prop_o0_f3_twin_Apply_1_x3_k : Bool → AEx
  | _ => .normal

def slices_insertionSortCmpFunc_api_Prop_o0_f3_twin_Apply_1_x3_S (qa : Int) (qb : Int) (vi : Int) (vl3 : List api_Prop) (vj1 : Int) : Bool → St
  | vx4 => Mem.st ⟨[(0, ⟨44, 5, List.map api_Prop.enc vl3⟩)], []⟩ (tl [(0, .v (.one (.own 0 none))), (1, .v (.one (.d (.int .i64 qa)))), (2, .v (.one (.d (.int .i64 qb)))), (3, .v (.one (.fn 86 []))), (8, .v (.one (.d (.int .i64 vi)))), (9, .v (.one (.d (.int .i64 vj1)))), (34, .v (.one (.d (.bool vx4))))]) 1

def slices_insertionSortCmpFunc_api_Prop_o0_f3_twin_Apply_1_x3_I (qa : Int) (qb : Int) (vi : Int) (vl3 : List api_Prop) (vj1 : Int) : St := Mem.st ⟨[(0, ⟨44, 5, List.map api_Prop.enc vl3⟩)], []⟩ (tl [(0, .v (.one (.own 0 none))), (1, .v (.one (.d (.int .i64 qa)))), (2, .v (.one (.d (.int .i64 qb)))), (3, .v (.one (.fn 86 []))), (8, .v (.one (.d (.int .i64 vi)))), (9, .v (.one (.d (.int .i64 vj1))))]) 1

theorem slices_insertionSortCmpFunc_api_Prop_o0_f3_twin_Apply_1_x3_ok (qa : Int) (qb : Int) (vi : Int) (vl3 : List api_Prop) (vj1 : Int) {r} (hF : slices_insertionSortCmpFunc_api_Prop_o0_f3_twin_Apply_1_x3 qa vl3 vj1 = some r) : Awp prog 1 53 (cL (cL (cL (cL (cR (cL (cL (cR (cL (cL (cR (cB f147)))))))))))) (Out 1 slices_insertionSortCmpFunc_api_Prop_o0_f3_twin_Apply_1_x3_k (slices_insertionSortCmpFunc_api_Prop_o0_f3_twin_Apply_1_x3_S qa qb vi vl3 vj1) r) (slices_insertionSortCmpFunc_api_Prop_o0_f3_twin_Apply_1_x3_I qa qb vi vl3 vj1) := by
  unfold slices_insertionSortCmpFunc_api_Prop_o0_f3_twin_Apply_1_x3 at hF
  refine cE hF (fun h2 hF => ?_) fun h2 hF => ?_
  · refine bE hF fun vy15 h3 hF => ?_
    refine bE hF fun vy16 h4 hF => ?_
    refine bE hF fun _ h5 hF => ?_
    refine aD ?_
    refine dR 2 ?_
    refine dB h2 ?_
    refine dR 4 ?_
    refine dX (x_idxO api_Prop.enc 0 h3) ?_
    refine dX (x_ldE api_Prop.enc h3) ?_
    refine dR 3 ?_
    refine dX (x_idxO api_Prop.enc 0 h4) ?_
    refine dX (x_ldE api_Prop.enc h4) ?_
    refine dC (twin_Apply_1_ok h5) [] [] [] ?_
    refine dR 2 ?_
    refine dE ?_
    exact oO hF [] [] rfl
  · refine aD ?_
    refine dR 2 ?_
    refine dB h2 ?_
    refine dR 14 ?_
    refine dE ?_
    exact oO hF [] [] rfl

def slices_insertionSortCmpFunc_api_Prop_o0_f3_twin_Apply_1_x2_k : (List api_Prop) → AEx
  | _ => .exit 2

def slices_insertionSortCmpFunc_api_Prop_o0_f3_twin_Apply_1_x2_S (qa : Int) (qb : Int) (vi : Int) : (List api_Prop) → St
  | vl4 => Mem.st ⟨[(0, ⟨44, 5, List.map api_Prop.enc vl4⟩)], []⟩ (tl [(0, .v (.one (.own 0 none))), (1, .v (.one (.d (.int .i64 qa)))), (2, .v (.one (.d (.int .i64 qb)))), (3, .v (.one (.fn 86 []))), (8, .v (.one (.d (.int .i64 vi))))]) 1

def slices_insertionSortCmpFunc_api_Prop_o0_f3_twin_Apply_1_x2_H (qa : Int) (qb : Int) (vi : Int) : (List api_Prop) × Int → St
  | (vl3, vj1) => Mem.st ⟨[(0, ⟨44, 5, List.map api_Prop.enc vl3⟩)], []⟩ (tl [(0, .v (.one (.own 0 none))), (1, .v (.one (.d (.int .i64 qa)))), (2, .v (.one (.d (.int .i64 qb)))), (3, .v (.one (.fn 86 []))), (8, .v (.one (.d (.int .i64 vi)))), (9, .v (.one (.d (.int .i64 vj1))))]) 1

theorem slices_insertionSortCmpFunc_api_Prop_o0_f3_twin_Apply_1_x2_ok (qa : Int) (qb : Int) (vi : Int) (s : (List api_Prop) × Int) (r : ((List api_Prop) × Int) ⊕ ((List api_Prop))) (hF : slices_insertionSortCmpFunc_api_Prop_o0_f3_twin_Apply_1_x2 qa s = some r) : Awp prog 1 53 (cL (cL (cR (cL (cL (cR (cL (cL (cR (cB f147)))))))))) (Out 1 (kk slices_insertionSortCmpFunc_api_Prop_o0_f3_twin_Apply_1_x2_k) (SS (slices_insertionSortCmpFunc_api_Prop_o0_f3_twin_Apply_1_x2_H qa qb vi) (slices_insertionSortCmpFunc_api_Prop_o0_f3_twin_Apply_1_x2_S qa qb vi)) r) (slices_insertionSortCmpFunc_api_Prop_o0_f3_twin_Apply_1_x2_H qa qb vi s) := by
  obtain ⟨vl3, vj1⟩ := s
  unfold slices_insertionSortCmpFunc_api_Prop_o0_f3_twin_Apply_1_x2 at hF
  refine awp_seq ?_
  refine awp_seq ?_
  refine awp_to (st' := slices_insertionSortCmpFunc_api_Prop_o0_f3_twin_Apply_1_x3_I qa qb vi vl3 vj1) (oT [] []) ?_
  refine bE hF fun vx4_1 h6 hF => ?_
  refine awp_sub (slices_insertionSortCmpFunc_api_Prop_o0_f3_twin_Apply_1_x3_ok qa qb vi vl3 vj1 h6) ?_
  refine cE hF (fun h7 hF => ?_) fun h7 hF => ?_
  · refine awp_true (by kernel_rfl) h7 ?_
    refine awp_skip ?_
    refine awp_seq ?_
    refine awp_block ?_
    refine bE hF fun vy17 h8 hF => ?_
    refine bE hF fun vy18 h9 hF => ?_
    refine bE hF fun vy19 h10 hF => ?_
    refine aDw [0] ?_
    refine dR 8 ?_
    refine dI api_Prop.enc 0 h8 rfl ?_
    refine dX (x_ldE api_Prop.enc h8) ?_
    refine dR 2 ?_
    refine dI api_Prop.enc 0 h9 rfl ?_
    refine dX (x_ldE api_Prop.enc h9) ?_
    refine dI api_Prop.enc 0 h9 rfl ?_
    refine dW api_Prop.enc (api_Prop.mk vy17.Name (api_Value.mk vy17.Value.Kind vy17.Value.Flag vy17.Value.Number vy17.Value.Words)) h9 rfl ?_
    refine dI api_Prop.enc 0 h10 rfl ?_
    refine dW api_Prop.enc (api_Prop.mk vy18.Name (api_Value.mk vy18.Value.Kind vy18.Value.Flag vy18.Value.Number vy18.Value.Words)) h10 rfl ?_
    refine dE ?_
    refine awp_region ?_
    refine aR 3 ?_
    refine aE ?_
    exact oO hF [] [] rfl
  · refine awp_false (by kernel_rfl) h7 ?_
    refine awp_exit ?_
    exact oO hF [] [] rfl

def slices_insertionSortCmpFunc_api_Prop_o0_f3_twin_Apply_1_x1_k : (List api_Prop) → AEx
  | _ => .exit 0

def slices_insertionSortCmpFunc_api_Prop_o0_f3_twin_Apply_1_x1_S (qa : Int) (qb : Int) : (List api_Prop) → St
  | vl5 => Mem.st ⟨[(0, ⟨44, 5, List.map api_Prop.enc vl5⟩)], []⟩ (tl []) 1

def slices_insertionSortCmpFunc_api_Prop_o0_f3_twin_Apply_1_x1_H (qa : Int) (qb : Int) : (List api_Prop) × Int → St
  | (vl, vi) => Mem.st ⟨[(0, ⟨44, 5, List.map api_Prop.enc vl⟩)], []⟩ (tl [(0, .v (.one (.own 0 none))), (1, .v (.one (.d (.int .i64 qa)))), (2, .v (.one (.d (.int .i64 qb)))), (3, .v (.one (.fn 86 []))), (8, .v (.one (.d (.int .i64 vi))))]) 1

theorem slices_insertionSortCmpFunc_api_Prop_o0_f3_twin_Apply_1_x1_ok (qa : Int) (qb : Int) (s : (List api_Prop) × Int) (r : ((List api_Prop) × Int) ⊕ ((List api_Prop))) (hF : slices_insertionSortCmpFunc_api_Prop_o0_f3_twin_Apply_1_x1 qa qb s = some r) : Awp prog 1 53 (cL (cL (cR (cB f147)))) (Out 1 (kk slices_insertionSortCmpFunc_api_Prop_o0_f3_twin_Apply_1_x1_k) (SS (slices_insertionSortCmpFunc_api_Prop_o0_f3_twin_Apply_1_x1_H qa qb) (slices_insertionSortCmpFunc_api_Prop_o0_f3_twin_Apply_1_x1_S qa qb)) r) (slices_insertionSortCmpFunc_api_Prop_o0_f3_twin_Apply_1_x1_H qa qb s) := by
  obtain ⟨vl, vi⟩ := s
  unfold slices_insertionSortCmpFunc_api_Prop_o0_f3_twin_Apply_1_x1 at hF
  refine awp_seq ?_
  refine awp_seq ?_
  refine awp_region ?_
  refine aR 3 ?_
  refine aE ?_
  refine cE hF (fun h1 hF => ?_) fun h1 hF => ?_
  · refine awp_true (by kernel_rfl) h1 ?_
    refine awp_skip ?_
    refine awp_seq ?_
    refine awp_block ?_
    refine awp_seq ?_
    refine awp_region ?_
    refine aR 2 ?_
    refine aE ?_
    refine awp_block ?_
    refine awp_to (st' := slices_insertionSortCmpFunc_api_Prop_o0_f3_twin_Apply_1_x2_H qa qb vi (vl, vi)) (oT [] []) ?_
    refine bE hF fun vl4_1 h11 hF => ?_
    refine awp_sub (awp_loop' (slices_insertionSortCmpFunc_api_Prop_o0_f3_twin_Apply_1_x2_H qa qb vi) slices_insertionSortCmpFunc_api_Prop_o0_f3_twin_Apply_1_x2_k (slices_insertionSortCmpFunc_api_Prop_o0_f3_twin_Apply_1_x2_S qa qb vi) (by intro x; exact fun h => nomatch h) h11 (slices_insertionSortCmpFunc_api_Prop_o0_f3_twin_Apply_1_x2_ok qa qb vi)) ?_
    refine awp_region ?_
    refine aR 3 ?_
    refine aE ?_
    exact oO hF [] [] rfl
  · refine awp_false (by kernel_rfl) h1 ?_
    refine awp_exit ?_
    exact oO hF [] [] rfl

def slices_insertionSortCmpFunc_api_Prop_o0_f3_twin_Apply_1_R (qdata : List api_Prop) (qa : Int) (qb : Int) (r : (List api_Prop)) : TV × Mem := (.tup [], ⟨[(0, ⟨44, 5, List.map api_Prop.enc r⟩)], []⟩)

theorem slices_insertionSortCmpFunc_api_Prop_o0_f3_twin_Apply_1_ok {qdata : List api_Prop} {qa : Int} {qb : Int} {r} (hF : slices_insertionSortCmpFunc_api_Prop_o0_f3_twin_Apply_1 qdata qa qb = some r) : Holds prog 147 [.v (.one (.own 0 none)), .v (.one (.d (.int .i64 qa))), .v (.one (.d (.int .i64 qb))), .v (.one (.fn 86 []))] ⟨[(0, ⟨44, 5, List.map api_Prop.enc qdata⟩)], []⟩ (Is (slices_insertionSortCmpFunc_api_Prop_o0_f3_twin_Apply_1_R qdata qa qb r)) := by
  unfold slices_insertionSortCmpFunc_api_Prop_o0_f3_twin_Apply_1 at hF
  refine holds_of_awp hΓ (fn := f147) (c := cB f147) (A := 1) (nx := 1) (by kernel_rfl) (by kernel_rfl) (by kernel_rfl) (by kernel_rfl) (by kernel_rfl) (by kernel_rfl) (lowc_of (by kernel_rfl)) ?_
  show Awp prog 1 53 (cB f147) _ _
  refine awp_seq ?_
  refine awp_region ?_
  refine aR 3 ?_
  refine aE ?_
  refine awp_block ?_
  refine awp_to (st' := slices_insertionSortCmpFunc_api_Prop_o0_f3_twin_Apply_1_x1_H qa qb (qdata, IntKind.wrap .i64 (qa + 1))) (oT [] []) ?_
  refine bE hF fun vl5_1 h12 hF => ?_
  refine awp_sub (awp_loop' (slices_insertionSortCmpFunc_api_Prop_o0_f3_twin_Apply_1_x1_H qa qb) slices_insertionSortCmpFunc_api_Prop_o0_f3_twin_Apply_1_x1_k (slices_insertionSortCmpFunc_api_Prop_o0_f3_twin_Apply_1_x1_S qa qb) (by intro x; exact fun h => nomatch h) h12 (slices_insertionSortCmpFunc_api_Prop_o0_f3_twin_Apply_1_x1_ok qa qb)) ?_
  exact oF hF [] []

/-! ### slices.pdqsortCmpFunc[beaconfleet/api.Prop] -/
def slices_pdqsortCmpFunc_api_Prop_o0_f4_twin_Apply_1_x1_k : (List api_Prop) → AEx
  | _ => .ret

def slices_pdqsortCmpFunc_api_Prop_o0_f4_twin_Apply_1_x1_S (qx : List api_Prop) (qx1 : Int) (qx2 : Int) (qx3 : Int) : (List api_Prop) → St
  | vl => Mem.st ⟨[(0, ⟨44, 5, List.map api_Prop.enc vl⟩)], []⟩ (tl []) 1

def slices_pdqsortCmpFunc_api_Prop_o0_f4_twin_Apply_1_x1_H (qx : List api_Prop) (qx1 : Int) (qx2 : Int) (qx3 : Int) : Unit → St
  | _ => Mem.st ⟨[(0, ⟨44, 5, List.map api_Prop.enc qx⟩)], []⟩ (tl [(0, .v (.one (.own 0 none))), (1, .v (.one (.d (.int .i64 qx1)))), (2, .v (.one (.d (.int .i64 qx2)))), (3, .v (.one (.d (.int .i64 qx3)))), (4, .v (.one (.fn 86 []))), (10, .v (.one (.d (.bool true)))), (11, .v (.one (.d (.bool true))))]) 1

theorem slices_pdqsortCmpFunc_api_Prop_o0_f4_twin_Apply_1_x1_ok (qx : List api_Prop) (qx1 : Int) (qx2 : Int) (qx3 : Int) (s : Unit) (r : (Unit) ⊕ ((List api_Prop))) (hF : slices_pdqsortCmpFunc_api_Prop_o0_f4_twin_Apply_1_x1 qx qx1 qx2 qx3 s = some r) : Awp prog 1 148 (cL (cL (cR (cR (cB f115))))) (Out 1 (kk slices_pdqsortCmpFunc_api_Prop_o0_f4_twin_Apply_1_x1_k) (SS (slices_pdqsortCmpFunc_api_Prop_o0_f4_twin_Apply_1_x1_H qx qx1 qx2 qx3) (slices_pdqsortCmpFunc_api_Prop_o0_f4_twin_Apply_1_x1_S qx qx1 qx2 qx3)) r) (slices_pdqsortCmpFunc_api_Prop_o0_f4_twin_Apply_1_x1_H qx qx1 qx2 qx3 s) := by
  unfold slices_pdqsortCmpFunc_api_Prop_o0_f4_twin_Apply_1_x1 at hF
  refine awp_block ?_
  refine awp_seq ?_
  refine awp_region ?_
  refine aR 4 ?_
  refine aE ?_
  refine awp_seq ?_
  refine awp_seq ?_
  refine awp_region ?_
  refine aR 2 ?_
  refine aE ?_
  refine cE hF (fun h1 hF => ?_) fun h1 hF => ?_
  · refine awp_true (by kernel_rfl) h1 ?_
    refine awp_seq ?_
    refine bE hF fun vl6_1 h2 hF => ?_
    refine gE hF fun h3 hF => ?_
    refine awp_region ?_
    refine aR 4 ?_
    refine aCp (slices_insertionSortCmpFunc_api_Prop_o0_f3_twin_Apply_1_ok h2) ⟨⟨rfl, rfl, pin1 h3⟩, trivial⟩ [] [] [] ?_
    refine aE ?_
    refine awp_ret ?_
    exact oO hF [] [] rfl
  · refine awp_false (by kernel_rfl) h1 ?_
    refine awp_skip ?_
    refine awp_seq ?_
    refine awp_seq ?_
    refine awp_region ?_
    refine aR 2 ?_
    refine aE ?_
    refine cE hF (fun h4 hF => ?_) fun h4 hF => ?_
    · refine awp_true (by kernel_rfl) h4 ?_
      refine awp_seq ?_
      exact nE hF
    · refine awp_false (by kernel_rfl) h4 ?_
      refine awp_skip ?_
      refine awp_seq ?_
      refine awp_seq ?_
      refine awp_region ?_
      refine aR 2 ?_
      refine aE ?_
      refine awp_false (by kernel_rfl) rfl ?_
      refine awp_skip ?_
      refine awp_seq ?_
      exact nE hF

def slices_pdqsortCmpFunc_api_Prop_o0_f4_twin_Apply_1_R (qx : List api_Prop) (qx1 : Int) (qx2 : Int) (qx3 : Int) (r : (List api_Prop)) : TV × Mem := (.tup [], ⟨[(0, ⟨44, 5, List.map api_Prop.enc r⟩)], []⟩)

theorem slices_pdqsortCmpFunc_api_Prop_o0_f4_twin_Apply_1_ok {qx : List api_Prop} {qx1 : Int} {qx2 : Int} {qx3 : Int} {r} (hF : slices_pdqsortCmpFunc_api_Prop_o0_f4_twin_Apply_1 qx qx1 qx2 qx3 = some r) : Holds prog 115 [.v (.one (.own 0 none)), .v (.one (.d (.int .i64 qx1))), .v (.one (.d (.int .i64 qx2))), .v (.one (.d (.int .i64 qx3))), .v (.one (.fn 86 []))] ⟨[(0, ⟨44, 5, List.map api_Prop.enc qx⟩)], []⟩ (Is (slices_pdqsortCmpFunc_api_Prop_o0_f4_twin_Apply_1_R qx qx1 qx2 qx3 r)) := by
  unfold slices_pdqsortCmpFunc_api_Prop_o0_f4_twin_Apply_1 at hF
  refine holds_of_awp hΓ (fn := f115) (c := cB f115) (A := 1) (nx := 1) (by kernel_rfl) (by kernel_rfl) (by kernel_rfl) (by kernel_rfl) (by kernel_rfl) (by kernel_rfl) (lowc_of (by kernel_rfl)) ?_
  show Awp prog 1 148 (cB f115) _ _
  refine awp_seq ?_
  refine awp_region ?_
  refine aR 1 ?_
  refine aE ?_
  refine awp_seq ?_
  refine awp_region ?_
  refine aR 1 ?_
  refine aE ?_
  refine awp_block ?_
  refine awp_to (st' := slices_pdqsortCmpFunc_api_Prop_o0_f4_twin_Apply_1_x1_H qx qx1 qx2 qx3 ()) (oT [] []) ?_
  refine bE hF fun vl1 h7 hF => ?_
  refine awp_sub (awp_loop' (slices_pdqsortCmpFunc_api_Prop_o0_f4_twin_Apply_1_x1_H qx qx1 qx2 qx3) slices_pdqsortCmpFunc_api_Prop_o0_f4_twin_Apply_1_x1_k (slices_pdqsortCmpFunc_api_Prop_o0_f4_twin_Apply_1_x1_S qx qx1 qx2 qx3) (by intro x; exact fun h => nomatch h) h7 (slices_pdqsortCmpFunc_api_Prop_o0_f4_twin_Apply_1_x1_ok qx qx1 qx2 qx3)) ?_
  exact oF hF [] []

/-! ### slices.SortFunc[[]beaconfleet/api.Prop,beaconfleet/api.Prop] -/
def slices_SortFunc_api_Prop_api_Prop_o0_f1_twin_Apply_1_R (qx : List api_Prop) (r : (List api_Prop)) : TV × Mem := (.tup [], ⟨[(0, ⟨44, 5, List.map api_Prop.enc r⟩)], []⟩)

theorem slices_SortFunc_api_Prop_api_Prop_o0_f1_twin_Apply_1_ok {qx : List api_Prop} {r} (hF : slices_SortFunc_api_Prop_api_Prop_o0_f1_twin_Apply_1 qx = some r) : Holds prog 65 [.v (.one (.own 0 none)), .v (.one (.fn 86 []))] ⟨[(0, ⟨44, 5, List.map api_Prop.enc qx⟩)], []⟩ (Is (slices_SortFunc_api_Prop_api_Prop_o0_f1_twin_Apply_1_R qx r)) := by
  unfold slices_SortFunc_api_Prop_api_Prop_o0_f1_twin_Apply_1 at hF
  refine holds_of_awp hΓ (fn := f65) (c := cB f65) (A := 1) (nx := 1) (by kernel_rfl) (by kernel_rfl) (by kernel_rfl) (by kernel_rfl) (by kernel_rfl) (by kernel_rfl) (lowc_of (by kernel_rfl)) ?_
  show Awp prog 1 14 (cB f65) _ _
  refine awp_seq ?_
  refine awp_region ?_
  refine aR 1 ?_
  refine aL api_Prop.enc qx ?_
  refine aR 1 ?_
  refine aE ?_
  refine bE hF fun vr1 h1 hF => ?_
  refine bE hF fun vl2 h2 hF => ?_
  refine gE hF fun h3 hF => ?_
  refine awp_region ?_
  refine aR 4 ?_
  refine aC (bits_Len_ok h1) [] [] [] ?_
  refine aR 1 ?_
  refine aCp (slices_pdqsortCmpFunc_api_Prop_o0_f4_twin_Apply_1_ok h2) ⟨⟨rfl, rfl, pin1 h3⟩, trivial⟩ [] [] [] ?_
  refine aE ?_
  exact oF hF [] []

/-! ### beaconfleet/twin.Apply -/
def twin_Apply_x1_k : (List (List UInt8 × api_Value)) ⊕ Unit → AEx
  | .inl _ => .exit 0
  | .inr _ => .ret

def twin_Apply_x1_S (qx : List api_Prop) (qx1 : List api_Change) : (List (List UInt8 × api_Value)) ⊕ Unit → St
  | .inl vm1 => Mem.st ⟨[], [(0, [.mapc .str true (List.map (encM D.str api_Value.enc) vm1)])]⟩ (tl [(0, .v (.one (.d (.lst (List.map api_Prop.enc qx))))), (1, .v (.one (.d (.lst (List.map api_Change.enc qx1))))), (7, .v (.one (.mapp 0)))]) 1
  | .inr _ => Mem.st ⟨[], []⟩ (tl [(4, .v (.one (.nil))), (5, .v (.one (.d (.int .i64 13))))]) 0

def twin_Apply_x1_H (qx : List api_Prop) (qx1 : List api_Change) : (List (List UInt8 × api_Value)) × Int → St
  | (vm, vx) => Mem.st ⟨[], [(0, [.mapc .str true (List.map (encM D.str api_Value.enc) vm)])]⟩ (tl [(0, .v (.one (.d (.lst (List.map api_Prop.enc qx))))), (1, .v (.one (.d (.lst (List.map api_Change.enc qx1))))), (7, .v (.one (.mapp 0))), (28, .v (.one (.d (.lst (List.map api_Change.enc qx1))))), (29, .v (.one (.d (.int .i64 (qx1.length : Int))))), (30, .v (.one (.d (.int .i64 vx))))]) 1

theorem twin_Apply_x1_ok (qx : List api_Prop) (qx1 : List api_Change) (s : (List (List UInt8 × api_Value)) × Int) (r : ((List (List UInt8 × api_Value)) × Int) ⊕ ((List (List UInt8 × api_Value)) ⊕ Unit)) (hF : twin_Apply_x1 qx qx1 s = some r) : Awp prog 0 94 (cL (cL (cR (cL (cR (cR (cR (cB f30)))))))) (Out 0 (kk twin_Apply_x1_k) (SS (twin_Apply_x1_H qx qx1) (twin_Apply_x1_S qx qx1)) r) (twin_Apply_x1_H qx qx1 s) := by
  obtain ⟨vm, vx⟩ := s
  unfold twin_Apply_x1 at hF
  refine awp_seq ?_
  refine awp_region ?_
  refine aR 1 ?_
  refine aE ?_
  refine awp_seq ?_
  refine cE hF (fun h5 hF => ?_) fun h5 hF => ?_
  · refine awp_true (by kernel_rfl) h5 ?_
    refine awp_skip ?_
    refine awp_seq ?_
    refine awp_block ?_
    refine awp_seq ?_
    refine bE hF fun vy1 h6 hF => ?_
    refine awp_region ?_
    refine aX (x_idx api_Change.enc h6) ?_
    refine aR 3 ?_
    refine aE ?_
    refine awp_seq ?_
    refine awp_seq ?_
    refine bE hF fun vr2 h7 hF => ?_
    refine aD ?_
    refine dR 3 ?_
    refine dC (twin_valueOf_ok h7) [] [] [] ?_
    refine dR 2 ?_
    refine dS (U := []) (stable_eqS (op := .neq) (xs := [.int .i64 vr2.Kind, .bool vr2.Flag, .int .i64 vr2.Number, .str vr2.Words]) (ys := [.int .i64 vy1.From.Kind, .bool vy1.From.Flag, .int .i64 vy1.From.Number, .str vy1.From.Words]) (b := (decide (vr2.Kind = vy1.From.Kind) && ((vr2.Flag == vy1.From.Flag) && (decide (vr2.Number = vy1.From.Number) && (decide (vr2.Words = vy1.From.Words) && true))))) (c := (!(decide (vr2.Kind = vy1.From.Kind) && ((vr2.Flag == vy1.From.Flag) && (decide (vr2.Number = vy1.From.Number) && (decide (vr2.Words = vy1.From.Words) && true)))))) rfl (.inr ⟨rfl, rfl⟩) (by kernel_rfl) (by kernel_rfl) (by kernel_rfl) (by kernel_rfl) (by kernel_rfl) (by kernel_rfl)) ?_
    refine dE ?_
    refine cE hF (fun h8 hF => ?_) fun h8 hF => ?_
    · refine awp_true (by kernel_rfl) h8 ?_
      refine awp_seq ?_
      refine awp_region ?_
      refine aR 2 ?_
      refine aE ?_
      refine awp_ret ?_
      exact oO hF [] [] rfl
    · refine awp_false (by kernel_rfl) h8 ?_
      refine awp_skip ?_
      refine awp_region ?_
      refine aR 5 ?_
      refine aPut 0 .str true (l := vm) (key := vy1.Name) (v := (api_Value.mk vy1.To.Kind vy1.To.Flag vy1.To.Number vy1.To.Words)) D.str api_Value.enc rfl ?_
      refine aE ?_
      refine awp_region ?_
      refine aR 2 ?_
      refine aE ?_
      exact oO hF [] [] rfl
  · refine awp_false (by kernel_rfl) h5 ?_
    refine awp_exit ?_
    exact oO hF [] [] rfl

def twin_Apply_x3_k : (List api_Prop) → AEx
  | _ => .normal

def twin_Apply_x3_S (qx : List api_Prop) (qx1 : List api_Change) (vm1_1 : List (List UInt8 × api_Value)) (vx1 : List api_Prop) (vx2 : Int) : (List api_Prop) → St
  | vx4 => Mem.st ⟨[(1, ⟨44, 5, List.map api_Prop.enc vx4⟩)], [(0, [.mapc .str true (List.map (encM D.str api_Value.enc) vm1_1)])]⟩ (tl [(1, .v (.one (.d (.lst (List.map api_Change.enc qx1))))), (7, .v (.one (.mapp 0))), (10, .v (.one (.own 1 none))), (47, .v (.one (.d (.lst (List.map api_Prop.enc qx))))), (48, .v (.one (.d (.int .i64 (qx.length : Int))))), (49, .v (.one (.d (.int .i64 vx2))))]) 2

def twin_Apply_x3_I (qx : List api_Prop) (qx1 : List api_Change) (vm1_1 : List (List UInt8 × api_Value)) (vx1 : List api_Prop) (vx2 : Int) : St := Mem.st ⟨[(1, ⟨44, 5, List.map api_Prop.enc vx1⟩)], [(0, [.mapc .str true (List.map (encM D.str api_Value.enc) vm1_1)])]⟩ (tl [(1, .v (.one (.d (.lst (List.map api_Change.enc qx1))))), (7, .v (.one (.mapp 0))), (10, .v (.one (.own 1 none))), (47, .v (.one (.d (.lst (List.map api_Prop.enc qx))))), (48, .v (.one (.d (.int .i64 (qx.length : Int))))), (49, .v (.one (.d (.int .i64 vx2))))]) 2

theorem twin_Apply_x3_ok (qx : List api_Prop) (qx1 : List api_Change) (vm1_1 : List (List UInt8 × api_Value)) (vx1 : List api_Prop) (vx2 : Int) {r} (hF : twin_Apply_x3 qx vm1_1 vx1 vx2 = some r) : Awp prog 0 94 (cL (cR (cR (cL (cL (cR (cL (cR (cR (cR (cR (cR (cB f30))))))))))))) (Out 0 twin_Apply_x3_k (twin_Apply_x3_S qx qx1 vm1_1 vx1 vx2) r) (twin_Apply_x3_I qx qx1 vm1_1 vx1 vx2) := by
  unfold twin_Apply_x3 at hF
  refine awp_block ?_
  refine awp_seq ?_
  refine bE hF fun vy3 h11 hF => ?_
  refine awp_region ?_
  refine aX (x_idx api_Prop.enc h11) ?_
  refine aR 3 ?_
  refine aE ?_
  refine awp_seq ?_
  refine bE hF fun ve1 h12 hF => ?_
  refine bE hF fun vis1 h13 hF => ?_
  refine awp_region ?_
  refine aR 3 ?_
  refine aX (x_getO 0 true D.str api_Value.enc h12 h13) ?_
  refine aR 6 ?_
  refine aE ?_
  refine awp_seq ?_
  refine awp_region ?_
  refine aR 2 ?_
  refine aE ?_
  refine cE hF (fun h14 hF => ?_) fun h14 hF => ?_
  · refine awp_true (by kernel_rfl) h14 ?_
    refine gE hF fun h15 hF => ?_
    refine awp_region ?_
    refine aR 3 ?_
    refine aX (x_app api_Prop.enc 1 h15) ?_
    refine aR 1 ?_
    refine aE ?_
    exact oO hF [(1, 19002)] [] rfl
  · refine awp_false (by kernel_rfl) h14 ?_
    refine awp_skip ?_
    exact oO hF [] [] rfl

def twin_Apply_x2_k : (List api_Prop) → AEx
  | _ => .exit 2

def twin_Apply_x2_S (qx : List api_Prop) (qx1 : List api_Change) (vm1_1 : List (List UInt8 × api_Value)) : (List api_Prop) → St
  | vx5 => Mem.st ⟨[(0, ⟨44, 5, List.map api_Prop.enc vx5⟩)], []⟩ (tl [(1, .v (.one (.d (.lst (List.map api_Change.enc qx1))))), (10, .v (.one (.own 0 none)))]) 1

def twin_Apply_x2_H (qx : List api_Prop) (qx1 : List api_Change) (vm1_1 : List (List UInt8 × api_Value)) : (List api_Prop) × Int → St
  | (vx1, vx2) => Mem.st ⟨[(1, ⟨44, 5, List.map api_Prop.enc vx1⟩)], [(0, [.mapc .str true (List.map (encM D.str api_Value.enc) vm1_1)])]⟩ (tl [(1, .v (.one (.d (.lst (List.map api_Change.enc qx1))))), (7, .v (.one (.mapp 0))), (10, .v (.one (.own 1 none))), (47, .v (.one (.d (.lst (List.map api_Prop.enc qx))))), (48, .v (.one (.d (.int .i64 (qx.length : Int))))), (49, .v (.one (.d (.int .i64 vx2))))]) 2

theorem twin_Apply_x2_ok (qx : List api_Prop) (qx1 : List api_Change) (vm1_1 : List (List UInt8 × api_Value)) (s : (List api_Prop) × Int) (r : ((List api_Prop) × Int) ⊕ ((List api_Prop))) (hF : twin_Apply_x2 qx vm1_1 s = some r) : Awp prog 0 94 (cL (cL (cR (cL (cR (cR (cR (cR (cR (cB f30)))))))))) (Out 0 (kk twin_Apply_x2_k) (SS (twin_Apply_x2_H qx qx1 vm1_1) (twin_Apply_x2_S qx qx1 vm1_1)) r) (twin_Apply_x2_H qx qx1 vm1_1 s) := by
  obtain ⟨vx1, vx2⟩ := s
  unfold twin_Apply_x2 at hF
  refine awp_seq ?_
  refine awp_region ?_
  refine aR 1 ?_
  refine aE ?_
  refine awp_seq ?_
  refine cE hF (fun h10 hF => ?_) fun h10 hF => ?_
  · refine awp_true (by kernel_rfl) h10 ?_
    refine awp_skip ?_
    refine awp_seq ?_
    refine awp_to (st' := twin_Apply_x3_I qx qx1 vm1_1 vx1 vx2) (oT [] []) ?_
    refine bE hF fun vx4_1 h16 hF => ?_
    refine awp_sub (twin_Apply_x3_ok qx qx1 vm1_1 vx1 vx2 h16) ?_
    refine awp_region ?_
    refine aR 2 ?_
    refine aE ?_
    exact oO hF [] [] rfl
  · refine awp_false (by kernel_rfl) h10 ?_
    refine awp_exit ?_
    exact oO hF [(0, 1)] [] rfl

def twin_Apply_x5_k : (List api_Prop) → AEx
  | _ => .normal

def twin_Apply_x5_S (qx1 : List api_Change) (vx6 : List api_Prop) (vx7 : Int) : (List api_Prop) → St
  | vx9 => Mem.st ⟨[(0, ⟨44, 5, List.map api_Prop.enc vx9⟩)], []⟩ (tl [(10, .v (.one (.own 0 none))), (67, .v (.one (.d (.lst (List.map api_Change.enc qx1))))), (68, .v (.one (.d (.int .i64 (qx1.length : Int))))), (69, .v (.one (.d (.int .i64 vx7))))]) 1

def twin_Apply_x5_I (qx1 : List api_Change) (vx6 : List api_Prop) (vx7 : Int) : St := Mem.st ⟨[(0, ⟨44, 5, List.map api_Prop.enc vx6⟩)], []⟩ (tl [(10, .v (.one (.own 0 none))), (67, .v (.one (.d (.lst (List.map api_Change.enc qx1))))), (68, .v (.one (.d (.int .i64 (qx1.length : Int))))), (69, .v (.one (.d (.int .i64 vx7))))]) 1

theorem twin_Apply_x5_ok (qx1 : List api_Change) (vx6 : List api_Prop) (vx7 : Int) {r} (hF : twin_Apply_x5 qx1 vx6 vx7 = some r) : Awp prog 0 94 (cL (cR (cR (cL (cL (cR (cL (cR (cR (cR (cR (cR (cR (cB f30)))))))))))))) (Out 0 twin_Apply_x5_k (twin_Apply_x5_S qx1 vx6 vx7) r) (twin_Apply_x5_I qx1 vx6 vx7) := by
  unfold twin_Apply_x5 at hF
  refine awp_block ?_
  refine awp_seq ?_
  refine bE hF fun vy5 h19 hF => ?_
  refine awp_region ?_
  refine aX (x_idx api_Change.enc h19) ?_
  refine aR 3 ?_
  refine aE ?_
  refine awp_seq ?_
  refine awp_region ?_
  refine aR 4 ?_
  refine aE ?_
  refine cE hF (fun h20 hF => ?_) fun h20 hF => ?_
  · refine awp_true (by kernel_rfl) h20 ?_
    refine gE hF fun h21 hF => ?_
    refine awp_region ?_
    refine aR 7 ?_
    refine aX (x_app api_Prop.enc 0 h21) ?_
    refine aR 1 ?_
    refine aE ?_
    exact oO hF [(0, 15001)] [] rfl
  · refine awp_false (by kernel_rfl) h20 ?_
    refine awp_skip ?_
    exact oO hF [] [] rfl

def twin_Apply_x4_k : (List api_Prop) → AEx
  | _ => .exit 4

def twin_Apply_x4_S (qx1 : List api_Change) : (List api_Prop) → St
  | vx10 => Mem.st ⟨[(0, ⟨44, 5, List.map api_Prop.enc vx10⟩)], []⟩ (tl [(10, .v (.one (.own 0 none)))]) 1

def twin_Apply_x4_H (qx1 : List api_Change) : (List api_Prop) × Int → St
  | (vx6, vx7) => Mem.st ⟨[(0, ⟨44, 5, List.map api_Prop.enc vx6⟩)], []⟩ (tl [(10, .v (.one (.own 0 none))), (67, .v (.one (.d (.lst (List.map api_Change.enc qx1))))), (68, .v (.one (.d (.int .i64 (qx1.length : Int))))), (69, .v (.one (.d (.int .i64 vx7))))]) 1

theorem twin_Apply_x4_ok (qx1 : List api_Change) (s : (List api_Prop) × Int) (r : ((List api_Prop) × Int) ⊕ ((List api_Prop))) (hF : twin_Apply_x4 qx1 s = some r) : Awp prog 0 94 (cL (cL (cR (cL (cR (cR (cR (cR (cR (cR (cB f30))))))))))) (Out 0 (kk twin_Apply_x4_k) (SS (twin_Apply_x4_H qx1) (twin_Apply_x4_S qx1)) r) (twin_Apply_x4_H qx1 s) := by
  obtain ⟨vx6, vx7⟩ := s
  unfold twin_Apply_x4 at hF
  refine awp_seq ?_
  refine awp_region ?_
  refine aR 1 ?_
  refine aE ?_
  refine awp_seq ?_
  refine cE hF (fun h18 hF => ?_) fun h18 hF => ?_
  · refine awp_true (by kernel_rfl) h18 ?_
    refine awp_skip ?_
    refine awp_seq ?_
    refine awp_to (st' := twin_Apply_x5_I qx1 vx6 vx7) (oT [] []) ?_
    refine bE hF fun vx9_1 h22 hF => ?_
    refine awp_sub (twin_Apply_x5_ok qx1 vx6 vx7 h22) ?_
    refine awp_region ?_
    refine aR 2 ?_
    refine aE ?_
    exact oO hF [] [] rfl
  · refine awp_false (by kernel_rfl) h18 ?_
    refine awp_exit ?_
    exact oO hF [] [] rfl

def twin_Apply_R (qx : List api_Prop) (qx1 : List api_Change) (r : (List api_Prop) × Int) : TV × Mem := (.tup [.one (.own 0 none), .one (.d (.int .i64 r.2))], ⟨[(0, ⟨44, 5, List.map api_Prop.enc r.1⟩)], []⟩)

theorem twin_Apply_ok {qx : List api_Prop} {qx1 : List api_Change} {r} (hF : twin_Apply qx qx1 = some r) : Holds prog 30 [.v (.one (.d (.lst (List.map api_Prop.enc qx)))), .v (.one (.d (.lst (List.map api_Change.enc qx1))))] ⟨[], []⟩ (Is (twin_Apply_R qx qx1 r)) := by
  unfold twin_Apply at hF
  refine holds_of_awp hΓ (fn := f30) (c := cB f30) (A := 0) (nx := 0) (by kernel_rfl) (by kernel_rfl) (by kernel_rfl) (by kernel_rfl) (by kernel_rfl) (by kernel_rfl) (lowc_of (by kernel_rfl)) ?_
  show Awp prog 0 94 (cB f30) _ _
  refine awp_seq ?_
  refine awp_region ?_
  refine aR 2 ?_
  refine aE ?_
  refine awp_seq ?_
  refine awp_seq ?_
  refine bE hF fun vr3 h1 hF => ?_
  refine bE hF fun vr5 h2 hF => ?_
  refine bE hF fun vr h3 hF => ?_
  refine awp_region ?_
  refine aR 1 ?_
  refine aC (twin_CheckProps_ok h1) [] [] [] ?_
  refine aR 1 ?_
  refine aC (twin_CheckChanges_ok h2) [] [] [] ?_
  refine aR 1 ?_
  refine aC (base_First_ok h3) [] [] [6000] ?_
  refine aR 1 ?_
  refine aE ?_
  refine awp_seq ?_
  refine awp_region ?_
  refine aR 2 ?_
  refine aE ?_
  refine cE hF (fun h4 hF => ?_) fun h4 hF => ?_
  · refine awp_true (by kernel_rfl) h4 ?_
    refine awp_seq ?_
    refine awp_region ?_
    refine aR 3 ?_
    refine aE ?_
    refine awp_ret ?_
    exact oF hF [] [0]
  · refine awp_false (by kernel_rfl) h4 ?_
    refine awp_skip ?_
    refine awp_seq ?_
    refine awp_region ?_
    refine aX (x_map .str true (κ := List UInt8) (β := api_Value) D.str api_Value.enc) ?_
    refine aR 1 ?_
    refine aE ?_
    refine awp_seq ?_
    refine awp_seq ?_
    refine awp_region ?_
    refine aR 1 ?_
    refine aL api_Change.enc qx1 ?_
    refine aR 1 ?_
    refine aE ?_
    refine awp_block ?_
    refine awp_to (st' := twin_Apply_x1_H qx qx1 (([] : List (List UInt8 × api_Value)), 0)) (oT [(0, 11000)] []) ?_
    refine bE hF fun x h9 hF => ?_
    rcases x with vm1_1 | _
    · refine awp_sub (awp_loop' (twin_Apply_x1_H qx qx1) twin_Apply_x1_k (twin_Apply_x1_S qx qx1) (by intro x; rcases x with x | x <;> exact fun h => nomatch h) h9 (twin_Apply_x1_ok qx qx1)) ?_
      refine awp_seq ?_
      refine awp_region ?_
      refine aR 1 ?_
      refine aE ?_
      refine awp_seq ?_
      refine awp_seq ?_
      refine awp_region ?_
      refine aR 1 ?_
      refine aL api_Prop.enc qx ?_
      refine aR 1 ?_
      refine aE ?_
      refine awp_block ?_
      refine awp_to (st' := twin_Apply_x2_H qx qx1 vm1_1 ([], 0)) (oT [] [1]) ?_
      refine bE hF fun vx5_1 h17 hF => ?_
      refine awp_sub (awp_loop' (twin_Apply_x2_H qx qx1 vm1_1) twin_Apply_x2_k (twin_Apply_x2_S qx qx1 vm1_1) (by intro x; exact fun h => nomatch h) h17 (twin_Apply_x2_ok qx qx1 vm1_1)) ?_
      refine awp_seq ?_
      refine awp_seq ?_
      refine awp_region ?_
      refine aR 1 ?_
      refine aL api_Change.enc qx1 ?_
      refine aR 1 ?_
      refine aE ?_
      refine awp_block ?_
      refine awp_to (st' := twin_Apply_x4_H qx1 (vx5_1, 0)) (oT [] []) ?_
      refine bE hF fun vx10_1 h23 hF => ?_
      refine awp_sub (awp_loop' (twin_Apply_x4_H qx1) twin_Apply_x4_k (twin_Apply_x4_S qx1) (by intro x; exact fun h => nomatch h) h23 (twin_Apply_x4_ok qx1)) ?_
      refine awp_seq ?_
      refine bE hF fun vl h24 hF => ?_
      refine gE hF fun h25 hF => ?_
      refine awp_region ?_
      refine aR 1 ?_
      refine aCp (slices_SortFunc_api_Prop_api_Prop_o0_f1_twin_Apply_1_ok h24) ⟨⟨rfl, rfl, pin1 h25⟩, trivial⟩ [] [] [] ?_
      refine aE ?_
      refine awp_seq ?_
      refine awp_seq ?_
      refine bE hF fun vr3_1 h26 hF => ?_
      refine awp_region ?_
      refine aR 1 ?_
      refine aC (twin_CheckProps_ok h26) [] [] [0] ?_
      refine aR 1 ?_
      refine aE ?_
      refine awp_seq ?_
      refine awp_region ?_
      refine aR 2 ?_
      refine aE ?_
      refine cE hF (fun h27 hF => ?_) fun h27 hF => ?_
      · refine awp_true (by kernel_rfl) h27 ?_
        refine awp_seq ?_
        refine awp_region ?_
        refine aR 3 ?_
        refine aE ?_
        refine awp_ret ?_
        exact oF hF [] [0]
      · refine awp_false (by kernel_rfl) h27 ?_
        refine awp_skip ?_
        refine awp_seq ?_
        refine awp_region ?_
        refine aR 3 ?_
        refine aE ?_
        refine awp_ret ?_
        exact oF hF [] []
    · refine awp_sub (awp_loop' (twin_Apply_x1_H qx qx1) twin_Apply_x1_k (twin_Apply_x1_S qx qx1) (by intro x; rcases x with x | x <;> exact fun h => nomatch h) h9 (twin_Apply_x1_ok qx qx1)) ?_
      exact oF hF [] [0]

/-! ### beaconfleet/twin.Turn -/
def twin_Turn_x1_k : (List api_Change) → AEx
  | _ => .exit 0

def twin_Turn_x1_S (qc : List api_Change) : (List api_Change) → St
  | vout1 => Mem.st ⟨[(0, ⟨72, 9, List.map api_Change.enc vout1⟩)], []⟩ (tl [(5, .v (.one (.own 0 none)))]) 1

def twin_Turn_x1_H (qc : List api_Change) : (List api_Change) × Int → St
  | (vout, vx) => Mem.st ⟨[(0, ⟨72, 9, List.map api_Change.enc vout⟩)], []⟩ (tl [(5, .v (.one (.own 0 none))), (13, .v (.one (.d (.lst (List.map api_Change.enc qc))))), (14, .v (.one (.d (.int .i64 (qc.length : Int))))), (15, .v (.one (.d (.int .i64 vx))))]) 1

theorem twin_Turn_x1_ok (qc : List api_Change) (s : (List api_Change) × Int) (r : ((List api_Change) × Int) ⊕ ((List api_Change))) (hF : twin_Turn_x1 qc s = some r) : Awp prog 0 31 (cL (cL (cR (cL (cR (cR (cR (cB f31)))))))) (Out 0 (kk twin_Turn_x1_k) (SS (twin_Turn_x1_H qc) (twin_Turn_x1_S qc)) r) (twin_Turn_x1_H qc s) := by
  obtain ⟨vout, vx⟩ := s
  unfold twin_Turn_x1 at hF
  refine awp_seq ?_
  refine awp_region ?_
  refine aR 1 ?_
  refine aE ?_
  refine awp_seq ?_
  refine cE hF (fun h3 hF => ?_) fun h3 hF => ?_
  · refine awp_true (by kernel_rfl) h3 ?_
    refine awp_skip ?_
    refine awp_seq ?_
    refine awp_block ?_
    refine awp_seq ?_
    refine bE hF fun vy1 h4 hF => ?_
    refine awp_region ?_
    refine aX (x_idx api_Change.enc h4) ?_
    refine aR 3 ?_
    refine aE ?_
    refine gE hF fun h5 hF => ?_
    refine awp_region ?_
    refine aR 9 ?_
    refine aX (x_app api_Change.enc 0 h5) ?_
    refine aR 1 ?_
    refine aE ?_
    refine awp_region ?_
    refine aR 2 ?_
    refine aE ?_
    exact oO hF [(0, 14001)] [] rfl
  · refine awp_false (by kernel_rfl) h3 ?_
    refine awp_exit ?_
    exact oO hF [] [] rfl

def twin_Turn_R (qc : List api_Change) (r : (List api_Change) × Int) : TV × Mem := (.tup [.one (.own 0 none), .one (.d (.int .i64 r.2))], ⟨[(0, ⟨72, 9, List.map api_Change.enc r.1⟩)], []⟩)

theorem twin_Turn_ok {qc : List api_Change} {r} (hF : twin_Turn qc = some r) : Holds prog 31 [.v (.one (.d (.lst (List.map api_Change.enc qc))))] ⟨[], []⟩ (Is (twin_Turn_R qc r)) := by
  unfold twin_Turn at hF
  refine holds_of_awp hΓ (fn := f31) (c := cB f31) (A := 0) (nx := 0) (by kernel_rfl) (by kernel_rfl) (by kernel_rfl) (by kernel_rfl) (by kernel_rfl) (by kernel_rfl) (lowc_of (by kernel_rfl)) ?_
  show Awp prog 0 31 (cB f31) _ _
  refine awp_seq ?_
  refine awp_region ?_
  refine aR 2 ?_
  refine aE ?_
  refine awp_seq ?_
  refine awp_seq ?_
  refine bE hF fun vr5 h1 hF => ?_
  refine awp_region ?_
  refine aR 1 ?_
  refine aC (twin_CheckChanges_ok h1) [] [] [] ?_
  refine aR 1 ?_
  refine aE ?_
  refine awp_seq ?_
  refine awp_region ?_
  refine aR 2 ?_
  refine aE ?_
  refine cE hF (fun h2 hF => ?_) fun h2 hF => ?_
  · refine awp_true (by kernel_rfl) h2 ?_
    refine awp_seq ?_
    refine awp_region ?_
    refine aR 3 ?_
    refine aE ?_
    refine awp_ret ?_
    exact oF hF [] [0]
  · refine awp_false (by kernel_rfl) h2 ?_
    refine awp_skip ?_
    refine awp_seq ?_
    refine awp_region ?_
    refine aR 1 ?_
    refine aE ?_
    refine awp_seq ?_
    refine awp_seq ?_
    refine awp_region ?_
    refine aR 1 ?_
    refine aL api_Change.enc qc ?_
    refine aR 1 ?_
    refine aE ?_
    refine awp_block ?_
    refine awp_to (st' := twin_Turn_x1_H qc ([], 0)) (oT [] [0]) ?_
    refine bE hF fun vout1_1 h6 hF => ?_
    refine awp_sub (awp_loop' (twin_Turn_x1_H qc) twin_Turn_x1_k (twin_Turn_x1_S qc) (by intro x; exact fun h => nomatch h) h6 (twin_Turn_x1_ok qc)) ?_
    refine awp_seq ?_
    refine awp_region ?_
    refine aR 3 ?_
    refine aE ?_
    refine awp_ret ?_
    exact oF hF [] []

/-! ### beaconfleet/fleetref2.ChangesFault -/
def fleetref2_ChangesFault_x2_k : Unit ⊕ Int → AEx
  | .inl _ => .exit 2
  | .inr _ => .ret

def fleetref2_ChangesFault_x2_S (ql : List api_Change) (vx : Int) (vy4 : api_Change) (vr3_2 : Int) (vr3_3 : Int) : Unit ⊕ Int → St
  | .inl _ => Mem.st ⟨[], [(0, [.d (.str vy4.Name), .d (.int .i64 vy4.From.Kind), .d (.bool vy4.From.Flag), .d (.int .i64 vy4.From.Number), .d (.str vy4.From.Words), .d (.int .i64 vy4.To.Kind), .d (.bool vy4.To.Flag), .d (.int .i64 vy4.To.Number), .d (.str vy4.To.Words)])]⟩ (tl [(0, .v (.one (.d (.lst (List.map api_Change.enc ql))))), (3, .v (.one (.d (.int .i64 vx)))), (4, .v (.one (.box 0 0))), (10, .v (.one (.d (.lst (List.map api_Change.enc ql))))), (11, .v (.one (.d (.int .i64 (ql.length : Int))))), (12, .v (.one (.d (.int .i64 vx))))]) 1
  | .inr vx5 => Mem.st ⟨[], []⟩ (tl [(2, .v (.one (.d (.int .i64 vx5))))]) 0

def fleetref2_ChangesFault_x2_H (ql : List api_Change) (vx : Int) (vy4 : api_Change) (vr3_2 : Int) (vr3_3 : Int) : Int → St
  | vx4 => Mem.st ⟨[], [(0, [.d (.str vy4.Name), .d (.int .i64 vy4.From.Kind), .d (.bool vy4.From.Flag), .d (.int .i64 vy4.From.Number), .d (.str vy4.From.Words), .d (.int .i64 vy4.To.Kind), .d (.bool vy4.To.Flag), .d (.int .i64 vy4.To.Number), .d (.str vy4.To.Words)])]⟩ (tl [(0, .v (.one (.d (.lst (List.map api_Change.enc ql))))), (3, .v (.one (.d (.int .i64 vx)))), (4, .v (.one (.box 0 0))), (10, .v (.one (.d (.lst (List.map api_Change.enc ql))))), (11, .v (.one (.d (.int .i64 (ql.length : Int))))), (12, .v (.one (.d (.int .i64 vx)))), (27, .v (.one (.d (.lst (List.map (encI .i64) ([vr3_2, vr3_3] : List Int)))))), (28, .v (.one (.d (.int .i64 (([vr3_2, vr3_3] : List Int).length : Int))))), (29, .v (.one (.d (.int .i64 vx4))))]) 1

theorem fleetref2_ChangesFault_x2_ok (ql : List api_Change) (vx : Int) (vy4 : api_Change) (vr3_2 : Int) (vr3_3 : Int) (vx4 : Int) (r : (Int) ⊕ (Unit ⊕ Int)) (hF : fleetref2_ChangesFault_x2 vr3_2 vr3_3 vx4 = some r) : Awp prog 0 58 (cL (cL (cR (cL (cR (cR (cL (cL (cR (cR (cL (cL (cR (cL (cR (cR (cB f32))))))))))))))))) (Out 0 (kk fleetref2_ChangesFault_x2_k) (SS (fleetref2_ChangesFault_x2_H ql vx vy4 vr3_2 vr3_3) (fleetref2_ChangesFault_x2_S ql vx vy4 vr3_2 vr3_3)) r) (fleetref2_ChangesFault_x2_H ql vx vy4 vr3_2 vr3_3 vx4) := by
  unfold fleetref2_ChangesFault_x2 at hF
  refine awp_seq ?_
  refine awp_region ?_
  refine aR 1 ?_
  refine aE ?_
  refine awp_seq ?_
  refine cE hF (fun h8 hF => ?_) fun h8 hF => ?_
  · refine awp_true (by kernel_rfl) h8 ?_
    refine awp_skip ?_
    refine awp_seq ?_
    refine awp_block ?_
    refine awp_seq ?_
    refine bE hF fun vy6 h9 hF => ?_
    refine awp_region ?_
    refine aX (x_idx (encI .i64) h9) ?_
    refine aR 2 ?_
    refine aE ?_
    refine awp_seq ?_
    refine awp_region ?_
    refine aR 2 ?_
    refine aE ?_
    refine cE hF (fun h10 hF => ?_) fun h10 hF => ?_
    · refine awp_true (by kernel_rfl) h10 ?_
      refine awp_seq ?_
      refine awp_region ?_
      refine aR 2 ?_
      refine aE ?_
      refine awp_ret ?_
      exact oO hF [] [] rfl
    · refine awp_false (by kernel_rfl) h10 ?_
      refine awp_skip ?_
      refine awp_region ?_
      refine aR 2 ?_
      refine aE ?_
      exact oO hF [] [] rfl
  · refine awp_false (by kernel_rfl) h8 ?_
    refine awp_exit ?_
    exact oO hF [] [] rfl

def fleetref2_ChangesFault_x3_k : Bool → AEx
  | _ => .normal

def fleetref2_ChangesFault_x3_S (ql : List api_Change) (vx : Int) (vy4 : api_Change) : Bool → St
  | vx6 => Mem.st ⟨[], []⟩ (tl [(0, .v (.one (.d (.lst (List.map api_Change.enc ql))))), (10, .v (.one (.d (.lst (List.map api_Change.enc ql))))), (11, .v (.one (.d (.int .i64 (ql.length : Int))))), (12, .v (.one (.d (.int .i64 vx)))), (43, .v (.one (.d (.bool vx6))))]) 0

def fleetref2_ChangesFault_x3_I (ql : List api_Change) (vx : Int) (vy4 : api_Change) : St := Mem.st ⟨[], [(0, [.d (.str vy4.Name), .d (.int .i64 vy4.From.Kind), .d (.bool vy4.From.Flag), .d (.int .i64 vy4.From.Number), .d (.str vy4.From.Words), .d (.int .i64 vy4.To.Kind), .d (.bool vy4.To.Flag), .d (.int .i64 vy4.To.Number), .d (.str vy4.To.Words)])]⟩ (tl [(0, .v (.one (.d (.lst (List.map api_Change.enc ql))))), (3, .v (.one (.d (.int .i64 vx)))), (4, .v (.one (.box 0 0))), (10, .v (.one (.d (.lst (List.map api_Change.enc ql))))), (11, .v (.one (.d (.int .i64 (ql.length : Int))))), (12, .v (.one (.d (.int .i64 vx))))]) 1

theorem fleetref2_ChangesFault_x3_ok (ql : List api_Change) (vx : Int) (vy4 : api_Change) {r} (hF : fleetref2_ChangesFault_x3 ql vx vy4 = some r) : Awp prog 0 58 (cL (cR (cR (cL (cR (cR (cR (cL (cL (cR (cR (cL (cL (cR (cL (cR (cR (cB f32)))))))))))))))))) (Out 0 fleetref2_ChangesFault_x3_k (fleetref2_ChangesFault_x3_S ql vx vy4) r) (fleetref2_ChangesFault_x3_I ql vx vy4) := by
  unfold fleetref2_ChangesFault_x3 at hF
  refine cE hF (fun h13 hF => ?_) fun h13 hF => ?_
  · refine bE hF fun vy7 h14 hF => ?_
    refine aD ?_
    refine dR 1 ?_
    refine dB h13 ?_
    refine dR 6 ?_
    refine dX (x_idx api_Change.enc h14) ?_
    refine dR 5 ?_
    refine dE ?_
    exact oO hF [] [] rfl
  · refine aD ?_
    refine dR 1 ?_
    refine dB h13 ?_
    refine dR 12 ?_
    refine dE ?_
    exact oO hF [] [] rfl

def fleetref2_ChangesFault_x1_k : Unit ⊕ Int → AEx
  | .inl _ => .exit 0
  | .inr _ => .ret

def fleetref2_ChangesFault_x1_S (ql : List api_Change) : Unit ⊕ Int → St
  | .inl _ => Mem.st ⟨[], []⟩ (tl []) 0
  | .inr vx7 => Mem.st ⟨[], []⟩ (tl [(2, .v (.one (.d (.int .i64 vx7))))]) 0

def fleetref2_ChangesFault_x1_H (ql : List api_Change) : Int → St
  | vx => Mem.st ⟨[], []⟩ (tl [(0, .v (.one (.d (.lst (List.map api_Change.enc ql))))), (10, .v (.one (.d (.lst (List.map api_Change.enc ql))))), (11, .v (.one (.d (.int .i64 (ql.length : Int))))), (12, .v (.one (.d (.int .i64 vx))))]) 0

theorem fleetref2_ChangesFault_x1_ok (ql : List api_Change) (vx : Int) (r : (Int) ⊕ (Unit ⊕ Int)) (hF : fleetref2_ChangesFault_x1 ql vx = some r) : Awp prog 0 58 (cL (cL (cR (cL (cR (cR (cB f32))))))) (Out 0 (kk fleetref2_ChangesFault_x1_k) (SS (fleetref2_ChangesFault_x1_H ql) (fleetref2_ChangesFault_x1_S ql)) r) (fleetref2_ChangesFault_x1_H ql vx) := by
  unfold fleetref2_ChangesFault_x1 at hF
  refine awp_seq ?_
  refine awp_region ?_
  refine aR 1 ?_
  refine aE ?_
  refine awp_seq ?_
  refine cE hF (fun h2 hF => ?_) fun h2 hF => ?_
  · refine awp_true (by kernel_rfl) h2 ?_
    refine awp_skip ?_
    refine awp_seq ?_
    refine awp_block ?_
    refine awp_seq ?_
    refine bE hF fun vy4 h3 hF => ?_
    refine awp_region ?_
    refine aR 1 ?_
    refine aX (x_idx api_Change.enc h3) ?_
    refine aR 4 ?_
    refine aE ?_
    refine awp_seq ?_
    refine awp_seq ?_
    refine bE hF fun vr2_1 h4 hF => ?_
    refine awp_region ?_
    refine aR 2 ?_
    refine aC (fleetref2_PropName_ok h4) [] [] [] ?_
    refine aR 1 ?_
    refine aE ?_
    refine cE hF (fun h5 hF => ?_) fun h5 hF => ?_
    · refine awp_true (by kernel_rfl) h5 ?_
      refine awp_seq ?_
      refine awp_region ?_
      refine aR 1 ?_
      refine aE ?_
      refine awp_ret ?_
      exact oO hF [] [] rfl
    · refine awp_false (by kernel_rfl) h5 ?_
      refine awp_skip ?_
      refine awp_seq ?_
      refine awp_seq ?_
      refine bE hF fun vr3_2 h6 hF => ?_
      refine bE hF fun vr3_3 h7 hF => ?_
      refine aD ?_
      refine dR 2 ?_
      refine dC (fleetref2_ValueFault_ok h6) [] [] [] ?_
      refine dR 2 ?_
      refine dC (fleetref2_ValueFault_ok h7) [] [] [] ?_
      refine dR 1 ?_
      refine dL (encI .i64) ([vr3_2, vr3_3] : List Int) ?_
      refine dR 1 ?_
      refine dE ?_
      refine awp_to (oT (m := ⟨[], [(0, [.d (.str vy4.Name), .d (.int .i64 vy4.From.Kind), .d (.bool vy4.From.Flag), .d (.int .i64 vy4.From.Number), .d (.str vy4.From.Words), .d (.int .i64 vy4.To.Kind), .d (.bool vy4.To.Flag), .d (.int .i64 vy4.To.Number), .d (.str vy4.To.Words)])]⟩) (ts := [(0, .v (.one (.d (.lst (List.map api_Change.enc ql))))), (3, .v (.one (.d (.int .i64 vx)))), (4, .v (.one (.box 0 0))), (10, .v (.one (.d (.lst (List.map api_Change.enc ql))))), (11, .v (.one (.d (.int .i64 (ql.length : Int))))), (12, .v (.one (.d (.int .i64 vx)))), (27, .v (.one (.d (.lst (List.map (encI .i64) ([vr3_2, vr3_3] : List Int)))))), (28, .v (.one (.d (.int .i64 (([vr3_2, vr3_3] : List Int).length : Int))))), (29, .v (.one (.d (.int .i64 0))))]) (nx := 1) [(0, 4000)] []) ?_
      refine awp_block ?_
      refine awp_to (st' := fleetref2_ChangesFault_x2_H ql vx vy4 vr3_2 vr3_3 0) (oT [] []) ?_
      refine bE hF fun x h11 hF => ?_
      rcases x with _ | vx5_1
      · refine awp_sub (awp_loop' (fleetref2_ChangesFault_x2_H ql vx vy4 vr3_2 vr3_3) fleetref2_ChangesFault_x2_k (fleetref2_ChangesFault_x2_S ql vx vy4 vr3_2 vr3_3) (by intro x; rcases x with x | x <;> exact fun h => nomatch h) h11 (fleetref2_ChangesFault_x2_ok ql vx vy4 vr3_2 vr3_3)) ?_
        refine awp_block ?_
        refine awp_seq ?_
        refine awp_region ?_
        refine aR 4 ?_
        refine aS (does_eqS (op := .eql) (xs := [.int .i64 vy4.From.Kind, .bool vy4.From.Flag, .int .i64 vy4.From.Number, .str vy4.From.Words]) (ys := [.int .i64 vy4.To.Kind, .bool vy4.To.Flag, .int .i64 vy4.To.Number, .str vy4.To.Words]) (b := (decide (vy4.From.Kind = vy4.To.Kind) && ((vy4.From.Flag == vy4.To.Flag) && (decide (vy4.From.Number = vy4.To.Number) && (decide (vy4.From.Words = vy4.To.Words) && true))))) (c := (decide (vy4.From.Kind = vy4.To.Kind) && ((vy4.From.Flag == vy4.To.Flag) && (decide (vy4.From.Number = vy4.To.Number) && (decide (vy4.From.Words = vy4.To.Words) && true))))) rfl (.inl ⟨rfl, rfl⟩) (by kernel_rfl) (by kernel_rfl) (by kernel_rfl) (by kernel_rfl) (by kernel_rfl) (by kernel_rfl)) ?_
        refine aR 1 ?_
        refine aE ?_
        refine cE hF (fun h12 hF => ?_) fun h12 hF => ?_
        · refine awp_true (by kernel_rfl) h12 ?_
          refine awp_seq ?_
          refine awp_region ?_
          refine aR 1 ?_
          refine aE ?_
          refine awp_ret ?_
          exact oO hF [] [] rfl
        · refine awp_false (by kernel_rfl) h12 ?_
          refine awp_seq ?_
          refine awp_to (st' := fleetref2_ChangesFault_x3_I ql vx vy4) (oT [] []) ?_
          refine bE hF fun vx6_1 h15 hF => ?_
          refine awp_sub (fleetref2_ChangesFault_x3_ok ql vx vy4 h15) ?_
          refine cE hF (fun h16 hF => ?_) fun h16 hF => ?_
          · refine awp_true (by kernel_rfl) h16 ?_
            refine awp_seq ?_
            refine awp_region ?_
            refine aR 1 ?_
            refine aE ?_
            refine awp_ret ?_
            exact oO hF [] [] rfl
          · refine awp_false (by kernel_rfl) h16 ?_
            refine awp_skip ?_
            refine awp_region ?_
            refine aR 2 ?_
            refine aE ?_
            exact oO hF [] [] rfl
      · refine awp_sub (awp_loop' (fleetref2_ChangesFault_x2_H ql vx vy4 vr3_2 vr3_3) fleetref2_ChangesFault_x2_k (fleetref2_ChangesFault_x2_S ql vx vy4 vr3_2 vr3_3) (by intro x; rcases x with x | x <;> exact fun h => nomatch h) h11 (fleetref2_ChangesFault_x2_ok ql vx vy4 vr3_2 vr3_3)) ?_
        exact oO hF [] [] rfl
  · refine awp_false (by kernel_rfl) h2 ?_
    refine awp_exit ?_
    exact oO hF [] [] rfl

def fleetref2_ChangesFault_R (ql : List api_Change) (r : Int) : TV × Mem := (.v (.one (.d (.int .i64 r))), ⟨[], []⟩)

theorem fleetref2_ChangesFault_ok {ql : List api_Change} {r} (hF : fleetref2_ChangesFault ql = some r) : Holds prog 32 [.v (.one (.d (.lst (List.map api_Change.enc ql))))] ⟨[], []⟩ (Is (fleetref2_ChangesFault_R ql r)) := by
  unfold fleetref2_ChangesFault at hF
  refine holds_of_awp hΓ (fn := f32) (c := cB f32) (A := 0) (nx := 0) (by kernel_rfl) (by kernel_rfl) (by kernel_rfl) (by kernel_rfl) (by kernel_rfl) (by kernel_rfl) (lowc_of (by kernel_rfl)) ?_
  show Awp prog 0 58 (cB f32) _ _
  refine awp_seq ?_
  refine awp_region ?_
  refine aR 1 ?_
  refine aE ?_
  refine awp_seq ?_
  refine awp_seq ?_
  refine awp_region ?_
  refine aR 1 ?_
  refine aL api_Change.enc ql ?_
  refine aR 1 ?_
  refine aE ?_
  refine cE hF (fun h1 hF => ?_) fun h1 hF => ?_
  · refine awp_true (by kernel_rfl) h1 ?_
    refine awp_seq ?_
    refine awp_region ?_
    refine aR 1 ?_
    refine aE ?_
    refine awp_ret ?_
    exact oF hF [] []
  · refine awp_false (by kernel_rfl) h1 ?_
    refine awp_skip ?_
    refine awp_seq ?_
    refine awp_seq ?_
    refine awp_region ?_
    refine aR 1 ?_
    refine aL api_Change.enc ql ?_
    refine aR 1 ?_
    refine aE ?_
    refine awp_block ?_
    refine awp_to (st' := fleetref2_ChangesFault_x1_H ql 0) (oT [] []) ?_
    refine bE hF fun x h17 hF => ?_
    rcases x with _ | vx7_1
    · refine awp_sub (awp_loop' (fleetref2_ChangesFault_x1_H ql) fleetref2_ChangesFault_x1_k (fleetref2_ChangesFault_x1_S ql) (by intro x; rcases x with x | x <;> exact fun h => nomatch h) h17 (fleetref2_ChangesFault_x1_ok ql)) ?_
      refine awp_seq ?_
      refine awp_region ?_
      refine aR 1 ?_
      refine aE ?_
      refine awp_ret ?_
      exact oF hF [] []
    · refine awp_sub (awp_loop' (fleetref2_ChangesFault_x1_H ql) fleetref2_ChangesFault_x1_k (fleetref2_ChangesFault_x1_S ql) (by intro x; rcases x with x | x <;> exact fun h => nomatch h) h17 (fleetref2_ChangesFault_x1_ok ql)) ?_
      exact oF hF [] []

/-! ### beaconfleet/fleetref2.DifferOf -/
def fleetref2_DifferOf_x2_k : (List api_Change) → AEx
  | _ => .normal

def fleetref2_DifferOf_x2_S (qa : List api_Prop) (qb : List api_Prop) (vr1 : List (List UInt8)) (vout : List api_Change) (vx : Int) : (List api_Change) → St
  | vout2 => Mem.st ⟨[(0, ⟨72, 9, List.map api_Change.enc vout2⟩)], []⟩ (tl [(0, .v (.one (.d (.lst (List.map api_Prop.enc qa))))), (1, .v (.one (.d (.lst (List.map api_Prop.enc qb))))), (5, .v (.one (.own 0 none))), (13, .v (.one (.d (.lst (List.map encS vr1))))), (14, .v (.one (.d (.int .i64 (vr1.length : Int))))), (15, .v (.one (.d (.int .i64 vx))))]) 1

def fleetref2_DifferOf_x2_I (qa : List api_Prop) (qb : List api_Prop) (vr1 : List (List UInt8)) (vout : List api_Change) (vx : Int) : St := Mem.st ⟨[(0, ⟨72, 9, List.map api_Change.enc vout⟩)], []⟩ (tl [(0, .v (.one (.d (.lst (List.map api_Prop.enc qa))))), (1, .v (.one (.d (.lst (List.map api_Prop.enc qb))))), (5, .v (.one (.own 0 none))), (13, .v (.one (.d (.lst (List.map encS vr1))))), (14, .v (.one (.d (.int .i64 (vr1.length : Int))))), (15, .v (.one (.d (.int .i64 vx))))]) 1

theorem fleetref2_DifferOf_x2_ok (qa : List api_Prop) (qb : List api_Prop) (vr1 : List (List UInt8)) (vout : List api_Change) (vx : Int) {r} (hF : fleetref2_DifferOf_x2 qa qb vr1 vout vx = some r) : Awp prog 0 37 (cL (cR (cR (cL (cL (cR (cL (cR (cR (cB f34)))))))))) (Out 0 fleetref2_DifferOf_x2_k (fleetref2_DifferOf_x2_S qa qb vr1 vout vx) r) (fleetref2_DifferOf_x2_I qa qb vr1 vout vx) := by
  unfold fleetref2_DifferOf_x2 at hF
  refine awp_block ?_
  refine awp_seq ?_
  refine bE hF fun vy1 h3 hF => ?_
  refine awp_region ?_
  refine aX (x_idx encS h3) ?_
  refine aR 2 ?_
  refine aE ?_
  refine awp_seq ?_
  refine bE hF fun vr3 h4 hF => ?_
  refine bE hF fun vr4 h5 hF => ?_
  refine awp_region ?_
  refine aR 2 ?_
  refine aC (fleetref2_ValueOf_ok h4) [] [] [] ?_
  refine aR 2 ?_
  refine aC (fleetref2_ValueOf_ok h5) [] [] [] ?_
  refine aR 4 ?_
  refine aE ?_
  refine awp_seq ?_
  refine awp_region ?_
  refine aR 2 ?_
  refine aS (does_eqS (op := .neq) (xs := [.int .i64 vr3.Kind, .bool vr3.Flag, .int .i64 vr3.Number, .str vr3.Words]) (ys := [.int .i64 vr4.Kind, .bool vr4.Flag, .int .i64 vr4.Number, .str vr4.Words]) (b := (decide (vr3.Kind = vr4.Kind) && ((vr3.Flag == vr4.Flag) && (decide (vr3.Number = vr4.Number) && (decide (vr3.Words = vr4.Words) && true))))) (c := (!(decide (vr3.Kind = vr4.Kind) && ((vr3.Flag == vr4.Flag) && (decide (vr3.Number = vr4.Number) && (decide (vr3.Words = vr4.Words) && true)))))) rfl (.inr ⟨rfl, rfl⟩) (by kernel_rfl) (by kernel_rfl) (by kernel_rfl) (by kernel_rfl) (by kernel_rfl) (by kernel_rfl)) ?_
  refine aE ?_
  refine cE hF (fun h6 hF => ?_) fun h6 hF => ?_
  · refine awp_true (by kernel_rfl) h6 ?_
    refine gE hF fun h7 hF => ?_
    refine awp_region ?_
    refine aR 6 ?_
    refine aX (x_app api_Change.enc 0 h7) ?_
    refine aR 1 ?_
    refine aE ?_
    exact oO hF [(0, 22001)] [] rfl
  · refine awp_false (by kernel_rfl) h6 ?_
    refine awp_skip ?_
    exact oO hF [] [] rfl

def fleetref2_DifferOf_x1_k : (List api_Change) → AEx
  | _ => .exit 0

def fleetref2_DifferOf_x1_S (qa : List api_Prop) (qb : List api_Prop) (vr1 : List (List UInt8)) : (List api_Change) → St
  | vout3 => Mem.st ⟨[(0, ⟨72, 9, List.map api_Change.enc vout3⟩)], []⟩ (tl [(5, .v (.one (.own 0 none)))]) 1

def fleetref2_DifferOf_x1_H (qa : List api_Prop) (qb : List api_Prop) (vr1 : List (List UInt8)) : (List api_Change) × Int → St
  | (vout, vx) => Mem.st ⟨[(0, ⟨72, 9, List.map api_Change.enc vout⟩)], []⟩ (tl [(0, .v (.one (.d (.lst (List.map api_Prop.enc qa))))), (1, .v (.one (.d (.lst (List.map api_Prop.enc qb))))), (5, .v (.one (.own 0 none))), (13, .v (.one (.d (.lst (List.map encS vr1))))), (14, .v (.one (.d (.int .i64 (vr1.length : Int))))), (15, .v (.one (.d (.int .i64 vx))))]) 1

theorem fleetref2_DifferOf_x1_ok (qa : List api_Prop) (qb : List api_Prop) (vr1 : List (List UInt8)) (s : (List api_Change) × Int) (r : ((List api_Change) × Int) ⊕ ((List api_Change))) (hF : fleetref2_DifferOf_x1 qa qb vr1 s = some r) : Awp prog 0 37 (cL (cL (cR (cL (cR (cR (cB f34))))))) (Out 0 (kk fleetref2_DifferOf_x1_k) (SS (fleetref2_DifferOf_x1_H qa qb vr1) (fleetref2_DifferOf_x1_S qa qb vr1)) r) (fleetref2_DifferOf_x1_H qa qb vr1 s) := by
  obtain ⟨vout, vx⟩ := s
  unfold fleetref2_DifferOf_x1 at hF
  refine awp_seq ?_
  refine awp_region ?_
  refine aR 1 ?_
  refine aE ?_
  refine awp_seq ?_
  refine cE hF (fun h2 hF => ?_) fun h2 hF => ?_
  · refine awp_true (by kernel_rfl) h2 ?_
    refine awp_skip ?_
    refine awp_seq ?_
    refine awp_to (st' := fleetref2_DifferOf_x2_I qa qb vr1 vout vx) (oT [] []) ?_
    refine bE hF fun vout2_1 h8 hF => ?_
    refine awp_sub (fleetref2_DifferOf_x2_ok qa qb vr1 vout vx h8) ?_
    refine awp_region ?_
    refine aR 2 ?_
    refine aE ?_
    exact oO hF [] [] rfl
  · refine awp_false (by kernel_rfl) h2 ?_
    refine awp_exit ?_
    exact oO hF [] [] rfl

def fleetref2_DifferOf_R (qa : List api_Prop) (qb : List api_Prop) (r : (List api_Change)) : TV × Mem := (.v (.one (.own 0 none)), ⟨[(0, ⟨72, 9, List.map api_Change.enc r⟩)], []⟩)

theorem fleetref2_DifferOf_ok {qa : List api_Prop} {qb : List api_Prop} {r} (hF : fleetref2_DifferOf qa qb = some r) : Holds prog 34 [.v (.one (.d (.lst (List.map api_Prop.enc qa)))), .v (.one (.d (.lst (List.map api_Prop.enc qb))))] ⟨[], []⟩ (Is (fleetref2_DifferOf_R qa qb r)) := by
  unfold fleetref2_DifferOf at hF
  refine holds_of_awp hΓ (fn := f34) (c := cB f34) (A := 0) (nx := 0) (by kernel_rfl) (by kernel_rfl) (by kernel_rfl) (by kernel_rfl) (by kernel_rfl) (by kernel_rfl) (lowc_of (by kernel_rfl)) ?_
  show Awp prog 0 37 (cB f34) _ _
  refine awp_seq ?_
  refine awp_region ?_
  refine aR 1 ?_
  refine aE ?_
  refine awp_seq ?_
  refine awp_region ?_
  refine aR 1 ?_
  refine aE ?_
  refine awp_seq ?_
  refine awp_seq ?_
  refine bE hF fun vr1 h1 hF => ?_
  refine awp_region ?_
  refine aR 3 ?_
  refine aC (fleetref2_namesOf_o0_ok h1) [(0, 4000)] [] [] ?_
  refine aL encS vr1 ?_
  refine aR 1 ?_
  refine aE ?_
  refine awp_to (oT (m := ⟨[], []⟩) (ts := [(0, .v (.one (.d (.lst (List.map api_Prop.enc qa))))), (1, .v (.one (.d (.lst (List.map api_Prop.enc qb))))), (5, .v (.one (.nil))), (13, .v (.one (.d (.lst (List.map encS vr1))))), (14, .v (.one (.d (.int .i64 (vr1.length : Int))))), (15, .v (.one (.d (.int .i64 0))))]) (nx := 0) [] []) ?_
  refine awp_block ?_
  refine awp_to (st' := fleetref2_DifferOf_x1_H qa qb vr1 ([], 0)) (oT [] [0]) ?_
  refine bE hF fun vout3_1 h9 hF => ?_
  refine awp_sub (awp_loop' (fleetref2_DifferOf_x1_H qa qb vr1) fleetref2_DifferOf_x1_k (fleetref2_DifferOf_x1_S qa qb vr1) (by intro x; exact fun h => nomatch h) h9 (fleetref2_DifferOf_x1_ok qa qb vr1)) ?_
  refine awp_seq ?_
  refine awp_region ?_
  refine aR 2 ?_
  refine aE ?_
  refine awp_ret ?_
  exact oF hF [] []

/-! ### beaconfleet/fleetref2.TurnOf -/
def fleetref2_TurnOf_x1_k : (List api_Change) → AEx
  | _ => .exit 0

def fleetref2_TurnOf_x1_S (qc : List api_Change) : (List api_Change) → St
  | vout1 => Mem.st ⟨[(0, ⟨72, 9, List.map api_Change.enc vout1⟩)], []⟩ (tl [(3, .v (.one (.own 0 none)))]) 1

def fleetref2_TurnOf_x1_H (qc : List api_Change) : (List api_Change) × Int → St
  | (vout, vx) => Mem.st ⟨[(0, ⟨72, 9, List.map api_Change.enc vout⟩)], []⟩ (tl [(3, .v (.one (.own 0 none))), (6, .v (.one (.d (.lst (List.map api_Change.enc qc))))), (7, .v (.one (.d (.int .i64 (qc.length : Int))))), (8, .v (.one (.d (.int .i64 vx))))]) 1

theorem fleetref2_TurnOf_x1_ok (qc : List api_Change) (s : (List api_Change) × Int) (r : ((List api_Change) × Int) ⊕ ((List api_Change))) (hF : fleetref2_TurnOf_x1 qc s = some r) : Awp prog 0 24 (cL (cL (cR (cL (cR (cR (cB f35))))))) (Out 0 (kk fleetref2_TurnOf_x1_k) (SS (fleetref2_TurnOf_x1_H qc) (fleetref2_TurnOf_x1_S qc)) r) (fleetref2_TurnOf_x1_H qc s) := by
  obtain ⟨vout, vx⟩ := s
  unfold fleetref2_TurnOf_x1 at hF
  refine awp_seq ?_
  refine awp_region ?_
  refine aR 1 ?_
  refine aE ?_
  refine awp_seq ?_
  refine cE hF (fun h1 hF => ?_) fun h1 hF => ?_
  · refine awp_true (by kernel_rfl) h1 ?_
    refine awp_skip ?_
    refine awp_seq ?_
    refine awp_block ?_
    refine awp_seq ?_
    refine bE hF fun vy1 h2 hF => ?_
    refine awp_region ?_
    refine aX (x_idx api_Change.enc h2) ?_
    refine aR 3 ?_
    refine aE ?_
    refine gE hF fun h3 hF => ?_
    refine awp_region ?_
    refine aR 9 ?_
    refine aX (x_app api_Change.enc 0 h3) ?_
    refine aR 1 ?_
    refine aE ?_
    refine awp_region ?_
    refine aR 2 ?_
    refine aE ?_
    exact oO hF [(0, 14001)] [] rfl
  · refine awp_false (by kernel_rfl) h1 ?_
    refine awp_exit ?_
    exact oO hF [] [] rfl

def fleetref2_TurnOf_R (qc : List api_Change) (r : (List api_Change)) : TV × Mem := (.v (.one (.own 0 none)), ⟨[(0, ⟨72, 9, List.map api_Change.enc r⟩)], []⟩)

theorem fleetref2_TurnOf_ok {qc : List api_Change} {r} (hF : fleetref2_TurnOf qc = some r) : Holds prog 35 [.v (.one (.d (.lst (List.map api_Change.enc qc))))] ⟨[], []⟩ (Is (fleetref2_TurnOf_R qc r)) := by
  unfold fleetref2_TurnOf at hF
  refine holds_of_awp hΓ (fn := f35) (c := cB f35) (A := 0) (nx := 0) (by kernel_rfl) (by kernel_rfl) (by kernel_rfl) (by kernel_rfl) (by kernel_rfl) (by kernel_rfl) (lowc_of (by kernel_rfl)) ?_
  show Awp prog 0 24 (cB f35) _ _
  refine awp_seq ?_
  refine awp_region ?_
  refine aR 1 ?_
  refine aE ?_
  refine awp_seq ?_
  refine awp_region ?_
  refine aR 1 ?_
  refine aE ?_
  refine awp_seq ?_
  refine awp_seq ?_
  refine awp_region ?_
  refine aR 1 ?_
  refine aL api_Change.enc qc ?_
  refine aR 1 ?_
  refine aE ?_
  refine awp_block ?_
  refine awp_to (st' := fleetref2_TurnOf_x1_H qc ([], 0)) (oT [] [0]) ?_
  refine bE hF fun vout1_1 h4 hF => ?_
  refine awp_sub (awp_loop' (fleetref2_TurnOf_x1_H qc) fleetref2_TurnOf_x1_k (fleetref2_TurnOf_x1_S qc) (by intro x; exact fun h => nomatch h) h4 (fleetref2_TurnOf_x1_ok qc)) ?_
  refine awp_seq ?_
  refine awp_region ?_
  refine aR 2 ?_
  refine aE ?_
  refine awp_ret ?_
  exact oF hF [] []

/-! ### beaconfleet/fleetref2.fromValues$1 -/
def fleetref2_fromValues_1_R (qa : api_Prop) (qb : api_Prop) (r : Unit) : TV × Mem := (.v (.one (.d (.int .i64 (Lib.compareBytes qa.Name qb.Name)))), ⟨[], []⟩)

theorem fleetref2_fromValues_1_ok {qa : api_Prop} {qb : api_Prop} {r} (hF : fleetref2_fromValues_1 qa qb = some r) : Holds prog 133 [.v (.agg [.d (.str qa.Name), .d (.int .i64 qa.Value.Kind), .d (.bool qa.Value.Flag), .d (.int .i64 qa.Value.Number), .d (.str qa.Value.Words)]), .v (.agg [.d (.str qb.Name), .d (.int .i64 qb.Value.Kind), .d (.bool qb.Value.Flag), .d (.int .i64 qb.Value.Number), .d (.str qb.Value.Words)])] ⟨[], []⟩ (Is (fleetref2_fromValues_1_R qa qb r)) := by
  unfold fleetref2_fromValues_1 at hF
  refine holds_of_awp hΓ (fn := f133) (c := cB f133) (A := 0) (nx := 0) (by kernel_rfl) (by kernel_rfl) (by kernel_rfl) (by kernel_rfl) (by kernel_rfl) (by kernel_rfl) (lowc_of (by kernel_rfl)) ?_
  show Awp prog 0 10 (cB f133) _ _
  refine awp_seq ?_
  refine awp_region ?_
  refine aR 3 ?_
  refine aE ?_
  refine awp_seq ?_
  refine bE hF fun _ h1 hF => ?_
  refine awp_region ?_
  refine aR 4 ?_
  refine aC (strings_Compare_ok h1) [] [] [] ?_
  refine aR 1 ?_
  refine aE ?_
  refine awp_ret ?_
  exact oF hF [] []

/-! ### slices.insertionSortCmpFunc[beaconfleet/api.Prop] -/
def slices_insertionSortCmpFunc_api_Prop_o0_f3_fleetref2_fromValues_1_x3_k : Bool → AEx
  | _ => .normal

def slices_insertionSortCmpFunc_api_Prop_o0_f3_fleetref2_fromValues_1_x3_S (qa : Int) (qb : Int) (vi : Int) (vl3 : List api_Prop) (vj1 : Int) : Bool → St
  | vx4 => Mem.st ⟨[(0, ⟨44, 5, List.map api_Prop.enc vl3⟩)], []⟩ (tl [(0, .v (.one (.own 0 none))), (1, .v (.one (.d (.int .i64 qa)))), (2, .v (.one (.d (.int .i64 qb)))), (3, .v (.one (.fn 133 []))), (8, .v (.one (.d (.int .i64 vi)))), (9, .v (.one (.d (.int .i64 vj1)))), (34, .v (.one (.d (.bool vx4))))]) 1

def slices_insertionSortCmpFunc_api_Prop_o0_f3_fleetref2_fromValues_1_x3_I (qa : Int) (qb : Int) (vi : Int) (vl3 : List api_Prop) (vj1 : Int) : St := Mem.st ⟨[(0, ⟨44, 5, List.map api_Prop.enc vl3⟩)], []⟩ (tl [(0, .v (.one (.own 0 none))), (1, .v (.one (.d (.int .i64 qa)))), (2, .v (.one (.d (.int .i64 qb)))), (3, .v (.one (.fn 133 []))), (8, .v (.one (.d (.int .i64 vi)))), (9, .v (.one (.d (.int .i64 vj1))))]) 1

theorem slices_insertionSortCmpFunc_api_Prop_o0_f3_fleetref2_fromValues_1_x3_ok (qa : Int) (qb : Int) (vi : Int) (vl3 : List api_Prop) (vj1 : Int) {r} (hF : slices_insertionSortCmpFunc_api_Prop_o0_f3_fleetref2_fromValues_1_x3 qa vl3 vj1 = some r) : Awp prog 1 53 (cL (cL (cL (cL (cR (cL (cL (cR (cL (cL (cR (cB f147)))))))))))) (Out 1 slices_insertionSortCmpFunc_api_Prop_o0_f3_fleetref2_fromValues_1_x3_k (slices_insertionSortCmpFunc_api_Prop_o0_f3_fleetref2_fromValues_1_x3_S qa qb vi vl3 vj1) r) (slices_insertionSortCmpFunc_api_Prop_o0_f3_fleetref2_fromValues_1_x3_I qa qb vi vl3 vj1) := by
  unfold slices_insertionSortCmpFunc_api_Prop_o0_f3_fleetref2_fromValues_1_x3 at hF
  refine cE hF (fun h2 hF => ?_) fun h2 hF => ?_
  · refine bE hF fun vy15 h3 hF => ?_
    refine bE hF fun vy16 h4 hF => ?_
    refine bE hF fun _ h5 hF => ?_
    refine aD ?_
    refine dR 2 ?_
    refine dB h2 ?_
    refine dR 4 ?_
    refine dX (x_idxO api_Prop.enc 0 h3) ?_
    refine dX (x_ldE api_Prop.enc h3) ?_
    refine dR 3 ?_
    refine dX (x_idxO api_Prop.enc 0 h4) ?_
    refine dX (x_ldE api_Prop.enc h4) ?_
    refine dC (fleetref2_fromValues_1_ok h5) [] [] [] ?_
    refine dR 2 ?_
    refine dE ?_
    exact oO hF [] [] rfl
  · refine aD ?_
    refine dR 2 ?_
    refine dB h2 ?_
    refine dR 14 ?_
    refine dE ?_
    exact oO hF [] [] rfl

def slices_insertionSortCmpFunc_api_Prop_o0_f3_fleetref2_fromValues_1_x2_k : (List api_Prop) → AEx
  | _ => .exit 2

def slices_insertionSortCmpFunc_api_Prop_o0_f3_fleetref2_fromValues_1_x2_S (qa : Int) (qb : Int) (vi : Int) : (List api_Prop) → St
  | vl4 => Mem.st ⟨[(0, ⟨44, 5, List.map api_Prop.enc vl4⟩)], []⟩ (tl [(0, .v (.one (.own 0 none))), (1, .v (.one (.d (.int .i64 qa)))), (2, .v (.one (.d (.int .i64 qb)))), (3, .v (.one (.fn 133 []))), (8, .v (.one (.d (.int .i64 vi))))]) 1

def slices_insertionSortCmpFunc_api_Prop_o0_f3_fleetref2_fromValues_1_x2_H (qa : Int) (qb : Int) (vi : Int) : (List api_Prop) × Int → St
  | (vl3, vj1) => Mem.st ⟨[(0, ⟨44, 5, List.map api_Prop.enc vl3⟩)], []⟩ (tl [(0, .v (.one (.own 0 none))), (1, .v (.one (.d (.int .i64 qa)))), (2, .v (.one (.d (.int .i64 qb)))), (3, .v (.one (.fn 133 []))), (8, .v (.one (.d (.int .i64 vi)))), (9, .v (.one (.d (.int .i64 vj1))))]) 1

theorem slices_insertionSortCmpFunc_api_Prop_o0_f3_fleetref2_fromValues_1_x2_ok (qa : Int) (qb : Int) (vi : Int) (s : (List api_Prop) × Int) (r : ((List api_Prop) × Int) ⊕ ((List api_Prop))) (hF : slices_insertionSortCmpFunc_api_Prop_o0_f3_fleetref2_fromValues_1_x2 qa s = some r) : Awp prog 1 53 (cL (cL (cR (cL (cL (cR (cL (cL (cR (cB f147)))))))))) (Out 1 (kk slices_insertionSortCmpFunc_api_Prop_o0_f3_fleetref2_fromValues_1_x2_k) (SS (slices_insertionSortCmpFunc_api_Prop_o0_f3_fleetref2_fromValues_1_x2_H qa qb vi) (slices_insertionSortCmpFunc_api_Prop_o0_f3_fleetref2_fromValues_1_x2_S qa qb vi)) r) (slices_insertionSortCmpFunc_api_Prop_o0_f3_fleetref2_fromValues_1_x2_H qa qb vi s) := by
  obtain ⟨vl3, vj1⟩ := s
  unfold slices_insertionSortCmpFunc_api_Prop_o0_f3_fleetref2_fromValues_1_x2 at hF
  refine awp_seq ?_
  refine awp_seq ?_
  refine awp_to (st' := slices_insertionSortCmpFunc_api_Prop_o0_f3_fleetref2_fromValues_1_x3_I qa qb vi vl3 vj1) (oT [] []) ?_
  refine bE hF fun vx4_1 h6 hF => ?_
  refine awp_sub (slices_insertionSortCmpFunc_api_Prop_o0_f3_fleetref2_fromValues_1_x3_ok qa qb vi vl3 vj1 h6) ?_
  refine cE hF (fun h7 hF => ?_) fun h7 hF => ?_
  · refine awp_true (by kernel_rfl) h7 ?_
    refine awp_skip ?_
    refine awp_seq ?_
    refine awp_block ?_
    refine bE hF fun vy17 h8 hF => ?_
    refine bE hF fun vy18 h9 hF => ?_
    refine bE hF fun vy19 h10 hF => ?_
    refine aDw [0] ?_
    refine dR 8 ?_
    refine dI api_Prop.enc 0 h8 rfl ?_
    refine dX (x_ldE api_Prop.enc h8) ?_
    refine dR 2 ?_
    refine dI api_Prop.enc 0 h9 rfl ?_
    refine dX (x_ldE api_Prop.enc h9) ?_
    refine dI api_Prop.enc 0 h9 rfl ?_
    refine dW api_Prop.enc (api_Prop.mk vy17.Name (api_Value.mk vy17.Value.Kind vy17.Value.Flag vy17.Value.Number vy17.Value.Words)) h9 rfl ?_
    refine dI api_Prop.enc 0 h10 rfl ?_
    refine dW api_Prop.enc (api_Prop.mk vy18.Name (api_Value.mk vy18.Value.Kind vy18.Value.Flag vy18.Value.Number vy18.Value.Words)) h10 rfl ?_
    refine dE ?_
    refine awp_region ?_
    refine aR 3 ?_
    refine aE ?_
    exact oO hF [] [] rfl
  · refine awp_false (by kernel_rfl) h7 ?_
    refine awp_exit ?_
    exact oO hF [] [] rfl

def slices_insertionSortCmpFunc_api_Prop_o0_f3_fleetref2_fromValues_1_x1_k : (List api_Prop) → AEx
  | _ => .exit 0

def slices_insertionSortCmpFunc_api_Prop_o0_f3_fleetref2_fromValues_1_x1_S (qa : Int) (qb : Int) : (List api_Prop) → St
  | vl5 => Mem.st ⟨[(0, ⟨44, 5, List.map api_Prop.enc vl5⟩)], []⟩ (tl []) 1

def slices_insertionSortCmpFunc_api_Prop_o0_f3_fleetref2_fromValues_1_x1_H (qa : Int) (qb : Int) : (List api_Prop) × Int → St
  | (vl, vi) => Mem.st ⟨[(0, ⟨44, 5, List.map api_Prop.enc vl⟩)], []⟩ (tl [(0, .v (.one (.own 0 none))), (1, .v (.one (.d (.int .i64 qa)))), (2, .v (.one (.d (.int .i64 qb)))), (3, .v (.one (.fn 133 []))), (8, .v (.one (.d (.int .i64 vi))))]) 1

theorem slices_insertionSortCmpFunc_api_Prop_o0_f3_fleetref2_fromValues_1_x1_ok (qa : Int) (qb : Int) (s : (List api_Prop) × Int) (r : ((List api_Prop) × Int) ⊕ ((List api_Prop))) (hF : slices_insertionSortCmpFunc_api_Prop_o0_f3_fleetref2_fromValues_1_x1 qa qb s = some r) : Awp prog 1 53 (cL (cL (cR (cB f147)))) (Out 1 (kk slices_insertionSortCmpFunc_api_Prop_o0_f3_fleetref2_fromValues_1_x1_k) (SS (slices_insertionSortCmpFunc_api_Prop_o0_f3_fleetref2_fromValues_1_x1_H qa qb) (slices_insertionSortCmpFunc_api_Prop_o0_f3_fleetref2_fromValues_1_x1_S qa qb)) r) (slices_insertionSortCmpFunc_api_Prop_o0_f3_fleetref2_fromValues_1_x1_H qa qb s) := by
  obtain ⟨vl, vi⟩ := s
  unfold slices_insertionSortCmpFunc_api_Prop_o0_f3_fleetref2_fromValues_1_x1 at hF
  refine awp_seq ?_
  refine awp_seq ?_
  refine awp_region ?_
  refine aR 3 ?_
  refine aE ?_
  refine cE hF (fun h1 hF => ?_) fun h1 hF => ?_
  · refine awp_true (by kernel_rfl) h1 ?_
    refine awp_skip ?_
    refine awp_seq ?_
    refine awp_block ?_
    refine awp_seq ?_
    refine awp_region ?_
    refine aR 2 ?_
    refine aE ?_
    refine awp_block ?_
    refine awp_to (st' := slices_insertionSortCmpFunc_api_Prop_o0_f3_fleetref2_fromValues_1_x2_H qa qb vi (vl, vi)) (oT [] []) ?_
    refine bE hF fun vl4_1 h11 hF => ?_
    refine awp_sub (awp_loop' (slices_insertionSortCmpFunc_api_Prop_o0_f3_fleetref2_fromValues_1_x2_H qa qb vi) slices_insertionSortCmpFunc_api_Prop_o0_f3_fleetref2_fromValues_1_x2_k (slices_insertionSortCmpFunc_api_Prop_o0_f3_fleetref2_fromValues_1_x2_S qa qb vi) (by intro x; exact fun h => nomatch h) h11 (slices_insertionSortCmpFunc_api_Prop_o0_f3_fleetref2_fromValues_1_x2_ok qa qb vi)) ?_
    refine awp_region ?_
    refine aR 3 ?_
    refine aE ?_
    exact oO hF [] [] rfl
  · refine awp_false (by kernel_rfl) h1 ?_
    refine awp_exit ?_
    exact oO hF [] [] rfl

def slices_insertionSortCmpFunc_api_Prop_o0_f3_fleetref2_fromValues_1_R (qdata : List api_Prop) (qa : Int) (qb : Int) (r : (List api_Prop)) : TV × Mem := (.tup [], ⟨[(0, ⟨44, 5, List.map api_Prop.enc r⟩)], []⟩)

theorem slices_insertionSortCmpFunc_api_Prop_o0_f3_fleetref2_fromValues_1_ok {qdata : List api_Prop} {qa : Int} {qb : Int} {r} (hF : slices_insertionSortCmpFunc_api_Prop_o0_f3_fleetref2_fromValues_1 qdata qa qb = some r) : Holds prog 147 [.v (.one (.own 0 none)), .v (.one (.d (.int .i64 qa))), .v (.one (.d (.int .i64 qb))), .v (.one (.fn 133 []))] ⟨[(0, ⟨44, 5, List.map api_Prop.enc qdata⟩)], []⟩ (Is (slices_insertionSortCmpFunc_api_Prop_o0_f3_fleetref2_fromValues_1_R qdata qa qb r)) := by
  unfold slices_insertionSortCmpFunc_api_Prop_o0_f3_fleetref2_fromValues_1 at hF
  refine holds_of_awp hΓ (fn := f147) (c := cB f147) (A := 1) (nx := 1) (by kernel_rfl) (by kernel_rfl) (by kernel_rfl) (by kernel_rfl) (by kernel_rfl) (by kernel_rfl) (lowc_of (by kernel_rfl)) ?_
  show Awp prog 1 53 (cB f147) _ _
  refine awp_seq ?_
  refine awp_region ?_
  refine aR 3 ?_
  refine aE ?_
  refine awp_block ?_
  refine awp_to (st' := slices_insertionSortCmpFunc_api_Prop_o0_f3_fleetref2_fromValues_1_x1_H qa qb (qdata, IntKind.wrap .i64 (qa + 1))) (oT [] []) ?_
  refine bE hF fun vl5_1 h12 hF => ?_
  refine awp_sub (awp_loop' (slices_insertionSortCmpFunc_api_Prop_o0_f3_fleetref2_fromValues_1_x1_H qa qb) slices_insertionSortCmpFunc_api_Prop_o0_f3_fleetref2_fromValues_1_x1_k (slices_insertionSortCmpFunc_api_Prop_o0_f3_fleetref2_fromValues_1_x1_S qa qb) (by intro x; exact fun h => nomatch h) h12 (slices_insertionSortCmpFunc_api_Prop_o0_f3_fleetref2_fromValues_1_x1_ok qa qb)) ?_
  exact oF hF [] []

/-! ### slices.pdqsortCmpFunc[beaconfleet/api.Prop] -/
def slices_pdqsortCmpFunc_api_Prop_o0_f4_fleetref2_fromValues_1_x1_k : (List api_Prop) → AEx
  | _ => .ret

def slices_pdqsortCmpFunc_api_Prop_o0_f4_fleetref2_fromValues_1_x1_S (qx : List api_Prop) (qx1 : Int) (qx2 : Int) (qx3 : Int) : (List api_Prop) → St
  | vl => Mem.st ⟨[(0, ⟨44, 5, List.map api_Prop.enc vl⟩)], []⟩ (tl []) 1

def slices_pdqsortCmpFunc_api_Prop_o0_f4_fleetref2_fromValues_1_x1_H (qx : List api_Prop) (qx1 : Int) (qx2 : Int) (qx3 : Int) : Unit → St
  | _ => Mem.st ⟨[(0, ⟨44, 5, List.map api_Prop.enc qx⟩)], []⟩ (tl [(0, .v (.one (.own 0 none))), (1, .v (.one (.d (.int .i64 qx1)))), (2, .v (.one (.d (.int .i64 qx2)))), (3, .v (.one (.d (.int .i64 qx3)))), (4, .v (.one (.fn 133 []))), (10, .v (.one (.d (.bool true)))), (11, .v (.one (.d (.bool true))))]) 1

theorem slices_pdqsortCmpFunc_api_Prop_o0_f4_fleetref2_fromValues_1_x1_ok (qx : List api_Prop) (qx1 : Int) (qx2 : Int) (qx3 : Int) (s : Unit) (r : (Unit) ⊕ ((List api_Prop))) (hF : slices_pdqsortCmpFunc_api_Prop_o0_f4_fleetref2_fromValues_1_x1 qx qx1 qx2 qx3 s = some r) : Awp prog 1 148 (cL (cL (cR (cR (cB f115))))) (Out 1 (kk slices_pdqsortCmpFunc_api_Prop_o0_f4_fleetref2_fromValues_1_x1_k) (SS (slices_pdqsortCmpFunc_api_Prop_o0_f4_fleetref2_fromValues_1_x1_H qx qx1 qx2 qx3) (slices_pdqsortCmpFunc_api_Prop_o0_f4_fleetref2_fromValues_1_x1_S qx qx1 qx2 qx3)) r) (slices_pdqsortCmpFunc_api_Prop_o0_f4_fleetref2_fromValues_1_x1_H qx qx1 qx2 qx3 s) := by
  unfold slices_pdqsortCmpFunc_api_Prop_o0_f4_fleetref2_fromValues_1_x1 at hF
  refine awp_block ?_
  refine awp_seq ?_
  refine awp_region ?_
  refine aR 4 ?_
  refine aE ?_
  refine awp_seq ?_
  refine awp_seq ?_
  refine awp_region ?_
  refine aR 2 ?_
  refine aE ?_
  refine cE hF (fun h1 hF => ?_) fun h1 hF => ?_
  · refine awp_true (by kernel_rfl) h1 ?_
    refine awp_seq ?_
    refine bE hF fun vl6_1 h2 hF => ?_
    refine gE hF fun h3 hF => ?_
    refine awp_region ?_
    refine aR 4 ?_
    refine aCp (slices_insertionSortCmpFunc_api_Prop_o0_f3_fleetref2_fromValues_1_ok h2) ⟨⟨rfl, rfl, pin1 h3⟩, trivial⟩ [] [] [] ?_
    refine aE ?_
    refine awp_ret ?_
    exact oO hF [] [] rfl
  · refine awp_false (by kernel_rfl) h1 ?_
    refine awp_skip ?_
    refine awp_seq ?_
    refine awp_seq ?_
    refine awp_region ?_
    refine aR 2 ?_
    refine aE ?_
    refine cE hF (fun h4 hF => ?_) fun h4 hF => ?_
    · refine awp_true (by kernel_rfl) h4 ?_
      refine awp_seq ?_
      exact nE hF
    · refine awp_false (by kernel_rfl) h4 ?_
      refine awp_skip ?_
      refine awp_seq ?_
      refine awp_seq ?_
      refine awp_region ?_
      refine aR 2 ?_
      refine aE ?_
      refine awp_false (by kernel_rfl) rfl ?_
      refine awp_skip ?_
      refine awp_seq ?_
      exact nE hF

def slices_pdqsortCmpFunc_api_Prop_o0_f4_fleetref2_fromValues_1_R (qx : List api_Prop) (qx1 : Int) (qx2 : Int) (qx3 : Int) (r : (List api_Prop)) : TV × Mem := (.tup [], ⟨[(0, ⟨44, 5, List.map api_Prop.enc r⟩)], []⟩)

theorem slices_pdqsortCmpFunc_api_Prop_o0_f4_fleetref2_fromValues_1_ok {qx : List api_Prop} {qx1 : Int} {qx2 : Int} {qx3 : Int} {r} (hF : slices_pdqsortCmpFunc_api_Prop_o0_f4_fleetref2_fromValues_1 qx qx1 qx2 qx3 = some r) : Holds prog 115 [.v (.one (.own 0 none)), .v (.one (.d (.int .i64 qx1))), .v (.one (.d (.int .i64 qx2))), .v (.one (.d (.int .i64 qx3))), .v (.one (.fn 133 []))] ⟨[(0, ⟨44, 5, List.map api_Prop.enc qx⟩)], []⟩ (Is (slices_pdqsortCmpFunc_api_Prop_o0_f4_fleetref2_fromValues_1_R qx qx1 qx2 qx3 r)) := by
  unfold slices_pdqsortCmpFunc_api_Prop_o0_f4_fleetref2_fromValues_1 at hF
  refine holds_of_awp hΓ (fn := f115) (c := cB f115) (A := 1) (nx := 1) (by kernel_rfl) (by kernel_rfl) (by kernel_rfl) (by kernel_rfl) (by kernel_rfl) (by kernel_rfl) (lowc_of (by kernel_rfl)) ?_
  show Awp prog 1 148 (cB f115) _ _
  refine awp_seq ?_
  refine awp_region ?_
  refine aR 1 ?_
  refine aE ?_
  refine awp_seq ?_
  refine awp_region ?_
  refine aR 1 ?_
  refine aE ?_
  refine awp_block ?_
  refine awp_to (st' := slices_pdqsortCmpFunc_api_Prop_o0_f4_fleetref2_fromValues_1_x1_H qx qx1 qx2 qx3 ()) (oT [] []) ?_
  refine bE hF fun vl1 h7 hF => ?_
  refine awp_sub (awp_loop' (slices_pdqsortCmpFunc_api_Prop_o0_f4_fleetref2_fromValues_1_x1_H qx qx1 qx2 qx3) slices_pdqsortCmpFunc_api_Prop_o0_f4_fleetref2_fromValues_1_x1_k (slices_pdqsortCmpFunc_api_Prop_o0_f4_fleetref2_fromValues_1_x1_S qx qx1 qx2 qx3) (by intro x; exact fun h => nomatch h) h7 (slices_pdqsortCmpFunc_api_Prop_o0_f4_fleetref2_fromValues_1_x1_ok qx qx1 qx2 qx3)) ?_
  exact oF hF [] []

/-! ### slices.SortFunc[[]beaconfleet/api.Prop,beaconfleet/api.Prop] -/
def slices_SortFunc_api_Prop_api_Prop_o0_f1_fleetref2_fromValues_1_R (qx : List api_Prop) (r : (List api_Prop)) : TV × Mem := (.tup [], ⟨[(0, ⟨44, 5, List.map api_Prop.enc r⟩)], []⟩)

theorem slices_SortFunc_api_Prop_api_Prop_o0_f1_fleetref2_fromValues_1_ok {qx : List api_Prop} {r} (hF : slices_SortFunc_api_Prop_api_Prop_o0_f1_fleetref2_fromValues_1 qx = some r) : Holds prog 65 [.v (.one (.own 0 none)), .v (.one (.fn 133 []))] ⟨[(0, ⟨44, 5, List.map api_Prop.enc qx⟩)], []⟩ (Is (slices_SortFunc_api_Prop_api_Prop_o0_f1_fleetref2_fromValues_1_R qx r)) := by
  unfold slices_SortFunc_api_Prop_api_Prop_o0_f1_fleetref2_fromValues_1 at hF
  refine holds_of_awp hΓ (fn := f65) (c := cB f65) (A := 1) (nx := 1) (by kernel_rfl) (by kernel_rfl) (by kernel_rfl) (by kernel_rfl) (by kernel_rfl) (by kernel_rfl) (lowc_of (by kernel_rfl)) ?_
  show Awp prog 1 14 (cB f65) _ _
  refine awp_seq ?_
  refine awp_region ?_
  refine aR 1 ?_
  refine aL api_Prop.enc qx ?_
  refine aR 1 ?_
  refine aE ?_
  refine bE hF fun vr1 h1 hF => ?_
  refine bE hF fun vl2 h2 hF => ?_
  refine gE hF fun h3 hF => ?_
  refine awp_region ?_
  refine aR 4 ?_
  refine aC (bits_Len_ok h1) [] [] [] ?_
  refine aR 1 ?_
  refine aCp (slices_pdqsortCmpFunc_api_Prop_o0_f4_fleetref2_fromValues_1_ok h2) ⟨⟨rfl, rfl, pin1 h3⟩, trivial⟩ [] [] [] ?_
  refine aE ?_
  exact oF hF [] []

/-! ### beaconfleet/fleetref2.fromValues -/
def fleetref2_fromValues_x1_k : (List api_Prop) → AEx
  | _ => .exit 0

def fleetref2_fromValues_x1_S (qm : List (List UInt8 × api_Value)) (vme : List (Nat × List D × List D)) (vcl : Nat) (vhp : (List.map (encM D.str api_Value.enc) qm).Perm (List.map (·.2) vme)) : (List api_Prop) → St
  | vout1 => Mem.st ⟨[(1, ⟨44, 5, List.map api_Prop.enc vout1⟩)], [(0, [.mapc .str true (List.map (encM D.str api_Value.enc) qm)])]⟩ (tl [(4, .v (.one (.own 1 none)))]) 2

def fleetref2_fromValues_x1_H (qm : List (List UInt8 × api_Value)) (vme : List (Nat × List D × List D)) (vcl : Nat) (vhp : (List.map (encM D.str api_Value.enc) qm).Perm (List.map (·.2) vme)) (vl : List (List UInt8 × api_Value)) : (List api_Prop) → St
  | vout => Mem.st ⟨[(2, ⟨44, 5, List.map api_Prop.enc vout⟩)], [(0, [.mapg .str true vme vcl]), (1, [.iterc 0 vme vcl (List.map (encM D.str api_Value.enc) vl) none])]⟩ (tl [(4, .v (.one (.own 2 none))), (9, .v (.one (.box 1 0)))]) 3

theorem fleetref2_fromValues_x1_ok (qm : List (List UInt8 × api_Value)) (vme : List (Nat × List D × List D)) (vcl : Nat) (vhp : (List.map (encM D.str api_Value.enc) qm).Perm (List.map (·.2) vme)) (vl : List (List UInt8 × api_Value)) (vout : (List api_Prop)) (hE : vl = [] → ∃ x, fleetref2_fromValues_x1 none vout = some x) (hP : ∀ e l', List.Perm vl (e :: l') → ∃ x, fleetref2_fromValues_x1 (some e) vout = some x) : Awp prog 1 32 (cL (cL (cR (cL (cR (cR (cB f89))))))) (OutR 1 fleetref2_fromValues_x1_k (fleetref2_fromValues_x1) (fleetref2_fromValues_x1_H qm vme vcl vhp) (fleetref2_fromValues_x1_S qm vme vcl vhp) vl vout) (fleetref2_fromValues_x1_H qm vme vcl vhp vl vout) := by
  refine awp_seq ?_
  refine awp_region ?_
  refine aNext (ka := .str) (va := true) (me := vme) (cl := vcl) (cur := none) 1 0 (encM D.str api_Value.enc) vl rfl (fun h3 => ?_) (fun ve1 vl2 vb1 h4 => ?_)
  · obtain ⟨x, hF0⟩ := hE h3
    have hF := hF0
    unfold fleetref2_fromValues_x1 at hF
    refine aR 1 ?_
    refine aE ?_
    refine awp_seq ?_
    refine awp_false (by kernel_rfl) rfl ?_
    refine awp_close (ka := .str) (va := true) (me := vme) (cl := vcl) 0 vhp ?_
    refine awp_exit ?_
    exact outE h3 hF0 (oO hF [(1, 2)] [] rfl)
  · obtain ⟨x, hF0⟩ := hP _ _ h4
    have hF := hF0
    unfold fleetref2_fromValues_x1 at hF
    refine aR 1 ?_
    refine aE ?_
    refine awp_seq ?_
    refine awp_true (by kernel_rfl) rfl ?_
    refine awp_skip ?_
    refine awp_block ?_
    refine awp_seq ?_
    refine awp_region ?_
    refine aEntry (ka := .str) (va := true) (me := vme) (cl := vcl) (b := vb1) (rest := List.map (encM D.str api_Value.enc) vl2) 1 0 (encM D.str api_Value.enc) ve1 rfl ?_
    refine aR 5 ?_
    refine aE ?_
    refine awp_seq ?_
    refine awp_region ?_
    refine aR 3 ?_
    refine aE ?_
    refine cE hF (fun h5 hF => ?_) fun h5 hF => ?_
    · refine awp_true (by kernel_rfl) h5 ?_
      refine gE hF fun h6 hF => ?_
      refine awp_region ?_
      refine aR 5 ?_
      refine aX (x_app api_Prop.enc 2 h6) ?_
      refine aR 1 ?_
      refine aE ?_
      exact outP h4 hF0 (outCur (idM := 0) (me := vme) (cl := vcl) (rest := List.map (encM D.str api_Value.enc) vl2) (cur := some (vb1, (encM D.str api_Value.enc) ve1)) 1 <| oO hF [(2, 16003)] [] rfl)
    · refine awp_false (by kernel_rfl) h5 ?_
      refine awp_skip ?_
      exact outP h4 hF0 (outCur (idM := 0) (me := vme) (cl := vcl) (rest := List.map (encM D.str api_Value.enc) vl2) (cur := some (vb1, (encM D.str api_Value.enc) ve1)) 1 <| oO hF [] [] rfl)

def fleetref2_fromValues_R (qm : List (List UInt8 × api_Value)) (r : (List api_Prop) × Int) : TV × Mem := (.tup [.one (.own 1 none), .one (.d (.int .i64 r.2))], ⟨[(1, ⟨44, 5, List.map api_Prop.enc r.1⟩)], [(0, [.mapc .str true (List.map (encM D.str api_Value.enc) qm)])]⟩)

theorem fleetref2_fromValues_ok {qm : List (List UInt8 × api_Value)} {r} (hF : fleetref2_fromValues qm = some r) : Holds prog 89 [.v (.one (.mapp 0))] ⟨[], [(0, [.mapc .str true (List.map (encM D.str api_Value.enc) qm)])]⟩ (Is (fleetref2_fromValues_R qm r)) := by
  unfold fleetref2_fromValues at hF
  refine holds_of_awp hΓ (fn := f89) (c := cB f89) (A := 1) (nx := 1) (by kernel_rfl) (by kernel_rfl) (by kernel_rfl) (by kernel_rfl) (by kernel_rfl) (by kernel_rfl) (lowc_of (by kernel_rfl)) ?_
  show Awp prog 1 32 (cB f89) _ _
  refine awp_seq ?_
  refine awp_region ?_
  refine aR 2 ?_
  refine aE ?_
  refine awp_seq ?_
  refine awp_region ?_
  refine aR 1 ?_
  refine aE ?_
  refine awp_seq ?_
  refine awp_seq ?_
  refine awp_region ?_
  refine aR 1 ?_
  refine aRange (ka := .str) (va := true) 0 (encM D.str api_Value.enc) qm rfl (fun vme vcl vhp => ?_)
  refine aE ?_
  refine awp_block ?_
  refine awp_to (st' := fleetref2_fromValues_x1_H qm vme vcl vhp qm []) (oT [(1, 4001)] [2]) ?_
  refine rG (H := fleetref2_fromValues_x1_H qm vme vcl vhp) (k := fleetref2_fromValues_x1_k) (S := fleetref2_fromValues_x1_S qm vme vcl vhp) hF (by intro x; exact fun h => nomatch h) (fun l s => fleetref2_fromValues_x1_ok qm vme vcl vhp l s) (fun vout1_1 hF => ?_)
  refine awp_seq ?_
  refine bE hF fun vl3 h8 hF => ?_
  refine gE hF fun h9 hF => ?_
  refine awp_region ?_
  refine aR 1 ?_
  refine aCp (slices_SortFunc_api_Prop_api_Prop_o0_f1_fleetref2_fromValues_1_ok h8) ⟨⟨rfl, rfl, pin1 h9⟩, trivial⟩ [(0, 1)] [] [] ?_
  refine aE ?_
  refine awp_seq ?_
  refine awp_seq ?_
  refine bE hF fun vr h10 hF => ?_
  refine awp_region ?_
  refine aR 1 ?_
  refine aC (fleetref2_PropsFault_ok h10) [] [] [1] ?_
  refine aR 1 ?_
  refine aE ?_
  refine awp_seq ?_
  refine awp_region ?_
  refine aR 2 ?_
  refine aE ?_
  refine cE hF (fun h11 hF => ?_) fun h11 hF => ?_
  · refine awp_true (by kernel_rfl) h11 ?_
    refine awp_seq ?_
    refine awp_region ?_
    refine aR 3 ?_
    refine aE ?_
    refine awp_ret ?_
    exact oF hF [] [1]
  · refine awp_false (by kernel_rfl) h11 ?_
    refine awp_skip ?_
    refine awp_seq ?_
    refine awp_region ?_
    refine aR 3 ?_
    refine aE ?_
    refine awp_ret ?_
    exact oF hF [] []

/-! ### beaconfleet/fleetref2.ApplyOf -/
def fleetref2_ApplyOf_x1_k : (List (List UInt8 × api_Value)) → AEx
  | _ => .exit 0

def fleetref2_ApplyOf_x1_S (ql : List api_Prop) (qc : List api_Change) : (List (List UInt8 × api_Value)) → St
  | vm1 => Mem.st ⟨[], [(0, [.mapc .str true (List.map (encM D.str api_Value.enc) vm1)])]⟩ (tl [(1, .v (.one (.d (.lst (List.map api_Change.enc qc))))), (6, .v (.one (.mapp 0)))]) 1

def fleetref2_ApplyOf_x1_H (ql : List api_Prop) (qc : List api_Change) : (List (List UInt8 × api_Value)) × Int → St
  | (vm, vx) => Mem.st ⟨[], [(0, [.mapc .str true (List.map (encM D.str api_Value.enc) vm)])]⟩ (tl [(1, .v (.one (.d (.lst (List.map api_Change.enc qc))))), (6, .v (.one (.mapp 0))), (12, .v (.one (.d (.lst (List.map api_Prop.enc ql))))), (13, .v (.one (.d (.int .i64 (ql.length : Int))))), (14, .v (.one (.d (.int .i64 vx))))]) 1

theorem fleetref2_ApplyOf_x1_ok (ql : List api_Prop) (qc : List api_Change) (s : (List (List UInt8 × api_Value)) × Int) (r : ((List (List UInt8 × api_Value)) × Int) ⊕ ((List (List UInt8 × api_Value)))) (hF : fleetref2_ApplyOf_x1 ql s = some r) : Awp prog 0 47 (cL (cL (cR (cL (cR (cR (cB f36))))))) (Out 0 (kk fleetref2_ApplyOf_x1_k) (SS (fleetref2_ApplyOf_x1_H ql qc) (fleetref2_ApplyOf_x1_S ql qc)) r) (fleetref2_ApplyOf_x1_H ql qc s) := by
  obtain ⟨vm, vx⟩ := s
  unfold fleetref2_ApplyOf_x1 at hF
  refine awp_seq ?_
  refine awp_region ?_
  refine aR 1 ?_
  refine aE ?_
  refine awp_seq ?_
  refine cE hF (fun h1 hF => ?_) fun h1 hF => ?_
  · refine awp_true (by kernel_rfl) h1 ?_
    refine awp_skip ?_
    refine awp_seq ?_
    refine awp_block ?_
    refine awp_seq ?_
    refine bE hF fun vy1 h2 hF => ?_
    refine awp_region ?_
    refine aX (x_idx api_Prop.enc h2) ?_
    refine aR 3 ?_
    refine aE ?_
    refine awp_region ?_
    refine aR 5 ?_
    refine aPut 0 .str true (l := vm) (key := vy1.Name) (v := (api_Value.mk vy1.Value.Kind vy1.Value.Flag vy1.Value.Number vy1.Value.Words)) D.str api_Value.enc rfl ?_
    refine aE ?_
    refine awp_region ?_
    refine aR 2 ?_
    refine aE ?_
    exact oO hF [] [] rfl
  · refine awp_false (by kernel_rfl) h1 ?_
    refine awp_exit ?_
    exact oO hF [] [] rfl

def fleetref2_ApplyOf_x2_k : (List (List UInt8 × api_Value)) ⊕ Unit → AEx
  | .inl _ => .exit 2
  | .inr _ => .ret

def fleetref2_ApplyOf_x2_S (qc : List api_Change) : (List (List UInt8 × api_Value)) ⊕ Unit → St
  | .inl vm3 => Mem.st ⟨[], [(0, [.mapc .str true (List.map (encM D.str api_Value.enc) vm3)])]⟩ (tl [(6, .v (.one (.mapp 0)))]) 1
  | .inr _ => Mem.st ⟨[], []⟩ (tl [(4, .v (.one (.nil))), (5, .v (.one (.d (.int .i64 13))))]) 0

def fleetref2_ApplyOf_x2_H (qc : List api_Change) : (List (List UInt8 × api_Value)) × Int → St
  | (vm2, vx1) => Mem.st ⟨[], [(0, [.mapc .str true (List.map (encM D.str api_Value.enc) vm2)])]⟩ (tl [(6, .v (.one (.mapp 0))), (24, .v (.one (.d (.lst (List.map api_Change.enc qc))))), (25, .v (.one (.d (.int .i64 (qc.length : Int))))), (26, .v (.one (.d (.int .i64 vx1))))]) 1

theorem fleetref2_ApplyOf_x2_ok (qc : List api_Change) (s : (List (List UInt8 × api_Value)) × Int) (r : ((List (List UInt8 × api_Value)) × Int) ⊕ ((List (List UInt8 × api_Value)) ⊕ Unit)) (hF : fleetref2_ApplyOf_x2 qc s = some r) : Awp prog 0 47 (cL (cL (cR (cL (cR (cR (cR (cB f36)))))))) (Out 0 (kk fleetref2_ApplyOf_x2_k) (SS (fleetref2_ApplyOf_x2_H qc) (fleetref2_ApplyOf_x2_S qc)) r) (fleetref2_ApplyOf_x2_H qc s) := by
  obtain ⟨vm2, vx1⟩ := s
  unfold fleetref2_ApplyOf_x2 at hF
  refine awp_seq ?_
  refine awp_region ?_
  refine aR 1 ?_
  refine aE ?_
  refine awp_seq ?_
  refine cE hF (fun h4 hF => ?_) fun h4 hF => ?_
  · refine awp_true (by kernel_rfl) h4 ?_
    refine awp_skip ?_
    refine awp_seq ?_
    refine awp_block ?_
    refine awp_seq ?_
    refine bE hF fun vy3 h5 hF => ?_
    refine awp_region ?_
    refine aX (x_idx api_Change.enc h5) ?_
    refine aR 3 ?_
    refine aE ?_
    refine awp_seq ?_
    refine awp_seq ?_
    refine bE hF fun ve1 h6 hF => ?_
    refine awp_region ?_
    refine aR 3 ?_
    refine aX (x_get 0 true D.str api_Value.enc h6) ?_
    refine aR 2 ?_
    refine aS (does_eqS (op := .neq) (xs := [.int .i64 ve1.Kind, .bool ve1.Flag, .int .i64 ve1.Number, .str ve1.Words]) (ys := [.int .i64 vy3.From.Kind, .bool vy3.From.Flag, .int .i64 vy3.From.Number, .str vy3.From.Words]) (b := (decide (ve1.Kind = vy3.From.Kind) && ((ve1.Flag == vy3.From.Flag) && (decide (ve1.Number = vy3.From.Number) && (decide (ve1.Words = vy3.From.Words) && true))))) (c := (!(decide (ve1.Kind = vy3.From.Kind) && ((ve1.Flag == vy3.From.Flag) && (decide (ve1.Number = vy3.From.Number) && (decide (ve1.Words = vy3.From.Words) && true)))))) rfl (.inr ⟨rfl, rfl⟩) (by kernel_rfl) (by kernel_rfl) (by kernel_rfl) (by kernel_rfl) (by kernel_rfl) (by kernel_rfl)) ?_
    refine aE ?_
    refine cE hF (fun h7 hF => ?_) fun h7 hF => ?_
    · refine awp_true (by kernel_rfl) h7 ?_
      refine awp_seq ?_
      refine awp_region ?_
      refine aR 2 ?_
      refine aE ?_
      refine awp_ret ?_
      exact oO hF [] [] rfl
    · refine awp_false (by kernel_rfl) h7 ?_
      refine awp_skip ?_
      refine awp_region ?_
      refine aR 5 ?_
      refine aPut 0 .str true (l := vm2) (key := vy3.Name) (v := (api_Value.mk vy3.To.Kind vy3.To.Flag vy3.To.Number vy3.To.Words)) D.str api_Value.enc rfl ?_
      refine aE ?_
      refine awp_region ?_
      refine aR 2 ?_
      refine aE ?_
      exact oO hF [] [] rfl
  · refine awp_false (by kernel_rfl) h4 ?_
    refine awp_exit ?_
    exact oO hF [] [] rfl

def fleetref2_ApplyOf_R (ql : List api_Prop) (qc : List api_Change) (r : (List api_Prop) × Int) : TV × Mem := (.tup [.one (.own 0 none), .one (.d (.int .i64 r.2))], ⟨[(0, ⟨44, 5, List.map api_Prop.enc r.1⟩)], []⟩)

theorem fleetref2_ApplyOf_ok {ql : List api_Prop} {qc : List api_Change} {r} (hF : fleetref2_ApplyOf ql qc = some r) : Holds prog 36 [.v (.one (.d (.lst (List.map api_Prop.enc ql)))), .v (.one (.d (.lst (List.map api_Change.enc qc))))] ⟨[], []⟩ (Is (fleetref2_ApplyOf_R ql qc r)) := by
  unfold fleetref2_ApplyOf at hF
  refine holds_of_awp hΓ (fn := f36) (c := cB f36) (A := 0) (nx := 0) (by kernel_rfl) (by kernel_rfl) (by kernel_rfl) (by kernel_rfl) (by kernel_rfl) (by kernel_rfl) (lowc_of (by kernel_rfl)) ?_
  show Awp prog 0 47 (cB f36) _ _
  refine awp_seq ?_
  refine awp_region ?_
  refine aR 2 ?_
  refine aE ?_
  refine awp_seq ?_
  refine awp_region ?_
  refine aX (x_map .str true (κ := List UInt8) (β := api_Value) D.str api_Value.enc) ?_
  refine aR 1 ?_
  refine aE ?_
  refine awp_seq ?_
  refine awp_seq ?_
  refine awp_region ?_
  refine aR 1 ?_
  refine aL api_Prop.enc ql ?_
  refine aR 1 ?_
  refine aE ?_
  refine awp_block ?_
  refine awp_to (st' := fleetref2_ApplyOf_x1_H ql qc (([] : List (List UInt8 × api_Value)), 0)) (oT [(0, 2000)] []) ?_
  refine bE hF fun vm1_1 h3 hF => ?_
  refine awp_sub (awp_loop' (fleetref2_ApplyOf_x1_H ql qc) fleetref2_ApplyOf_x1_k (fleetref2_ApplyOf_x1_S ql qc) (by intro x; exact fun h => nomatch h) h3 (fleetref2_ApplyOf_x1_ok ql qc)) ?_
  refine awp_seq ?_
  refine awp_seq ?_
  refine awp_region ?_
  refine aR 1 ?_
  refine aL api_Change.enc qc ?_
  refine aR 1 ?_
  refine aE ?_
  refine awp_block ?_
  refine awp_to (st' := fleetref2_ApplyOf_x2_H qc (vm1_1, 0)) (oT [] []) ?_
  refine bE hF fun x h8 hF => ?_
  rcases x with vm3_1 | _
  · refine awp_sub (awp_loop' (fleetref2_ApplyOf_x2_H qc) fleetref2_ApplyOf_x2_k (fleetref2_ApplyOf_x2_S qc) (by intro x; rcases x with x | x <;> exact fun h => nomatch h) h8 (fleetref2_ApplyOf_x2_ok qc)) ?_
    refine awp_seq ?_
    refine bE hF fun x h9 hF => ?_
    obtain ⟨vr1, vr2⟩ := x
    refine awp_region ?_
    refine aR 1 ?_
    refine aC (fleetref2_fromValues_ok h9) [] [] [] ?_
    refine aR 4 ?_
    refine aE ?_
    refine awp_ret ?_
    exact oF hF [(0, 1002)] []
  · refine awp_sub (awp_loop' (fleetref2_ApplyOf_x2_H qc) fleetref2_ApplyOf_x2_k (fleetref2_ApplyOf_x2_S qc) (by intro x; rcases x with x | x <;> exact fun h => nomatch h) h8 (fleetref2_ApplyOf_x2_ok qc)) ?_
    exact oF hF [] [0]

/-! ### slices.Equal[[]beaconfleet/api.Change,beaconfleet/api.Change] -/
def slices_Equal_api_Change_api_Change_x1_k : Unit ⊕ Unit → AEx
  | .inl _ => .exit 0
  | .inr _ => .ret

def slices_Equal_api_Change_api_Change_x1_S (qs1 : List api_Change) (qs2 : List api_Change) : Unit ⊕ Unit → St
  | .inl _ => Mem.st ⟨[], []⟩ (tl []) 0
  | .inr _ => Mem.st ⟨[], []⟩ (tl [(4, .v (.one (.d (.bool false))))]) 0

def slices_Equal_api_Change_api_Change_x1_H (qs1 : List api_Change) (qs2 : List api_Change) : Int → St
  | vx => Mem.st ⟨[], []⟩ (tl [(0, .v (.one (.d (.lst (List.map api_Change.enc qs1))))), (1, .v (.one (.d (.lst (List.map api_Change.enc qs2))))), (12, .v (.one (.d (.int .i64 (qs1.length : Int))))), (13, .v (.one (.d (.int .i64 vx))))]) 0

theorem slices_Equal_api_Change_api_Change_x1_ok (qs1 : List api_Change) (qs2 : List api_Change) (vx : Int) (r : (Int) ⊕ (Unit ⊕ Unit)) (hF : slices_Equal_api_Change_api_Change_x1 qs1 qs2 vx = some r) : Awp prog 0 26 (cL (cL (cR (cL (cR (cR (cB f37))))))) (Out 0 (kk slices_Equal_api_Change_api_Change_x1_k) (SS (slices_Equal_api_Change_api_Change_x1_H qs1 qs2) (slices_Equal_api_Change_api_Change_x1_S qs1 qs2)) r) (slices_Equal_api_Change_api_Change_x1_H qs1 qs2 vx) := by
  unfold slices_Equal_api_Change_api_Change_x1 at hF
  refine awp_seq ?_
  refine awp_region ?_
  refine aR 1 ?_
  refine aE ?_
  refine awp_seq ?_
  refine cE hF (fun h2 hF => ?_) fun h2 hF => ?_
  · refine awp_true (by kernel_rfl) h2 ?_
    refine awp_skip ?_
    refine awp_seq ?_
    refine awp_block ?_
    refine awp_seq ?_
    refine awp_region ?_
    refine aR 2 ?_
    refine aE ?_
    refine awp_seq ?_
    refine bE hF fun vy2 h3 hF => ?_
    refine bE hF fun vy3 h4 hF => ?_
    refine aD ?_
    refine dR 2 ?_
    refine dX (x_idx api_Change.enc h3) ?_
    refine dR 3 ?_
    refine dX (x_idx api_Change.enc h4) ?_
    refine dR 1 ?_
    refine dS (U := []) (stable_eqS (op := .neq) (xs := [.str vy2.Name, .int .i64 vy2.From.Kind, .bool vy2.From.Flag, .int .i64 vy2.From.Number, .str vy2.From.Words, .int .i64 vy2.To.Kind, .bool vy2.To.Flag, .int .i64 vy2.To.Number, .str vy2.To.Words]) (ys := [.str vy3.Name, .int .i64 vy3.From.Kind, .bool vy3.From.Flag, .int .i64 vy3.From.Number, .str vy3.From.Words, .int .i64 vy3.To.Kind, .bool vy3.To.Flag, .int .i64 vy3.To.Number, .str vy3.To.Words]) (b := (decide (vy2.Name = vy3.Name) && ((decide (vy2.From.Kind = vy3.From.Kind) && ((vy2.From.Flag == vy3.From.Flag) && (decide (vy2.From.Number = vy3.From.Number) && (decide (vy2.From.Words = vy3.From.Words) && true)))) && ((decide (vy2.To.Kind = vy3.To.Kind) && ((vy2.To.Flag == vy3.To.Flag) && (decide (vy2.To.Number = vy3.To.Number) && (decide (vy2.To.Words = vy3.To.Words) && true)))) && true)))) (c := (!(decide (vy2.Name = vy3.Name) && ((decide (vy2.From.Kind = vy3.From.Kind) && ((vy2.From.Flag == vy3.From.Flag) && (decide (vy2.From.Number = vy3.From.Number) && (decide (vy2.From.Words = vy3.From.Words) && true)))) && ((decide (vy2.To.Kind = vy3.To.Kind) && ((vy2.To.Flag == vy3.To.Flag) && (decide (vy2.To.Number = vy3.To.Number) && (decide (vy2.To.Words = vy3.To.Words) && true)))) && true))))) rfl (.inr ⟨rfl, rfl⟩) (by kernel_rfl) (by kernel_rfl) (by kernel_rfl) (by kernel_rfl) (by kernel_rfl) (by kernel_rfl)) ?_
    refine dE ?_
    refine cE hF (fun h5 hF => ?_) fun h5 hF => ?_
    · refine awp_true (by kernel_rfl) h5 ?_
      refine awp_seq ?_
      refine awp_region ?_
      refine aR 1 ?_
      refine aE ?_
      refine awp_ret ?_
      exact oO hF [] [] rfl
    · refine awp_false (by kernel_rfl) h5 ?_
      refine awp_skip ?_
      refine awp_region ?_
      refine aR 2 ?_
      refine aE ?_
      exact oO hF [] [] rfl
  · refine awp_false (by kernel_rfl) h2 ?_
    refine awp_exit ?_
    exact oO hF [] [] rfl

def slices_Equal_api_Change_api_Change_R (qs1 : List api_Change) (qs2 : List api_Change) (r : Bool) : TV × Mem := (.v (.one (.d (.bool r))), ⟨[], []⟩)

theorem slices_Equal_api_Change_api_Change_ok {qs1 : List api_Change} {qs2 : List api_Change} {r} (hF : slices_Equal_api_Change_api_Change qs1 qs2 = some r) : Holds prog 37 [.v (.one (.d (.lst (List.map api_Change.enc qs1)))), .v (.one (.d (.lst (List.map api_Change.enc qs2))))] ⟨[], []⟩ (Is (slices_Equal_api_Change_api_Change_R qs1 qs2 r)) := by
  unfold slices_Equal_api_Change_api_Change at hF
  refine holds_of_awp hΓ (fn := f37) (c := cB f37) (A := 0) (nx := 0) (by kernel_rfl) (by kernel_rfl) (by kernel_rfl) (by kernel_rfl) (by kernel_rfl) (by kernel_rfl) (lowc_of (by kernel_rfl)) ?_
  show Awp prog 0 26 (cB f37) _ _
  refine awp_seq ?_
  refine awp_region ?_
  refine aR 1 ?_
  refine aE ?_
  refine awp_seq ?_
  refine awp_seq ?_
  refine awp_region ?_
  refine aR 1 ?_
  refine aL api_Change.enc qs1 ?_
  refine aR 1 ?_
  refine aL api_Change.enc qs2 ?_
  refine aR 1 ?_
  refine aE ?_
  refine cE hF (fun h1 hF => ?_) fun h1 hF => ?_
  · refine awp_true (by kernel_rfl) h1 ?_
    refine awp_seq ?_
    refine awp_region ?_
    refine aR 1 ?_
    refine aE ?_
    refine awp_ret ?_
    exact oF hF [] []
  · refine awp_false (by kernel_rfl) h1 ?_
    refine awp_skip ?_
    refine awp_seq ?_
    refine awp_seq ?_
    refine awp_region ?_
    refine aR 1 ?_
    refine aL api_Change.enc qs1 ?_
    refine aR 1 ?_
    refine aE ?_
    refine awp_block ?_
    refine awp_to (st' := slices_Equal_api_Change_api_Change_x1_H qs1 qs2 0) (oT [] []) ?_
    refine bE hF fun x h6 hF => ?_
    rcases x with _ | _
    · refine awp_sub (awp_loop' (slices_Equal_api_Change_api_Change_x1_H qs1 qs2) slices_Equal_api_Change_api_Change_x1_k (slices_Equal_api_Change_api_Change_x1_S qs1 qs2) (by intro x; rcases x with x | x <;> exact fun h => nomatch h) h6 (slices_Equal_api_Change_api_Change_x1_ok qs1 qs2)) ?_
      refine awp_seq ?_
      refine awp_region ?_
      refine aR 1 ?_
      refine aE ?_
      refine awp_ret ?_
      exact oF hF [] []
    · refine awp_sub (awp_loop' (slices_Equal_api_Change_api_Change_x1_H qs1 qs2) slices_Equal_api_Change_api_Change_x1_k (slices_Equal_api_Change_api_Change_x1_S qs1 qs2) (by intro x; rcases x with x | x <;> exact fun h => nomatch h) h6 (slices_Equal_api_Change_api_Change_x1_ok qs1 qs2)) ?_
      exact oF hF [] []

/-! ### beaconfleet/fleetlaw2.ChangesMade -/
def fleetlaw2_ChangesMade_x1_k : (List api_Change) → AEx
  | _ => .normal

def fleetlaw2_ChangesMade_x1_S (vr2 : List api_Prop) (vr2_1 : List api_Prop) (vr1 : List api_Change) (vr7 : List api_Change) (vr8 : Int) (vr4 : List api_Prop) (vr6 : Int) (vr : List api_Change) (vr1_1 : Int) (vr3 : Int) (vr5 : Int) (vr10 : Int) : (List api_Change) → St
  | vx => Mem.st ⟨[], []⟩ (tl [(4, .v (.one (.d (.lst (List.map api_Prop.enc vr2))))), (6, .v (.one (.d (.lst (List.map api_Change.enc vr1))))), (7, .v (.one (.d (.lst (List.map api_Change.enc vr7))))), (8, .v (.one (.d (.int .i64 vr8)))), (9, .v (.one (.d (.lst (List.map api_Prop.enc vr4))))), (10, .v (.one (.d (.int .i64 vr6)))), (11, .v (.one (.d (.lst (List.map api_Change.enc vr))))), (12, .v (.one (.d (.int .i64 vr1_1)))), (13, .v (.one (.d (.int .i64 vr3)))), (14, .v (.one (.d (.int .i64 vr5)))), (15, .v (.one (.d (.lst (List.map api_Change.enc vx))))), (16, .v (.one (.nil))), (17, .v (.one (.d (.int .i64 vr10))))]) 0

def fleetlaw2_ChangesMade_x1_I (vr2 : List api_Prop) (vr2_1 : List api_Prop) (vr1 : List api_Change) (vr7 : List api_Change) (vr8 : Int) (vr4 : List api_Prop) (vr6 : Int) (vr : List api_Change) (vr1_1 : Int) (vr3 : Int) (vr5 : Int) (vr10 : Int) : St := Mem.st ⟨[], []⟩ (tl [(4, .v (.one (.d (.lst (List.map api_Prop.enc vr2))))), (5, .v (.one (.d (.lst (List.map api_Prop.enc vr2_1))))), (6, .v (.one (.d (.lst (List.map api_Change.enc vr1))))), (7, .v (.one (.d (.lst (List.map api_Change.enc vr7))))), (8, .v (.one (.d (.int .i64 vr8)))), (9, .v (.one (.d (.lst (List.map api_Prop.enc vr4))))), (10, .v (.one (.d (.int .i64 vr6)))), (11, .v (.one (.d (.lst (List.map api_Change.enc vr))))), (12, .v (.one (.d (.int .i64 vr1_1)))), (13, .v (.one (.d (.int .i64 vr3)))), (14, .v (.one (.d (.int .i64 vr5)))), (15, .v (.one (.nil))), (16, .v (.one (.nil))), (17, .v (.one (.d (.int .i64 vr10))))]) 0

theorem fleetlaw2_ChangesMade_x1_ok (vr2 : List api_Prop) (vr2_1 : List api_Prop) (vr1 : List api_Change) (vr7 : List api_Change) (vr8 : Int) (vr4 : List api_Prop) (vr6 : Int) (vr : List api_Change) (vr1_1 : Int) (vr3 : Int) (vr5 : Int) (vr10 : Int) {r} (hF : fleetlaw2_ChangesMade_x1 vr2 vr2_1 vr10 = some r) : Awp prog 0 111 (cL (cR (cR (cR (cR (cR (cR (cR (cR (cR (cR (cR (cB f5))))))))))))) (Out 0 fleetlaw2_ChangesMade_x1_k (fleetlaw2_ChangesMade_x1_S vr2 vr2_1 vr1 vr7 vr8 vr4 vr6 vr vr1_1 vr3 vr5 vr10) r) (fleetlaw2_ChangesMade_x1_I vr2 vr2_1 vr1 vr7 vr8 vr4 vr6 vr vr1_1 vr3 vr5 vr10) := by
  unfold fleetlaw2_ChangesMade_x1 at hF
  refine awp_seq ?_
  refine awp_region ?_
  refine aR 2 ?_
  refine aE ?_
  refine cE hF (fun h13 hF => ?_) fun h13 hF => ?_
  · refine awp_true (by kernel_rfl) h13 ?_
    refine bE hF fun vr5_2 h14 hF => ?_
    refine awp_region ?_
    refine aR 2 ?_
    refine aC (fleetref2_DifferOf_ok h14) [] [] [] ?_
    refine aR 1 ?_
    refine aE ?_
    exact oO hF [] [] rfl
  · refine awp_false (by kernel_rfl) h13 ?_
    refine awp_skip ?_
    exact oO hF [] [] rfl

def fleetlaw2_ChangesMade_x2_k : (List api_Change) → AEx
  | _ => .normal

def fleetlaw2_ChangesMade_x2_S (vr2 : List api_Prop) (vr1 : List api_Change) (vr7 : List api_Change) (vr8 : Int) (vr4 : List api_Prop) (vr6 : Int) (vr : List api_Change) (vr1_1 : Int) (vr3 : Int) (vr5 : Int) (vr10 : Int) (vx1 : List api_Change) : (List api_Change) → St
  | vx2 => Mem.st ⟨[], []⟩ (tl [(4, .v (.one (.d (.lst (List.map api_Prop.enc vr2))))), (6, .v (.one (.d (.lst (List.map api_Change.enc vr1))))), (7, .v (.one (.d (.lst (List.map api_Change.enc vr7))))), (8, .v (.one (.d (.int .i64 vr8)))), (9, .v (.one (.d (.lst (List.map api_Prop.enc vr4))))), (10, .v (.one (.d (.int .i64 vr6)))), (11, .v (.one (.d (.lst (List.map api_Change.enc vr))))), (12, .v (.one (.d (.int .i64 vr1_1)))), (13, .v (.one (.d (.int .i64 vr3)))), (14, .v (.one (.d (.int .i64 vr5)))), (15, .v (.one (.d (.lst (List.map api_Change.enc vx1))))), (16, .v (.one (.d (.lst (List.map api_Change.enc vx2))))), (17, .v (.one (.d (.int .i64 vr10))))]) 0

def fleetlaw2_ChangesMade_x2_I (vr2 : List api_Prop) (vr1 : List api_Change) (vr7 : List api_Change) (vr8 : Int) (vr4 : List api_Prop) (vr6 : Int) (vr : List api_Change) (vr1_1 : Int) (vr3 : Int) (vr5 : Int) (vr10 : Int) (vx1 : List api_Change) : St := Mem.st ⟨[], []⟩ (tl [(4, .v (.one (.d (.lst (List.map api_Prop.enc vr2))))), (6, .v (.one (.d (.lst (List.map api_Change.enc vr1))))), (7, .v (.one (.d (.lst (List.map api_Change.enc vr7))))), (8, .v (.one (.d (.int .i64 vr8)))), (9, .v (.one (.d (.lst (List.map api_Prop.enc vr4))))), (10, .v (.one (.d (.int .i64 vr6)))), (11, .v (.one (.d (.lst (List.map api_Change.enc vr))))), (12, .v (.one (.d (.int .i64 vr1_1)))), (13, .v (.one (.d (.int .i64 vr3)))), (14, .v (.one (.d (.int .i64 vr5)))), (15, .v (.one (.d (.lst (List.map api_Change.enc vx1))))), (16, .v (.one (.nil))), (17, .v (.one (.d (.int .i64 vr10))))]) 0

theorem fleetlaw2_ChangesMade_x2_ok (vr2 : List api_Prop) (vr1 : List api_Change) (vr7 : List api_Change) (vr8 : Int) (vr4 : List api_Prop) (vr6 : Int) (vr : List api_Change) (vr1_1 : Int) (vr3 : Int) (vr5 : Int) (vr10 : Int) (vx1 : List api_Change) {r} (hF : fleetlaw2_ChangesMade_x2 vr1 vr5 = some r) : Awp prog 0 111 (cL (cR (cR (cR (cR (cR (cR (cR (cR (cR (cR (cR (cR (cB f5)))))))))))))) (Out 0 fleetlaw2_ChangesMade_x2_k (fleetlaw2_ChangesMade_x2_S vr2 vr1 vr7 vr8 vr4 vr6 vr vr1_1 vr3 vr5 vr10 vx1) r) (fleetlaw2_ChangesMade_x2_I vr2 vr1 vr7 vr8 vr4 vr6 vr vr1_1 vr3 vr5 vr10 vx1) := by
  unfold fleetlaw2_ChangesMade_x2 at hF
  refine awp_seq ?_
  refine awp_region ?_
  refine aR 2 ?_
  refine aE ?_
  refine cE hF (fun h16 hF => ?_) fun h16 hF => ?_
  · refine awp_true (by kernel_rfl) h16 ?_
    refine bE hF fun vr11 h17 hF => ?_
    refine awp_region ?_
    refine aR 1 ?_
    refine aC (fleetref2_TurnOf_ok h17) [] [] [] ?_
    refine aR 1 ?_
    refine aE ?_
    exact oO hF [] [] rfl
  · refine awp_false (by kernel_rfl) h16 ?_
    refine awp_skip ?_
    exact oO hF [] [] rfl

def fleetlaw2_ChangesMade_x3_k : (Int × (List api_Prop)) → AEx
  | _ => .normal

def fleetlaw2_ChangesMade_x3_S (vr2 : List api_Prop) (vr1 : List api_Change) (vr7 : List api_Change) (vr8 : Int) (vr4 : List api_Prop) (vr6 : Int) (vr : List api_Change) (vr1_1 : Int) (vr3 : Int) (vr5 : Int) (vr10 : Int) (vx1 : List api_Change) (vx2_1 : List api_Change) : (Int × (List api_Prop)) → St
  | (vx3, vx4) => Mem.st ⟨[], []⟩ (tl [(7, .v (.one (.d (.lst (List.map api_Change.enc vr7))))), (8, .v (.one (.d (.int .i64 vr8)))), (9, .v (.one (.d (.lst (List.map api_Prop.enc vr4))))), (10, .v (.one (.d (.int .i64 vr6)))), (11, .v (.one (.d (.lst (List.map api_Change.enc vr))))), (12, .v (.one (.d (.int .i64 vr1_1)))), (13, .v (.one (.d (.int .i64 vx3)))), (14, .v (.one (.d (.int .i64 vr5)))), (15, .v (.one (.d (.lst (List.map api_Change.enc vx1))))), (16, .v (.one (.d (.lst (List.map api_Change.enc vx2_1))))), (17, .v (.one (.d (.int .i64 vr10)))), (18, .v (.one (.d (.lst (List.map api_Prop.enc vx4)))))]) 0

def fleetlaw2_ChangesMade_x3_I (vr2 : List api_Prop) (vr1 : List api_Change) (vr7 : List api_Change) (vr8 : Int) (vr4 : List api_Prop) (vr6 : Int) (vr : List api_Change) (vr1_1 : Int) (vr3 : Int) (vr5 : Int) (vr10 : Int) (vx1 : List api_Change) (vx2_1 : List api_Change) : St := Mem.st ⟨[], []⟩ (tl [(4, .v (.one (.d (.lst (List.map api_Prop.enc vr2))))), (6, .v (.one (.d (.lst (List.map api_Change.enc vr1))))), (7, .v (.one (.d (.lst (List.map api_Change.enc vr7))))), (8, .v (.one (.d (.int .i64 vr8)))), (9, .v (.one (.d (.lst (List.map api_Prop.enc vr4))))), (10, .v (.one (.d (.int .i64 vr6)))), (11, .v (.one (.d (.lst (List.map api_Change.enc vr))))), (12, .v (.one (.d (.int .i64 vr1_1)))), (13, .v (.one (.d (.int .i64 vr3)))), (14, .v (.one (.d (.int .i64 vr5)))), (15, .v (.one (.d (.lst (List.map api_Change.enc vx1))))), (16, .v (.one (.d (.lst (List.map api_Change.enc vx2_1))))), (17, .v (.one (.d (.int .i64 vr10)))), (18, .v (.one (.nil)))]) 0

theorem fleetlaw2_ChangesMade_x3_ok (vr2 : List api_Prop) (vr1 : List api_Change) (vr7 : List api_Change) (vr8 : Int) (vr4 : List api_Prop) (vr6 : Int) (vr : List api_Change) (vr1_1 : Int) (vr3 : Int) (vr5 : Int) (vr10 : Int) (vx1 : List api_Change) (vx2_1 : List api_Change) {r} (hF : fleetlaw2_ChangesMade_x3 vr2 vr1 vr3 vr5 = some r) : Awp prog 0 111 (cL (cR (cR (cR (cR (cR (cR (cR (cR (cR (cR (cR (cR (cR (cR (cB f5)))))))))))))))) (Out 0 fleetlaw2_ChangesMade_x3_k (fleetlaw2_ChangesMade_x3_S vr2 vr1 vr7 vr8 vr4 vr6 vr vr1_1 vr3 vr5 vr10 vx1 vx2_1) r) (fleetlaw2_ChangesMade_x3_I vr2 vr1 vr7 vr8 vr4 vr6 vr vr1_1 vr3 vr5 vr10 vx1 vx2_1) := by
  unfold fleetlaw2_ChangesMade_x3 at hF
  refine awp_seq ?_
  refine bE hF fun vr12 h19 hF => ?_
  refine awp_region ?_
  refine aR 3 ?_
  refine aC (fleetlaw2_errs_ok h19) [] [] [2000] ?_
  refine aR 1 ?_
  refine aE ?_
  refine awp_seq ?_
  refine awp_region ?_
  refine aR 2 ?_
  refine aE ?_
  refine cE hF (fun h20 hF => ?_) fun h20 hF => ?_
  · refine awp_true (by kernel_rfl) h20 ?_
    refine bE hF fun x h21 hF => ?_
    obtain ⟨vr13, vr3_1⟩ := x
    refine awp_region ?_
    refine aR 2 ?_
    refine aC (fleetref2_ApplyOf_ok h21) [] [] [] ?_
    refine aR 5 ?_
    refine aE ?_
    exact oO hF [] [] rfl
  · refine awp_false (by kernel_rfl) h20 ?_
    refine awp_skip ?_
    exact oO hF [] [] rfl

def fleetlaw2_ChangesMade_x4_k : Bool → AEx
  | _ => .normal

def fleetlaw2_ChangesMade_x4_S (vr7 : List api_Change) (vr8 : Int) (vr4 : List api_Prop) (vr6 : Int) (vr : List api_Change) (vr1_1 : Int) (vr5 : Int) (vr10 : Int) (vx1 : List api_Change) (vx2_1 : List api_Change) (vx3_1 : Int) (vx4_1 : List api_Prop) : Bool → St
  | vx5 => Mem.st ⟨[], []⟩ (tl [(2, .v (.one (.d (.bool vx5))))]) 0

def fleetlaw2_ChangesMade_x4_I (vr7 : List api_Change) (vr8 : Int) (vr4 : List api_Prop) (vr6 : Int) (vr : List api_Change) (vr1_1 : Int) (vr5 : Int) (vr10 : Int) (vx1 : List api_Change) (vx2_1 : List api_Change) (vx3_1 : Int) (vx4_1 : List api_Prop) : St := Mem.st ⟨[], []⟩ (tl [(7, .v (.one (.d (.lst (List.map api_Change.enc vr7))))), (8, .v (.one (.d (.int .i64 vr8)))), (9, .v (.one (.d (.lst (List.map api_Prop.enc vr4))))), (10, .v (.one (.d (.int .i64 vr6)))), (11, .v (.one (.d (.lst (List.map api_Change.enc vr))))), (12, .v (.one (.d (.int .i64 vr1_1)))), (13, .v (.one (.d (.int .i64 vx3_1)))), (14, .v (.one (.d (.int .i64 vr5)))), (15, .v (.one (.d (.lst (List.map api_Change.enc vx1))))), (16, .v (.one (.d (.lst (List.map api_Change.enc vx2_1))))), (17, .v (.one (.d (.int .i64 vr10)))), (18, .v (.one (.d (.lst (List.map api_Prop.enc vx4_1)))))]) 0

theorem fleetlaw2_ChangesMade_x4_ok (vr7 : List api_Change) (vr8 : Int) (vr4 : List api_Prop) (vr6 : Int) (vr : List api_Change) (vr1_1 : Int) (vr5 : Int) (vr10 : Int) (vx1 : List api_Change) (vx2_1 : List api_Change) (vx3_1 : Int) (vx4_1 : List api_Prop) {r} (hF : fleetlaw2_ChangesMade_x4 vr7 vr8 vr4 vr6 vr vr1_1 vr5 vr10 vx1 vx2_1 vx3_1 vx4_1 = some r) : Awp prog 0 111 (cL (cR (cR (cR (cR (cR (cR (cR (cR (cR (cR (cR (cR (cR (cR (cR (cB f5))))))))))))))))) (Out 0 fleetlaw2_ChangesMade_x4_k (fleetlaw2_ChangesMade_x4_S vr7 vr8 vr4 vr6 vr vr1_1 vr5 vr10 vx1 vx2_1 vx3_1 vx4_1) r) (fleetlaw2_ChangesMade_x4_I vr7 vr8 vr4 vr6 vr vr1_1 vr5 vr10 vx1 vx2_1 vx3_1 vx4_1) := by
  unfold fleetlaw2_ChangesMade_x4 at hF
  refine cE hF (fun h23 hF => ?_) fun h23 hF => ?_
  · refine bE hF fun vr14 h24 hF => ?_
    refine cE hF (fun h25 hF => ?_) fun h25 hF => ?_
    · refine cE hF (fun h26 hF => ?_) fun h26 hF => ?_
      · refine bE hF fun vr15 h27 hF => ?_
        refine cE hF (fun h28 hF => ?_) fun h28 hF => ?_
        · refine cE hF (fun h29 hF => ?_) fun h29 hF => ?_
          · refine bE hF fun vr16 h30 hF => ?_
            refine cE hF (fun h31 hF => ?_) fun h31 hF => ?_
            · refine bE hF fun vr17 h32 hF => ?_
              refine awp_region ?_
              refine aR 2 ?_
              refine aB h23 ?_
              refine aR 3 ?_
              refine aCb (slices_Equal_api_Change_api_Change_ok h24) [] [] [] h25 ?_
              refine aR 4 ?_
              refine aB h26 ?_
              refine aR 4 ?_
              refine aCb (slices_Equal_api_Prop_api_Prop_ok h27) [] [] [] h28 ?_
              refine aR 4 ?_
              refine aB h29 ?_
              refine aR 4 ?_
              refine aCb (slices_Equal_api_Change_api_Change_ok h30) [] [] [] h31 ?_
              refine aR 2 ?_
              refine aC (fleetlaw2_twinned_ok h32) [] [] [] ?_
              refine aR 2 ?_
              refine aE ?_
              exact oO hF [] [] rfl
            · refine awp_region ?_
              refine aR 2 ?_
              refine aB h23 ?_
              refine aR 3 ?_
              refine aCb (slices_Equal_api_Change_api_Change_ok h24) [] [] [] h25 ?_
              refine aR 4 ?_
              refine aB h26 ?_
              refine aR 4 ?_
              refine aCb (slices_Equal_api_Prop_api_Prop_ok h27) [] [] [] h28 ?_
              refine aR 4 ?_
              refine aB h29 ?_
              refine aR 4 ?_
              refine aCb (slices_Equal_api_Change_api_Change_ok h30) [] [] [] h31 ?_
              refine aR 5 ?_
              refine aE ?_
              exact oO hF [] [] rfl
          · refine awp_region ?_
            refine aR 2 ?_
            refine aB h23 ?_
            refine aR 3 ?_
            refine aCb (slices_Equal_api_Change_api_Change_ok h24) [] [] [] h25 ?_
            refine aR 4 ?_
            refine aB h26 ?_
            refine aR 4 ?_
            refine aCb (slices_Equal_api_Prop_api_Prop_ok h27) [] [] [] h28 ?_
            refine aR 4 ?_
            refine aB h29 ?_
            refine aR 10 ?_
            refine aE ?_
            exact oO hF [] [] rfl
        · refine awp_region ?_
          refine aR 2 ?_
          refine aB h23 ?_
          refine aR 3 ?_
          refine aCb (slices_Equal_api_Change_api_Change_ok h24) [] [] [] h25 ?_
          refine aR 4 ?_
          refine aB h26 ?_
          refine aR 4 ?_
          refine aCb (slices_Equal_api_Prop_api_Prop_ok h27) [] [] [] h28 ?_
          refine aR 15 ?_
          refine aE ?_
          exact oO hF [] [] rfl
      · refine awp_region ?_
        refine aR 2 ?_
        refine aB h23 ?_
        refine aR 3 ?_
        refine aCb (slices_Equal_api_Change_api_Change_ok h24) [] [] [] h25 ?_
        refine aR 4 ?_
        refine aB h26 ?_
        refine aR 20 ?_
        refine aE ?_
        exact oO hF [] [] rfl
    · refine awp_region ?_
      refine aR 2 ?_
      refine aB h23 ?_
      refine aR 3 ?_
      refine aCb (slices_Equal_api_Change_api_Change_ok h24) [] [] [] h25 ?_
      refine aR 25 ?_
      refine aE ?_
      exact oO hF [] [] rfl
  · refine awp_region ?_
    refine aR 2 ?_
    refine aB h23 ?_
    refine aR 29 ?_
    refine aE ?_
    exact oO hF [] [] rfl

def fleetlaw2_ChangesMade_R (qx : List Int) (r : Bool) : TV × Mem := (.v (.one (.d (.bool r))), ⟨[], []⟩)

theorem fleetlaw2_ChangesMade_ok {qx : List Int} {r} (hF : fleetlaw2_ChangesMade qx = some r) : Holds prog 5 [.v (.one (.d (.lst (List.map (encI .i64) qx))))] ⟨[], []⟩ (Is (fleetlaw2_ChangesMade_R qx r)) := by
  unfold fleetlaw2_ChangesMade at hF
  refine holds_of_awp hΓ (fn := f5) (c := cB f5) (A := 0) (nx := 0) (by kernel_rfl) (by kernel_rfl) (by kernel_rfl) (by kernel_rfl) (by kernel_rfl) (by kernel_rfl) (lowc_of (by kernel_rfl)) ?_
  show Awp prog 0 111 (cB f5) _ _
  refine awp_seq ?_
  refine awp_region ?_
  refine aR 1 ?_
  refine aE ?_
  refine awp_seq ?_
  refine awp_region ?_
  refine aR 4 ?_
  refine aE ?_
  refine awp_seq ?_
  refine bE hF fun x h1 hF => ?_
  obtain ⟨vs2, vr2⟩ := x
  refine bE hF fun x h2 hF => ?_
  obtain ⟨vs2_1, vr2_1⟩ := x
  refine awp_region ?_
  refine aR 1 ?_
  refine aC (fleetmake_Stream_Props_ok h1) [(0, 3000)] [] [] ?_
  refine aR 1 ?_
  refine aC (fleetmake_Stream_Props_ok h2) [(0, 3000)] [] [] ?_
  refine aR 2 ?_
  refine aE ?_
  refine awp_to (oT (m := ⟨[], [(0, [.d (.lst (List.map (encI .i64) vs2_1.L)), .d (.int .i64 vs2_1.at_)])]⟩) (ts := [(3, .v (.one (.box 0 0))), (4, .v (.one (.d (.lst (List.map api_Prop.enc vr2))))), (5, .v (.one (.d (.lst (List.map api_Prop.enc vr2_1)))))]) (nx := 1) [(0, 3000)] []) ?_
  refine awp_seq ?_
  refine bE hF fun x h3 hF => ?_
  obtain ⟨vs4, vr1⟩ := x
  refine awp_region ?_
  refine aR 2 ?_
  refine aC (fleetmake_Stream_Changes_ok h3) [] [] [] ?_
  refine aR 1 ?_
  refine aE ?_
  refine awp_to (oT (m := ⟨[], []⟩) (ts := [(4, .v (.one (.d (.lst (List.map api_Prop.enc vr2))))), (5, .v (.one (.d (.lst (List.map api_Prop.enc vr2_1))))), (6, .v (.one (.d (.lst (List.map api_Change.enc vr1)))))]) (nx := 0) [] []) ?_
  refine awp_seq ?_
  refine bE hF fun x h4 hF => ?_
  obtain ⟨vr7, vr8⟩ := x
  refine awp_region ?_
  refine aR 2 ?_
  refine aC (twin_Differ_ok h4) [] [] [] ?_
  refine aR 5 ?_
  refine aE ?_
  refine awp_to (oT (m := ⟨[], []⟩) (ts := [(4, .v (.one (.d (.lst (List.map api_Prop.enc vr2))))), (5, .v (.one (.d (.lst (List.map api_Prop.enc vr2_1))))), (6, .v (.one (.d (.lst (List.map api_Change.enc vr1))))), (7, .v (.one (.d (.lst (List.map api_Change.enc vr7))))), (8, .v (.one (.d (.int .i64 vr8))))]) (nx := 0) [] []) ?_
  refine awp_seq ?_
  refine bE hF fun x h5 hF => ?_
  obtain ⟨vr4, vr6⟩ := x
  refine awp_region ?_
  refine aR 2 ?_
  refine aC (twin_Apply_ok h5) [] [] [] ?_
  refine aR 5 ?_
  refine aE ?_
  refine awp_to (oT (m := ⟨[], []⟩) (ts := [(4, .v (.one (.d (.lst (List.map api_Prop.enc vr2))))), (5, .v (.one (.d (.lst (List.map api_Prop.enc vr2_1))))), (6, .v (.one (.d (.lst (List.map api_Change.enc vr1))))), (7, .v (.one (.d (.lst (List.map api_Change.enc vr7))))), (8, .v (.one (.d (.int .i64 vr8)))), (9, .v (.one (.d (.lst (List.map api_Prop.enc vr4))))), (10, .v (.one (.d (.int .i64 vr6))))]) (nx := 0) [] []) ?_
  refine awp_seq ?_
  refine bE hF fun x h6 hF => ?_
  obtain ⟨vr, vr1_1⟩ := x
  refine awp_region ?_
  refine aR 1 ?_
  refine aC (twin_Turn_ok h6) [] [] [] ?_
  refine aR 5 ?_
  refine aE ?_
  refine awp_to (oT (m := ⟨[], []⟩) (ts := [(4, .v (.one (.d (.lst (List.map api_Prop.enc vr2))))), (5, .v (.one (.d (.lst (List.map api_Prop.enc vr2_1))))), (6, .v (.one (.d (.lst (List.map api_Change.enc vr1))))), (7, .v (.one (.d (.lst (List.map api_Change.enc vr7))))), (8, .v (.one (.d (.int .i64 vr8)))), (9, .v (.one (.d (.lst (List.map api_Prop.enc vr4))))), (10, .v (.one (.d (.int .i64 vr6)))), (11, .v (.one (.d (.lst (List.map api_Change.enc vr))))), (12, .v (.one (.d (.int .i64 vr1_1))))]) (nx := 0) [] []) ?_
  refine awp_seq ?_
  refine bE hF fun vr3 h7 hF => ?_
  refine bE hF fun vr5 h8 hF => ?_
  refine awp_region ?_
  refine aR 1 ?_
  refine aC (fleetref2_PropsFault_ok h7) [] [] [] ?_
  refine aR 1 ?_
  refine aC (fleetref2_ChangesFault_ok h8) [] [] [] ?_
  refine aR 2 ?_
  refine aE ?_
  refine awp_seq ?_
  refine awp_seq ?_
  refine bE hF fun vr5_1 h9 hF => ?_
  refine awp_region ?_
  refine aR 1 ?_
  refine aC (twin_CheckChanges_ok h9) [] [] [] ?_
  refine aR 2 ?_
  refine aE ?_
  refine cE hF (fun h10 hF => ?_) fun h10 hF => ?_
  · refine awp_true (by kernel_rfl) h10 ?_
    refine awp_seq ?_
    refine awp_region ?_
    refine aR 1 ?_
    refine aE ?_
    refine awp_ret ?_
    exact oF hF [] []
  · refine awp_false (by kernel_rfl) h10 ?_
    refine awp_skip ?_
    refine awp_seq ?_
    refine awp_region ?_
    refine aR 2 ?_
    refine aE ?_
    refine awp_seq ?_
    refine bE hF fun vr9 h11 hF => ?_
    refine bE hF fun vr10 h12 hF => ?_
    refine awp_region ?_
    refine aR 2 ?_
    refine aC (fleetref2_PropsFault_ok h11) [] [] [] ?_
    refine aR 1 ?_
    refine aC (fleetlaw2_errs_ok h12) [] [] [15000] ?_
    refine aR 1 ?_
    refine aE ?_
    refine awp_seq ?_
    refine awp_to (st' := fleetlaw2_ChangesMade_x1_I vr2 vr2_1 vr1 vr7 vr8 vr4 vr6 vr vr1_1 vr3 vr5 vr10) (oT [] []) ?_
    refine bE hF fun vx1 h15 hF => ?_
    refine awp_sub (fleetlaw2_ChangesMade_x1_ok vr2 vr2_1 vr1 vr7 vr8 vr4 vr6 vr vr1_1 vr3 vr5 vr10 h15) ?_
    refine awp_seq ?_
    refine awp_to (st' := fleetlaw2_ChangesMade_x2_I vr2 vr1 vr7 vr8 vr4 vr6 vr vr1_1 vr3 vr5 vr10 vx1) (oT [] []) ?_
    refine bE hF fun vx2_1 h18 hF => ?_
    refine awp_sub (fleetlaw2_ChangesMade_x2_ok vr2 vr1 vr7 vr8 vr4 vr6 vr vr1_1 vr3 vr5 vr10 vx1 h18) ?_
    refine awp_seq ?_
    refine awp_region ?_
    refine aR 1 ?_
    refine aE ?_
    refine awp_seq ?_
    refine awp_to (st' := fleetlaw2_ChangesMade_x3_I vr2 vr1 vr7 vr8 vr4 vr6 vr vr1_1 vr3 vr5 vr10 vx1 vx2_1) (oT [] []) ?_
    refine bE hF fun x h22 hF => ?_
    obtain ⟨vx3_1, vx4_1⟩ := x
    refine awp_sub (fleetlaw2_ChangesMade_x3_ok vr2 vr1 vr7 vr8 vr4 vr6 vr vr1_1 vr3 vr5 vr10 vx1 vx2_1 h22) ?_
    refine awp_seq ?_
    refine awp_to (st' := fleetlaw2_ChangesMade_x4_I vr7 vr8 vr4 vr6 vr vr1_1 vr5 vr10 vx1 vx2_1 vx3_1 vx4_1) (oT [] []) ?_
    refine bE hF fun vx5_1 h33 hF => ?_
    refine awp_sub (fleetlaw2_ChangesMade_x4_ok vr7 vr8 vr4 vr6 vr vr1_1 vr5 vr10 vx1 vx2_1 vx3_1 vx4_1 h33) ?_
    refine awp_ret ?_
    exact oF hF [] []

end Go.Eng
