/-
The code of the Go functions that the law PropsTell reaches does what the plain functions say, part 2.
-/
import Derived.Test.YtebpaohebdeicaaGreatDoorGenP1

namespace Go.Eng

open Go Go.Proofs.Tryz

set_option linter.unusedVariables false

set_option maxRecDepth 20000

set_option maxHeartbeats 0

/-! ### slices.ContainsFunc[[]beaconfleet/api.Prop,beaconfleet/api.Prop] -/
def slices_ContainsFunc_api_Prop_api_Prop_f1_fleetref2_PropsFault_1_R (qs : List api_Prop) (qf : api_Prop) (r : Bool) : TV × Mem := (.v (.one (.d (.bool r))), ⟨[], [(0, [.d (.str qf.Name), .d (.int .i64 qf.Value.Kind), .d (.bool qf.Value.Flag), .d (.int .i64 qf.Value.Number), .d (.str qf.Value.Words)])]⟩)

theorem slices_ContainsFunc_api_Prop_api_Prop_f1_fleetref2_PropsFault_1_ok {qs : List api_Prop} {qf : api_Prop} {r} (hF : slices_ContainsFunc_api_Prop_api_Prop_f1_fleetref2_PropsFault_1 qs qf = some r) : Holds prog 71 [.v (.one (.d (.lst (List.map api_Prop.enc qs)))), .v (.one (.fn 72 [0]))] ⟨[], [(0, [.d (.str qf.Name), .d (.int .i64 qf.Value.Kind), .d (.bool qf.Value.Flag), .d (.int .i64 qf.Value.Number), .d (.str qf.Value.Words)])]⟩ (Is (slices_ContainsFunc_api_Prop_api_Prop_f1_fleetref2_PropsFault_1_R qs qf r)) := by
  unfold slices_ContainsFunc_api_Prop_api_Prop_f1_fleetref2_PropsFault_1 at hF
  refine holds_of_awp hΓ (fn := f71) (c := cB f71) (A := 1) (nx := 1) (by kernel_rfl) (by kernel_rfl) (by kernel_rfl) (by kernel_rfl) (by kernel_rfl) (by kernel_rfl) (lowc_of (by kernel_rfl)) ?_
  show Awp prog 1 9 (cB f71) _ _
  refine awp_seq ?_
  refine awp_region ?_
  refine aR 1 ?_
  refine aE ?_
  refine awp_seq ?_
  refine bE hF fun vr h1 hF => ?_
  refine awp_region ?_
  refine aR 2 ?_
  refine aC (slices_IndexFunc_api_Prop_api_Prop_f1_fleetref2_PropsFault_1_ok h1) [] [] [] ?_
  refine aR 2 ?_
  refine aE ?_
  refine awp_ret ?_
  exact oF hF [] []

/-! ### beaconfleet/fleetref2.PropsFault -/
def fleetref2_PropsFault_x2_k : Bool → AEx
  | _ => .normal

def fleetref2_PropsFault_x2_S (ql : List api_Prop) (vx : Int) (vy2 : api_Prop) : Bool → St
  | vx2 => Mem.st ⟨[], []⟩ (tl [(0, .v (.one (.d (.lst (List.map api_Prop.enc ql))))), (11, .v (.one (.d (.lst (List.map api_Prop.enc ql))))), (12, .v (.one (.d (.int .i64 (ql.length : Int))))), (13, .v (.one (.d (.int .i64 vx)))), (33, .v (.one (.d (.bool vx2))))]) 0

def fleetref2_PropsFault_x2_I (ql : List api_Prop) (vx : Int) (vy2 : api_Prop) : St := Mem.st ⟨[], [(0, [.d (.str vy2.Name), .d (.int .i64 vy2.Value.Kind), .d (.bool vy2.Value.Flag), .d (.int .i64 vy2.Value.Number), .d (.str vy2.Value.Words)])]⟩ (tl [(0, .v (.one (.d (.lst (List.map api_Prop.enc ql))))), (3, .v (.one (.d (.int .i64 vx)))), (4, .v (.one (.box 0 0))), (11, .v (.one (.d (.lst (List.map api_Prop.enc ql))))), (12, .v (.one (.d (.int .i64 (ql.length : Int))))), (13, .v (.one (.d (.int .i64 vx))))]) 1

theorem fleetref2_PropsFault_x2_ok (ql : List api_Prop) (vx : Int) (vy2 : api_Prop) {r} (hF : fleetref2_PropsFault_x2 ql vx vy2 = some r) : Awp prog 0 58 (cL (cR (cR (cL (cR (cR (cR (cL (cL (cR (cR (cL (cL (cR (cL (cR (cR (cB f23)))))))))))))))))) (Out 0 fleetref2_PropsFault_x2_k (fleetref2_PropsFault_x2_S ql vx vy2) r) (fleetref2_PropsFault_x2_I ql vx vy2) := by
  unfold fleetref2_PropsFault_x2 at hF
  refine cE hF (fun h9 hF => ?_) fun h9 hF => ?_
  · refine bE hF fun vy3 h10 hF => ?_
    refine aD ?_
    refine dR 1 ?_
    refine dB h9 ?_
    refine dR 6 ?_
    refine dX (x_idx api_Prop.enc h10) ?_
    refine dR 5 ?_
    refine dE ?_
    exact oO hF [] [] rfl
  · refine aD ?_
    refine dR 1 ?_
    refine dB h9 ?_
    refine dR 12 ?_
    refine dE ?_
    exact oO hF [] [] rfl

def fleetref2_PropsFault_x1_k : Unit ⊕ Int → AEx
  | .inl _ => .exit 0
  | .inr _ => .ret

def fleetref2_PropsFault_x1_S (ql : List api_Prop) : Unit ⊕ Int → St
  | .inl _ => Mem.st ⟨[], []⟩ (tl [(0, .v (.one (.d (.lst (List.map api_Prop.enc ql)))))]) 0
  | .inr vx3 => Mem.st ⟨[], []⟩ (tl [(2, .v (.one (.d (.int .i64 vx3))))]) 0

def fleetref2_PropsFault_x1_H (ql : List api_Prop) : Int → St
  | vx => Mem.st ⟨[], []⟩ (tl [(0, .v (.one (.d (.lst (List.map api_Prop.enc ql))))), (11, .v (.one (.d (.lst (List.map api_Prop.enc ql))))), (12, .v (.one (.d (.int .i64 (ql.length : Int))))), (13, .v (.one (.d (.int .i64 vx))))]) 0

theorem fleetref2_PropsFault_x1_ok (ql : List api_Prop) (vx : Int) (r : (Int) ⊕ (Unit ⊕ Int)) (hF : fleetref2_PropsFault_x1 ql vx = some r) : Awp prog 0 58 (cL (cL (cR (cL (cR (cR (cB f23))))))) (Out 0 (kk fleetref2_PropsFault_x1_k) (SS (fleetref2_PropsFault_x1_H ql) (fleetref2_PropsFault_x1_S ql)) r) (fleetref2_PropsFault_x1_H ql vx) := by
  unfold fleetref2_PropsFault_x1 at hF
  refine awp_seq ?_
  refine awp_region ?_
  refine aR 1 ?_
  refine aE ?_
  refine awp_seq ?_
  refine cE hF (fun h2 hF => ?_) fun h2 hF => ?_
  · refine awp_true (by kernel_rfl) h2 ?_
    refine awp_skip ?_
    refine awp_seq ?_
    refine awp_block ?_
    refine awp_seq ?_
    refine bE hF fun vy2 h3 hF => ?_
    refine awp_region ?_
    refine aR 1 ?_
    refine aX (x_idx api_Prop.enc h3) ?_
    refine aR 4 ?_
    refine aE ?_
    refine awp_seq ?_
    refine awp_seq ?_
    refine bE hF fun vr2_1 h4 hF => ?_
    refine awp_region ?_
    refine aR 2 ?_
    refine aC (fleetref2_PropName_ok h4) [] [] [] ?_
    refine aR 1 ?_
    refine aE ?_
    refine cE hF (fun h5 hF => ?_) fun h5 hF => ?_
    · refine awp_true (by kernel_rfl) h5 ?_
      refine awp_seq ?_
      refine awp_region ?_
      refine aR 1 ?_
      refine aE ?_
      refine awp_ret ?_
      exact oO hF [] [] rfl
    · refine awp_false (by kernel_rfl) h5 ?_
      refine awp_skip ?_
      refine awp_seq ?_
      refine awp_seq ?_
      refine bE hF fun vr3_1 h6 hF => ?_
      refine awp_region ?_
      refine aR 2 ?_
      refine aC (fleetref2_ValueFault_ok h6) [] [] [] ?_
      refine aR 1 ?_
      refine aE ?_
      refine awp_seq ?_
      refine awp_region ?_
      refine aR 2 ?_
      refine aE ?_
      refine cE hF (fun h7 hF => ?_) fun h7 hF => ?_
      · refine awp_true (by kernel_rfl) h7 ?_
        refine awp_seq ?_
        refine awp_region ?_
        refine aR 2 ?_
        refine aE ?_
        refine awp_ret ?_
        exact oO hF [] [] rfl
      · refine awp_false (by kernel_rfl) h7 ?_
        refine awp_skip ?_
        refine awp_block ?_
        refine awp_seq ?_
        refine awp_region ?_
        refine aR 5 ?_
        refine aE ?_
        refine cE hF (fun h8 hF => ?_) fun h8 hF => ?_
        · refine awp_true (by kernel_rfl) h8 ?_
          refine awp_seq ?_
          refine awp_region ?_
          refine aR 1 ?_
          refine aE ?_
          refine awp_ret ?_
          exact oO hF [] [] rfl
        · refine awp_false (by kernel_rfl) h8 ?_
          refine awp_seq ?_
          refine awp_to (st' := fleetref2_PropsFault_x2_I ql vx vy2) (oT [(0, 4000)] []) ?_
          refine bE hF fun vx2_1 h11 hF => ?_
          refine awp_sub (fleetref2_PropsFault_x2_ok ql vx vy2 h11) ?_
          refine cE hF (fun h12 hF => ?_) fun h12 hF => ?_
          · refine awp_true (by kernel_rfl) h12 ?_
            refine awp_seq ?_
            refine awp_region ?_
            refine aR 1 ?_
            refine aE ?_
            refine awp_ret ?_
            exact oO hF [] [] rfl
          · refine awp_false (by kernel_rfl) h12 ?_
            refine awp_skip ?_
            refine awp_region ?_
            refine aR 2 ?_
            refine aE ?_
            exact oO hF [] [] rfl
  · refine awp_false (by kernel_rfl) h2 ?_
    refine awp_exit ?_
    exact oO hF [] [] rfl

def fleetref2_PropsFault_x3_k : Unit ⊕ Unit → AEx
  | .inl _ => .exit 3
  | .inr _ => .ret

def fleetref2_PropsFault_x3_S (ql : List api_Prop) : Unit ⊕ Unit → St
  | .inl _ => Mem.st ⟨[], []⟩ (tl []) 0
  | .inr _ => Mem.st ⟨[], []⟩ (tl [(2, .v (.one (.d (.int .i64 13))))]) 0

def fleetref2_PropsFault_x3_H (ql : List api_Prop) : Int → St
  | vx4 => Mem.st ⟨[], []⟩ (tl [(0, .v (.one (.d (.lst (List.map api_Prop.enc ql))))), (48, .v (.one (.d (.lst (List.map api_Prop.enc ql))))), (49, .v (.one (.d (.int .i64 (ql.length : Int))))), (50, .v (.one (.d (.int .i64 vx4))))]) 0

theorem fleetref2_PropsFault_x3_ok (ql : List api_Prop) (vx4 : Int) (r : (Int) ⊕ (Unit ⊕ Unit)) (hF : fleetref2_PropsFault_x3 ql vx4 = some r) : Awp prog 0 58 (cL (cL (cR (cL (cR (cR (cR (cB f23)))))))) (Out 0 (kk fleetref2_PropsFault_x3_k) (SS (fleetref2_PropsFault_x3_H ql) (fleetref2_PropsFault_x3_S ql)) r) (fleetref2_PropsFault_x3_H ql vx4) := by
  unfold fleetref2_PropsFault_x3 at hF
  refine awp_seq ?_
  refine awp_region ?_
  refine aR 1 ?_
  refine aE ?_
  refine awp_seq ?_
  refine cE hF (fun h14 hF => ?_) fun h14 hF => ?_
  · refine awp_true (by kernel_rfl) h14 ?_
    refine awp_skip ?_
    refine awp_seq ?_
    refine awp_block ?_
    refine awp_seq ?_
    refine bE hF fun vy5 h15 hF => ?_
    refine awp_region ?_
    refine aX (x_idx api_Prop.enc h15) ?_
    refine aR 3 ?_
    refine aE ?_
    refine awp_seq ?_
    refine bE hF fun vr1_1 h16 hF => ?_
    refine awp_region ?_
    refine aR 2 ?_
    refine aC (slices_ContainsFunc_api_Prop_api_Prop_f1_fleetref2_PropsFault_1_ok h16) [(0, 3000)] [] [] ?_
    refine aE ?_
    refine cE hF (fun h17 hF => ?_) fun h17 hF => ?_
    · refine awp_true (by kernel_rfl) h17 ?_
      refine awp_seq ?_
      refine awp_region ?_
      refine aR 1 ?_
      refine aE ?_
      refine awp_ret ?_
      exact oO hF [] [] rfl
    · refine awp_false (by kernel_rfl) h17 ?_
      refine awp_skip ?_
      refine awp_region ?_
      refine aR 2 ?_
      refine aE ?_
      exact oO hF [] [] rfl
  · refine awp_false (by kernel_rfl) h14 ?_
    refine awp_exit ?_
    exact oO hF [] [] rfl

def fleetref2_PropsFault_R (ql : List api_Prop) (r : Int) : TV × Mem := (.v (.one (.d (.int .i64 r))), ⟨[], []⟩)

theorem fleetref2_PropsFault_ok {ql : List api_Prop} {r} (hF : fleetref2_PropsFault ql = some r) : Holds prog 23 [.v (.one (.d (.lst (List.map api_Prop.enc ql))))] ⟨[], []⟩ (Is (fleetref2_PropsFault_R ql r)) := by
  unfold fleetref2_PropsFault at hF
  refine holds_of_awp hΓ (fn := f23) (c := cB f23) (A := 0) (nx := 0) (by kernel_rfl) (by kernel_rfl) (by kernel_rfl) (by kernel_rfl) (by kernel_rfl) (by kernel_rfl) (lowc_of (by kernel_rfl)) ?_
  show Awp prog 0 58 (cB f23) _ _
  refine awp_seq ?_
  refine awp_region ?_
  refine aR 1 ?_
  refine aE ?_
  refine awp_seq ?_
  refine awp_seq ?_
  refine awp_region ?_
  refine aR 1 ?_
  refine aL api_Prop.enc ql ?_
  refine aR 1 ?_
  refine aE ?_
  refine cE hF (fun h1 hF => ?_) fun h1 hF => ?_
  · refine awp_true (by kernel_rfl) h1 ?_
    refine awp_seq ?_
    refine awp_region ?_
    refine aR 1 ?_
    refine aE ?_
    refine awp_ret ?_
    exact oF hF [] []
  · refine awp_false (by kernel_rfl) h1 ?_
    refine awp_skip ?_
    refine awp_seq ?_
    refine awp_seq ?_
    refine awp_region ?_
    refine aR 1 ?_
    refine aL api_Prop.enc ql ?_
    refine aR 1 ?_
    refine aE ?_
    refine awp_block ?_
    refine awp_to (st' := fleetref2_PropsFault_x1_H ql 0) (oT [] []) ?_
    refine bE hF fun x h13 hF => ?_
    rcases x with _ | vx3_1
    · refine awp_sub (awp_loop' (fleetref2_PropsFault_x1_H ql) fleetref2_PropsFault_x1_k (fleetref2_PropsFault_x1_S ql) (by intro x; rcases x with x | x <;> exact fun h => nomatch h) h13 (fleetref2_PropsFault_x1_ok ql)) ?_
      refine awp_seq ?_
      refine awp_seq ?_
      refine awp_region ?_
      refine aR 1 ?_
      refine aL api_Prop.enc ql ?_
      refine aR 1 ?_
      refine aE ?_
      refine awp_block ?_
      refine awp_to (st' := fleetref2_PropsFault_x3_H ql 0) (oT [] []) ?_
      refine bE hF fun x h18 hF => ?_
      rcases x with _ | _
      · refine awp_sub (awp_loop' (fleetref2_PropsFault_x3_H ql) fleetref2_PropsFault_x3_k (fleetref2_PropsFault_x3_S ql) (by intro x; rcases x with x | x <;> exact fun h => nomatch h) h18 (fleetref2_PropsFault_x3_ok ql)) ?_
        refine awp_seq ?_
        refine awp_region ?_
        refine aR 1 ?_
        refine aE ?_
        refine awp_ret ?_
        exact oF hF [] []
      · refine awp_sub (awp_loop' (fleetref2_PropsFault_x3_H ql) fleetref2_PropsFault_x3_k (fleetref2_PropsFault_x3_S ql) (by intro x; rcases x with x | x <;> exact fun h => nomatch h) h18 (fleetref2_PropsFault_x3_ok ql)) ?_
        exact oF hF [] []
    · refine awp_sub (awp_loop' (fleetref2_PropsFault_x1_H ql) fleetref2_PropsFault_x1_k (fleetref2_PropsFault_x1_S ql) (by intro x; rcases x with x | x <;> exact fun h => nomatch h) h13 (fleetref2_PropsFault_x1_ok ql)) ?_
      exact oF hF [] []

/-! ### (*beaconfleet/fleetmake.Stream).RightProps -/
def fleetmake_Stream_RightProps_x2_k : (List api_Prop) → AEx
  | _ => .normal

def fleetmake_Stream_RightProps_x2_S (vr : Int) (vs1 : fleetmake_Stream) (vout : List api_Prop) (vx : Int) : (List api_Prop) → St
  | vout2 => Mem.st ⟨[(1, ⟨44, 5, List.map api_Prop.enc vout2⟩)], [(0, [.d (.lst (List.map (encI .i64) vs1.L)), .d (.int .i64 (IntKind.wrap .i64 ((IntKind.wrap .i64 ((IntKind.wrap .i64 (vs1.at_ + 1)) + 1)) + 1)))])]⟩ (tl [(0, .v (.one (.box 0 0))), (3, .v (.one (.own 1 none))), (6, .v (.one (.d (.int .i64 vr)))), (7, .v (.one (.d (.int .i64 vx))))]) 2

def fleetmake_Stream_RightProps_x2_I (vr : Int) (vs1 : fleetmake_Stream) (vout : List api_Prop) (vx : Int) : St := Mem.st ⟨[(1, ⟨44, 5, List.map api_Prop.enc vout⟩)], [(0, [.d (.lst (List.map (encI .i64) vs1.L)), .d (.int .i64 vs1.at_)])]⟩ (tl [(0, .v (.one (.box 0 0))), (3, .v (.one (.own 1 none))), (6, .v (.one (.d (.int .i64 vr)))), (7, .v (.one (.d (.int .i64 vx))))]) 2

theorem fleetmake_Stream_RightProps_x2_ok (vr : Int) (vs1 : fleetmake_Stream) (vout : List api_Prop) (vx : Int) {r} (hF : fleetmake_Stream_RightProps_x2 vs1 vout = some r) : Awp prog 1 27 (cL (cR (cR (cL (cL (cR (cL (cR (cR (cB f64)))))))))) (Out 1 fleetmake_Stream_RightProps_x2_k (fleetmake_Stream_RightProps_x2_S vr vs1 vout vx) r) (fleetmake_Stream_RightProps_x2_I vr vs1 vout vx) := by
  unfold fleetmake_Stream_RightProps_x2 at hF
  refine awp_block ?_
  refine awp_seq ?_
  refine bE hF fun vr5 h3 hF => ?_
  refine bE hF fun vr6 h4 hF => ?_
  refine bE hF fun vr4_1 h5 hF => ?_
  refine gE hF fun h6 hF => ?_
  refine awp_region ?_
  refine aR 1 ?_
  refine aCf (slices_Clone_api_Prop_api_Prop_ok h3) (plainO_one (f := api_Prop.enc) fun _ => by kernel_rfl) [] [] [1] ?_
  refine aR 2 ?_
  refine aC (fleetmake_Stream_Some_o1_ok h4) [(1, 3002)] [] [] ?_
  refine aR 1 ?_
  refine aC (fleetmake_Stream_RightValue_ok h5) [] [] [] ?_
  refine aR 2 ?_
  refine aX (x_app api_Prop.enc 1002 h6) ?_
  refine aR 1 ?_
  refine aE ?_
  refine awp_seq ?_
  refine bE hF fun vl1 h7 hF => ?_
  refine gE hF fun h8 hF => ?_
  refine awp_region ?_
  refine aR 1 ?_
  refine aCp (slices_SortFunc_api_Prop_api_Prop_o0_f1_fleetmake_propOrder_ok h7) ⟨⟨rfl, rfl, pin1 h8⟩, trivial⟩ [(0, 9002)] [] [] ?_
  refine aE ?_
  refine awp_seq ?_
  refine bE hF fun vr7 h9 hF => ?_
  refine awp_region ?_
  refine aR 1 ?_
  refine aC (fleetref2_PropsFault_ok h9) [] [] [9002] ?_
  refine aR 1 ?_
  refine aE ?_
  refine cE hF (fun h10 hF => ?_) fun h10 hF => ?_
  · refine awp_true (by kernel_rfl) h10 ?_
    refine awp_region ?_
    refine aR 2 ?_
    refine aE ?_
    exact oO hF [(1, 9002)] [] rfl
  · refine awp_false (by kernel_rfl) h10 ?_
    refine awp_skip ?_
    exact oO hF [] [] rfl

def fleetmake_Stream_RightProps_x1_k : (fleetmake_Stream × (List api_Prop)) → AEx
  | _ => .exit 0

def fleetmake_Stream_RightProps_x1_S (vr : Int) : (fleetmake_Stream × (List api_Prop)) → St
  | (vs2, vout3) => Mem.st ⟨[(1, ⟨44, 5, List.map api_Prop.enc vout3⟩)], [(0, [.d (.lst (List.map (encI .i64) vs2.L)), .d (.int .i64 vs2.at_)])]⟩ (tl [(3, .v (.one (.own 1 none)))]) 2

def fleetmake_Stream_RightProps_x1_H (vr : Int) : fleetmake_Stream × (List api_Prop) × Int → St
  | (vs1, vout, vx) => Mem.st ⟨[(1, ⟨44, 5, List.map api_Prop.enc vout⟩)], [(0, [.d (.lst (List.map (encI .i64) vs1.L)), .d (.int .i64 vs1.at_)])]⟩ (tl [(0, .v (.one (.box 0 0))), (3, .v (.one (.own 1 none))), (6, .v (.one (.d (.int .i64 vr)))), (7, .v (.one (.d (.int .i64 vx))))]) 2

theorem fleetmake_Stream_RightProps_x1_ok (vr : Int) (s : fleetmake_Stream × (List api_Prop) × Int) (r : (fleetmake_Stream × (List api_Prop) × Int) ⊕ ((fleetmake_Stream × (List api_Prop)))) (hF : fleetmake_Stream_RightProps_x1 vr s = some r) : Awp prog 1 27 (cL (cL (cR (cL (cR (cR (cB f64))))))) (Out 1 (kk fleetmake_Stream_RightProps_x1_k) (SS (fleetmake_Stream_RightProps_x1_H vr) (fleetmake_Stream_RightProps_x1_S vr)) r) (fleetmake_Stream_RightProps_x1_H vr s) := by
  obtain ⟨vs1, vout, vx⟩ := s
  unfold fleetmake_Stream_RightProps_x1 at hF
  refine awp_seq ?_
  refine awp_region ?_
  refine aR 1 ?_
  refine aE ?_
  refine awp_seq ?_
  refine cE hF (fun h2 hF => ?_) fun h2 hF => ?_
  · refine awp_true (by kernel_rfl) h2 ?_
    refine awp_skip ?_
    refine awp_seq ?_
    refine awp_to (st' := fleetmake_Stream_RightProps_x2_I vr vs1 vout vx) (oT [] []) ?_
    refine bE hF fun vout2_1 h11 hF => ?_
    refine awp_sub (fleetmake_Stream_RightProps_x2_ok vr vs1 vout vx h11) ?_
    refine awp_region ?_
    refine aR 2 ?_
    refine aE ?_
    exact oO hF [] [] rfl
  · refine awp_false (by kernel_rfl) h2 ?_
    refine awp_exit ?_
    exact oO hF [] [] rfl

def fleetmake_Stream_RightProps_R (qs : fleetmake_Stream) (r : fleetmake_Stream × (List api_Prop)) : TV × Mem := (.v (.one (.own 1 none)), ⟨[(1, ⟨44, 5, List.map api_Prop.enc r.2⟩)], [(0, [.d (.lst (List.map (encI .i64) r.1.L)), .d (.int .i64 r.1.at_)])]⟩)

theorem fleetmake_Stream_RightProps_ok {qs : fleetmake_Stream} {r} (hF : fleetmake_Stream_RightProps qs = some r) : Holds prog 64 [.v (.one (.box 0 0))] ⟨[], [(0, [.d (.lst (List.map (encI .i64) qs.L)), .d (.int .i64 qs.at_)])]⟩ (Is (fleetmake_Stream_RightProps_R qs r)) := by
  unfold fleetmake_Stream_RightProps at hF
  refine holds_of_awp hΓ (fn := f64) (c := cB f64) (A := 1) (nx := 1) (by kernel_rfl) (by kernel_rfl) (by kernel_rfl) (by kernel_rfl) (by kernel_rfl) (by kernel_rfl) (lowc_of (by kernel_rfl)) ?_
  show Awp prog 1 27 (cB f64) _ _
  refine awp_seq ?_
  refine awp_region ?_
  refine aR 1 ?_
  refine aE ?_
  refine awp_seq ?_
  refine awp_region ?_
  refine aR 1 ?_
  refine aE ?_
  refine awp_seq ?_
  refine awp_seq ?_
  refine bE hF fun x h1 hF => ?_
  obtain ⟨vs, vr⟩ := x
  refine awp_region ?_
  refine aR 1 ?_
  refine aC (fleetmake_Stream_Range_ok h1) [] [] [] ?_
  refine aR 1 ?_
  refine aE ?_
  refine awp_block ?_
  refine awp_to (st' := fleetmake_Stream_RightProps_x1_H vr (vs, [], 0)) (oT [] [1]) ?_
  refine bE hF fun x h12 hF => ?_
  obtain ⟨vs2_1, vout3_1⟩ := x
  refine awp_sub (awp_loop' (fleetmake_Stream_RightProps_x1_H vr) fleetmake_Stream_RightProps_x1_k (fleetmake_Stream_RightProps_x1_S vr) (by intro x; exact fun h => nomatch h) h12 (fleetmake_Stream_RightProps_x1_ok vr)) ?_
  refine awp_seq ?_
  refine awp_region ?_
  refine aR 2 ?_
  refine aE ?_
  refine awp_ret ?_
  exact oF hF [] []

/-! ### (*beaconfleet/fleetmake.Stream).Props -/
def fleetmake_Stream_Props_x1_k : (fleetmake_Stream × (List api_Prop)) → AEx
  | _ => .normal

def fleetmake_Stream_Props_x1_S (vs3 : fleetmake_Stream) (vr8 : List api_Prop) : (fleetmake_Stream × (List api_Prop)) → St
  | (vs, vout) => Mem.st ⟨[(1, ⟨44, 5, List.map api_Prop.enc vout⟩)], [(0, [.d (.lst (List.map (encI .i64) vs.L)), .d (.int .i64 vs.at_)])]⟩ (tl [(3, .v (.one (.own 1 none)))]) 2

def fleetmake_Stream_Props_x1_I (vs3 : fleetmake_Stream) (vr8 : List api_Prop) : St := Mem.st ⟨[(1, ⟨44, 5, List.map api_Prop.enc vr8⟩)], [(0, [.d (.lst (List.map (encI .i64) vs3.L)), .d (.int .i64 vs3.at_)])]⟩ (tl [(0, .v (.one (.box 0 0))), (3, .v (.one (.own 1 none)))]) 2

theorem fleetmake_Stream_Props_x1_ok (vs3 : fleetmake_Stream) (vr8 : List api_Prop) {r} (hF : fleetmake_Stream_Props_x1 vs3 vr8 = some r) : Awp prog 1 21 (cL (cR (cR (cB f19)))) (Out 1 fleetmake_Stream_Props_x1_k (fleetmake_Stream_Props_x1_S vs3 vr8) r) (fleetmake_Stream_Props_x1_I vs3 vr8) := by
  unfold fleetmake_Stream_Props_x1 at hF
  refine awp_seq ?_
  refine bE hF fun vr h2 hF => ?_
  refine awp_region ?_
  refine aR 1 ?_
  refine aC (fleetmake_Stream_Flip_ok h2) [] [] [] ?_
  refine aE ?_
  refine cE hF (fun h3 hF => ?_) fun h3 hF => ?_
  · refine awp_true (by kernel_rfl) h3 ?_
    refine awp_seq ?_
    refine bE hF fun vr4 h4 hF => ?_
    refine bE hF fun x h5 hF => ?_
    obtain ⟨vs3_1, vr7⟩ := x
    refine gE hF fun h6 hF => ?_
    refine awp_region ?_
    refine aR 2 ?_
    refine aC (fleetmake_Stream_PropName_ok h4) [] [] [] ?_
    refine aR 1 ?_
    refine aC (fleetmake_Stream_Value_ok h5) [] [] [] ?_
    refine aR 2 ?_
    refine aX (x_app api_Prop.enc 1 h6) ?_
    refine aR 1 ?_
    refine aE ?_
    refine awp_seq ?_
    refine bE hF fun vr1 h7 hF => ?_
    refine awp_region ?_
    refine aR 1 ?_
    refine aC (fleetmake_Stream_Flip_ok h7) [] [] [] ?_
    refine aE ?_
    refine cE hF (fun h8 hF => ?_) fun h8 hF => ?_
    · refine awp_true (by kernel_rfl) h8 ?_
      refine bE hF fun vl h9 hF => ?_
      refine gE hF fun h10 hF => ?_
      refine awp_region ?_
      refine aR 1 ?_
      refine aCp (slices_SortFunc_api_Prop_api_Prop_o0_f1_fleetmake_propOrder_ok h9) ⟨⟨rfl, rfl, pin1 h10⟩, trivial⟩ [(0, 9002)] [] [] ?_
      refine aE ?_
      exact oO hF [(1, 9002)] [] rfl
    · refine awp_false (by kernel_rfl) h8 ?_
      refine awp_skip ?_
      exact oO hF [(1, 9002)] [] rfl
  · refine awp_false (by kernel_rfl) h3 ?_
    refine awp_skip ?_
    exact oO hF [] [] rfl

def fleetmake_Stream_Props_R (qs : fleetmake_Stream) (r : fleetmake_Stream × (List api_Prop)) : TV × Mem := (.v (.one (.own 1 none)), ⟨[(1, ⟨44, 5, List.map api_Prop.enc r.2⟩)], [(0, [.d (.lst (List.map (encI .i64) r.1.L)), .d (.int .i64 r.1.at_)])]⟩)

theorem fleetmake_Stream_Props_ok {qs : fleetmake_Stream} {r} (hF : fleetmake_Stream_Props qs = some r) : Holds prog 19 [.v (.one (.box 0 0))] ⟨[], [(0, [.d (.lst (List.map (encI .i64) qs.L)), .d (.int .i64 qs.at_)])]⟩ (Is (fleetmake_Stream_Props_R qs r)) := by
  unfold fleetmake_Stream_Props at hF
  refine holds_of_awp hΓ (fn := f19) (c := cB f19) (A := 1) (nx := 1) (by kernel_rfl) (by kernel_rfl) (by kernel_rfl) (by kernel_rfl) (by kernel_rfl) (by kernel_rfl) (lowc_of (by kernel_rfl)) ?_
  show Awp prog 1 21 (cB f19) _ _
  refine awp_seq ?_
  refine awp_region ?_
  refine aR 1 ?_
  refine aE ?_
  refine awp_seq ?_
  refine bE hF fun x h1 hF => ?_
  obtain ⟨vs3, vr8⟩ := x
  refine awp_region ?_
  refine aR 1 ?_
  refine aC (fleetmake_Stream_RightProps_ok h1) [] [] [] ?_
  refine aR 1 ?_
  refine aE ?_
  refine awp_seq ?_
  refine awp_to (st' := fleetmake_Stream_Props_x1_I vs3 vr8) (oT [(1, 2002)] []) ?_
  refine bE hF fun x h11 hF => ?_
  obtain ⟨vs1, vout1⟩ := x
  refine awp_sub (fleetmake_Stream_Props_x1_ok vs3 vr8 h11) ?_
  refine awp_seq ?_
  refine awp_region ?_
  refine aR 2 ?_
  refine aE ?_
  refine awp_ret ?_
  exact oF hF [] []

/-! ### beaconfleet/twin.Get -/
def twin_Get_R (ql : List api_Prop) (qname : List UInt8) (r : api_Value × Int) : TV × Mem := (.tup [.agg [.d (.int .i64 r.1.Kind), .d (.bool r.1.Flag), .d (.int .i64 r.1.Number), .d (.str r.1.Words)], .one (.d (.int .i64 r.2))], ⟨[], []⟩)

theorem twin_Get_ok {ql : List api_Prop} {qname : List UInt8} {r} (hF : twin_Get ql qname = some r) : Holds prog 21 [.v (.one (.d (.lst (List.map api_Prop.enc ql)))), .v (.one (.d (.str qname)))] ⟨[], []⟩ (Is (twin_Get_R ql qname r)) := by
  unfold twin_Get at hF
  refine holds_of_awp hΓ (fn := f21) (c := cB f21) (A := 0) (nx := 0) (by kernel_rfl) (by kernel_rfl) (by kernel_rfl) (by kernel_rfl) (by kernel_rfl) (by kernel_rfl) (lowc_of (by kernel_rfl)) ?_
  show Awp prog 0 20 (cB f21) _ _
  refine awp_seq ?_
  refine awp_region ?_
  refine aR 2 ?_
  refine aE ?_
  refine awp_seq ?_
  refine awp_seq ?_
  refine bE hF fun vr3 h1 hF => ?_
  refine awp_region ?_
  refine aR 1 ?_
  refine aC (twin_CheckProps_ok h1) [] [] [] ?_
  refine aR 1 ?_
  refine aE ?_
  refine awp_seq ?_
  refine awp_region ?_
  refine aR 2 ?_
  refine aE ?_
  refine cE hF (fun h2 hF => ?_) fun h2 hF => ?_
  · refine awp_true (by kernel_rfl) h2 ?_
    refine awp_seq ?_
    refine awp_region ?_
    refine aR 4 ?_
    refine aE ?_
    refine awp_ret ?_
    exact oF hF [] []
  · refine awp_false (by kernel_rfl) h2 ?_
    refine awp_skip ?_
    refine awp_seq ?_
    refine awp_seq ?_
    refine bE hF fun vr h3 hF => ?_
    refine awp_region ?_
    refine aR 1 ?_
    refine aC (twin_isName_ok h3) [] [] [] ?_
    refine aR 1 ?_
    refine aE ?_
    refine cE hF (fun h4 hF => ?_) fun h4 hF => ?_
    · refine awp_true (by kernel_rfl) h4 ?_
      refine awp_seq ?_
      refine awp_region ?_
      refine aR 3 ?_
      refine aE ?_
      refine awp_ret ?_
      exact oF hF [] []
    · refine awp_false (by kernel_rfl) h4 ?_
      refine awp_skip ?_
      refine awp_seq ?_
      refine bE hF fun vr1 h5 hF => ?_
      refine awp_region ?_
      refine aR 2 ?_
      refine aC (twin_valueOf_ok h5) [] [] [] ?_
      refine aR 2 ?_
      refine aE ?_
      refine awp_ret ?_
      exact oF hF [] []

/-! ### beaconfleet/twin.Under -/
def twin_Under_x3_k : Bool → AEx
  | _ => .normal

def twin_Under_x3_S (ql : List api_Prop) (qname : List UInt8) (vout : List api_Prop) (vx : Int) (vy1 : api_Prop) : Bool → St
  | vx2 => Mem.st ⟨[(1, ⟨44, 5, List.map api_Prop.enc vout⟩)], [(0, [.d (.str vy1.Name), .d (.int .i64 vy1.Value.Kind), .d (.bool vy1.Value.Flag), .d (.int .i64 vy1.Value.Number), .d (.str vy1.Value.Words)])]⟩ (tl [(1, .v (.one (.d (.str qname)))), (7, .v (.one (.own 1 none))), (9, .v (.one (.box 0 0))), (18, .v (.one (.d (.lst (List.map api_Prop.enc ql))))), (19, .v (.one (.d (.int .i64 (ql.length : Int))))), (20, .v (.one (.d (.int .i64 vx)))), (33, .v (.one (.d (.bool vx2))))]) 2

def twin_Under_x3_I (ql : List api_Prop) (qname : List UInt8) (vout : List api_Prop) (vx : Int) (vy1 : api_Prop) : St := Mem.st ⟨[(1, ⟨44, 5, List.map api_Prop.enc vout⟩)], [(0, [.d (.str vy1.Name), .d (.int .i64 vy1.Value.Kind), .d (.bool vy1.Value.Flag), .d (.int .i64 vy1.Value.Number), .d (.str vy1.Value.Words)])]⟩ (tl [(1, .v (.one (.d (.str qname)))), (7, .v (.one (.own 1 none))), (9, .v (.one (.box 0 0))), (18, .v (.one (.d (.lst (List.map api_Prop.enc ql))))), (19, .v (.one (.d (.int .i64 (ql.length : Int))))), (20, .v (.one (.d (.int .i64 vx))))]) 2

theorem twin_Under_x3_ok (ql : List api_Prop) (qname : List UInt8) (vout : List api_Prop) (vx : Int) (vy1 : api_Prop) {r} (hF : twin_Under_x3 qname vy1 = some r) : Awp prog 0 40 (cL (cR (cL (cL (cR (cR (cL (cL (cR (cL (cR (cR (cR (cR (cB f22))))))))))))))) (Out 0 twin_Under_x3_k (twin_Under_x3_S ql qname vout vx vy1) r) (twin_Under_x3_I ql qname vout vx vy1) := by
  unfold twin_Under_x3 at hF
  refine cE hF (fun h7 hF => ?_) fun h7 hF => ?_
  · refine awp_region ?_
    refine aR 3 ?_
    refine aB h7 ?_
    refine aR 6 ?_
    refine aE ?_
    exact oO hF [] [] rfl
  · refine bE hF fun vr2 h8 hF => ?_
    refine awp_region ?_
    refine aR 3 ?_
    refine aB h7 ?_
    refine aR 4 ?_
    refine aC (base_Below_ok h8) [] [] [] ?_
    refine aR 1 ?_
    refine aE ?_
    exact oO hF [] [] rfl

def twin_Under_x2_k : (List api_Prop) → AEx
  | _ => .normal

def twin_Under_x2_S (ql : List api_Prop) (qname : List UInt8) (vout : List api_Prop) (vx : Int) : (List api_Prop) → St
  | vout2 => Mem.st ⟨[(0, ⟨44, 5, List.map api_Prop.enc vout2⟩)], []⟩ (tl [(1, .v (.one (.d (.str qname)))), (7, .v (.one (.own 0 none))), (18, .v (.one (.d (.lst (List.map api_Prop.enc ql))))), (19, .v (.one (.d (.int .i64 (ql.length : Int))))), (20, .v (.one (.d (.int .i64 vx))))]) 1

def twin_Under_x2_I (ql : List api_Prop) (qname : List UInt8) (vout : List api_Prop) (vx : Int) : St := Mem.st ⟨[(0, ⟨44, 5, List.map api_Prop.enc vout⟩)], []⟩ (tl [(1, .v (.one (.d (.str qname)))), (7, .v (.one (.own 0 none))), (18, .v (.one (.d (.lst (List.map api_Prop.enc ql))))), (19, .v (.one (.d (.int .i64 (ql.length : Int))))), (20, .v (.one (.d (.int .i64 vx))))]) 1

theorem twin_Under_x2_ok (ql : List api_Prop) (qname : List UInt8) (vout : List api_Prop) (vx : Int) {r} (hF : twin_Under_x2 ql qname vout vx = some r) : Awp prog 0 40 (cL (cR (cR (cL (cL (cR (cL (cR (cR (cR (cR (cB f22)))))))))))) (Out 0 twin_Under_x2_k (twin_Under_x2_S ql qname vout vx) r) (twin_Under_x2_I ql qname vout vx) := by
  unfold twin_Under_x2 at hF
  refine awp_block ?_
  refine awp_seq ?_
  refine bE hF fun vy1 h6 hF => ?_
  refine awp_region ?_
  refine aX (x_idx api_Prop.enc h6) ?_
  refine aR 3 ?_
  refine aE ?_
  refine awp_seq ?_
  refine awp_to (st' := twin_Under_x3_I ql qname vout vx vy1) (oT [(0, 2001), (1, 0)] []) ?_
  refine bE hF fun vx2_1 h9 hF => ?_
  refine awp_sub (twin_Under_x3_ok ql qname vout vx vy1 h9) ?_
  refine cE hF (fun h10 hF => ?_) fun h10 hF => ?_
  · refine awp_true (by kernel_rfl) h10 ?_
    refine gE hF fun h11 hF => ?_
    refine awp_region ?_
    refine aR 3 ?_
    refine aX (x_app api_Prop.enc 1 h11) ?_
    refine aR 1 ?_
    refine aE ?_
    exact oO hF [(0, 3002)] [] rfl
  · refine awp_false (by kernel_rfl) h10 ?_
    refine awp_skip ?_
    exact oO hF [(0, 1)] [] rfl

def twin_Under_x1_k : (List api_Prop) → AEx
  | _ => .exit 0

def twin_Under_x1_S (ql : List api_Prop) (qname : List UInt8) : (List api_Prop) → St
  | vout3 => Mem.st ⟨[(0, ⟨44, 5, List.map api_Prop.enc vout3⟩)], []⟩ (tl [(7, .v (.one (.own 0 none)))]) 1

def twin_Under_x1_H (ql : List api_Prop) (qname : List UInt8) : (List api_Prop) × Int → St
  | (vout, vx) => Mem.st ⟨[(0, ⟨44, 5, List.map api_Prop.enc vout⟩)], []⟩ (tl [(1, .v (.one (.d (.str qname)))), (7, .v (.one (.own 0 none))), (18, .v (.one (.d (.lst (List.map api_Prop.enc ql))))), (19, .v (.one (.d (.int .i64 (ql.length : Int))))), (20, .v (.one (.d (.int .i64 vx))))]) 1

theorem twin_Under_x1_ok (ql : List api_Prop) (qname : List UInt8) (s : (List api_Prop) × Int) (r : ((List api_Prop) × Int) ⊕ ((List api_Prop))) (hF : twin_Under_x1 ql qname s = some r) : Awp prog 0 40 (cL (cL (cR (cL (cR (cR (cR (cR (cB f22))))))))) (Out 0 (kk twin_Under_x1_k) (SS (twin_Under_x1_H ql qname) (twin_Under_x1_S ql qname)) r) (twin_Under_x1_H ql qname s) := by
  obtain ⟨vout, vx⟩ := s
  unfold twin_Under_x1 at hF
  refine awp_seq ?_
  refine awp_region ?_
  refine aR 1 ?_
  refine aE ?_
  refine awp_seq ?_
  refine cE hF (fun h5 hF => ?_) fun h5 hF => ?_
  · refine awp_true (by kernel_rfl) h5 ?_
    refine awp_skip ?_
    refine awp_seq ?_
    refine awp_to (st' := twin_Under_x2_I ql qname vout vx) (oT [] []) ?_
    refine bE hF fun vout2_1 h12 hF => ?_
    refine awp_sub (twin_Under_x2_ok ql qname vout vx h12) ?_
    refine awp_region ?_
    refine aR 2 ?_
    refine aE ?_
    exact oO hF [] [] rfl
  · refine awp_false (by kernel_rfl) h5 ?_
    refine awp_exit ?_
    exact oO hF [] [] rfl

def twin_Under_R (ql : List api_Prop) (qname : List UInt8) (r : (List api_Prop) × Int) : TV × Mem := (.tup [.one (.own 0 none), .one (.d (.int .i64 r.2))], ⟨[(0, ⟨44, 5, List.map api_Prop.enc r.1⟩)], []⟩)

theorem twin_Under_ok {ql : List api_Prop} {qname : List UInt8} {r} (hF : twin_Under ql qname = some r) : Holds prog 22 [.v (.one (.d (.lst (List.map api_Prop.enc ql)))), .v (.one (.d (.str qname)))] ⟨[], []⟩ (Is (twin_Under_R ql qname r)) := by
  unfold twin_Under at hF
  refine holds_of_awp hΓ (fn := f22) (c := cB f22) (A := 0) (nx := 0) (by kernel_rfl) (by kernel_rfl) (by kernel_rfl) (by kernel_rfl) (by kernel_rfl) (by kernel_rfl) (lowc_of (by kernel_rfl)) ?_
  show Awp prog 0 40 (cB f22) _ _
  refine awp_seq ?_
  refine awp_region ?_
  refine aR 2 ?_
  refine aE ?_
  refine awp_seq ?_
  refine awp_seq ?_
  refine bE hF fun vr3 h1 hF => ?_
  refine awp_region ?_
  refine aR 1 ?_
  refine aC (twin_CheckProps_ok h1) [] [] [] ?_
  refine aR 1 ?_
  refine aE ?_
  refine awp_seq ?_
  refine awp_region ?_
  refine aR 2 ?_
  refine aE ?_
  refine cE hF (fun h2 hF => ?_) fun h2 hF => ?_
  · refine awp_true (by kernel_rfl) h2 ?_
    refine awp_seq ?_
    refine awp_region ?_
    refine aR 3 ?_
    refine aE ?_
    refine awp_ret ?_
    exact oF hF [] [0]
  · refine awp_false (by kernel_rfl) h2 ?_
    refine awp_skip ?_
    refine awp_seq ?_
    refine awp_seq ?_
    refine bE hF fun vr h3 hF => ?_
    refine awp_region ?_
    refine aR 1 ?_
    refine aC (twin_isName_ok h3) [] [] [] ?_
    refine aR 1 ?_
    refine aE ?_
    refine cE hF (fun h4 hF => ?_) fun h4 hF => ?_
    · refine awp_true (by kernel_rfl) h4 ?_
      refine awp_seq ?_
      refine awp_region ?_
      refine aR 2 ?_
      refine aE ?_
      refine awp_ret ?_
      exact oF hF [] [0]
    · refine awp_false (by kernel_rfl) h4 ?_
      refine awp_skip ?_
      refine awp_seq ?_
      refine awp_region ?_
      refine aR 1 ?_
      refine aE ?_
      refine awp_seq ?_
      refine awp_seq ?_
      refine awp_region ?_
      refine aR 1 ?_
      refine aL api_Prop.enc ql ?_
      refine aR 1 ?_
      refine aE ?_
      refine awp_block ?_
      refine awp_to (st' := twin_Under_x1_H ql qname ([], 0)) (oT [] [0]) ?_
      refine bE hF fun vout3_1 h13 hF => ?_
      refine awp_sub (awp_loop' (twin_Under_x1_H ql qname) twin_Under_x1_k (twin_Under_x1_S ql qname) (by intro x; exact fun h => nomatch h) h13 (twin_Under_x1_ok ql qname)) ?_
      refine awp_seq ?_
      refine awp_region ?_
      refine aR 3 ?_
      refine aE ?_
      refine awp_ret ?_
      exact oF hF [] []

/-! ### beaconfleet/fleetref2.ValueOf -/
def fleetref2_ValueOf_x1_k : Unit ⊕ api_Value → AEx
  | .inl _ => .exit 0
  | .inr _ => .ret

def fleetref2_ValueOf_x1_S (ql : List api_Prop) (qname : List UInt8) : Unit ⊕ api_Value → St
  | .inl _ => Mem.st ⟨[], [(0, [.d (.int .i64 0), .d (.bool false), .d (.int .i64 0), .d (.str ([] : List UInt8))])]⟩ (tl [(4, .v (.one (.box 0 0)))]) 1
  | .inr vx1 => Mem.st ⟨[], [(0, [.d (.int .i64 vx1.Kind), .d (.bool vx1.Flag), .d (.int .i64 vx1.Number), .d (.str vx1.Words)])]⟩ (tl [(4, .v (.one (.box 0 0)))]) 1

def fleetref2_ValueOf_x1_H (ql : List api_Prop) (qname : List UInt8) : Int → St
  | vx => Mem.st ⟨[], [(0, [.d (.int .i64 0), .d (.bool false), .d (.int .i64 0), .d (.str ([] : List UInt8))])]⟩ (tl [(1, .v (.one (.d (.str qname)))), (4, .v (.one (.box 0 0))), (7, .v (.one (.d (.lst (List.map api_Prop.enc ql))))), (8, .v (.one (.d (.int .i64 (ql.length : Int))))), (9, .v (.one (.d (.int .i64 vx))))]) 1

theorem fleetref2_ValueOf_x1_ok (ql : List api_Prop) (qname : List UInt8) (vx : Int) (r : (Int) ⊕ (Unit ⊕ api_Value)) (hF : fleetref2_ValueOf_x1 ql qname vx = some r) : Awp prog 0 21 (cL (cL (cR (cL (cR (cB f26)))))) (Out 0 (kk fleetref2_ValueOf_x1_k) (SS (fleetref2_ValueOf_x1_H ql qname) (fleetref2_ValueOf_x1_S ql qname)) r) (fleetref2_ValueOf_x1_H ql qname vx) := by
  unfold fleetref2_ValueOf_x1 at hF
  refine awp_seq ?_
  refine awp_region ?_
  refine aR 1 ?_
  refine aE ?_
  refine awp_seq ?_
  refine cE hF (fun h1 hF => ?_) fun h1 hF => ?_
  · refine awp_true (by kernel_rfl) h1 ?_
    refine awp_skip ?_
    refine awp_seq ?_
    refine awp_block ?_
    refine awp_seq ?_
    refine bE hF fun vy1 h2 hF => ?_
    refine awp_region ?_
    refine aX (x_idx api_Prop.enc h2) ?_
    refine aR 3 ?_
    refine aE ?_
    refine awp_seq ?_
    refine awp_region ?_
    refine aR 4 ?_
    refine aE ?_
    refine cE hF (fun h3 hF => ?_) fun h3 hF => ?_
    · refine awp_true (by kernel_rfl) h3 ?_
      refine awp_seq ?_
      refine awp_region ?_
      refine aR 3 ?_
      refine aE ?_
      refine awp_ret ?_
      exact oO hF [] [] rfl
    · refine awp_false (by kernel_rfl) h3 ?_
      refine awp_skip ?_
      refine awp_region ?_
      refine aR 2 ?_
      refine aE ?_
      exact oO hF [] [] rfl
  · refine awp_false (by kernel_rfl) h1 ?_
    refine awp_exit ?_
    exact oO hF [] [] rfl

def fleetref2_ValueOf_R (ql : List api_Prop) (qname : List UInt8) (r : api_Value) : TV × Mem := (.v (.agg [.d (.int .i64 r.Kind), .d (.bool r.Flag), .d (.int .i64 r.Number), .d (.str r.Words)]), ⟨[], []⟩)

theorem fleetref2_ValueOf_ok {ql : List api_Prop} {qname : List UInt8} {r} (hF : fleetref2_ValueOf ql qname = some r) : Holds prog 26 [.v (.one (.d (.lst (List.map api_Prop.enc ql)))), .v (.one (.d (.str qname)))] ⟨[], []⟩ (Is (fleetref2_ValueOf_R ql qname r)) := by
  unfold fleetref2_ValueOf at hF
  refine holds_of_awp hΓ (fn := f26) (c := cB f26) (A := 0) (nx := 0) (by kernel_rfl) (by kernel_rfl) (by kernel_rfl) (by kernel_rfl) (by kernel_rfl) (by kernel_rfl) (lowc_of (by kernel_rfl)) ?_
  show Awp prog 0 21 (cB f26) _ _
  refine awp_seq ?_
  refine awp_region ?_
  refine aR 1 ?_
  refine aE ?_
  refine awp_seq ?_
  refine awp_seq ?_
  refine awp_region ?_
  refine aR 1 ?_
  refine aL api_Prop.enc ql ?_
  refine aR 1 ?_
  refine aE ?_
  refine awp_block ?_
  refine awp_to (st' := fleetref2_ValueOf_x1_H ql qname 0) (oT [] []) ?_
  refine bE hF fun x h4 hF => ?_
  rcases x with _ | vx1_1
  · refine awp_sub (awp_loop' (fleetref2_ValueOf_x1_H ql qname) fleetref2_ValueOf_x1_k (fleetref2_ValueOf_x1_S ql qname) (by intro x; rcases x with x | x <;> exact fun h => nomatch h) h4 (fleetref2_ValueOf_x1_ok ql qname)) ?_
    refine awp_seq ?_
    refine awp_region ?_
    refine aR 2 ?_
    refine aE ?_
    refine awp_ret ?_
    exact oF hF [] []
  · refine awp_sub (awp_loop' (fleetref2_ValueOf_x1_H ql qname) fleetref2_ValueOf_x1_k (fleetref2_ValueOf_x1_S ql qname) (by intro x; rcases x with x | x <;> exact fun h => nomatch h) h4 (fleetref2_ValueOf_x1_ok ql qname)) ?_
    exact oF hF [] []

/-! ### beaconfleet/fleetref2.UnderOf$1 -/
def fleetref2_UnderOf_1_x1_k : Bool → AEx
  | _ => .normal

def fleetref2_UnderOf_1_x1_S (qp : api_Prop) (qx : List UInt8) : Bool → St
  | vx => Mem.st ⟨[], [(0, [.d (.str qx)])]⟩ (tl [(3, .v (.one (.d (.bool vx))))]) 1

def fleetref2_UnderOf_1_x1_I (qp : api_Prop) (qx : List UInt8) : St := Mem.st ⟨[], [(0, [.d (.str qx)]), (1, [.d (.str qp.Name), .d (.int .i64 qp.Value.Kind), .d (.bool qp.Value.Flag), .d (.int .i64 qp.Value.Number), .d (.str qp.Value.Words)])]⟩ (tl [(1, .v (.one (.box 0 0))), (2, .v (.one (.box 1 0)))]) 2

theorem fleetref2_UnderOf_1_x1_ok (qp : api_Prop) (qx : List UInt8) {r} (hF : fleetref2_UnderOf_1_x1 qp qx = some r) : Awp prog 1 15 (cL (cR (cB f83))) (Out 1 fleetref2_UnderOf_1_x1_k (fleetref2_UnderOf_1_x1_S qp qx) r) (fleetref2_UnderOf_1_x1_I qp qx) := by
  unfold fleetref2_UnderOf_1_x1 at hF
  refine cE hF (fun h1 hF => ?_) fun h1 hF => ?_
  · refine bE hF fun vr h2 hF => ?_
    refine awp_region ?_
    refine aR 3 ?_
    refine aB h1 ?_
    refine aR 4 ?_
    refine aC (fleetref2_above_ok h2) [] [] [] ?_
    refine aR 3 ?_
    refine aE ?_
    exact oO hF [] [] rfl
  · refine awp_region ?_
    refine aR 3 ?_
    refine aB h1 ?_
    refine aR 8 ?_
    refine aE ?_
    exact oO hF [] [] rfl

def fleetref2_UnderOf_1_R (qp : api_Prop) (qx : List UInt8) (r : Bool) : TV × Mem := (.v (.one (.d (.bool r))), ⟨[], [(0, [.d (.str qx)])]⟩)

theorem fleetref2_UnderOf_1_ok {qp : api_Prop} {qx : List UInt8} {r} (hF : fleetref2_UnderOf_1 qp qx = some r) : Holds prog 83 [.v (.agg [.d (.str qp.Name), .d (.int .i64 qp.Value.Kind), .d (.bool qp.Value.Flag), .d (.int .i64 qp.Value.Number), .d (.str qp.Value.Words)]), .v (.one (.box 0 0))] ⟨[], [(0, [.d (.str qx)])]⟩ (Is (fleetref2_UnderOf_1_R qp qx r)) := by
  unfold fleetref2_UnderOf_1 at hF
  refine holds_of_awp hΓ (fn := f83) (c := cB f83) (A := 1) (nx := 1) (by kernel_rfl) (by kernel_rfl) (by kernel_rfl) (by kernel_rfl) (by kernel_rfl) (by kernel_rfl) (lowc_of (by kernel_rfl)) ?_
  show Awp prog 1 15 (cB f83) _ _
  refine awp_seq ?_
  refine awp_region ?_
  refine aR 2 ?_
  refine aE ?_
  refine awp_seq ?_
  refine awp_to (st' := fleetref2_UnderOf_1_x1_I qp qx) (oT [] []) ?_
  refine bE hF fun vx1 h3 hF => ?_
  refine awp_sub (fleetref2_UnderOf_1_x1_ok qp qx h3) ?_
  refine awp_ret ?_
  exact oF hF [] []

/-! ### slices.IndexFunc[[]beaconfleet/api.Prop,beaconfleet/api.Prop] -/
def slices_IndexFunc_api_Prop_api_Prop_f1_fleetref2_UnderOf_1_x1_k : Unit ⊕ Int → AEx
  | .inl _ => .exit 0
  | .inr _ => .ret

def slices_IndexFunc_api_Prop_api_Prop_f1_fleetref2_UnderOf_1_x1_S (qs : List api_Prop) (qf : List UInt8) : Unit ⊕ Int → St
  | .inl _ => Mem.st ⟨[], [(0, [.d (.str qf)])]⟩ (tl []) 1
  | .inr vx1 => Mem.st ⟨[], [(0, [.d (.str qf)])]⟩ (tl [(4, .v (.one (.d (.int .i64 vx1))))]) 1

def slices_IndexFunc_api_Prop_api_Prop_f1_fleetref2_UnderOf_1_x1_H (qs : List api_Prop) (qf : List UInt8) : Int → St
  | vx => Mem.st ⟨[], [(0, [.d (.str qf)])]⟩ (tl [(0, .v (.one (.d (.lst (List.map api_Prop.enc qs))))), (1, .v (.one (.fn 83 [0]))), (7, .v (.one (.d (.int .i64 (qs.length : Int))))), (8, .v (.one (.d (.int .i64 vx))))]) 1

theorem slices_IndexFunc_api_Prop_api_Prop_f1_fleetref2_UnderOf_1_x1_ok (qs : List api_Prop) (qf : List UInt8) (vx : Int) (r : (Int) ⊕ (Unit ⊕ Int)) (hF : slices_IndexFunc_api_Prop_api_Prop_f1_fleetref2_UnderOf_1_x1 qs qf vx = some r) : Awp prog 1 19 (cL (cL (cR (cL (cR (cB f123)))))) (Out 1 (kk slices_IndexFunc_api_Prop_api_Prop_f1_fleetref2_UnderOf_1_x1_k) (SS (slices_IndexFunc_api_Prop_api_Prop_f1_fleetref2_UnderOf_1_x1_H qs qf) (slices_IndexFunc_api_Prop_api_Prop_f1_fleetref2_UnderOf_1_x1_S qs qf)) r) (slices_IndexFunc_api_Prop_api_Prop_f1_fleetref2_UnderOf_1_x1_H qs qf vx) := by
  unfold slices_IndexFunc_api_Prop_api_Prop_f1_fleetref2_UnderOf_1_x1 at hF
  refine awp_seq ?_
  refine awp_region ?_
  refine aR 1 ?_
  refine aE ?_
  refine awp_seq ?_
  refine cE hF (fun h1 hF => ?_) fun h1 hF => ?_
  · refine awp_true (by kernel_rfl) h1 ?_
    refine awp_skip ?_
    refine awp_seq ?_
    refine awp_block ?_
    refine awp_seq ?_
    refine awp_region ?_
    refine aR 2 ?_
    refine aE ?_
    refine awp_seq ?_
    refine bE hF fun vy1 h2 hF => ?_
    refine bE hF fun vr1_1 h3 hF => ?_
    refine awp_region ?_
    refine aR 3 ?_
    refine aX (x_idx api_Prop.enc h2) ?_
    refine aR 1 ?_
    refine aC (fleetref2_UnderOf_1_ok h3) [] [] [] ?_
    refine aE ?_
    refine cE hF (fun h4 hF => ?_) fun h4 hF => ?_
    · refine awp_true (by kernel_rfl) h4 ?_
      refine awp_seq ?_
      refine awp_region ?_
      refine aR 2 ?_
      refine aE ?_
      refine awp_ret ?_
      exact oO hF [] [] rfl
    · refine awp_false (by kernel_rfl) h4 ?_
      refine awp_skip ?_
      refine awp_region ?_
      refine aR 2 ?_
      refine aE ?_
      exact oO hF [] [] rfl
  · refine awp_false (by kernel_rfl) h1 ?_
    refine awp_exit ?_
    exact oO hF [] [] rfl

def slices_IndexFunc_api_Prop_api_Prop_f1_fleetref2_UnderOf_1_R (qs : List api_Prop) (qf : List UInt8) (r : Int) : TV × Mem := (.v (.one (.d (.int .i64 r))), ⟨[], [(0, [.d (.str qf)])]⟩)

theorem slices_IndexFunc_api_Prop_api_Prop_f1_fleetref2_UnderOf_1_ok {qs : List api_Prop} {qf : List UInt8} {r} (hF : slices_IndexFunc_api_Prop_api_Prop_f1_fleetref2_UnderOf_1 qs qf = some r) : Holds prog 123 [.v (.one (.d (.lst (List.map api_Prop.enc qs)))), .v (.one (.fn 83 [0]))] ⟨[], [(0, [.d (.str qf)])]⟩ (Is (slices_IndexFunc_api_Prop_api_Prop_f1_fleetref2_UnderOf_1_R qs qf r)) := by
  unfold slices_IndexFunc_api_Prop_api_Prop_f1_fleetref2_UnderOf_1 at hF
  refine holds_of_awp hΓ (fn := f123) (c := cB f123) (A := 1) (nx := 1) (by kernel_rfl) (by kernel_rfl) (by kernel_rfl) (by kernel_rfl) (by kernel_rfl) (by kernel_rfl) (lowc_of (by kernel_rfl)) ?_
  show Awp prog 1 19 (cB f123) _ _
  refine awp_seq ?_
  refine awp_region ?_
  refine aR 1 ?_
  refine aE ?_
  refine awp_seq ?_
  refine awp_seq ?_
  refine awp_region ?_
  refine aR 1 ?_
  refine aL api_Prop.enc qs ?_
  refine aR 1 ?_
  refine aE ?_
  refine awp_block ?_
  refine awp_to (st' := slices_IndexFunc_api_Prop_api_Prop_f1_fleetref2_UnderOf_1_x1_H qs qf 0) (oT [] []) ?_
  refine bE hF fun x h5 hF => ?_
  rcases x with _ | vx1_1
  · refine awp_sub (awp_loop' (slices_IndexFunc_api_Prop_api_Prop_f1_fleetref2_UnderOf_1_x1_H qs qf) slices_IndexFunc_api_Prop_api_Prop_f1_fleetref2_UnderOf_1_x1_k (slices_IndexFunc_api_Prop_api_Prop_f1_fleetref2_UnderOf_1_x1_S qs qf) (by intro x; rcases x with x | x <;> exact fun h => nomatch h) h5 (slices_IndexFunc_api_Prop_api_Prop_f1_fleetref2_UnderOf_1_x1_ok qs qf)) ?_
    refine awp_seq ?_
    refine awp_region ?_
    refine aR 1 ?_
    refine aE ?_
    refine awp_ret ?_
    exact oF hF [] []
  · refine awp_sub (awp_loop' (slices_IndexFunc_api_Prop_api_Prop_f1_fleetref2_UnderOf_1_x1_H qs qf) slices_IndexFunc_api_Prop_api_Prop_f1_fleetref2_UnderOf_1_x1_k (slices_IndexFunc_api_Prop_api_Prop_f1_fleetref2_UnderOf_1_x1_S qs qf) (by intro x; rcases x with x | x <;> exact fun h => nomatch h) h5 (slices_IndexFunc_api_Prop_api_Prop_f1_fleetref2_UnderOf_1_x1_ok qs qf)) ?_
    exact oF hF [] []

/-! ### slices.DeleteFunc[[]beaconfleet/api.Prop,beaconfleet/api.Prop] -/
def slices_DeleteFunc_api_Prop_api_Prop_o0_f1_fleetref2_UnderOf_1_x2_k : ((List api_Prop) × Int) → AEx
  | _ => .normal

def slices_DeleteFunc_api_Prop_api_Prop_o0_f1_fleetref2_UnderOf_1_x2_S (qdel : List UInt8) (vl : List api_Prop) (vi : Int) (vj : Int) : ((List api_Prop) × Int) → St
  | (vl2, vi2) => Mem.st ⟨[(1, ⟨44, 5, List.map api_Prop.enc vl2⟩)], [(0, [.d (.str qdel)])]⟩ (tl [(0, .v (.one (.own 1 none))), (1, .v (.one (.fn 83 [0]))), (5, .v (.one (.d (.int .i64 vi2)))), (6, .v (.one (.d (.int .i64 vj))))]) 2

def slices_DeleteFunc_api_Prop_api_Prop_o0_f1_fleetref2_UnderOf_1_x2_I (qdel : List UInt8) (vl : List api_Prop) (vi : Int) (vj : Int) : St := Mem.st ⟨[(1, ⟨44, 5, List.map api_Prop.enc vl⟩)], [(0, [.d (.str qdel)])]⟩ (tl [(0, .v (.one (.own 1 none))), (1, .v (.one (.fn 83 [0]))), (5, .v (.one (.d (.int .i64 vi)))), (6, .v (.one (.d (.int .i64 vj))))]) 2

theorem slices_DeleteFunc_api_Prop_api_Prop_o0_f1_fleetref2_UnderOf_1_x2_ok (qdel : List UInt8) (vl : List api_Prop) (vi : Int) (vj : Int) {r} (hF : slices_DeleteFunc_api_Prop_api_Prop_o0_f1_fleetref2_UnderOf_1_x2 qdel vl vi vj = some r) : Awp prog 2 42 (cL (cR (cL (cL (cR (cL (cR (cR (cR (cB f81)))))))))) (Out 2 slices_DeleteFunc_api_Prop_api_Prop_o0_f1_fleetref2_UnderOf_1_x2_k (slices_DeleteFunc_api_Prop_api_Prop_o0_f1_fleetref2_UnderOf_1_x2_S qdel vl vi vj) r) (slices_DeleteFunc_api_Prop_api_Prop_o0_f1_fleetref2_UnderOf_1_x2_I qdel vl vi vj) := by
  unfold slices_DeleteFunc_api_Prop_api_Prop_o0_f1_fleetref2_UnderOf_1_x2 at hF
  refine awp_block ?_
  refine awp_seq ?_
  refine bE hF fun vy2 h4 hF => ?_
  refine awp_region ?_
  refine aR 2 ?_
  refine aX (x_idxO api_Prop.enc 1 h4) ?_
  refine aX (x_ldE api_Prop.enc h4) ?_
  refine aR 2 ?_
  refine aE ?_
  refine awp_seq ?_
  refine bE hF fun vr1_1 h5 hF => ?_
  refine awp_region ?_
  refine aR 2 ?_
  refine aC (fleetref2_UnderOf_1_ok h5) [] [] [] ?_
  refine aR 1 ?_
  refine aE ?_
  refine cE hF (fun h6 hF => ?_) fun h6 hF => ?_
  · refine awp_true (by kernel_rfl) h6 ?_
    refine awp_seq ?_
    refine bE hF fun vy3 h7 hF => ?_
    refine awp_region ?_
    refine aR 3 ?_
    refine aX (x_idxO api_Prop.enc 1 h7) ?_
    refine aX (x_stE api_Prop.enc (api_Prop.mk vy2.Name (api_Value.mk vy2.Value.Kind vy2.Value.Flag vy2.Value.Number vy2.Value.Words)) h7) ?_
    refine aE ?_
    refine awp_region ?_
    refine aR 3 ?_
    refine aE ?_
    exact oO hF [] [] rfl
  · refine awp_false (by kernel_rfl) h6 ?_
    refine awp_skip ?_
    exact oO hF [] [] rfl

def slices_DeleteFunc_api_Prop_api_Prop_o0_f1_fleetref2_UnderOf_1_x1_k : ((List api_Prop) × Int) → AEx
  | _ => .exit 0

def slices_DeleteFunc_api_Prop_api_Prop_o0_f1_fleetref2_UnderOf_1_x1_S (qdel : List UInt8) : ((List api_Prop) × Int) → St
  | (vl3, vi3) => Mem.st ⟨[(1, ⟨44, 5, List.map api_Prop.enc vl3⟩)], [(0, [.d (.str qdel)])]⟩ (tl [(0, .v (.one (.own 1 none))), (5, .v (.one (.d (.int .i64 vi3))))]) 2

def slices_DeleteFunc_api_Prop_api_Prop_o0_f1_fleetref2_UnderOf_1_x1_H (qdel : List UInt8) : (List api_Prop) × Int × Int → St
  | (vl, vi, vj) => Mem.st ⟨[(1, ⟨44, 5, List.map api_Prop.enc vl⟩)], [(0, [.d (.str qdel)])]⟩ (tl [(0, .v (.one (.own 1 none))), (1, .v (.one (.fn 83 [0]))), (5, .v (.one (.d (.int .i64 vi)))), (6, .v (.one (.d (.int .i64 vj))))]) 2

theorem slices_DeleteFunc_api_Prop_api_Prop_o0_f1_fleetref2_UnderOf_1_x1_ok (qdel : List UInt8) (s : (List api_Prop) × Int × Int) (r : ((List api_Prop) × Int × Int) ⊕ (((List api_Prop) × Int))) (hF : slices_DeleteFunc_api_Prop_api_Prop_o0_f1_fleetref2_UnderOf_1_x1 qdel s = some r) : Awp prog 2 42 (cL (cL (cR (cL (cR (cR (cR (cB f81)))))))) (Out 2 (kk slices_DeleteFunc_api_Prop_api_Prop_o0_f1_fleetref2_UnderOf_1_x1_k) (SS (slices_DeleteFunc_api_Prop_api_Prop_o0_f1_fleetref2_UnderOf_1_x1_H qdel) (slices_DeleteFunc_api_Prop_api_Prop_o0_f1_fleetref2_UnderOf_1_x1_S qdel)) r) (slices_DeleteFunc_api_Prop_api_Prop_o0_f1_fleetref2_UnderOf_1_x1_H qdel s) := by
  obtain ⟨vl, vi, vj⟩ := s
  unfold slices_DeleteFunc_api_Prop_api_Prop_o0_f1_fleetref2_UnderOf_1_x1 at hF
  refine awp_seq ?_
  refine awp_seq ?_
  refine awp_region ?_
  refine aR 2 ?_
  refine aL api_Prop.enc vl ?_
  refine aR 1 ?_
  refine aE ?_
  refine cE hF (fun h3 hF => ?_) fun h3 hF => ?_
  · refine awp_true (by kernel_rfl) h3 ?_
    refine awp_skip ?_
    refine awp_seq ?_
    refine awp_to (st' := slices_DeleteFunc_api_Prop_api_Prop_o0_f1_fleetref2_UnderOf_1_x2_I qdel vl vi vj) (oT [] []) ?_
    refine bE hF fun x h8 hF => ?_
    obtain ⟨vl2_1, vi2_1⟩ := x
    refine awp_sub (slices_DeleteFunc_api_Prop_api_Prop_o0_f1_fleetref2_UnderOf_1_x2_ok qdel vl vi vj h8) ?_
    refine awp_region ?_
    refine aR 3 ?_
    refine aE ?_
    exact oO hF [] [] rfl
  · refine awp_false (by kernel_rfl) h3 ?_
    refine awp_exit ?_
    exact oO hF [] [] rfl

def slices_DeleteFunc_api_Prop_api_Prop_o0_f1_fleetref2_UnderOf_1_R (qs : List api_Prop) (qdel : List UInt8) (r : (List api_Prop)) : TV × Mem := (.v (.one (.own 2 none)), ⟨[(2, ⟨44, 5, List.map api_Prop.enc r⟩)], [(0, [.d (.str qdel)])]⟩)

theorem slices_DeleteFunc_api_Prop_api_Prop_o0_f1_fleetref2_UnderOf_1_ok {qs : List api_Prop} {qdel : List UInt8} {r} (hF : slices_DeleteFunc_api_Prop_api_Prop_o0_f1_fleetref2_UnderOf_1 qs qdel = some r) : Holds prog 81 [.v (.one (.own 1 none)), .v (.one (.fn 83 [0]))] ⟨[(1, ⟨44, 5, List.map api_Prop.enc qs⟩)], [(0, [.d (.str qdel)])]⟩ (Is (slices_DeleteFunc_api_Prop_api_Prop_o0_f1_fleetref2_UnderOf_1_R qs qdel r)) := by
  unfold slices_DeleteFunc_api_Prop_api_Prop_o0_f1_fleetref2_UnderOf_1 at hF
  refine holds_of_awp hΓ (fn := f81) (c := cB f81) (A := 2) (nx := 2) (by kernel_rfl) (by kernel_rfl) (by kernel_rfl) (by kernel_rfl) (by kernel_rfl) (by kernel_rfl) (lowc_of (by kernel_rfl)) ?_
  show Awp prog 2 42 (cB f81) _ _
  refine awp_seq ?_
  refine awp_region ?_
  refine aR 1 ?_
  refine aE ?_
  refine awp_seq ?_
  refine bE hF fun vr h1 hF => ?_
  refine awp_region ?_
  refine aR 2 ?_
  refine aC (slices_IndexFunc_api_Prop_api_Prop_f1_fleetref2_UnderOf_1_ok h1) [] [] [1] ?_
  refine aR 1 ?_
  refine aE ?_
  refine awp_seq ?_
  refine awp_seq ?_
  refine awp_region ?_
  refine aR 2 ?_
  refine aE ?_
  refine cE hF (fun h2 hF => ?_) fun h2 hF => ?_
  · refine awp_true (by kernel_rfl) h2 ?_
    refine awp_seq ?_
    refine awp_region ?_
    refine aR 2 ?_
    refine aE ?_
    refine awp_ret ?_
    exact oF hF [(2, 1)] []
  · refine awp_false (by kernel_rfl) h2 ?_
    refine awp_skip ?_
    refine awp_seq ?_
    refine awp_seq ?_
    refine awp_region ?_
    refine aR 3 ?_
    refine aE ?_
    refine awp_block ?_
    refine awp_to (st' := slices_DeleteFunc_api_Prop_api_Prop_o0_f1_fleetref2_UnderOf_1_x1_H qdel (qs, vr, IntKind.wrap .i64 (vr + 1))) (oT [] []) ?_
    refine bE hF fun x h9 hF => ?_
    obtain ⟨vl3_1, vi3_1⟩ := x
    refine awp_sub (awp_loop' (slices_DeleteFunc_api_Prop_api_Prop_o0_f1_fleetref2_UnderOf_1_x1_H qdel) slices_DeleteFunc_api_Prop_api_Prop_o0_f1_fleetref2_UnderOf_1_x1_k (slices_DeleteFunc_api_Prop_api_Prop_o0_f1_fleetref2_UnderOf_1_x1_S qdel) (by intro x; exact fun h => nomatch h) h9 (slices_DeleteFunc_api_Prop_api_Prop_o0_f1_fleetref2_UnderOf_1_x1_ok qdel)) ?_
    refine awp_seq ?_
    refine gE hF fun h10 hF => ?_
    refine awp_region ?_
    refine aR 2 ?_
    refine aX (x_viewN api_Prop.enc 1 h10) ?_
    refine aCl api_Prop.enc 1 (xs := vl3_1) (y := api_Prop.mk ([] : List UInt8) (api_Value.mk 0 false 0 ([] : List UInt8))) (lo := vi3_1) (hi := (vl3_1.length : Int)) rfl ?_
    refine aE ?_
    refine awp_seq ?_
    refine gE hF fun h11 hF => ?_
    refine awp_region ?_
    refine aR 2 ?_
    refine aT api_Prop.enc 1 h11 rfl ?_
    refine aR 1 ?_
    refine aE ?_
    refine awp_ret ?_
    exact oF hF [(2, 6002)] []

/-! ### beaconfleet/fleetref2.UnderOf -/
def fleetref2_UnderOf_R (ql : List api_Prop) (qname : List UInt8) (r : (List api_Prop)) : TV × Mem := (.v (.one (.own 0 none)), ⟨[(0, ⟨44, 5, List.map api_Prop.enc r⟩)], []⟩)

theorem fleetref2_UnderOf_ok {ql : List api_Prop} {qname : List UInt8} {r} (hF : fleetref2_UnderOf ql qname = some r) : Holds prog 27 [.v (.one (.d (.lst (List.map api_Prop.enc ql)))), .v (.one (.d (.str qname)))] ⟨[], []⟩ (Is (fleetref2_UnderOf_R ql qname r)) := by
  unfold fleetref2_UnderOf at hF
  refine holds_of_awp hΓ (fn := f27) (c := cB f27) (A := 0) (nx := 0) (by kernel_rfl) (by kernel_rfl) (by kernel_rfl) (by kernel_rfl) (by kernel_rfl) (by kernel_rfl) (lowc_of (by kernel_rfl)) ?_
  show Awp prog 0 9 (cB f27) _ _
  refine awp_seq ?_
  refine awp_region ?_
  refine aR 2 ?_
  refine aE ?_
  refine awp_seq ?_
  refine bE hF fun vr h1 hF => ?_
  refine bE hF fun vr2 h2 hF => ?_
  refine awp_region ?_
  refine aR 1 ?_
  refine aC (slices_Clone_api_Prop_api_Prop_ok h1) [] [] [] ?_
  refine aR 1 ?_
  refine aC (slices_DeleteFunc_api_Prop_api_Prop_o0_f1_fleetref2_UnderOf_1_ok h2) [(1, 3000)] [] [] ?_
  refine aR 1 ?_
  refine aE ?_
  refine awp_ret ?_
  exact oF hF [(0, 5002)] []

/-! ### beaconfleet/fleetlaw2.PropsTell -/
def fleetlaw2_PropsTell_x1_k : Bool → AEx
  | _ => .normal

def fleetlaw2_PropsTell_x1_S (vr2_1 : api_Value) (vr4_1 : Int) (vr4_2 : List api_Prop) (vr5 : Int) (vr6 : Int) : Bool → St
  | vx => Mem.st ⟨[], []⟩ (tl [(2, .v (.one (.d (.bool vx))))]) 0

def fleetlaw2_PropsTell_x1_I (vr2_1 : api_Value) (vr4_1 : Int) (vr4_2 : List api_Prop) (vr5 : Int) (vr6 : Int) : St := Mem.st ⟨[], [(0, [.d (.int .i64 vr2_1.Kind), .d (.bool vr2_1.Flag), .d (.int .i64 vr2_1.Number), .d (.str vr2_1.Words)])]⟩ (tl [(6, .v (.one (.box 0 0))), (7, .v (.one (.d (.int .i64 vr4_1)))), (8, .v (.one (.d (.lst (List.map api_Prop.enc vr4_2))))), (9, .v (.one (.d (.int .i64 vr5)))), (10, .v (.one (.d (.int .i64 vr6))))]) 1

theorem fleetlaw2_PropsTell_x1_ok (vr2_1 : api_Value) (vr4_1 : Int) (vr4_2 : List api_Prop) (vr5 : Int) (vr6 : Int) {r} (hF : fleetlaw2_PropsTell_x1 vr2_1 vr4_1 vr4_2 vr5 vr6 = some r) : Awp prog 0 89 (cL (cL (cR (cR (cL (cR (cR (cR (cR (cR (cR (cR (cB f4))))))))))))) (Out 0 fleetlaw2_PropsTell_x1_k (fleetlaw2_PropsTell_x1_S vr2_1 vr4_1 vr4_2 vr5 vr6) r) (fleetlaw2_PropsTell_x1_I vr2_1 vr4_1 vr4_2 vr5 vr6) := by
  unfold fleetlaw2_PropsTell_x1 at hF
  refine cE hF (fun h12 hF => ?_) fun h12 hF => ?_
  · refine cE hF (fun h13 hF => ?_) fun h13 hF => ?_
    · refine cE hF (fun h14 hF => ?_) fun h14 hF => ?_
      · refine cE hF (fun h15 hF => ?_) fun h15 hF => ?_
        · refine bE hF fun vr7 h16 hF => ?_
          refine awp_region ?_
          refine aR 2 ?_
          refine aB h12 ?_
          refine aR 3 ?_
          refine aB h13 ?_
          refine aR 4 ?_
          refine aSb (does_eqS (op := .eql) (xs := [.int .i64 vr2_1.Kind, .bool vr2_1.Flag, .int .i64 vr2_1.Number, .str vr2_1.Words]) (ys := [.int .i64 0, .bool false, .int .i64 0, .str ([] : List UInt8)]) (b := (decide (vr2_1.Kind = 0) && ((vr2_1.Flag == false) && (decide (vr2_1.Number = 0) && (decide (vr2_1.Words = ([] : List UInt8)) && true))))) (c := (decide (vr2_1.Kind = 0) && ((vr2_1.Flag == false) && (decide (vr2_1.Number = 0) && (decide (vr2_1.Words = ([] : List UInt8)) && true))))) rfl (.inl ⟨rfl, rfl⟩) (by kernel_rfl) (by kernel_rfl) (by kernel_rfl) (by kernel_rfl) (by kernel_rfl) (by kernel_rfl)) h14 ?_
          refine aR 3 ?_
          refine aL api_Prop.enc vr4_2 ?_
          refine aB h15 ?_
          refine aR 2 ?_
          refine aC (fleetlaw2_twinned_ok h16) [] [] [] ?_
          refine aR 2 ?_
          refine aE ?_
          exact oO hF [] [] rfl
        · refine awp_region ?_
          refine aR 2 ?_
          refine aB h12 ?_
          refine aR 3 ?_
          refine aB h13 ?_
          refine aR 4 ?_
          refine aSb (does_eqS (op := .eql) (xs := [.int .i64 vr2_1.Kind, .bool vr2_1.Flag, .int .i64 vr2_1.Number, .str vr2_1.Words]) (ys := [.int .i64 0, .bool false, .int .i64 0, .str ([] : List UInt8)]) (b := (decide (vr2_1.Kind = 0) && ((vr2_1.Flag == false) && (decide (vr2_1.Number = 0) && (decide (vr2_1.Words = ([] : List UInt8)) && true))))) (c := (decide (vr2_1.Kind = 0) && ((vr2_1.Flag == false) && (decide (vr2_1.Number = 0) && (decide (vr2_1.Words = ([] : List UInt8)) && true))))) rfl (.inl ⟨rfl, rfl⟩) (by kernel_rfl) (by kernel_rfl) (by kernel_rfl) (by kernel_rfl) (by kernel_rfl) (by kernel_rfl)) h14 ?_
          refine aR 3 ?_
          refine aL api_Prop.enc vr4_2 ?_
          refine aB h15 ?_
          refine aR 5 ?_
          refine aE ?_
          exact oO hF [] [] rfl
      · refine awp_region ?_
        refine aR 2 ?_
        refine aB h12 ?_
        refine aR 3 ?_
        refine aB h13 ?_
        refine aR 4 ?_
        refine aSb (does_eqS (op := .eql) (xs := [.int .i64 vr2_1.Kind, .bool vr2_1.Flag, .int .i64 vr2_1.Number, .str vr2_1.Words]) (ys := [.int .i64 0, .bool false, .int .i64 0, .str ([] : List UInt8)]) (b := (decide (vr2_1.Kind = 0) && ((vr2_1.Flag == false) && (decide (vr2_1.Number = 0) && (decide (vr2_1.Words = ([] : List UInt8)) && true))))) (c := (decide (vr2_1.Kind = 0) && ((vr2_1.Flag == false) && (decide (vr2_1.Number = 0) && (decide (vr2_1.Words = ([] : List UInt8)) && true))))) rfl (.inl ⟨rfl, rfl⟩) (by kernel_rfl) (by kernel_rfl) (by kernel_rfl) (by kernel_rfl) (by kernel_rfl) (by kernel_rfl)) h14 ?_
        refine aR 10 ?_
        refine aE ?_
        exact oO hF [] [] rfl
    · refine awp_region ?_
      refine aR 2 ?_
      refine aB h12 ?_
      refine aR 3 ?_
      refine aB h13 ?_
      refine aR 15 ?_
      refine aE ?_
      exact oO hF [] [] rfl
  · refine awp_region ?_
    refine aR 2 ?_
    refine aB h12 ?_
    refine aR 19 ?_
    refine aE ?_
    exact oO hF [] [] rfl

def fleetlaw2_PropsTell_x2_k : Bool → AEx
  | _ => .normal

def fleetlaw2_PropsTell_x2_S (vr2 : List api_Prop) (vr4 : List UInt8) (vr2_1 : api_Value) (vr4_1 : Int) (vr4_2 : List api_Prop) (vr5 : Int) : Bool → St
  | vx2 => Mem.st ⟨[], []⟩ (tl [(2, .v (.one (.d (.bool vx2))))]) 0

def fleetlaw2_PropsTell_x2_I (vr2 : List api_Prop) (vr4 : List UInt8) (vr2_1 : api_Value) (vr4_1 : Int) (vr4_2 : List api_Prop) (vr5 : Int) : St := Mem.st ⟨[], [(0, [.d (.int .i64 vr2_1.Kind), .d (.bool vr2_1.Flag), .d (.int .i64 vr2_1.Number), .d (.str vr2_1.Words)])]⟩ (tl [(4, .v (.one (.d (.lst (List.map api_Prop.enc vr2))))), (5, .v (.one (.d (.str vr4)))), (6, .v (.one (.box 0 0))), (7, .v (.one (.d (.int .i64 vr4_1)))), (8, .v (.one (.d (.lst (List.map api_Prop.enc vr4_2))))), (9, .v (.one (.d (.int .i64 vr5))))]) 1

theorem fleetlaw2_PropsTell_x2_ok (vr2 : List api_Prop) (vr4 : List UInt8) (vr2_1 : api_Value) (vr4_1 : Int) (vr4_2 : List api_Prop) (vr5 : Int) {r} (hF : fleetlaw2_PropsTell_x2 vr2 vr4 vr2_1 vr4_1 vr4_2 vr5 = some r) : Awp prog 0 89 (cL (cR (cR (cR (cR (cR (cR (cR (cR (cB f4)))))))))) (Out 0 fleetlaw2_PropsTell_x2_k (fleetlaw2_PropsTell_x2_S vr2 vr4 vr2_1 vr4_1 vr4_2 vr5) r) (fleetlaw2_PropsTell_x2_I vr2 vr4 vr2_1 vr4_1 vr4_2 vr5) := by
  unfold fleetlaw2_PropsTell_x2 at hF
  refine cE hF (fun h18 hF => ?_) fun h18 hF => ?_
  · refine cE hF (fun h19 hF => ?_) fun h19 hF => ?_
    · refine bE hF fun vr8 h20 hF => ?_
      refine cE hF (fun h21 hF => ?_) fun h21 hF => ?_
      · refine bE hF fun vr1_1 h22 hF => ?_
        refine bE hF fun vr9 h23 hF => ?_
        refine cE hF (fun h24 hF => ?_) fun h24 hF => ?_
        · refine bE hF fun vr10 h25 hF => ?_
          refine aD ?_
          refine dR 1 ?_
          refine dB h18 ?_
          refine dR 2 ?_
          refine dB h19 ?_
          refine dR 5 ?_
          refine dC (fleetref2_ValueOf_ok h20) [] [] [] ?_
          refine dSb (U := []) (stable_eqS (op := .eql) (xs := [.int .i64 vr2_1.Kind, .bool vr2_1.Flag, .int .i64 vr2_1.Number, .str vr2_1.Words]) (ys := [.int .i64 vr8.Kind, .bool vr8.Flag, .int .i64 vr8.Number, .str vr8.Words]) (b := (decide (vr2_1.Kind = vr8.Kind) && ((vr2_1.Flag == vr8.Flag) && (decide (vr2_1.Number = vr8.Number) && (decide (vr2_1.Words = vr8.Words) && true))))) (c := (decide (vr2_1.Kind = vr8.Kind) && ((vr2_1.Flag == vr8.Flag) && (decide (vr2_1.Number = vr8.Number) && (decide (vr2_1.Words = vr8.Words) && true))))) rfl (.inl ⟨rfl, rfl⟩) (by kernel_rfl) (by kernel_rfl) (by kernel_rfl) (by kernel_rfl) (by kernel_rfl) (by kernel_rfl)) h21 ?_
          refine dR 5 ?_
          refine dC (fleetref2_UnderOf_ok h22) [] [] [] ?_
          refine dCb (slices_Equal_api_Prop_api_Prop_ok h23) [] [] [17001] h24 ?_
          refine dR 2 ?_
          refine dC (fleetlaw2_twinned_ok h25) [] [] [] ?_
          refine dR 2 ?_
          refine dE ?_
          exact oO hF [] [] rfl
        · refine aD ?_
          refine dR 1 ?_
          refine dB h18 ?_
          refine dR 2 ?_
          refine dB h19 ?_
          refine dR 5 ?_
          refine dC (fleetref2_ValueOf_ok h20) [] [] [] ?_
          refine dSb (U := []) (stable_eqS (op := .eql) (xs := [.int .i64 vr2_1.Kind, .bool vr2_1.Flag, .int .i64 vr2_1.Number, .str vr2_1.Words]) (ys := [.int .i64 vr8.Kind, .bool vr8.Flag, .int .i64 vr8.Number, .str vr8.Words]) (b := (decide (vr2_1.Kind = vr8.Kind) && ((vr2_1.Flag == vr8.Flag) && (decide (vr2_1.Number = vr8.Number) && (decide (vr2_1.Words = vr8.Words) && true))))) (c := (decide (vr2_1.Kind = vr8.Kind) && ((vr2_1.Flag == vr8.Flag) && (decide (vr2_1.Number = vr8.Number) && (decide (vr2_1.Words = vr8.Words) && true))))) rfl (.inl ⟨rfl, rfl⟩) (by kernel_rfl) (by kernel_rfl) (by kernel_rfl) (by kernel_rfl) (by kernel_rfl) (by kernel_rfl)) h21 ?_
          refine dR 5 ?_
          refine dC (fleetref2_UnderOf_ok h22) [] [] [] ?_
          refine dCb (slices_Equal_api_Prop_api_Prop_ok h23) [] [] [17001] h24 ?_
          refine dR 5 ?_
          refine dE ?_
          exact oO hF [] [] rfl
      · refine aD ?_
        refine dR 1 ?_
        refine dB h18 ?_
        refine dR 2 ?_
        refine dB h19 ?_
        refine dR 5 ?_
        refine dC (fleetref2_ValueOf_ok h20) [] [] [] ?_
        refine dSb (U := []) (stable_eqS (op := .eql) (xs := [.int .i64 vr2_1.Kind, .bool vr2_1.Flag, .int .i64 vr2_1.Number, .str vr2_1.Words]) (ys := [.int .i64 vr8.Kind, .bool vr8.Flag, .int .i64 vr8.Number, .str vr8.Words]) (b := (decide (vr2_1.Kind = vr8.Kind) && ((vr2_1.Flag == vr8.Flag) && (decide (vr2_1.Number = vr8.Number) && (decide (vr2_1.Words = vr8.Words) && true))))) (c := (decide (vr2_1.Kind = vr8.Kind) && ((vr2_1.Flag == vr8.Flag) && (decide (vr2_1.Number = vr8.Number) && (decide (vr2_1.Words = vr8.Words) && true))))) rfl (.inl ⟨rfl, rfl⟩) (by kernel_rfl) (by kernel_rfl) (by kernel_rfl) (by kernel_rfl) (by kernel_rfl) (by kernel_rfl)) h21 ?_
        refine dR 12 ?_
        refine dE ?_
        exact oO hF [] [] rfl
    · refine aD ?_
      refine dR 1 ?_
      refine dB h18 ?_
      refine dR 2 ?_
      refine dB h19 ?_
      refine dR 19 ?_
      refine dE ?_
      exact oO hF [] [] rfl
  · refine aD ?_
    refine dR 1 ?_
    refine dB h18 ?_
    refine dR 22 ?_
    refine dE ?_
    exact oO hF [] [] rfl

def fleetlaw2_PropsTell_R (qx : List Int) (r : Bool) : TV × Mem := (.v (.one (.d (.bool r))), ⟨[], []⟩)

theorem fleetlaw2_PropsTell_ok {qx : List Int} {r} (hF : fleetlaw2_PropsTell qx = some r) : Holds prog 4 [.v (.one (.d (.lst (List.map (encI .i64) qx))))] ⟨[], []⟩ (Is (fleetlaw2_PropsTell_R qx r)) := by
  unfold fleetlaw2_PropsTell at hF
  refine holds_of_awp hΓ (fn := f4) (c := cB f4) (A := 0) (nx := 0) (by kernel_rfl) (by kernel_rfl) (by kernel_rfl) (by kernel_rfl) (by kernel_rfl) (by kernel_rfl) (lowc_of (by kernel_rfl)) ?_
  show Awp prog 0 89 (cB f4) _ _
  refine awp_seq ?_
  refine awp_region ?_
  refine aR 1 ?_
  refine aE ?_
  refine awp_seq ?_
  refine awp_region ?_
  refine aR 4 ?_
  refine aE ?_
  refine awp_seq ?_
  refine bE hF fun x h1 hF => ?_
  obtain ⟨vs2, vr2⟩ := x
  refine bE hF fun vr4 h2 hF => ?_
  refine awp_region ?_
  refine aR 1 ?_
  refine aC (fleetmake_Stream_Props_ok h1) [(0, 3000)] [] [] ?_
  refine aR 1 ?_
  refine aC (fleetmake_Stream_PropName_ok h2) [(0, 3000)] [] [] ?_
  refine aR 2 ?_
  refine aE ?_
  refine awp_to (oT (m := ⟨[], []⟩) (ts := [(4, .v (.one (.d (.lst (List.map api_Prop.enc vr2))))), (5, .v (.one (.d (.str vr4))))]) (nx := 0) [] []) ?_
  refine awp_seq ?_
  refine bE hF fun x h3 hF => ?_
  obtain ⟨vr2_1, vr4_1⟩ := x
  refine awp_region ?_
  refine aR 2 ?_
  refine aC (twin_Get_ok h3) [] [] [] ?_
  refine aR 6 ?_
  refine aE ?_
  refine awp_seq ?_
  refine bE hF fun x h4 hF => ?_
  obtain ⟨vr4_2, vr5⟩ := x
  refine awp_region ?_
  refine aR 2 ?_
  refine aC (twin_Under_ok h4) [] [] [] ?_
  refine aR 5 ?_
  refine aE ?_
  refine awp_to (oT (m := ⟨[], [(0, [.d (.int .i64 vr2_1.Kind), .d (.bool vr2_1.Flag), .d (.int .i64 vr2_1.Number), .d (.str vr2_1.Words)])]⟩) (ts := [(4, .v (.one (.d (.lst (List.map api_Prop.enc vr2))))), (5, .v (.one (.d (.str vr4)))), (6, .v (.one (.box 0 0))), (7, .v (.one (.d (.int .i64 vr4_1)))), (8, .v (.one (.d (.lst (List.map api_Prop.enc vr4_2))))), (9, .v (.one (.d (.int .i64 vr5))))]) (nx := 1) [(0, 6000)] []) ?_
  refine awp_seq ?_
  refine bE hF fun vr h5 hF => ?_
  refine awp_region ?_
  refine aR 1 ?_
  refine aC (fleetref2_PropsFault_ok h5) [] [] [] ?_
  refine aR 1 ?_
  refine aE ?_
  refine awp_seq ?_
  refine awp_seq ?_
  refine bE hF fun vr3 h6 hF => ?_
  refine awp_region ?_
  refine aR 1 ?_
  refine aC (twin_CheckProps_ok h6) [] [] [] ?_
  refine aR 2 ?_
  refine aE ?_
  refine cE hF (fun h7 hF => ?_) fun h7 hF => ?_
  · refine awp_true (by kernel_rfl) h7 ?_
    refine awp_seq ?_
    refine awp_region ?_
    refine aR 1 ?_
    refine aE ?_
    refine awp_ret ?_
    exact oF hF [] []
  · refine awp_false (by kernel_rfl) h7 ?_
    refine awp_skip ?_
    refine awp_seq ?_
    refine awp_seq ?_
    refine bE hF fun vr2_2 h8 hF => ?_
    refine bE hF fun vr1 h9 hF => ?_
    refine bE hF fun vr6 h10 hF => ?_
    refine awp_region ?_
    refine aR 2 ?_
    refine aC (fleetref2_PropName_ok h8) [] [] [] ?_
    refine aR 1 ?_
    refine aC (fleetlaw2_when_ok h9) [] [] [] ?_
    refine aR 1 ?_
    refine aC (fleetlaw2_errs_ok h10) [] [] [12001] ?_
    refine aR 1 ?_
    refine aE ?_
    refine awp_seq ?_
    refine awp_region ?_
    refine aR 2 ?_
    refine aE ?_
    refine cE hF (fun h11 hF => ?_) fun h11 hF => ?_
    · refine awp_true (by kernel_rfl) h11 ?_
      refine awp_seq ?_
      refine awp_to (st' := fleetlaw2_PropsTell_x1_I vr2_1 vr4_1 vr4_2 vr5 vr6) (oT [] []) ?_
      refine bE hF fun vx1 h17 hF => ?_
      refine awp_sub (fleetlaw2_PropsTell_x1_ok vr2_1 vr4_1 vr4_2 vr5 vr6 h17) ?_
      refine awp_ret ?_
      exact oF hF [] []
    · refine awp_false (by kernel_rfl) h11 ?_
      refine awp_skip ?_
      refine awp_seq ?_
      refine awp_to (st' := fleetlaw2_PropsTell_x2_I vr2 vr4 vr2_1 vr4_1 vr4_2 vr5) (oT [] []) ?_
      refine bE hF fun vx2_1 h26 hF => ?_
      refine awp_sub (fleetlaw2_PropsTell_x2_ok vr2 vr4 vr2_1 vr4_1 vr4_2 vr5 h26) ?_
      refine awp_ret ?_
      exact oF hF [] []

end Go.Eng
