/-
The code of the Go functions that the law TwinsComeToRest reaches does what the plain functions say, part 3.
-/
import Derived.Test.YtpibhcioeojcdaaGreatDoorGenP2

namespace Go.Eng

open Go Go.Proofs.Tryz

set_option linter.unusedVariables false

set_option maxRecDepth 20000

set_option maxHeartbeats 0

/-! ### beaconfleet/twin.CheckChanges -/
def twin_CheckChanges_x2_k : Bool → AEx
  | _ => .normal

def twin_CheckChanges_x2_S (ql : List api_Change) (vx : Int) (vy2 : api_Change) : Bool → St
  | vx2 => Mem.st ⟨[], []⟩ (tl [(0, .v (.one (.d (.lst (List.map api_Change.enc ql))))), (9, .v (.one (.d (.lst (List.map api_Change.enc ql))))), (10, .v (.one (.d (.int .i64 (ql.length : Int))))), (11, .v (.one (.d (.int .i64 vx)))), (48, .v (.one (.d (.bool vx2))))]) 0

def twin_CheckChanges_x2_I (ql : List api_Change) (vx : Int) (vy2 : api_Change) : St := Mem.st ⟨[], [(0, [.d (.str vy2.Name), .d (.int .i64 vy2.From.Kind), .d (.bool vy2.From.Flag), .d (.int .i64 vy2.From.Number), .d (.str vy2.From.Words), .d (.int .i64 vy2.To.Kind), .d (.bool vy2.To.Flag), .d (.int .i64 vy2.To.Number), .d (.str vy2.To.Words)])]⟩ (tl [(0, .v (.one (.d (.lst (List.map api_Change.enc ql))))), (3, .v (.one (.d (.int .i64 vx)))), (4, .v (.one (.box 0 0))), (9, .v (.one (.d (.lst (List.map api_Change.enc ql))))), (10, .v (.one (.d (.int .i64 (ql.length : Int))))), (11, .v (.one (.d (.int .i64 vx))))]) 1

theorem twin_CheckChanges_x2_ok (ql : List api_Change) (vx : Int) (vy2 : api_Change) {r} (hF : twin_CheckChanges_x2 ql vx vy2 = some r) : Awp prog 0 50 (cL (cR (cR (cR (cR (cL (cL (cR (cR (cL (cL (cR (cL (cR (cR (cB f44)))))))))))))))) (Out 0 twin_CheckChanges_x2_k (twin_CheckChanges_x2_S ql vx vy2) r) (twin_CheckChanges_x2_I ql vx vy2) := by
  unfold twin_CheckChanges_x2 at hF
  refine cE hF (fun h11 hF => ?_) fun h11 hF => ?_
  · refine bE hF fun vy3 h12 hF => ?_
    refine aD ?_
    refine dR 1 ?_
    refine dB h11 ?_
    refine dR 6 ?_
    refine dX (x_idx api_Change.enc h12) ?_
    refine dR 4 ?_
    refine dE ?_
    exact oO hF [] [] rfl
  · refine aD ?_
    refine dR 1 ?_
    refine dB h11 ?_
    refine dR 11 ?_
    refine dE ?_
    exact oO hF [] [] rfl

def twin_CheckChanges_x1_k : Unit ⊕ Int → AEx
  | .inl _ => .exit 0
  | .inr _ => .ret

def twin_CheckChanges_x1_S (ql : List api_Change) : Unit ⊕ Int → St
  | .inl _ => Mem.st ⟨[], []⟩ (tl []) 0
  | .inr vx3 => Mem.st ⟨[], []⟩ (tl [(2, .v (.one (.d (.int .i64 vx3))))]) 0

def twin_CheckChanges_x1_H (ql : List api_Change) : Int → St
  | vx => Mem.st ⟨[], []⟩ (tl [(0, .v (.one (.d (.lst (List.map api_Change.enc ql))))), (9, .v (.one (.d (.lst (List.map api_Change.enc ql))))), (10, .v (.one (.d (.int .i64 (ql.length : Int))))), (11, .v (.one (.d (.int .i64 vx))))]) 0

theorem twin_CheckChanges_x1_ok (ql : List api_Change) (vx : Int) (r : (Int) ⊕ (Unit ⊕ Int)) (hF : twin_CheckChanges_x1 ql vx = some r) : Awp prog 0 50 (cL (cL (cR (cL (cR (cR (cB f44))))))) (Out 0 (kk twin_CheckChanges_x1_k) (SS (twin_CheckChanges_x1_H ql) (twin_CheckChanges_x1_S ql)) r) (twin_CheckChanges_x1_H ql vx) := by
  unfold twin_CheckChanges_x1 at hF
  refine awp_seq ?_
  refine awp_region ?_
  refine aR 1 ?_
  refine aE ?_
  refine awp_seq ?_
  refine cE hF (fun h2 hF => ?_) fun h2 hF => ?_
  · refine awp_true (by kernel_rfl) h2 ?_
    refine awp_skip ?_
    refine awp_seq ?_
    refine awp_block ?_
    refine awp_seq ?_
    refine bE hF fun vy2 h3 hF => ?_
    refine awp_region ?_
    refine aR 1 ?_
    refine aX (x_idx api_Change.enc h3) ?_
    refine aR 4 ?_
    refine aE ?_
    refine awp_seq ?_
    refine awp_seq ?_
    refine bE hF fun vr3 h4 hF => ?_
    refine awp_region ?_
    refine aR 2 ?_
    refine aC (twin_isName_ok h4) [] [] [] ?_
    refine aR 1 ?_
    refine aE ?_
    refine cE hF (fun h5 hF => ?_) fun h5 hF => ?_
    · refine awp_true (by kernel_rfl) h5 ?_
      refine awp_seq ?_
      refine awp_region ?_
      refine aR 1 ?_
      refine aE ?_
      refine awp_ret ?_
      exact oO hF [] [] rfl
    · refine awp_false (by kernel_rfl) h5 ?_
      refine awp_skip ?_
      refine awp_seq ?_
      refine awp_seq ?_
      refine bE hF fun vr2_2 h6 hF => ?_
      refine bE hF fun vr2_3 h7 hF => ?_
      refine bE hF fun vr4 h8 hF => ?_
      refine aD ?_
      refine dR 2 ?_
      refine dC (twin_valueFault_ok h6) [] [] [] ?_
      refine dR 2 ?_
      refine dC (twin_valueFault_ok h7) [] [] [] ?_
      refine dR 1 ?_
      refine dC (base_First_ok h8) [] [] [17000] ?_
      refine dR 1 ?_
      refine dE ?_
      refine awp_seq ?_
      refine awp_region ?_
      refine aR 2 ?_
      refine aE ?_
      refine cE hF (fun h9 hF => ?_) fun h9 hF => ?_
      · refine awp_true (by kernel_rfl) h9 ?_
        refine awp_seq ?_
        refine awp_region ?_
        refine aR 2 ?_
        refine aE ?_
        refine awp_ret ?_
        exact oO hF [] [] rfl
      · refine awp_false (by kernel_rfl) h9 ?_
        refine awp_skip ?_
        refine awp_seq ?_
        refine awp_seq ?_
        refine awp_region ?_
        refine aR 4 ?_
        refine aS (does_eqS (op := .eql) (xs := [.int .i64 vy2.From.Kind, .bool vy2.From.Flag, .int .i64 vy2.From.Number, .str vy2.From.Words]) (ys := [.int .i64 vy2.To.Kind, .bool vy2.To.Flag, .int .i64 vy2.To.Number, .str vy2.To.Words]) (b := (decide (vy2.From.Kind = vy2.To.Kind) && ((vy2.From.Flag == vy2.To.Flag) && (decide (vy2.From.Number = vy2.To.Number) && (decide (vy2.From.Words = vy2.To.Words) && true))))) (c := (decide (vy2.From.Kind = vy2.To.Kind) && ((vy2.From.Flag == vy2.To.Flag) && (decide (vy2.From.Number = vy2.To.Number) && (decide (vy2.From.Words = vy2.To.Words) && true))))) rfl (.inl ⟨rfl, rfl⟩) (by kernel_rfl) (by kernel_rfl) (by kernel_rfl) (by kernel_rfl) (by kernel_rfl) (by kernel_rfl)) ?_
        refine aE ?_
        refine cE hF (fun h10 hF => ?_) fun h10 hF => ?_
        · refine awp_true (by kernel_rfl) h10 ?_
          refine awp_seq ?_
          refine awp_region ?_
          refine aR 1 ?_
          refine aE ?_
          refine awp_ret ?_
          exact oO hF [] [] rfl
        · refine awp_false (by kernel_rfl) h10 ?_
          refine awp_skip ?_
          refine awp_seq ?_
          refine awp_to (st' := twin_CheckChanges_x2_I ql vx vy2) (oT [(0, 4000)] []) ?_
          refine bE hF fun vx2_1 h13 hF => ?_
          refine awp_sub (twin_CheckChanges_x2_ok ql vx vy2 h13) ?_
          refine cE hF (fun h14 hF => ?_) fun h14 hF => ?_
          · refine awp_true (by kernel_rfl) h14 ?_
            refine awp_seq ?_
            refine awp_region ?_
            refine aR 1 ?_
            refine aE ?_
            refine awp_ret ?_
            exact oO hF [] [] rfl
          · refine awp_false (by kernel_rfl) h14 ?_
            refine awp_skip ?_
            refine awp_region ?_
            refine aR 2 ?_
            refine aE ?_
            exact oO hF [] [] rfl
  · refine awp_false (by kernel_rfl) h2 ?_
    refine awp_exit ?_
    exact oO hF [] [] rfl

def twin_CheckChanges_R (ql : List api_Change) (r : Int) : TV × Mem := (.v (.one (.d (.int .i64 r))), ⟨[], []⟩)

theorem twin_CheckChanges_ok {ql : List api_Change} {r} (hF : twin_CheckChanges ql = some r) : Holds prog 44 [.v (.one (.d (.lst (List.map api_Change.enc ql))))] ⟨[], []⟩ (Is (twin_CheckChanges_R ql r)) := by
  unfold twin_CheckChanges at hF
  refine holds_of_awp hΓ (fn := f44) (c := cB f44) (A := 0) (nx := 0) (by kernel_rfl) (by kernel_rfl) (by kernel_rfl) (by kernel_rfl) (by kernel_rfl) (by kernel_rfl) (lowc_of (by kernel_rfl)) ?_
  show Awp prog 0 50 (cB f44) _ _
  refine awp_seq ?_
  refine awp_region ?_
  refine aR 1 ?_
  refine aE ?_
  refine awp_seq ?_
  refine awp_seq ?_
  refine awp_region ?_
  refine aR 1 ?_
  refine aL api_Change.enc ql ?_
  refine aR 1 ?_
  refine aE ?_
  refine cE hF (fun h1 hF => ?_) fun h1 hF => ?_
  · refine awp_true (by kernel_rfl) h1 ?_
    refine awp_seq ?_
    refine awp_region ?_
    refine aR 1 ?_
    refine aE ?_
    refine awp_ret ?_
    exact oF hF [] []
  · refine awp_false (by kernel_rfl) h1 ?_
    refine awp_skip ?_
    refine awp_seq ?_
    refine awp_seq ?_
    refine awp_region ?_
    refine aR 1 ?_
    refine aL api_Change.enc ql ?_
    refine aR 1 ?_
    refine aE ?_
    refine awp_block ?_
    refine awp_to (st' := twin_CheckChanges_x1_H ql 0) (oT [] []) ?_
    refine bE hF fun x h15 hF => ?_
    rcases x with _ | vx3_1
    · refine awp_sub (awp_loop' (twin_CheckChanges_x1_H ql) twin_CheckChanges_x1_k (twin_CheckChanges_x1_S ql) (by intro x; rcases x with x | x <;> exact fun h => nomatch h) h15 (twin_CheckChanges_x1_ok ql)) ?_
      refine awp_seq ?_
      refine awp_region ?_
      refine aR 1 ?_
      refine aE ?_
      refine awp_ret ?_
      exact oF hF [] []
    · refine awp_sub (awp_loop' (twin_CheckChanges_x1_H ql) twin_CheckChanges_x1_k (twin_CheckChanges_x1_S ql) (by intro x; rcases x with x | x <;> exact fun h => nomatch h) h15 (twin_CheckChanges_x1_ok ql)) ?_
      exact oF hF [] []

/-! ### beaconfleet/twin.Take$1 -/
def twin_Take_1_R (qx : api_Cell) (qx1 : api_Stamp) (r : Bool) : TV × Mem := (.v (.one (.d (.bool r))), ⟨[], [(0, [.d (.int .i64 qx1.At), .d (.str qx1.By), .d (.int .i64 qx1.No)])]⟩)

theorem twin_Take_1_ok {qx : api_Cell} {qx1 : api_Stamp} {r} (hF : twin_Take_1 qx qx1 = some r) : Holds prog 128 [.v (.agg [.d (.str qx.Prop_.Name), .d (.int .i64 qx.Prop_.Value.Kind), .d (.bool qx.Prop_.Value.Flag), .d (.int .i64 qx.Prop_.Value.Number), .d (.str qx.Prop_.Value.Words), .d (.int .i64 qx.Stamp.At), .d (.str qx.Stamp.By), .d (.int .i64 qx.Stamp.No)]), .v (.one (.box 0 0))] ⟨[], [(0, [.d (.int .i64 qx1.At), .d (.str qx1.By), .d (.int .i64 qx1.No)])]⟩ (Is (twin_Take_1_R qx qx1 r)) := by
  unfold twin_Take_1 at hF
  refine holds_of_awp hΓ (fn := f128) (c := cB f128) (A := 1) (nx := 1) (by kernel_rfl) (by kernel_rfl) (by kernel_rfl) (by kernel_rfl) (by kernel_rfl) (by kernel_rfl) (lowc_of (by kernel_rfl)) ?_
  show Awp prog 1 9 (cB f128) _ _
  refine awp_seq ?_
  refine awp_region ?_
  refine aR 2 ?_
  refine aE ?_
  refine awp_seq ?_
  refine bE hF fun vr3 h1 hF => ?_
  refine awp_region ?_
  refine aR 3 ?_
  refine aC (twin_byStamp_ok h1) [] [] [] ?_
  refine aR 2 ?_
  refine aE ?_
  refine awp_ret ?_
  exact oF hF [] []

/-! ### slices.IndexFunc[[]beaconfleet/api.Cell,beaconfleet/api.Cell] -/
def slices_IndexFunc_api_Cell_api_Cell_f1_twin_Take_1_x1_k : Unit ⊕ Int → AEx
  | .inl _ => .exit 0
  | .inr _ => .ret

def slices_IndexFunc_api_Cell_api_Cell_f1_twin_Take_1_x1_S (qs : List api_Cell) (qf : api_Stamp) : Unit ⊕ Int → St
  | .inl _ => Mem.st ⟨[], [(0, [.d (.int .i64 qf.At), .d (.str qf.By), .d (.int .i64 qf.No)])]⟩ (tl []) 1
  | .inr vx1 => Mem.st ⟨[], [(0, [.d (.int .i64 qf.At), .d (.str qf.By), .d (.int .i64 qf.No)])]⟩ (tl [(4, .v (.one (.d (.int .i64 vx1))))]) 1

def slices_IndexFunc_api_Cell_api_Cell_f1_twin_Take_1_x1_H (qs : List api_Cell) (qf : api_Stamp) : Int → St
  | vx => Mem.st ⟨[], [(0, [.d (.int .i64 qf.At), .d (.str qf.By), .d (.int .i64 qf.No)])]⟩ (tl [(0, .v (.one (.d (.lst (List.map api_Cell.enc qs))))), (1, .v (.one (.fn 128 [0]))), (7, .v (.one (.d (.int .i64 (qs.length : Int))))), (8, .v (.one (.d (.int .i64 vx))))]) 1

theorem slices_IndexFunc_api_Cell_api_Cell_f1_twin_Take_1_x1_ok (qs : List api_Cell) (qf : api_Stamp) (vx : Int) (r : (Int) ⊕ (Unit ⊕ Int)) (hF : slices_IndexFunc_api_Cell_api_Cell_f1_twin_Take_1_x1 qs qf vx = some r) : Awp prog 1 19 (cL (cL (cR (cL (cR (cB f152)))))) (Out 1 (kk slices_IndexFunc_api_Cell_api_Cell_f1_twin_Take_1_x1_k) (SS (slices_IndexFunc_api_Cell_api_Cell_f1_twin_Take_1_x1_H qs qf) (slices_IndexFunc_api_Cell_api_Cell_f1_twin_Take_1_x1_S qs qf)) r) (slices_IndexFunc_api_Cell_api_Cell_f1_twin_Take_1_x1_H qs qf vx) := by
  unfold slices_IndexFunc_api_Cell_api_Cell_f1_twin_Take_1_x1 at hF
  refine awp_seq ?_
  refine awp_region ?_
  refine aR 1 ?_
  refine aE ?_
  refine awp_seq ?_
  refine cE hF (fun h1 hF => ?_) fun h1 hF => ?_
  · refine awp_true (by kernel_rfl) h1 ?_
    refine awp_skip ?_
    refine awp_seq ?_
    refine awp_block ?_
    refine awp_seq ?_
    refine awp_region ?_
    refine aR 2 ?_
    refine aE ?_
    refine awp_seq ?_
    refine bE hF fun vy1 h2 hF => ?_
    refine bE hF fun vr1 h3 hF => ?_
    refine awp_region ?_
    refine aR 3 ?_
    refine aX (x_idx api_Cell.enc h2) ?_
    refine aR 1 ?_
    refine aC (twin_Take_1_ok h3) [] [] [] ?_
    refine aE ?_
    refine cE hF (fun h4 hF => ?_) fun h4 hF => ?_
    · refine awp_true (by kernel_rfl) h4 ?_
      refine awp_seq ?_
      refine awp_region ?_
      refine aR 2 ?_
      refine aE ?_
      refine awp_ret ?_
      exact oO hF [] [] rfl
    · refine awp_false (by kernel_rfl) h4 ?_
      refine awp_skip ?_
      refine awp_region ?_
      refine aR 2 ?_
      refine aE ?_
      exact oO hF [] [] rfl
  · refine awp_false (by kernel_rfl) h1 ?_
    refine awp_exit ?_
    exact oO hF [] [] rfl

def slices_IndexFunc_api_Cell_api_Cell_f1_twin_Take_1_R (qs : List api_Cell) (qf : api_Stamp) (r : Int) : TV × Mem := (.v (.one (.d (.int .i64 r))), ⟨[], [(0, [.d (.int .i64 qf.At), .d (.str qf.By), .d (.int .i64 qf.No)])]⟩)

theorem slices_IndexFunc_api_Cell_api_Cell_f1_twin_Take_1_ok {qs : List api_Cell} {qf : api_Stamp} {r} (hF : slices_IndexFunc_api_Cell_api_Cell_f1_twin_Take_1 qs qf = some r) : Holds prog 152 [.v (.one (.d (.lst (List.map api_Cell.enc qs)))), .v (.one (.fn 128 [0]))] ⟨[], [(0, [.d (.int .i64 qf.At), .d (.str qf.By), .d (.int .i64 qf.No)])]⟩ (Is (slices_IndexFunc_api_Cell_api_Cell_f1_twin_Take_1_R qs qf r)) := by
  unfold slices_IndexFunc_api_Cell_api_Cell_f1_twin_Take_1 at hF
  refine holds_of_awp hΓ (fn := f152) (c := cB f152) (A := 1) (nx := 1) (by kernel_rfl) (by kernel_rfl) (by kernel_rfl) (by kernel_rfl) (by kernel_rfl) (by kernel_rfl) (lowc_of (by kernel_rfl)) ?_
  show Awp prog 1 19 (cB f152) _ _
  refine awp_seq ?_
  refine awp_region ?_
  refine aR 1 ?_
  refine aE ?_
  refine awp_seq ?_
  refine awp_seq ?_
  refine awp_region ?_
  refine aR 1 ?_
  refine aL api_Cell.enc qs ?_
  refine aR 1 ?_
  refine aE ?_
  refine awp_block ?_
  refine awp_to (st' := slices_IndexFunc_api_Cell_api_Cell_f1_twin_Take_1_x1_H qs qf 0) (oT [] []) ?_
  refine bE hF fun x h5 hF => ?_
  rcases x with _ | vx1_1
  · refine awp_sub (awp_loop' (slices_IndexFunc_api_Cell_api_Cell_f1_twin_Take_1_x1_H qs qf) slices_IndexFunc_api_Cell_api_Cell_f1_twin_Take_1_x1_k (slices_IndexFunc_api_Cell_api_Cell_f1_twin_Take_1_x1_S qs qf) (by intro x; rcases x with x | x <;> exact fun h => nomatch h) h5 (slices_IndexFunc_api_Cell_api_Cell_f1_twin_Take_1_x1_ok qs qf)) ?_
    refine awp_seq ?_
    refine awp_region ?_
    refine aR 1 ?_
    refine aE ?_
    refine awp_ret ?_
    exact oF hF [] []
  · refine awp_sub (awp_loop' (slices_IndexFunc_api_Cell_api_Cell_f1_twin_Take_1_x1_H qs qf) slices_IndexFunc_api_Cell_api_Cell_f1_twin_Take_1_x1_k (slices_IndexFunc_api_Cell_api_Cell_f1_twin_Take_1_x1_S qs qf) (by intro x; rcases x with x | x <;> exact fun h => nomatch h) h5 (slices_IndexFunc_api_Cell_api_Cell_f1_twin_Take_1_x1_ok qs qf)) ?_
    exact oF hF [] []

/-! ### slices.ContainsFunc[[]beaconfleet/api.Cell,beaconfleet/api.Cell] -/
def slices_ContainsFunc_api_Cell_api_Cell_f1_twin_Take_1_R (qs : List api_Cell) (qf : api_Stamp) (r : Bool) : TV × Mem := (.v (.one (.d (.bool r))), ⟨[], [(0, [.d (.int .i64 qf.At), .d (.str qf.By), .d (.int .i64 qf.No)])]⟩)

theorem slices_ContainsFunc_api_Cell_api_Cell_f1_twin_Take_1_ok {qs : List api_Cell} {qf : api_Stamp} {r} (hF : slices_ContainsFunc_api_Cell_api_Cell_f1_twin_Take_1 qs qf = some r) : Holds prog 83 [.v (.one (.d (.lst (List.map api_Cell.enc qs)))), .v (.one (.fn 128 [0]))] ⟨[], [(0, [.d (.int .i64 qf.At), .d (.str qf.By), .d (.int .i64 qf.No)])]⟩ (Is (slices_ContainsFunc_api_Cell_api_Cell_f1_twin_Take_1_R qs qf r)) := by
  unfold slices_ContainsFunc_api_Cell_api_Cell_f1_twin_Take_1 at hF
  refine holds_of_awp hΓ (fn := f83) (c := cB f83) (A := 1) (nx := 1) (by kernel_rfl) (by kernel_rfl) (by kernel_rfl) (by kernel_rfl) (by kernel_rfl) (by kernel_rfl) (lowc_of (by kernel_rfl)) ?_
  show Awp prog 1 9 (cB f83) _ _
  refine awp_seq ?_
  refine awp_region ?_
  refine aR 1 ?_
  refine aE ?_
  refine awp_seq ?_
  refine bE hF fun vr2 h1 hF => ?_
  refine awp_region ?_
  refine aR 2 ?_
  refine aC (slices_IndexFunc_api_Cell_api_Cell_f1_twin_Take_1_ok h1) [] [] [] ?_
  refine aR 2 ?_
  refine aE ?_
  refine awp_ret ?_
  exact oF hF [] []

/-! ### beaconfleet/twin.merged -/
def twin_merged_o1_x2_k : Bool → AEx
  | _ => .normal

def twin_merged_o1_x2_S (vr : List api_Cell) (vr2 : Int) : Bool → St
  | vx => Mem.st ⟨[(1, ⟨49, 8, List.map api_Cell.enc vr⟩)], []⟩ (tl [(6, .v (.one (.own 1 none))), (7, .v (.one (.d (.int .i64 vr2)))), (20, .v (.one (.d (.bool vx))))]) 2

def twin_merged_o1_x2_I (vr : List api_Cell) (vr2 : Int) : St := Mem.st ⟨[(1, ⟨49, 8, List.map api_Cell.enc vr⟩)], []⟩ (tl [(6, .v (.one (.own 1 none))), (7, .v (.one (.d (.int .i64 vr2))))]) 2

theorem twin_merged_o1_x2_ok (vr : List api_Cell) (vr2 : Int) {r} (hF : twin_merged_o1_x2 vr vr2 = some r) : Awp prog 1 25 (cL (cL (cR (cR (cB f117))))) (Out 1 twin_merged_o1_x2_k (twin_merged_o1_x2_S vr vr2) r) (twin_merged_o1_x2_I vr vr2) := by
  unfold twin_merged_o1_x2 at hF
  refine cE hF (fun h2 hF => ?_) fun h2 hF => ?_
  · refine awp_region ?_
    refine aR 1 ?_
    refine aB h2 ?_
    refine aR 2 ?_
    refine aL api_Cell.enc vr ?_
    refine aR 2 ?_
    refine aE ?_
    exact oO hF [] [] rfl
  · refine awp_region ?_
    refine aR 1 ?_
    refine aB h2 ?_
    refine aR 5 ?_
    refine aE ?_
    exact oO hF [] [] rfl

def twin_merged_o1_x1_k : Int → AEx
  | _ => .normal

def twin_merged_o1_x1_S (vr : List api_Cell) (vr2 : Int) : Int → St
  | ve => Mem.st ⟨[(1, ⟨49, 8, List.map api_Cell.enc vr⟩)], []⟩ (tl [(6, .v (.one (.own 1 none))), (7, .v (.one (.d (.int .i64 ve))))]) 2

def twin_merged_o1_x1_I (vr : List api_Cell) (vr2 : Int) : St := Mem.st ⟨[(1, ⟨49, 8, List.map api_Cell.enc vr⟩)], []⟩ (tl [(6, .v (.one (.own 1 none))), (7, .v (.one (.d (.int .i64 vr2))))]) 2

theorem twin_merged_o1_x1_ok (vr : List api_Cell) (vr2 : Int) {r} (hF : twin_merged_o1_x1 vr vr2 = some r) : Awp prog 1 25 (cL (cR (cR (cB f117)))) (Out 1 twin_merged_o1_x1_k (twin_merged_o1_x1_S vr vr2) r) (twin_merged_o1_x1_I vr vr2) := by
  unfold twin_merged_o1_x1 at hF
  refine awp_seq ?_
  refine awp_to (st' := twin_merged_o1_x2_I vr vr2) (oT [] []) ?_
  refine bE hF fun vx1 h3 hF => ?_
  refine awp_sub (twin_merged_o1_x2_ok vr vr2 h3) ?_
  refine cE hF (fun h4 hF => ?_) fun h4 hF => ?_
  · refine awp_true (by kernel_rfl) h4 ?_
    refine awp_region ?_
    refine aR 1 ?_
    refine aE ?_
    exact oO hF [] [] rfl
  · refine awp_false (by kernel_rfl) h4 ?_
    refine awp_skip ?_
    exact oO hF [] [] rfl

def twin_merged_o1_R (qa : List api_Cell) (qb : List api_Cell) (r : (List api_Cell) × Int) : TV × Mem := (.tup [.one (.own 1 none), .one (.d (.int .i64 r.2))], ⟨[(1, ⟨49, 8, List.map api_Cell.enc r.1⟩)], []⟩)

theorem twin_merged_o1_ok {qa : List api_Cell} {qb : List api_Cell} {r} (hF : twin_merged_o1 qa qb = some r) : Holds prog 117 [.v (.one (.d (.lst (List.map api_Cell.enc qa)))), .v (.one (.own 0 none))] ⟨[(0, ⟨49, 8, List.map api_Cell.enc qb⟩)], []⟩ (Is (twin_merged_o1_R qa qb r)) := by
  unfold twin_merged_o1 at hF
  refine holds_of_awp hΓ (fn := f117) (c := cB f117) (A := 1) (nx := 1) (by kernel_rfl) (by kernel_rfl) (by kernel_rfl) (by kernel_rfl) (by kernel_rfl) (by kernel_rfl) (lowc_of (by kernel_rfl)) ?_
  show Awp prog 1 25 (cB f117) _ _
  refine awp_seq ?_
  refine awp_region ?_
  refine aR 2 ?_
  refine aE ?_
  refine awp_to (oT (m := ⟨[], []⟩) (ts := [(0, .v (.one (.d (.lst (List.map api_Cell.enc qa))))), (1, .v (.one (.d (.lst (List.map api_Cell.enc qb)))))]) (nx := 1) [] []) ?_
  refine awp_seq ?_
  refine bE hF fun x h1 hF => ?_
  obtain ⟨vr, vr2⟩ := x
  refine awp_region ?_
  refine aR 2 ?_
  refine aC (twin_joined_ok h1) [] [] [] ?_
  refine aR 5 ?_
  refine aE ?_
  refine awp_seq ?_
  refine awp_to (st' := twin_merged_o1_x1_I vr vr2) (oT [(1, 2001)] []) ?_
  refine bE hF fun ve1 h5 hF => ?_
  refine awp_sub (twin_merged_o1_x1_ok vr vr2 h5) ?_
  refine awp_seq ?_
  refine awp_seq ?_
  refine awp_region ?_
  refine aR 2 ?_
  refine aE ?_
  refine cE hF (fun h6 hF => ?_) fun h6 hF => ?_
  · refine awp_true (by kernel_rfl) h6 ?_
    refine awp_seq ?_
    refine awp_region ?_
    refine aR 3 ?_
    refine aE ?_
    refine awp_ret ?_
    exact oF hF [] [1]
  · refine awp_false (by kernel_rfl) h6 ?_
    refine awp_skip ?_
    refine awp_seq ?_
    refine awp_region ?_
    refine aR 3 ?_
    refine aE ?_
    refine awp_ret ?_
    exact oF hF [] []

/-! ### slices.Clone[[]beaconfleet/api.Cell,beaconfleet/api.Cell] -/
def slices_Clone_api_Cell_api_Cell_R (qs : List api_Cell) (r : List api_Cell) : TV × Mem := (.v (.one (.own 0 none)), ⟨[(0, ⟨49, 8, List.map api_Cell.enc r⟩)], []⟩)

theorem slices_Clone_api_Cell_api_Cell_ok {qs : List api_Cell} {r} (hF : slices_Clone_api_Cell_api_Cell qs = some r) : Holds prog 130 [.v (.one (.d (.lst (List.map api_Cell.enc qs))))] ⟨[], []⟩ (Is (slices_Clone_api_Cell_api_Cell_R qs r)) := by
  unfold slices_Clone_api_Cell_api_Cell at hF
  refine gE hF fun h1 hF => ?_
  refine holds_of_awp hΓ (fn := f130) (c := cB f130) (A := 0) (nx := 0) (by kernel_rfl) (by kernel_rfl) (by kernel_rfl) (by kernel_rfl) (by kernel_rfl) (by kernel_rfl) (lowc_of (by kernel_rfl)) ?_
  show Awp prog 0 8 (cB f130) _ _
  refine awp_seq ?_
  refine awp_region ?_
  refine aR 1 ?_
  refine aE ?_
  refine awp_seq ?_
  refine awp_seq ?_
  refine awp_region ?_
  refine aR 1 ?_
  refine aN api_Cell.enc qs (fun b hb => ?_) rfl
  refine aE ?_
  cases b with
  | true =>
    obtain rfl := hb rfl
    refine awp_true (by kernel_rfl) rfl ?_
    refine awp_seq ?_
    refine awp_region ?_
    refine aR 1 ?_
    refine aE ?_
    refine awp_ret ?_
    exact oF hF [] [0]
  | false =>
    refine awp_false (by kernel_rfl) rfl ?_
    refine awp_skip ?_
    refine awp_seq ?_
    refine awp_region ?_
    refine aR 2 ?_
    refine aX (x_app api_Cell.enc 3000 h1) ?_
    refine aR 1 ?_
    refine aE ?_
    refine awp_ret ?_
    exact oF hF [(0, 5000)] []

/-! ### beaconfleet/twin.Take -/
def twin_Take_x1_k : (List api_Cell) → AEx
  | _ => .exit 0

def twin_Take_x1_S (qt : api_Twin) (qc : List api_Change) (qs : api_Stamp) : (List api_Cell) → St
  | vl1 => Mem.st ⟨[(2, ⟨49, 8, List.map api_Cell.enc vl1⟩)], [(0, [.d (.lst (List.map api_Cell.enc qt.Desired)), .d (.lst (List.map api_Cell.enc qt.Reported))]), (1, [.nil, .nil])]⟩ (tl [(3, .v (.one (.box 0 0))), (6, .v (.one (.box 1 0))), (9, .v (.one (.own 2 none)))]) 3

def twin_Take_x1_H (qt : api_Twin) (qc : List api_Change) (qs : api_Stamp) : (List api_Cell) × Int → St
  | (vl, vx) => Mem.st ⟨[(3, ⟨49, 8, List.map api_Cell.enc vl⟩)], [(0, [.d (.lst (List.map api_Cell.enc qt.Desired)), .d (.lst (List.map api_Cell.enc qt.Reported))]), (1, [.d (.int .i64 qs.At), .d (.str qs.By), .d (.int .i64 qs.No)]), (2, [.nil, .nil])]⟩ (tl [(3, .v (.one (.box 0 0))), (5, .v (.one (.box 1 0))), (6, .v (.one (.box 2 0))), (9, .v (.one (.own 3 none))), (31, .v (.one (.d (.lst (List.map api_Change.enc qc))))), (32, .v (.one (.d (.int .i64 (qc.length : Int))))), (33, .v (.one (.d (.int .i64 vx))))]) 4

theorem twin_Take_x1_ok (qt : api_Twin) (qc : List api_Change) (qs : api_Stamp) (s : (List api_Cell) × Int) (r : ((List api_Cell) × Int) ⊕ ((List api_Cell))) (hF : twin_Take_x1 qc qs s = some r) : Awp prog 0 64 (cL (cL (cR (cL (cR (cR (cR (cR (cB f62))))))))) (Out 0 (kk twin_Take_x1_k) (SS (twin_Take_x1_H qt qc qs) (twin_Take_x1_S qt qc qs)) r) (twin_Take_x1_H qt qc qs s) := by
  obtain ⟨vl, vx⟩ := s
  unfold twin_Take_x1 at hF
  refine awp_seq ?_
  refine awp_region ?_
  refine aR 1 ?_
  refine aE ?_
  refine awp_seq ?_
  refine cE hF (fun h8 hF => ?_) fun h8 hF => ?_
  · refine awp_true (by kernel_rfl) h8 ?_
    refine awp_skip ?_
    refine awp_seq ?_
    refine awp_block ?_
    refine awp_seq ?_
    refine bE hF fun vy1 h9 hF => ?_
    refine awp_region ?_
    refine aX (x_idx api_Change.enc h9) ?_
    refine aR 3 ?_
    refine aE ?_
    refine gE hF fun h10 hF => ?_
    refine awp_region ?_
    refine aR 9 ?_
    refine aX (x_app api_Cell.enc 3 h10) ?_
    refine aR 1 ?_
    refine aE ?_
    refine awp_region ?_
    refine aR 2 ?_
    refine aE ?_
    exact oO hF [(3, 14004)] [] rfl
  · refine awp_false (by kernel_rfl) h8 ?_
    refine awp_exit ?_
    exact oO hF [(1, 2), (2, 3)] [] rfl

def twin_Take_R (qt : api_Twin) (qc : List api_Change) (qs : api_Stamp) (r : (List api_Cell) × (List api_Cell) × Int) : TV × Mem := (.tup [.agg [.own 0 none, .d (.lst (List.map api_Cell.enc r.2.1))], .one (.d (.int .i64 r.2.2))], ⟨[(0, ⟨49, 8, List.map api_Cell.enc r.1⟩)], []⟩)

theorem twin_Take_ok {qt : api_Twin} {qc : List api_Change} {qs : api_Stamp} {r} (hF : twin_Take qt qc qs = some r) : Holds prog 62 [.v (.agg [.d (.lst (List.map api_Cell.enc qt.Desired)), .d (.lst (List.map api_Cell.enc qt.Reported))]), .v (.one (.d (.lst (List.map api_Change.enc qc)))), .v (.agg [.d (.int .i64 qs.At), .d (.str qs.By), .d (.int .i64 qs.No)])] ⟨[], []⟩ (Is (twin_Take_R qt qc qs r)) := by
  unfold twin_Take at hF
  refine holds_of_awp hΓ (fn := f62) (c := cB f62) (A := 0) (nx := 0) (by kernel_rfl) (by kernel_rfl) (by kernel_rfl) (by kernel_rfl) (by kernel_rfl) (by kernel_rfl) (lowc_of (by kernel_rfl)) ?_
  show Awp prog 0 64 (cB f62) _ _
  refine awp_seq ?_
  refine awp_region ?_
  refine aR 4 ?_
  refine aE ?_
  refine awp_seq ?_
  refine awp_seq ?_
  refine bE hF fun vr1 h1 hF => ?_
  refine bE hF fun vr5 h2 hF => ?_
  refine bE hF fun vr3 h3 hF => ?_
  refine bE hF fun vr h4 hF => ?_
  refine aD ?_
  refine dR 1 ?_
  refine dC (twin_twinFault_ok h1) [] [] [] ?_
  refine dR 1 ?_
  refine dC (twin_CheckChanges_ok h2) [] [] [] ?_
  refine dR 1 ?_
  refine dC (twin_stampFault_ok h3) [] [] [] ?_
  refine dR 1 ?_
  refine dC (base_First_ok h4) [] [] [10000] ?_
  refine dR 1 ?_
  refine dE ?_
  refine awp_seq ?_
  refine awp_region ?_
  refine aR 2 ?_
  refine aE ?_
  refine cE hF (fun h5 hF => ?_) fun h5 hF => ?_
  · refine awp_true (by kernel_rfl) h5 ?_
    refine awp_seq ?_
    refine awp_region ?_
    refine aR 4 ?_
    refine aE ?_
    refine awp_ret ?_
    exact oF hF [] [0]
  · refine awp_false (by kernel_rfl) h5 ?_
    refine awp_skip ?_
    refine awp_seq ?_
    refine awp_seq ?_
    refine bE hF fun vr2 h6 hF => ?_
    refine awp_region ?_
    refine aR 3 ?_
    refine aC (slices_ContainsFunc_api_Cell_api_Cell_f1_twin_Take_1_ok h6) [(0, 1000)] [] [] ?_
    refine aE ?_
    refine cE hF (fun h7 hF => ?_) fun h7 hF => ?_
    · refine awp_true (by kernel_rfl) h7 ?_
      refine awp_seq ?_
      refine awp_region ?_
      refine aR 3 ?_
      refine aE ?_
      refine awp_ret ?_
      exact oF hF [] [0]
    · refine awp_false (by kernel_rfl) h7 ?_
      refine awp_skip ?_
      refine awp_seq ?_
      refine awp_region ?_
      refine aR 1 ?_
      refine aE ?_
      refine awp_seq ?_
      refine awp_seq ?_
      refine awp_region ?_
      refine aR 1 ?_
      refine aL api_Change.enc qc ?_
      refine aR 1 ?_
      refine aE ?_
      refine awp_block ?_
      refine awp_to (st' := twin_Take_x1_H qt qc qs ([], 0)) (oT [(1, 1000), (2, 2000)] [3]) ?_
      refine bE hF fun vl1_1 h11 hF => ?_
      refine awp_sub (awp_loop' (twin_Take_x1_H qt qc qs) twin_Take_x1_k (twin_Take_x1_S qt qc qs) (by intro x; exact fun h => nomatch h) h11 (twin_Take_x1_ok qt qc qs)) ?_
      refine awp_seq ?_
      refine bE hF fun x h12 hF => ?_
      obtain ⟨vr1_1, vr3_1⟩ := x
      refine awp_region ?_
      refine aR 3 ?_
      refine aC (twin_merged_o1_ok h12) [(0, 2)] [] [] ?_
      refine aR 5 ?_
      refine aE ?_
      refine awp_to (oT (m := ⟨[], [(0, [.d (.lst (List.map api_Cell.enc qt.Desired)), .d (.lst (List.map api_Cell.enc qt.Reported))]), (1, [.nil, .nil])]⟩) (ts := [(3, .v (.one (.box 0 0))), (6, .v (.one (.box 1 0))), (12, .v (.one (.d (.lst (List.map api_Cell.enc vr1_1))))), (13, .v (.one (.d (.int .i64 vr3_1))))]) (nx := 2) [] []) ?_
      refine awp_seq ?_
      refine awp_seq ?_
      refine awp_region ?_
      refine aR 2 ?_
      refine aE ?_
      refine cE hF (fun h13 hF => ?_) fun h13 hF => ?_
      · refine awp_true (by kernel_rfl) h13 ?_
        refine awp_seq ?_
        refine awp_region ?_
        refine aR 4 ?_
        refine aE ?_
        refine awp_ret ?_
        exact oF hF [] [0]
      · refine awp_false (by kernel_rfl) h13 ?_
        refine awp_skip ?_
        refine awp_seq ?_
        refine bE hF fun vr4 h14 hF => ?_
        refine awp_region ?_
        refine aR 2 ?_
        refine aC (slices_Clone_api_Cell_api_Cell_ok h14) [] [] [] ?_
        refine aR 4 ?_
        refine aE ?_
        refine awp_ret ?_
        exact oF hF [(0, 4002)] []

/-! ### beaconfleet/twin.Settled -/
def twin_Settled_x1_k : Bool → AEx
  | _ => .normal

def twin_Settled_x1_S (vr7 : List api_Change) (vr8 : Int) : Bool → St
  | vx => Mem.st ⟨[], []⟩ (tl [(2, .v (.one (.d (.bool vx)))), (3, .v (.one (.d (.int .i64 vr8))))]) 0

def twin_Settled_x1_I (vr7 : List api_Change) (vr8 : Int) : St := Mem.st ⟨[], []⟩ (tl [(4, .v (.one (.d (.lst (List.map api_Change.enc vr7))))), (5, .v (.one (.d (.int .i64 vr8))))]) 0

theorem twin_Settled_x1_ok (vr7 : List api_Change) (vr8 : Int) {r} (hF : twin_Settled_x1 vr7 vr8 = some r) : Awp prog 0 19 (cL (cR (cR (cB f59)))) (Out 0 twin_Settled_x1_k (twin_Settled_x1_S vr7 vr8) r) (twin_Settled_x1_I vr7 vr8) := by
  unfold twin_Settled_x1 at hF
  refine cE hF (fun h2 hF => ?_) fun h2 hF => ?_
  · refine awp_region ?_
    refine aR 1 ?_
    refine aB h2 ?_
    refine aR 2 ?_
    refine aL api_Change.enc vr7 ?_
    refine aR 5 ?_
    refine aE ?_
    exact oO hF [] [] rfl
  · refine awp_region ?_
    refine aR 1 ?_
    refine aB h2 ?_
    refine aR 8 ?_
    refine aE ?_
    exact oO hF [] [] rfl

def twin_Settled_R (qt : api_Twin) (r : Bool × Int) : TV × Mem := (.tup [.one (.d (.bool r.1)), .one (.d (.int .i64 r.2))], ⟨[], []⟩)

theorem twin_Settled_ok {qt : api_Twin} {r} (hF : twin_Settled qt = some r) : Holds prog 59 [.v (.agg [.d (.lst (List.map api_Cell.enc qt.Desired)), .d (.lst (List.map api_Cell.enc qt.Reported))])] ⟨[], []⟩ (Is (twin_Settled_R qt r)) := by
  unfold twin_Settled at hF
  refine holds_of_awp hΓ (fn := f59) (c := cB f59) (A := 0) (nx := 0) (by kernel_rfl) (by kernel_rfl) (by kernel_rfl) (by kernel_rfl) (by kernel_rfl) (by kernel_rfl) (lowc_of (by kernel_rfl)) ?_
  show Awp prog 0 19 (cB f59) _ _
  refine awp_seq ?_
  refine awp_region ?_
  refine aR 3 ?_
  refine aE ?_
  refine awp_seq ?_
  refine bE hF fun x h1 hF => ?_
  obtain ⟨vr7, vr8⟩ := x
  refine awp_region ?_
  refine aR 1 ?_
  refine aC (twin_Owed_ok h1) [] [] [] ?_
  refine aR 5 ?_
  refine aE ?_
  refine awp_to (oT (m := ⟨[], []⟩) (ts := [(4, .v (.one (.d (.lst (List.map api_Change.enc vr7))))), (5, .v (.one (.d (.int .i64 vr8))))]) (nx := 0) [] []) ?_
  refine awp_seq ?_
  refine awp_to (st' := twin_Settled_x1_I vr7 vr8) (oT [] []) ?_
  refine bE hF fun vx1 h3 hF => ?_
  refine awp_sub (twin_Settled_x1_ok vr7 vr8 h3) ?_
  refine awp_ret ?_
  exact oF hF [] []

/-! ### beaconfleet/twin.Get -/
def twin_Get_R (ql : List api_Prop) (qname : List UInt8) (r : api_Value × Int) : TV × Mem := (.tup [.agg [.d (.int .i64 r.1.Kind), .d (.bool r.1.Flag), .d (.int .i64 r.1.Number), .d (.str r.1.Words)], .one (.d (.int .i64 r.2))], ⟨[], []⟩)

theorem twin_Get_ok {ql : List api_Prop} {qname : List UInt8} {r} (hF : twin_Get ql qname = some r) : Holds prog 34 [.v (.one (.d (.lst (List.map api_Prop.enc ql)))), .v (.one (.d (.str qname)))] ⟨[], []⟩ (Is (twin_Get_R ql qname r)) := by
  unfold twin_Get at hF
  refine holds_of_awp hΓ (fn := f34) (c := cB f34) (A := 0) (nx := 0) (by kernel_rfl) (by kernel_rfl) (by kernel_rfl) (by kernel_rfl) (by kernel_rfl) (by kernel_rfl) (lowc_of (by kernel_rfl)) ?_
  show Awp prog 0 20 (cB f34) _ _
  refine awp_seq ?_
  refine awp_region ?_
  refine aR 2 ?_
  refine aE ?_
  refine awp_seq ?_
  refine awp_seq ?_
  refine bE hF fun vr3 h1 hF => ?_
  refine awp_region ?_
  refine aR 1 ?_
  refine aC (twin_CheckProps_ok h1) [] [] [] ?_
  refine aR 1 ?_
  refine aE ?_
  refine awp_seq ?_
  refine awp_region ?_
  refine aR 2 ?_
  refine aE ?_
  refine cE hF (fun h2 hF => ?_) fun h2 hF => ?_
  · refine awp_true (by kernel_rfl) h2 ?_
    refine awp_seq ?_
    refine awp_region ?_
    refine aR 4 ?_
    refine aE ?_
    refine awp_ret ?_
    exact oF hF [] []
  · refine awp_false (by kernel_rfl) h2 ?_
    refine awp_skip ?_
    refine awp_seq ?_
    refine awp_seq ?_
    refine bE hF fun vr h3 hF => ?_
    refine awp_region ?_
    refine aR 1 ?_
    refine aC (twin_isName_ok h3) [] [] [] ?_
    refine aR 1 ?_
    refine aE ?_
    refine cE hF (fun h4 hF => ?_) fun h4 hF => ?_
    · refine awp_true (by kernel_rfl) h4 ?_
      refine awp_seq ?_
      refine awp_region ?_
      refine aR 3 ?_
      refine aE ?_
      refine awp_ret ?_
      exact oF hF [] []
    · refine awp_false (by kernel_rfl) h4 ?_
      refine awp_skip ?_
      refine awp_seq ?_
      refine bE hF fun vr1 h5 hF => ?_
      refine awp_region ?_
      refine aR 2 ?_
      refine aC (twin_valueOf_ok h5) [] [] [] ?_
      refine aR 2 ?_
      refine aE ?_
      refine awp_ret ?_
      exact oF hF [] []

/-! ### beaconfleet/fleetkeep2.TwinsComeToRest -/
def fleetkeep2_TwinsComeToRest_x1_k : Bool → AEx
  | _ => .normal

def fleetkeep2_TwinsComeToRest_x1_S (vr8 : Int) (vr8_1 : Int) (vr2 : Bool) (vr1_1 : Int) (vr1_2 : List api_Prop) (vr2_1 : Int) (vr1_3 : List api_Prop) (vr2_2 : Int) : Bool → St
  | vx => Mem.st ⟨[], []⟩ (tl [(11, .v (.one (.d (.lst (List.map api_Prop.enc vr1_2))))), (13, .v (.one (.d (.lst (List.map api_Prop.enc vr1_3))))), (64, .v (.one (.d (.bool vx))))]) 0

def fleetkeep2_TwinsComeToRest_x1_I (vr8 : Int) (vr8_1 : Int) (vr2 : Bool) (vr1_1 : Int) (vr1_2 : List api_Prop) (vr2_1 : Int) (vr1_3 : List api_Prop) (vr2_2 : Int) : St := Mem.st ⟨[], []⟩ (tl [(6, .v (.one (.d (.int .i64 vr8)))), (8, .v (.one (.d (.int .i64 vr8_1)))), (9, .v (.one (.d (.bool vr2)))), (10, .v (.one (.d (.int .i64 vr1_1)))), (11, .v (.one (.d (.lst (List.map api_Prop.enc vr1_2))))), (12, .v (.one (.d (.int .i64 vr2_1)))), (13, .v (.one (.d (.lst (List.map api_Prop.enc vr1_3))))), (14, .v (.one (.d (.int .i64 vr2_2))))]) 0

theorem fleetkeep2_TwinsComeToRest_x1_ok (vr8 : Int) (vr8_1 : Int) (vr2 : Bool) (vr1_1 : Int) (vr1_2 : List api_Prop) (vr2_1 : Int) (vr1_3 : List api_Prop) (vr2_2 : Int) {r} (hF : fleetkeep2_TwinsComeToRest_x1 vr8 vr8_1 vr2 vr1_1 vr2_1 vr2_2 = some r) : Awp prog 0 88 (cL (cL (cR (cR (cR (cR (cR (cR (cR (cR (cB f12))))))))))) (Out 0 fleetkeep2_TwinsComeToRest_x1_k (fleetkeep2_TwinsComeToRest_x1_S vr8 vr8_1 vr2 vr1_1 vr1_2 vr2_1 vr1_3 vr2_2) r) (fleetkeep2_TwinsComeToRest_x1_I vr8 vr8_1 vr2 vr1_1 vr1_2 vr2_1 vr1_3 vr2_2) := by
  unfold fleetkeep2_TwinsComeToRest_x1 at hF
  refine bE hF fun vr3 h7 hF => ?_
  refine cE hF (fun h8 hF => ?_) fun h8 hF => ?_
  · refine awp_region ?_
    refine aR 6 ?_
    refine aC (fleetkeep2_errs_ok h7) [] [] [5000] ?_
    refine aB h8 ?_
    refine aR 4 ?_
    refine aE ?_
    exact oO hF [] [] rfl
  · refine awp_region ?_
    refine aR 6 ?_
    refine aC (fleetkeep2_errs_ok h7) [] [] [5000] ?_
    refine aB h8 ?_
    refine aR 4 ?_
    refine aE ?_
    exact oO hF [] [] rfl

def fleetkeep2_TwinsComeToRest_x3_k : Bool → AEx
  | _ => .normal

def fleetkeep2_TwinsComeToRest_x3_S (vr1_2 : List api_Prop) (vr1_3 : List api_Prop) (vx2 : Int) (vy1 : api_Prop) (vr2_4 : api_Value) (vr4_1 : Int) : Bool → St
  | vx4 => Mem.st ⟨[], []⟩ (tl [(13, .v (.one (.d (.lst (List.map api_Prop.enc vr1_3))))), (65, .v (.one (.d (.lst (List.map api_Prop.enc vr1_2))))), (66, .v (.one (.d (.int .i64 (vr1_2.length : Int))))), (67, .v (.one (.d (.int .i64 vx2)))), (85, .v (.one (.d (.bool vx4))))]) 0

def fleetkeep2_TwinsComeToRest_x3_I (vr1_2 : List api_Prop) (vr1_3 : List api_Prop) (vx2 : Int) (vy1 : api_Prop) (vr2_4 : api_Value) (vr4_1 : Int) : St := Mem.st ⟨[], [(0, [.d (.str vy1.Name), .d (.int .i64 vy1.Value.Kind), .d (.bool vy1.Value.Flag), .d (.int .i64 vy1.Value.Number), .d (.str vy1.Value.Words)]), (1, [.d (.int .i64 vr2_4.Kind), .d (.bool vr2_4.Flag), .d (.int .i64 vr2_4.Number), .d (.str vr2_4.Words)])]⟩ (tl [(13, .v (.one (.d (.lst (List.map api_Prop.enc vr1_3))))), (16, .v (.one (.box 0 0))), (17, .v (.one (.box 1 0))), (18, .v (.one (.d (.int .i64 vr4_1)))), (65, .v (.one (.d (.lst (List.map api_Prop.enc vr1_2))))), (66, .v (.one (.d (.int .i64 (vr1_2.length : Int))))), (67, .v (.one (.d (.int .i64 vx2))))]) 2

theorem fleetkeep2_TwinsComeToRest_x3_ok (vr1_2 : List api_Prop) (vr1_3 : List api_Prop) (vx2 : Int) (vy1 : api_Prop) (vr2_4 : api_Value) (vr4_1 : Int) {r} (hF : fleetkeep2_TwinsComeToRest_x3 vy1 vr2_4 vr4_1 = some r) : Awp prog 0 88 (cL (cR (cR (cL (cL (cR (cR (cL (cL (cR (cL (cR (cR (cR (cR (cR (cR (cR (cR (cR (cB f12))))))))))))))))))))) (Out 0 fleetkeep2_TwinsComeToRest_x3_k (fleetkeep2_TwinsComeToRest_x3_S vr1_2 vr1_3 vx2 vy1 vr2_4 vr4_1) r) (fleetkeep2_TwinsComeToRest_x3_I vr1_2 vr1_3 vx2 vy1 vr2_4 vr4_1) := by
  unfold fleetkeep2_TwinsComeToRest_x3 at hF
  refine cE hF (fun h14 hF => ?_) fun h14 hF => ?_
  · refine awp_region ?_
    refine aR 1 ?_
    refine aB h14 ?_
    refine aR 6 ?_
    refine aE ?_
    exact oO hF [] [] rfl
  · refine awp_region ?_
    refine aR 1 ?_
    refine aB h14 ?_
    refine aR 4 ?_
    refine aS (does_eqS (op := .neq) (xs := [.int .i64 vr2_4.Kind, .bool vr2_4.Flag, .int .i64 vr2_4.Number, .str vr2_4.Words]) (ys := [.int .i64 vy1.Value.Kind, .bool vy1.Value.Flag, .int .i64 vy1.Value.Number, .str vy1.Value.Words]) (b := (decide (vr2_4.Kind = vy1.Value.Kind) && ((vr2_4.Flag == vy1.Value.Flag) && (decide (vr2_4.Number = vy1.Value.Number) && (decide (vr2_4.Words = vy1.Value.Words) && true))))) (c := (!(decide (vr2_4.Kind = vy1.Value.Kind) && ((vr2_4.Flag == vy1.Value.Flag) && (decide (vr2_4.Number = vy1.Value.Number) && (decide (vr2_4.Words = vy1.Value.Words) && true)))))) rfl (.inr ⟨rfl, rfl⟩) (by kernel_rfl) (by kernel_rfl) (by kernel_rfl) (by kernel_rfl) (by kernel_rfl) (by kernel_rfl)) ?_
    refine aR 1 ?_
    refine aE ?_
    exact oO hF [] [] rfl

def fleetkeep2_TwinsComeToRest_x2_k : Unit ⊕ Unit → AEx
  | .inl _ => .exit 0
  | .inr _ => .ret

def fleetkeep2_TwinsComeToRest_x2_S (vr1_2 : List api_Prop) (vr1_3 : List api_Prop) : Unit ⊕ Unit → St
  | .inl _ => Mem.st ⟨[], []⟩ (tl []) 0
  | .inr _ => Mem.st ⟨[], []⟩ (tl [(2, .v (.one (.d (.bool false))))]) 0

def fleetkeep2_TwinsComeToRest_x2_H (vr1_2 : List api_Prop) (vr1_3 : List api_Prop) : Int → St
  | vx2 => Mem.st ⟨[], []⟩ (tl [(13, .v (.one (.d (.lst (List.map api_Prop.enc vr1_3))))), (65, .v (.one (.d (.lst (List.map api_Prop.enc vr1_2))))), (66, .v (.one (.d (.int .i64 (vr1_2.length : Int))))), (67, .v (.one (.d (.int .i64 vx2))))]) 0

theorem fleetkeep2_TwinsComeToRest_x2_ok (vr1_2 : List api_Prop) (vr1_3 : List api_Prop) (vx2 : Int) (r : (Int) ⊕ (Unit ⊕ Unit)) (hF : fleetkeep2_TwinsComeToRest_x2 vr1_2 vr1_3 vx2 = some r) : Awp prog 0 88 (cL (cL (cR (cL (cR (cR (cR (cR (cR (cR (cR (cR (cR (cB f12)))))))))))))) (Out 0 (kk fleetkeep2_TwinsComeToRest_x2_k) (SS (fleetkeep2_TwinsComeToRest_x2_H vr1_2 vr1_3) (fleetkeep2_TwinsComeToRest_x2_S vr1_2 vr1_3)) r) (fleetkeep2_TwinsComeToRest_x2_H vr1_2 vr1_3 vx2) := by
  unfold fleetkeep2_TwinsComeToRest_x2 at hF
  refine awp_seq ?_
  refine awp_region ?_
  refine aR 1 ?_
  refine aE ?_
  refine awp_seq ?_
  refine cE hF (fun h11 hF => ?_) fun h11 hF => ?_
  · refine awp_true (by kernel_rfl) h11 ?_
    refine awp_skip ?_
    refine awp_seq ?_
    refine awp_block ?_
    refine awp_seq ?_
    refine bE hF fun vy1 h12 hF => ?_
    refine awp_region ?_
    refine aX (x_idx api_Prop.enc h12) ?_
    refine aR 3 ?_
    refine aE ?_
    refine awp_seq ?_
    refine bE hF fun x h13 hF => ?_
    obtain ⟨vr2_4, vr4_1⟩ := x
    refine awp_region ?_
    refine aR 3 ?_
    refine aC (twin_Get_ok h13) [] [] [] ?_
    refine aR 6 ?_
    refine aE ?_
    refine awp_seq ?_
    refine awp_to (st' := fleetkeep2_TwinsComeToRest_x3_I vr1_2 vr1_3 vx2 vy1 vr2_4 vr4_1) (oT [(0, 3000), (1, 12000)] []) ?_
    refine bE hF fun vx4_1 h15 hF => ?_
    refine awp_sub (fleetkeep2_TwinsComeToRest_x3_ok vr1_2 vr1_3 vx2 vy1 vr2_4 vr4_1 h15) ?_
    refine cE hF (fun h16 hF => ?_) fun h16 hF => ?_
    · refine awp_true (by kernel_rfl) h16 ?_
      refine awp_seq ?_
      refine awp_region ?_
      refine aR 1 ?_
      refine aE ?_
      refine awp_ret ?_
      exact oO hF [] [] rfl
    · refine awp_false (by kernel_rfl) h16 ?_
      refine awp_skip ?_
      refine awp_region ?_
      refine aR 2 ?_
      refine aE ?_
      exact oO hF [] [] rfl
  · refine awp_false (by kernel_rfl) h11 ?_
    refine awp_exit ?_
    exact oO hF [] [] rfl

def fleetkeep2_TwinsComeToRest_R (qx : List Int) (r : Bool) : TV × Mem := (.v (.one (.d (.bool r))), ⟨[], []⟩)

theorem fleetkeep2_TwinsComeToRest_ok {qx : List Int} {r} (hF : fleetkeep2_TwinsComeToRest qx = some r) : Holds prog 12 [.v (.one (.d (.lst (List.map (encI .i64) qx))))] ⟨[], []⟩ (Is (fleetkeep2_TwinsComeToRest_R qx r)) := by
  unfold fleetkeep2_TwinsComeToRest at hF
  refine holds_of_awp hΓ (fn := f12) (c := cB f12) (A := 0) (nx := 0) (by kernel_rfl) (by kernel_rfl) (by kernel_rfl) (by kernel_rfl) (by kernel_rfl) (by kernel_rfl) (lowc_of (by kernel_rfl)) ?_
  show Awp prog 0 88 (cB f12) _ _
  refine awp_seq ?_
  refine awp_region ?_
  refine aR 1 ?_
  refine aE ?_
  refine awp_seq ?_
  refine awp_region ?_
  refine aR 4 ?_
  refine aE ?_
  refine awp_seq ?_
  refine bE hF fun x h1 hF => ?_
  obtain ⟨vs, vr, vr1⟩ := x
  refine awp_region ?_
  refine aR 1 ?_
  refine aC (fleetmake_Stream_RightTwin_ok h1) [(0, 3000)] [] [] ?_
  refine aR 2 ?_
  refine aE ?_
  refine awp_seq ?_
  refine bE hF fun x h2 hF => ?_
  obtain ⟨vr7, vr8⟩ := x
  refine awp_to (oT (m := ⟨[(6002, ⟨49, 8, List.map api_Cell.enc vr1⟩)], [(3000, [.d (.lst (List.map (encI .i64) vs.L)), .d (.int .i64 vs.at_)]), (7000, [.d (.lst (List.map api_Cell.enc vr)), .own 6002 none])]⟩) (ts := [(4, .v (.one (.box 7000 0)))]) (nx := 9000) [] []) ?_
  refine awp_to (oT (m := ⟨[], [(3000, [.d (.lst (List.map (encI .i64) vs.L)), .d (.int .i64 vs.at_)]), (7000, [.d (.lst (List.map api_Cell.enc vr)), .d (.lst (List.map api_Cell.enc vr1))])]⟩) (ts := [(4, .v (.one (.box 7000 0)))]) (nx := 9000) [] []) ?_
  refine awp_region ?_
  refine aR 1 ?_
  refine aC (twin_Owed_ok h2) [] [] [] ?_
  refine aR 5 ?_
  refine aE ?_
  refine awp_to (oT (m := ⟨[], [(0, [.d (.lst (List.map api_Cell.enc vr)), .d (.lst (List.map api_Cell.enc vr1))])]⟩) (ts := [(4, .v (.one (.box 0 0))), (5, .v (.one (.d (.lst (List.map api_Change.enc vr7))))), (6, .v (.one (.d (.int .i64 vr8))))]) (nx := 1) [(0, 7000)] []) ?_
  refine awp_seq ?_
  refine bE hF fun x h3 hF => ?_
  obtain ⟨vr6, vr7_1, vr8_1⟩ := x
  refine awp_region ?_
  refine aR 3 ?_
  refine aC (twin_Take_ok h3) [] [] [] ?_
  refine aR 6 ?_
  refine aE ?_
  refine awp_seq ?_
  refine bE hF fun x h4 hF => ?_
  obtain ⟨vr2, vr1_1⟩ := x
  refine awp_region ?_
  refine aR 1 ?_
  refine aC (twin_Settled_ok h4) [] [] [3001] ?_
  refine aR 5 ?_
  refine aE ?_
  refine awp_seq ?_
  refine bE hF fun x h5 hF => ?_
  obtain ⟨vr1_2, vr2_1⟩ := x
  refine awp_region ?_
  refine aR 2 ?_
  refine aC (twin_Visible_ok h5) [] [] [] ?_
  refine aR 5 ?_
  refine aE ?_
  refine awp_to (oT (m := ⟨[(1, ⟨49, 8, List.map api_Cell.enc vr6⟩)], [(0, [.own 1 none, .d (.lst (List.map api_Cell.enc vr7_1))])]⟩) (ts := [(6, .v (.one (.d (.int .i64 vr8)))), (7, .v (.one (.box 0 0))), (8, .v (.one (.d (.int .i64 vr8_1)))), (9, .v (.one (.d (.bool vr2)))), (10, .v (.one (.d (.int .i64 vr1_1)))), (11, .v (.one (.d (.lst (List.map api_Prop.enc vr1_2))))), (12, .v (.one (.d (.int .i64 vr2_1))))]) (nx := 2) [(0, 7001), (1, 3001)] []) ?_
  refine awp_seq ?_
  refine bE hF fun x h6 hF => ?_
  obtain ⟨vr1_3, vr2_2⟩ := x
  refine awp_region ?_
  refine aR 2 ?_
  refine aC (twin_Visible_ok h6) [] [] [] ?_
  refine aR 5 ?_
  refine aE ?_
  refine awp_to (oT (m := ⟨[], []⟩) (ts := [(6, .v (.one (.d (.int .i64 vr8)))), (8, .v (.one (.d (.int .i64 vr8_1)))), (9, .v (.one (.d (.bool vr2)))), (10, .v (.one (.d (.int .i64 vr1_1)))), (11, .v (.one (.d (.lst (List.map api_Prop.enc vr1_2))))), (12, .v (.one (.d (.int .i64 vr2_1)))), (13, .v (.one (.d (.lst (List.map api_Prop.enc vr1_3))))), (14, .v (.one (.d (.int .i64 vr2_2))))]) (nx := 0) [] []) ?_
  refine awp_seq ?_
  refine awp_seq ?_
  refine awp_to (st' := fleetkeep2_TwinsComeToRest_x1_I vr8 vr8_1 vr2 vr1_1 vr1_2 vr2_1 vr1_3 vr2_2) (oT [] []) ?_
  refine bE hF fun vx1 h9 hF => ?_
  refine awp_sub (fleetkeep2_TwinsComeToRest_x1_ok vr8 vr8_1 vr2 vr1_1 vr1_2 vr2_1 vr1_3 vr2_2 h9) ?_
  refine cE hF (fun h10 hF => ?_) fun h10 hF => ?_
  · refine awp_true (by kernel_rfl) h10 ?_
    refine awp_seq ?_
    refine awp_region ?_
    refine aR 1 ?_
    refine aE ?_
    refine awp_ret ?_
    exact oF hF [] []
  · refine awp_false (by kernel_rfl) h10 ?_
    refine awp_skip ?_
    refine awp_seq ?_
    refine awp_seq ?_
    refine awp_region ?_
    refine aR 1 ?_
    refine aL api_Prop.enc vr1_2 ?_
    refine aR 1 ?_
    refine aE ?_
    refine awp_block ?_
    refine awp_to (st' := fleetkeep2_TwinsComeToRest_x2_H vr1_2 vr1_3 0) (oT [] []) ?_
    refine bE hF fun x h17 hF => ?_
    rcases x with _ | _
    · refine awp_sub (awp_loop' (fleetkeep2_TwinsComeToRest_x2_H vr1_2 vr1_3) fleetkeep2_TwinsComeToRest_x2_k (fleetkeep2_TwinsComeToRest_x2_S vr1_2 vr1_3) (by intro x; rcases x with x | x <;> exact fun h => nomatch h) h17 (fleetkeep2_TwinsComeToRest_x2_ok vr1_2 vr1_3)) ?_
      refine awp_seq ?_
      refine bE hF fun vr9 h18 hF => ?_
      refine awp_region ?_
      refine aC (fleetkeep2_ready_ok h18) [] [] [] ?_
      refine aR 1 ?_
      refine aE ?_
      refine awp_ret ?_
      exact oF hF [] []
    · refine awp_sub (awp_loop' (fleetkeep2_TwinsComeToRest_x2_H vr1_2 vr1_3) fleetkeep2_TwinsComeToRest_x2_k (fleetkeep2_TwinsComeToRest_x2_S vr1_2 vr1_3) (by intro x; rcases x with x | x <;> exact fun h => nomatch h) h17 (fleetkeep2_TwinsComeToRest_x2_ok vr1_2 vr1_3)) ?_
      exact oF hF [] []

end Go.Eng
