/-
The code of the Go functions that the law ChangesLead reaches does what the plain functions say, part 3.
-/
import Derived.Test.YtaelfnlccccinaaGreatDoorGenP2

namespace Go.Eng

open Go Go.Proofs.Tryz

set_option linter.unusedVariables false

set_option maxRecDepth 20000

set_option maxHeartbeats 0

/-! ### slices.IndexFunc[[]beaconfleet/api.Letter,beaconfleet/api.Letter] -/
def slices_IndexFunc_api_Letter_api_Letter_f1_command_Order_1_x1_k : Unit ⊕ Int → AEx
  | .inl _ => .exit 0
  | .inr _ => .ret

def slices_IndexFunc_api_Letter_api_Letter_f1_command_Order_1_x1_S (qs : List api_Letter) (qf : api_Letter) : Unit ⊕ Int → St
  | .inl _ => Mem.st ⟨[], [(0, [.d (.str qf.Id), .d (.str qf.Slot), .d (.str qf.Body), .d (.int .i64 qf.Prio), .d (.int .i64 qf.At), .d (.int .i64 qf.Until)])]⟩ (tl []) 1
  | .inr vx1 => Mem.st ⟨[], [(0, [.d (.str qf.Id), .d (.str qf.Slot), .d (.str qf.Body), .d (.int .i64 qf.Prio), .d (.int .i64 qf.At), .d (.int .i64 qf.Until)])]⟩ (tl [(4, .v (.one (.d (.int .i64 vx1))))]) 1

def slices_IndexFunc_api_Letter_api_Letter_f1_command_Order_1_x1_H (qs : List api_Letter) (qf : api_Letter) : Int → St
  | vx => Mem.st ⟨[], [(0, [.d (.str qf.Id), .d (.str qf.Slot), .d (.str qf.Body), .d (.int .i64 qf.Prio), .d (.int .i64 qf.At), .d (.int .i64 qf.Until)])]⟩ (tl [(0, .v (.one (.d (.lst (List.map api_Letter.enc qs))))), (1, .v (.one (.fn 58 [0]))), (7, .v (.one (.d (.int .i64 (qs.length : Int))))), (8, .v (.one (.d (.int .i64 vx))))]) 1

theorem slices_IndexFunc_api_Letter_api_Letter_f1_command_Order_1_x1_ok (qs : List api_Letter) (qf : api_Letter) (vx : Int) (r : (Int) ⊕ (Unit ⊕ Int)) (hF : slices_IndexFunc_api_Letter_api_Letter_f1_command_Order_1_x1 qs qf vx = some r) : Awp prog 1 19 (cL (cL (cR (cL (cR (cB f95)))))) (Out 1 (kk slices_IndexFunc_api_Letter_api_Letter_f1_command_Order_1_x1_k) (SS (slices_IndexFunc_api_Letter_api_Letter_f1_command_Order_1_x1_H qs qf) (slices_IndexFunc_api_Letter_api_Letter_f1_command_Order_1_x1_S qs qf)) r) (slices_IndexFunc_api_Letter_api_Letter_f1_command_Order_1_x1_H qs qf vx) := by
  unfold slices_IndexFunc_api_Letter_api_Letter_f1_command_Order_1_x1 at hF
  refine awp_seq ?_
  refine awp_region ?_
  refine aR 1 ?_
  refine aE ?_
  refine awp_seq ?_
  refine cE hF (fun h1 hF => ?_) fun h1 hF => ?_
  · refine awp_true (by kernel_rfl) h1 ?_
    refine awp_skip ?_
    refine awp_seq ?_
    refine awp_block ?_
    refine awp_seq ?_
    refine awp_region ?_
    refine aR 2 ?_
    refine aE ?_
    refine awp_seq ?_
    refine bE hF fun vy1 h2 hF => ?_
    refine bE hF fun _ h3 hF => ?_
    refine awp_region ?_
    refine aR 3 ?_
    refine aX (x_idx api_Letter.enc h2) ?_
    refine aR 1 ?_
    refine aC (command_Order_1_ok h3) [] [] [] ?_
    refine aE ?_
    refine cE hF (fun h4 hF => ?_) fun h4 hF => ?_
    · refine awp_true (by kernel_rfl) h4 ?_
      refine awp_seq ?_
      refine awp_region ?_
      refine aR 2 ?_
      refine aE ?_
      refine awp_ret ?_
      exact oO hF [] [] rfl
    · refine awp_false (by kernel_rfl) h4 ?_
      refine awp_skip ?_
      refine awp_region ?_
      refine aR 2 ?_
      refine aE ?_
      exact oO hF [] [] rfl
  · refine awp_false (by kernel_rfl) h1 ?_
    refine awp_exit ?_
    exact oO hF [] [] rfl

def slices_IndexFunc_api_Letter_api_Letter_f1_command_Order_1_R (qs : List api_Letter) (qf : api_Letter) (r : Int) : TV × Mem := (.v (.one (.d (.int .i64 r))), ⟨[], [(0, [.d (.str qf.Id), .d (.str qf.Slot), .d (.str qf.Body), .d (.int .i64 qf.Prio), .d (.int .i64 qf.At), .d (.int .i64 qf.Until)])]⟩)

theorem slices_IndexFunc_api_Letter_api_Letter_f1_command_Order_1_ok {qs : List api_Letter} {qf : api_Letter} {r} (hF : slices_IndexFunc_api_Letter_api_Letter_f1_command_Order_1 qs qf = some r) : Holds prog 95 [.v (.one (.d (.lst (List.map api_Letter.enc qs)))), .v (.one (.fn 58 [0]))] ⟨[], [(0, [.d (.str qf.Id), .d (.str qf.Slot), .d (.str qf.Body), .d (.int .i64 qf.Prio), .d (.int .i64 qf.At), .d (.int .i64 qf.Until)])]⟩ (Is (slices_IndexFunc_api_Letter_api_Letter_f1_command_Order_1_R qs qf r)) := by
  unfold slices_IndexFunc_api_Letter_api_Letter_f1_command_Order_1 at hF
  refine holds_of_awp hΓ (fn := f95) (c := cB f95) (A := 1) (nx := 1) (by kernel_rfl) (by kernel_rfl) (by kernel_rfl) (by kernel_rfl) (by kernel_rfl) (by kernel_rfl) (lowc_of (by kernel_rfl)) ?_
  show Awp prog 1 19 (cB f95) _ _
  refine awp_seq ?_
  refine awp_region ?_
  refine aR 1 ?_
  refine aE ?_
  refine awp_seq ?_
  refine awp_seq ?_
  refine awp_region ?_
  refine aR 1 ?_
  refine aL api_Letter.enc qs ?_
  refine aR 1 ?_
  refine aE ?_
  refine awp_block ?_
  refine awp_to (st' := slices_IndexFunc_api_Letter_api_Letter_f1_command_Order_1_x1_H qs qf 0) (oT [] []) ?_
  refine bE hF fun x h5 hF => ?_
  rcases x with _ | vx1_1
  · refine awp_sub (awp_loop' (slices_IndexFunc_api_Letter_api_Letter_f1_command_Order_1_x1_H qs qf) slices_IndexFunc_api_Letter_api_Letter_f1_command_Order_1_x1_k (slices_IndexFunc_api_Letter_api_Letter_f1_command_Order_1_x1_S qs qf) (by intro x; rcases x with x | x <;> exact fun h => nomatch h) h5 (slices_IndexFunc_api_Letter_api_Letter_f1_command_Order_1_x1_ok qs qf)) ?_
    refine awp_seq ?_
    refine awp_region ?_
    refine aR 1 ?_
    refine aE ?_
    refine awp_ret ?_
    exact oF hF [] []
  · refine awp_sub (awp_loop' (slices_IndexFunc_api_Letter_api_Letter_f1_command_Order_1_x1_H qs qf) slices_IndexFunc_api_Letter_api_Letter_f1_command_Order_1_x1_k (slices_IndexFunc_api_Letter_api_Letter_f1_command_Order_1_x1_S qs qf) (by intro x; rcases x with x | x <;> exact fun h => nomatch h) h5 (slices_IndexFunc_api_Letter_api_Letter_f1_command_Order_1_x1_ok qs qf)) ?_
    exact oF hF [] []

/-! ### slices.ContainsFunc[[]beaconfleet/api.Letter,beaconfleet/api.Letter] -/
def slices_ContainsFunc_api_Letter_api_Letter_f1_command_Order_1_R (qs : List api_Letter) (qf : api_Letter) (r : Bool) : TV × Mem := (.v (.one (.d (.bool r))), ⟨[], [(0, [.d (.str qf.Id), .d (.str qf.Slot), .d (.str qf.Body), .d (.int .i64 qf.Prio), .d (.int .i64 qf.At), .d (.int .i64 qf.Until)])]⟩)

theorem slices_ContainsFunc_api_Letter_api_Letter_f1_command_Order_1_ok {qs : List api_Letter} {qf : api_Letter} {r} (hF : slices_ContainsFunc_api_Letter_api_Letter_f1_command_Order_1 qs qf = some r) : Holds prog 57 [.v (.one (.d (.lst (List.map api_Letter.enc qs)))), .v (.one (.fn 58 [0]))] ⟨[], [(0, [.d (.str qf.Id), .d (.str qf.Slot), .d (.str qf.Body), .d (.int .i64 qf.Prio), .d (.int .i64 qf.At), .d (.int .i64 qf.Until)])]⟩ (Is (slices_ContainsFunc_api_Letter_api_Letter_f1_command_Order_1_R qs qf r)) := by
  unfold slices_ContainsFunc_api_Letter_api_Letter_f1_command_Order_1 at hF
  refine holds_of_awp hΓ (fn := f57) (c := cB f57) (A := 1) (nx := 1) (by kernel_rfl) (by kernel_rfl) (by kernel_rfl) (by kernel_rfl) (by kernel_rfl) (by kernel_rfl) (lowc_of (by kernel_rfl)) ?_
  show Awp prog 1 9 (cB f57) _ _
  refine awp_seq ?_
  refine awp_region ?_
  refine aR 1 ?_
  refine aE ?_
  refine awp_seq ?_
  refine bE hF fun vr h1 hF => ?_
  refine awp_region ?_
  refine aR 2 ?_
  refine aC (slices_IndexFunc_api_Letter_api_Letter_f1_command_Order_1_ok h1) [] [] [] ?_
  refine aR 2 ?_
  refine aE ?_
  refine awp_ret ?_
  exact oF hF [] []

/-! ### slices.Clone[[]beaconfleet/api.Letter,beaconfleet/api.Letter] -/
def slices_Clone_api_Letter_api_Letter_R (qs : List api_Letter) (r : List api_Letter) : TV × Mem := (.v (.one (.own 0 none)), ⟨[(0, ⟨83, 6, List.map api_Letter.enc r⟩)], []⟩)

theorem slices_Clone_api_Letter_api_Letter_ok {qs : List api_Letter} {r} (hF : slices_Clone_api_Letter_api_Letter qs = some r) : Holds prog 59 [.v (.one (.d (.lst (List.map api_Letter.enc qs))))] ⟨[], []⟩ (Is (slices_Clone_api_Letter_api_Letter_R qs r)) := by
  unfold slices_Clone_api_Letter_api_Letter at hF
  refine gE hF fun h1 hF => ?_
  refine holds_of_awp hΓ (fn := f59) (c := cB f59) (A := 0) (nx := 0) (by kernel_rfl) (by kernel_rfl) (by kernel_rfl) (by kernel_rfl) (by kernel_rfl) (by kernel_rfl) (lowc_of (by kernel_rfl)) ?_
  show Awp prog 0 8 (cB f59) _ _
  refine awp_seq ?_
  refine awp_region ?_
  refine aR 1 ?_
  refine aE ?_
  refine awp_seq ?_
  refine awp_seq ?_
  refine awp_region ?_
  refine aR 1 ?_
  refine aN api_Letter.enc qs (fun b hb => ?_) rfl
  refine aE ?_
  cases b with
  | true =>
    obtain rfl := hb rfl
    refine awp_true (by kernel_rfl) rfl ?_
    refine awp_seq ?_
    refine awp_region ?_
    refine aR 1 ?_
    refine aE ?_
    refine awp_ret ?_
    exact oF hF [] [0]
  | false =>
    refine awp_false (by kernel_rfl) rfl ?_
    refine awp_skip ?_
    refine awp_seq ?_
    refine awp_region ?_
    refine aR 2 ?_
    refine aX (x_app api_Letter.enc 3000 h1) ?_
    refine aR 1 ?_
    refine aE ?_
    refine awp_ret ?_
    exact oF hF [(0, 5000)] []

/-! ### beaconfleet/command.byOrder -/
def command_byOrder_R (qa : api_Letter) (qb : api_Letter) (r : Int) : TV × Mem := (.v (.one (.d (.int .i64 r))), ⟨[], []⟩)

theorem command_byOrder_ok {qa : api_Letter} {qb : api_Letter} {r} (hF : command_byOrder qa qb = some r) : Holds prog 61 [.v (.agg [.d (.str qa.Id), .d (.str qa.Slot), .d (.str qa.Body), .d (.int .i64 qa.Prio), .d (.int .i64 qa.At), .d (.int .i64 qa.Until)]), .v (.agg [.d (.str qb.Id), .d (.str qb.Slot), .d (.str qb.Body), .d (.int .i64 qb.Prio), .d (.int .i64 qb.At), .d (.int .i64 qb.Until)])] ⟨[], []⟩ (Is (command_byOrder_R qa qb r)) := by
  unfold command_byOrder at hF
  refine holds_of_awp hΓ (fn := f61) (c := cB f61) (A := 0) (nx := 0) (by kernel_rfl) (by kernel_rfl) (by kernel_rfl) (by kernel_rfl) (by kernel_rfl) (by kernel_rfl) (lowc_of (by kernel_rfl)) ?_
  show Awp prog 0 22 (cB f61) _ _
  refine awp_seq ?_
  refine awp_region ?_
  refine aR 3 ?_
  refine aE ?_
  refine awp_seq ?_
  refine bE hF fun vr h1 hF => ?_
  refine bE hF fun vr1 h2 hF => ?_
  refine bE hF fun _ h3 hF => ?_
  refine bE hF fun vr2 h4 hF => ?_
  refine aD ?_
  refine dR 4 ?_
  refine dC (cmp_Compare_int_ok h1) [] [] [] ?_
  refine dR 4 ?_
  refine dC (cmp_Compare_int_ok h2) [] [] [] ?_
  refine dR 4 ?_
  refine dC (strings_Compare_ok h3) [] [] [] ?_
  refine dR 1 ?_
  refine dC (cmp_Or_int_ok h4) [] [] [18000] ?_
  refine dR 1 ?_
  refine dE ?_
  refine awp_ret ?_
  exact oF hF [] []

/-! ### slices.insertionSortCmpFunc[beaconfleet/api.Letter] -/
def slices_insertionSortCmpFunc_api_Letter_o0_f3_command_byOrder_x3_k : Bool → AEx
  | _ => .normal

def slices_insertionSortCmpFunc_api_Letter_o0_f3_command_byOrder_x3_S (qa : Int) (qb : Int) (vi : Int) (vl3 : List api_Letter) (vj1 : Int) : Bool → St
  | vx4 => Mem.st ⟨[(0, ⟨83, 6, List.map api_Letter.enc vl3⟩)], []⟩ (tl [(0, .v (.one (.own 0 none))), (1, .v (.one (.d (.int .i64 qa)))), (2, .v (.one (.d (.int .i64 qb)))), (3, .v (.one (.fn 61 []))), (8, .v (.one (.d (.int .i64 vi)))), (9, .v (.one (.d (.int .i64 vj1)))), (34, .v (.one (.d (.bool vx4))))]) 1

def slices_insertionSortCmpFunc_api_Letter_o0_f3_command_byOrder_x3_I (qa : Int) (qb : Int) (vi : Int) (vl3 : List api_Letter) (vj1 : Int) : St := Mem.st ⟨[(0, ⟨83, 6, List.map api_Letter.enc vl3⟩)], []⟩ (tl [(0, .v (.one (.own 0 none))), (1, .v (.one (.d (.int .i64 qa)))), (2, .v (.one (.d (.int .i64 qb)))), (3, .v (.one (.fn 61 []))), (8, .v (.one (.d (.int .i64 vi)))), (9, .v (.one (.d (.int .i64 vj1))))]) 1

theorem slices_insertionSortCmpFunc_api_Letter_o0_f3_command_byOrder_x3_ok (qa : Int) (qb : Int) (vi : Int) (vl3 : List api_Letter) (vj1 : Int) {r} (hF : slices_insertionSortCmpFunc_api_Letter_o0_f3_command_byOrder_x3 qa vl3 vj1 = some r) : Awp prog 1 53 (cL (cL (cL (cL (cR (cL (cL (cR (cL (cL (cR (cB f127)))))))))))) (Out 1 slices_insertionSortCmpFunc_api_Letter_o0_f3_command_byOrder_x3_k (slices_insertionSortCmpFunc_api_Letter_o0_f3_command_byOrder_x3_S qa qb vi vl3 vj1) r) (slices_insertionSortCmpFunc_api_Letter_o0_f3_command_byOrder_x3_I qa qb vi vl3 vj1) := by
  unfold slices_insertionSortCmpFunc_api_Letter_o0_f3_command_byOrder_x3 at hF
  refine cE hF (fun h2 hF => ?_) fun h2 hF => ?_
  · refine bE hF fun vy15 h3 hF => ?_
    refine bE hF fun vy16 h4 hF => ?_
    refine bE hF fun vr3_3 h5 hF => ?_
    refine aD ?_
    refine dR 2 ?_
    refine dB h2 ?_
    refine dR 4 ?_
    refine dX (x_idxO api_Letter.enc 0 h3) ?_
    refine dX (x_ldE api_Letter.enc h3) ?_
    refine dR 3 ?_
    refine dX (x_idxO api_Letter.enc 0 h4) ?_
    refine dX (x_ldE api_Letter.enc h4) ?_
    refine dC (command_byOrder_ok h5) [] [] [] ?_
    refine dR 2 ?_
    refine dE ?_
    exact oO hF [] [] rfl
  · refine aD ?_
    refine dR 2 ?_
    refine dB h2 ?_
    refine dR 14 ?_
    refine dE ?_
    exact oO hF [] [] rfl

def slices_insertionSortCmpFunc_api_Letter_o0_f3_command_byOrder_x2_k : (List api_Letter) → AEx
  | _ => .exit 2

def slices_insertionSortCmpFunc_api_Letter_o0_f3_command_byOrder_x2_S (qa : Int) (qb : Int) (vi : Int) : (List api_Letter) → St
  | vl4 => Mem.st ⟨[(0, ⟨83, 6, List.map api_Letter.enc vl4⟩)], []⟩ (tl [(0, .v (.one (.own 0 none))), (1, .v (.one (.d (.int .i64 qa)))), (2, .v (.one (.d (.int .i64 qb)))), (3, .v (.one (.fn 61 []))), (8, .v (.one (.d (.int .i64 vi))))]) 1

def slices_insertionSortCmpFunc_api_Letter_o0_f3_command_byOrder_x2_H (qa : Int) (qb : Int) (vi : Int) : (List api_Letter) × Int → St
  | (vl3, vj1) => Mem.st ⟨[(0, ⟨83, 6, List.map api_Letter.enc vl3⟩)], []⟩ (tl [(0, .v (.one (.own 0 none))), (1, .v (.one (.d (.int .i64 qa)))), (2, .v (.one (.d (.int .i64 qb)))), (3, .v (.one (.fn 61 []))), (8, .v (.one (.d (.int .i64 vi)))), (9, .v (.one (.d (.int .i64 vj1))))]) 1

theorem slices_insertionSortCmpFunc_api_Letter_o0_f3_command_byOrder_x2_ok (qa : Int) (qb : Int) (vi : Int) (s : (List api_Letter) × Int) (r : ((List api_Letter) × Int) ⊕ ((List api_Letter))) (hF : slices_insertionSortCmpFunc_api_Letter_o0_f3_command_byOrder_x2 qa s = some r) : Awp prog 1 53 (cL (cL (cR (cL (cL (cR (cL (cL (cR (cB f127)))))))))) (Out 1 (kk slices_insertionSortCmpFunc_api_Letter_o0_f3_command_byOrder_x2_k) (SS (slices_insertionSortCmpFunc_api_Letter_o0_f3_command_byOrder_x2_H qa qb vi) (slices_insertionSortCmpFunc_api_Letter_o0_f3_command_byOrder_x2_S qa qb vi)) r) (slices_insertionSortCmpFunc_api_Letter_o0_f3_command_byOrder_x2_H qa qb vi s) := by
  obtain ⟨vl3, vj1⟩ := s
  unfold slices_insertionSortCmpFunc_api_Letter_o0_f3_command_byOrder_x2 at hF
  refine awp_seq ?_
  refine awp_seq ?_
  refine awp_to (st' := slices_insertionSortCmpFunc_api_Letter_o0_f3_command_byOrder_x3_I qa qb vi vl3 vj1) (oT [] []) ?_
  refine bE hF fun vx4_1 h6 hF => ?_
  refine awp_sub (slices_insertionSortCmpFunc_api_Letter_o0_f3_command_byOrder_x3_ok qa qb vi vl3 vj1 h6) ?_
  refine cE hF (fun h7 hF => ?_) fun h7 hF => ?_
  · refine awp_true (by kernel_rfl) h7 ?_
    refine awp_skip ?_
    refine awp_seq ?_
    refine awp_block ?_
    refine bE hF fun vy17 h8 hF => ?_
    refine bE hF fun vy18 h9 hF => ?_
    refine bE hF fun vy19 h10 hF => ?_
    refine aDw [0] ?_
    refine dR 8 ?_
    refine dI api_Letter.enc 0 h8 rfl ?_
    refine dX (x_ldE api_Letter.enc h8) ?_
    refine dR 2 ?_
    refine dI api_Letter.enc 0 h9 rfl ?_
    refine dX (x_ldE api_Letter.enc h9) ?_
    refine dI api_Letter.enc 0 h9 rfl ?_
    refine dW api_Letter.enc vy17 h9 rfl ?_
    refine dI api_Letter.enc 0 h10 rfl ?_
    refine dW api_Letter.enc vy18 h10 rfl ?_
    refine dE ?_
    refine awp_region ?_
    refine aR 3 ?_
    refine aE ?_
    exact oO hF [] [] rfl
  · refine awp_false (by kernel_rfl) h7 ?_
    refine awp_exit ?_
    exact oO hF [] [] rfl

def slices_insertionSortCmpFunc_api_Letter_o0_f3_command_byOrder_x1_k : (List api_Letter) → AEx
  | _ => .exit 0

def slices_insertionSortCmpFunc_api_Letter_o0_f3_command_byOrder_x1_S (qa : Int) (qb : Int) : (List api_Letter) → St
  | vl5 => Mem.st ⟨[(0, ⟨83, 6, List.map api_Letter.enc vl5⟩)], []⟩ (tl []) 1

def slices_insertionSortCmpFunc_api_Letter_o0_f3_command_byOrder_x1_H (qa : Int) (qb : Int) : (List api_Letter) × Int → St
  | (vl, vi) => Mem.st ⟨[(0, ⟨83, 6, List.map api_Letter.enc vl⟩)], []⟩ (tl [(0, .v (.one (.own 0 none))), (1, .v (.one (.d (.int .i64 qa)))), (2, .v (.one (.d (.int .i64 qb)))), (3, .v (.one (.fn 61 []))), (8, .v (.one (.d (.int .i64 vi))))]) 1

theorem slices_insertionSortCmpFunc_api_Letter_o0_f3_command_byOrder_x1_ok (qa : Int) (qb : Int) (s : (List api_Letter) × Int) (r : ((List api_Letter) × Int) ⊕ ((List api_Letter))) (hF : slices_insertionSortCmpFunc_api_Letter_o0_f3_command_byOrder_x1 qa qb s = some r) : Awp prog 1 53 (cL (cL (cR (cB f127)))) (Out 1 (kk slices_insertionSortCmpFunc_api_Letter_o0_f3_command_byOrder_x1_k) (SS (slices_insertionSortCmpFunc_api_Letter_o0_f3_command_byOrder_x1_H qa qb) (slices_insertionSortCmpFunc_api_Letter_o0_f3_command_byOrder_x1_S qa qb)) r) (slices_insertionSortCmpFunc_api_Letter_o0_f3_command_byOrder_x1_H qa qb s) := by
  obtain ⟨vl, vi⟩ := s
  unfold slices_insertionSortCmpFunc_api_Letter_o0_f3_command_byOrder_x1 at hF
  refine awp_seq ?_
  refine awp_seq ?_
  refine awp_region ?_
  refine aR 3 ?_
  refine aE ?_
  refine cE hF (fun h1 hF => ?_) fun h1 hF => ?_
  · refine awp_true (by kernel_rfl) h1 ?_
    refine awp_skip ?_
    refine awp_seq ?_
    refine awp_block ?_
    refine awp_seq ?_
    refine awp_region ?_
    refine aR 2 ?_
    refine aE ?_
    refine awp_block ?_
    refine awp_to (st' := slices_insertionSortCmpFunc_api_Letter_o0_f3_command_byOrder_x2_H qa qb vi (vl, vi)) (oT [] []) ?_
    refine bE hF fun vl4_1 h11 hF => ?_
    refine awp_sub (awp_loop' (slices_insertionSortCmpFunc_api_Letter_o0_f3_command_byOrder_x2_H qa qb vi) slices_insertionSortCmpFunc_api_Letter_o0_f3_command_byOrder_x2_k (slices_insertionSortCmpFunc_api_Letter_o0_f3_command_byOrder_x2_S qa qb vi) (by intro x; exact fun h => nomatch h) h11 (slices_insertionSortCmpFunc_api_Letter_o0_f3_command_byOrder_x2_ok qa qb vi)) ?_
    refine awp_region ?_
    refine aR 3 ?_
    refine aE ?_
    exact oO hF [] [] rfl
  · refine awp_false (by kernel_rfl) h1 ?_
    refine awp_exit ?_
    exact oO hF [] [] rfl

def slices_insertionSortCmpFunc_api_Letter_o0_f3_command_byOrder_R (qdata : List api_Letter) (qa : Int) (qb : Int) (r : (List api_Letter)) : TV × Mem := (.tup [], ⟨[(0, ⟨83, 6, List.map api_Letter.enc r⟩)], []⟩)

theorem slices_insertionSortCmpFunc_api_Letter_o0_f3_command_byOrder_ok {qdata : List api_Letter} {qa : Int} {qb : Int} {r} (hF : slices_insertionSortCmpFunc_api_Letter_o0_f3_command_byOrder qdata qa qb = some r) : Holds prog 127 [.v (.one (.own 0 none)), .v (.one (.d (.int .i64 qa))), .v (.one (.d (.int .i64 qb))), .v (.one (.fn 61 []))] ⟨[(0, ⟨83, 6, List.map api_Letter.enc qdata⟩)], []⟩ (Is (slices_insertionSortCmpFunc_api_Letter_o0_f3_command_byOrder_R qdata qa qb r)) := by
  unfold slices_insertionSortCmpFunc_api_Letter_o0_f3_command_byOrder at hF
  refine holds_of_awp hΓ (fn := f127) (c := cB f127) (A := 1) (nx := 1) (by kernel_rfl) (by kernel_rfl) (by kernel_rfl) (by kernel_rfl) (by kernel_rfl) (by kernel_rfl) (lowc_of (by kernel_rfl)) ?_
  show Awp prog 1 53 (cB f127) _ _
  refine awp_seq ?_
  refine awp_region ?_
  refine aR 3 ?_
  refine aE ?_
  refine awp_block ?_
  refine awp_to (st' := slices_insertionSortCmpFunc_api_Letter_o0_f3_command_byOrder_x1_H qa qb (qdata, IntKind.wrap .i64 (qa + 1))) (oT [] []) ?_
  refine bE hF fun vl5_1 h12 hF => ?_
  refine awp_sub (awp_loop' (slices_insertionSortCmpFunc_api_Letter_o0_f3_command_byOrder_x1_H qa qb) slices_insertionSortCmpFunc_api_Letter_o0_f3_command_byOrder_x1_k (slices_insertionSortCmpFunc_api_Letter_o0_f3_command_byOrder_x1_S qa qb) (by intro x; exact fun h => nomatch h) h12 (slices_insertionSortCmpFunc_api_Letter_o0_f3_command_byOrder_x1_ok qa qb)) ?_
  exact oF hF [] []

/-! ### slices.pdqsortCmpFunc[beaconfleet/api.Letter] -/
def slices_pdqsortCmpFunc_api_Letter_o0_f4_command_byOrder_x1_k : (List api_Letter) → AEx
  | _ => .ret

def slices_pdqsortCmpFunc_api_Letter_o0_f4_command_byOrder_x1_S (qx : List api_Letter) (qx1 : Int) (qx2 : Int) (qx3 : Int) : (List api_Letter) → St
  | vl => Mem.st ⟨[(0, ⟨83, 6, List.map api_Letter.enc vl⟩)], []⟩ (tl []) 1

def slices_pdqsortCmpFunc_api_Letter_o0_f4_command_byOrder_x1_H (qx : List api_Letter) (qx1 : Int) (qx2 : Int) (qx3 : Int) : Unit → St
  | _ => Mem.st ⟨[(0, ⟨83, 6, List.map api_Letter.enc qx⟩)], []⟩ (tl [(0, .v (.one (.own 0 none))), (1, .v (.one (.d (.int .i64 qx1)))), (2, .v (.one (.d (.int .i64 qx2)))), (3, .v (.one (.d (.int .i64 qx3)))), (4, .v (.one (.fn 61 []))), (10, .v (.one (.d (.bool true)))), (11, .v (.one (.d (.bool true))))]) 1

theorem slices_pdqsortCmpFunc_api_Letter_o0_f4_command_byOrder_x1_ok (qx : List api_Letter) (qx1 : Int) (qx2 : Int) (qx3 : Int) (s : Unit) (r : (Unit) ⊕ ((List api_Letter))) (hF : slices_pdqsortCmpFunc_api_Letter_o0_f4_command_byOrder_x1 qx qx1 qx2 qx3 s = some r) : Awp prog 1 148 (cL (cL (cR (cR (cB f96))))) (Out 1 (kk slices_pdqsortCmpFunc_api_Letter_o0_f4_command_byOrder_x1_k) (SS (slices_pdqsortCmpFunc_api_Letter_o0_f4_command_byOrder_x1_H qx qx1 qx2 qx3) (slices_pdqsortCmpFunc_api_Letter_o0_f4_command_byOrder_x1_S qx qx1 qx2 qx3)) r) (slices_pdqsortCmpFunc_api_Letter_o0_f4_command_byOrder_x1_H qx qx1 qx2 qx3 s) := by
  unfold slices_pdqsortCmpFunc_api_Letter_o0_f4_command_byOrder_x1 at hF
  refine awp_block ?_
  refine awp_seq ?_
  refine awp_region ?_
  refine aR 4 ?_
  refine aE ?_
  refine awp_seq ?_
  refine awp_seq ?_
  refine awp_region ?_
  refine aR 2 ?_
  refine aE ?_
  refine cE hF (fun h1 hF => ?_) fun h1 hF => ?_
  · refine awp_true (by kernel_rfl) h1 ?_
    refine awp_seq ?_
    refine bE hF fun vl6_1 h2 hF => ?_
    refine gE hF fun h3 hF => ?_
    refine awp_region ?_
    refine aR 4 ?_
    refine aCp (slices_insertionSortCmpFunc_api_Letter_o0_f3_command_byOrder_ok h2) ⟨⟨rfl, rfl, pin1 h3⟩, trivial⟩ [] [] [] ?_
    refine aE ?_
    refine awp_ret ?_
    exact oO hF [] [] rfl
  · refine awp_false (by kernel_rfl) h1 ?_
    refine awp_skip ?_
    refine awp_seq ?_
    refine awp_seq ?_
    refine awp_region ?_
    refine aR 2 ?_
    refine aE ?_
    refine cE hF (fun h4 hF => ?_) fun h4 hF => ?_
    · refine awp_true (by kernel_rfl) h4 ?_
      refine awp_seq ?_
      exact nE hF
    · refine awp_false (by kernel_rfl) h4 ?_
      refine awp_skip ?_
      refine awp_seq ?_
      refine awp_seq ?_
      refine awp_region ?_
      refine aR 2 ?_
      refine aE ?_
      refine awp_false (by kernel_rfl) rfl ?_
      refine awp_skip ?_
      refine awp_seq ?_
      exact nE hF

def slices_pdqsortCmpFunc_api_Letter_o0_f4_command_byOrder_R (qx : List api_Letter) (qx1 : Int) (qx2 : Int) (qx3 : Int) (r : (List api_Letter)) : TV × Mem := (.tup [], ⟨[(0, ⟨83, 6, List.map api_Letter.enc r⟩)], []⟩)

theorem slices_pdqsortCmpFunc_api_Letter_o0_f4_command_byOrder_ok {qx : List api_Letter} {qx1 : Int} {qx2 : Int} {qx3 : Int} {r} (hF : slices_pdqsortCmpFunc_api_Letter_o0_f4_command_byOrder qx qx1 qx2 qx3 = some r) : Holds prog 96 [.v (.one (.own 0 none)), .v (.one (.d (.int .i64 qx1))), .v (.one (.d (.int .i64 qx2))), .v (.one (.d (.int .i64 qx3))), .v (.one (.fn 61 []))] ⟨[(0, ⟨83, 6, List.map api_Letter.enc qx⟩)], []⟩ (Is (slices_pdqsortCmpFunc_api_Letter_o0_f4_command_byOrder_R qx qx1 qx2 qx3 r)) := by
  unfold slices_pdqsortCmpFunc_api_Letter_o0_f4_command_byOrder at hF
  refine holds_of_awp hΓ (fn := f96) (c := cB f96) (A := 1) (nx := 1) (by kernel_rfl) (by kernel_rfl) (by kernel_rfl) (by kernel_rfl) (by kernel_rfl) (by kernel_rfl) (lowc_of (by kernel_rfl)) ?_
  show Awp prog 1 148 (cB f96) _ _
  refine awp_seq ?_
  refine awp_region ?_
  refine aR 1 ?_
  refine aE ?_
  refine awp_seq ?_
  refine awp_region ?_
  refine aR 1 ?_
  refine aE ?_
  refine awp_block ?_
  refine awp_to (st' := slices_pdqsortCmpFunc_api_Letter_o0_f4_command_byOrder_x1_H qx qx1 qx2 qx3 ()) (oT [] []) ?_
  refine bE hF fun vl1 h7 hF => ?_
  refine awp_sub (awp_loop' (slices_pdqsortCmpFunc_api_Letter_o0_f4_command_byOrder_x1_H qx qx1 qx2 qx3) slices_pdqsortCmpFunc_api_Letter_o0_f4_command_byOrder_x1_k (slices_pdqsortCmpFunc_api_Letter_o0_f4_command_byOrder_x1_S qx qx1 qx2 qx3) (by intro x; exact fun h => nomatch h) h7 (slices_pdqsortCmpFunc_api_Letter_o0_f4_command_byOrder_x1_ok qx qx1 qx2 qx3)) ?_
  exact oF hF [] []

/-! ### slices.SortFunc[[]beaconfleet/api.Letter,beaconfleet/api.Letter] -/
def slices_SortFunc_api_Letter_api_Letter_o0_f1_command_byOrder_R (qx : List api_Letter) (r : (List api_Letter)) : TV × Mem := (.tup [], ⟨[(0, ⟨83, 6, List.map api_Letter.enc r⟩)], []⟩)

theorem slices_SortFunc_api_Letter_api_Letter_o0_f1_command_byOrder_ok {qx : List api_Letter} {r} (hF : slices_SortFunc_api_Letter_api_Letter_o0_f1_command_byOrder qx = some r) : Holds prog 60 [.v (.one (.own 0 none)), .v (.one (.fn 61 []))] ⟨[(0, ⟨83, 6, List.map api_Letter.enc qx⟩)], []⟩ (Is (slices_SortFunc_api_Letter_api_Letter_o0_f1_command_byOrder_R qx r)) := by
  unfold slices_SortFunc_api_Letter_api_Letter_o0_f1_command_byOrder at hF
  refine holds_of_awp hΓ (fn := f60) (c := cB f60) (A := 1) (nx := 1) (by kernel_rfl) (by kernel_rfl) (by kernel_rfl) (by kernel_rfl) (by kernel_rfl) (by kernel_rfl) (lowc_of (by kernel_rfl)) ?_
  show Awp prog 1 14 (cB f60) _ _
  refine awp_seq ?_
  refine awp_region ?_
  refine aR 1 ?_
  refine aL api_Letter.enc qx ?_
  refine aR 1 ?_
  refine aE ?_
  refine bE hF fun vr1 h1 hF => ?_
  refine bE hF fun vl2 h2 hF => ?_
  refine gE hF fun h3 hF => ?_
  refine awp_region ?_
  refine aR 4 ?_
  refine aC (bits_Len_ok h1) [] [] [] ?_
  refine aR 1 ?_
  refine aCp (slices_pdqsortCmpFunc_api_Letter_o0_f4_command_byOrder_ok h2) ⟨⟨rfl, rfl, pin1 h3⟩, trivial⟩ [] [] [] ?_
  refine aE ?_
  exact oF hF [] []

/-! ### beaconfleet/command.Order -/
def command_Order_o0_x1_k : Unit ⊕ Int → AEx
  | .inl _ => .exit 0
  | .inr _ => .ret

def command_Order_o0_x1_S (ql : List api_Letter) : Unit ⊕ Int → St
  | .inl _ => Mem.st ⟨[], []⟩ (tl [(0, .v (.one (.d (.lst (List.map api_Letter.enc ql)))))]) 1
  | .inr vx1 => Mem.st ⟨[], []⟩ (tl [(2, .v (.one (.nil))), (3, .v (.one (.d (.int .i64 vx1))))]) 1

def command_Order_o0_x1_H (ql : List api_Letter) : Int → St
  | vx => Mem.st ⟨[], []⟩ (tl [(0, .v (.one (.d (.lst (List.map api_Letter.enc ql))))), (11, .v (.one (.d (.lst (List.map api_Letter.enc ql))))), (12, .v (.one (.d (.int .i64 (ql.length : Int))))), (13, .v (.one (.d (.int .i64 vx))))]) 1

theorem command_Order_o0_x1_ok (ql : List api_Letter) (vx : Int) (r : (Int) ⊕ (Unit ⊕ Int)) (hF : command_Order_o0_x1 ql vx = some r) : Awp prog 1 34 (cL (cL (cR (cL (cR (cR (cB f29))))))) (Out 1 (kk command_Order_o0_x1_k) (SS (command_Order_o0_x1_H ql) (command_Order_o0_x1_S ql)) r) (command_Order_o0_x1_H ql vx) := by
  unfold command_Order_o0_x1 at hF
  refine awp_seq ?_
  refine awp_region ?_
  refine aR 1 ?_
  refine aE ?_
  refine awp_seq ?_
  refine cE hF (fun h2 hF => ?_) fun h2 hF => ?_
  · refine awp_true (by kernel_rfl) h2 ?_
    refine awp_skip ?_
    refine awp_seq ?_
    refine awp_block ?_
    refine awp_seq ?_
    refine bE hF fun vy1 h3 hF => ?_
    refine awp_region ?_
    refine aR 1 ?_
    refine aX (x_idx api_Letter.enc h3) ?_
    refine aR 4 ?_
    refine aE ?_
    refine awp_seq ?_
    refine awp_seq ?_
    refine bE hF fun vr3_1 h4 hF => ?_
    refine awp_region ?_
    refine aR 1 ?_
    refine aC (command_CheckLetter_ok h4) [] [] [] ?_
    refine aR 1 ?_
    refine aE ?_
    refine awp_seq ?_
    refine awp_region ?_
    refine aR 2 ?_
    refine aE ?_
    refine cE hF (fun h5 hF => ?_) fun h5 hF => ?_
    · refine awp_true (by kernel_rfl) h5 ?_
      refine awp_seq ?_
      refine awp_region ?_
      refine aR 3 ?_
      refine aE ?_
      refine awp_ret ?_
      exact oO hF [] [] rfl
    · refine awp_false (by kernel_rfl) h5 ?_
      refine awp_skip ?_
      refine awp_seq ?_
      refine bE hF fun vl1 h6 hF => ?_
      refine bE hF fun vr1_1 h7 hF => ?_
      refine awp_region ?_
      refine aR 2 ?_
      refine aX (x_slice api_Letter.enc h6) ?_
      refine aR 1 ?_
      refine aC (slices_ContainsFunc_api_Letter_api_Letter_f1_command_Order_1_ok h7) [(0, 4001)] [] [] ?_
      refine aE ?_
      refine cE hF (fun h8 hF => ?_) fun h8 hF => ?_
      · refine awp_true (by kernel_rfl) h8 ?_
        refine awp_seq ?_
        refine awp_region ?_
        refine aR 2 ?_
        refine aE ?_
        refine awp_ret ?_
        exact oO hF [] [] rfl
      · refine awp_false (by kernel_rfl) h8 ?_
        refine awp_skip ?_
        refine awp_region ?_
        refine aR 2 ?_
        refine aE ?_
        exact oO hF [] [] rfl
  · refine awp_false (by kernel_rfl) h2 ?_
    refine awp_exit ?_
    exact oO hF [] [] rfl

def command_Order_o0_R (ql : List api_Letter) (r : (List api_Letter) × Int) : TV × Mem := (.tup [.one (.own 1 none), .one (.d (.int .i64 r.2))], ⟨[(1, ⟨83, 6, List.map api_Letter.enc r.1⟩)], []⟩)

theorem command_Order_o0_ok {ql : List api_Letter} {r} (hF : command_Order_o0 ql = some r) : Holds prog 29 [.v (.one (.own 0 none))] ⟨[(0, ⟨83, 6, List.map api_Letter.enc ql⟩)], []⟩ (Is (command_Order_o0_R ql r)) := by
  unfold command_Order_o0 at hF
  refine holds_of_awp hΓ (fn := f29) (c := cB f29) (A := 1) (nx := 1) (by kernel_rfl) (by kernel_rfl) (by kernel_rfl) (by kernel_rfl) (by kernel_rfl) (by kernel_rfl) (lowc_of (by kernel_rfl)) ?_
  show Awp prog 1 34 (cB f29) _ _
  refine awp_seq ?_
  refine awp_region ?_
  refine aR 2 ?_
  refine aE ?_
  refine awp_to (oT (m := ⟨[], []⟩) (ts := [(0, .v (.one (.d (.lst (List.map api_Letter.enc ql)))))]) (nx := 1) [] []) ?_
  refine awp_seq ?_
  refine awp_seq ?_
  refine awp_region ?_
  refine aR 1 ?_
  refine aL api_Letter.enc ql ?_
  refine aR 1 ?_
  refine aE ?_
  refine cE hF (fun h1 hF => ?_) fun h1 hF => ?_
  · refine awp_true (by kernel_rfl) h1 ?_
    refine awp_seq ?_
    refine awp_region ?_
    refine aR 2 ?_
    refine aE ?_
    refine awp_ret ?_
    exact oF hF [] [1]
  · refine awp_false (by kernel_rfl) h1 ?_
    refine awp_skip ?_
    refine awp_seq ?_
    refine awp_seq ?_
    refine awp_region ?_
    refine aR 1 ?_
    refine aL api_Letter.enc ql ?_
    refine aR 1 ?_
    refine aE ?_
    refine awp_block ?_
    refine awp_to (st' := command_Order_o0_x1_H ql 0) (oT [] []) ?_
    refine bE hF fun x h9 hF => ?_
    rcases x with _ | vx1_1
    · refine awp_sub (awp_loop' (command_Order_o0_x1_H ql) command_Order_o0_x1_k (command_Order_o0_x1_S ql) (by intro x; rcases x with x | x <;> exact fun h => nomatch h) h9 (command_Order_o0_x1_ok ql)) ?_
      refine awp_seq ?_
      refine bE hF fun vr h10 hF => ?_
      refine awp_region ?_
      refine aR 1 ?_
      refine aC (slices_Clone_api_Letter_api_Letter_ok h10) [] [] [] ?_
      refine aR 1 ?_
      refine aE ?_
      refine awp_seq ?_
      refine bE hF fun vl2 h11 hF => ?_
      refine gE hF fun h12 hF => ?_
      refine awp_region ?_
      refine aR 1 ?_
      refine aCp (slices_SortFunc_api_Letter_api_Letter_o0_f1_command_byOrder_ok h11) ⟨⟨rfl, rfl, pin1 h12⟩, trivial⟩ [(0, 1001)] [] [] ?_
      refine aE ?_
      refine awp_seq ?_
      refine awp_region ?_
      refine aR 3 ?_
      refine aE ?_
      refine awp_ret ?_
      exact oF hF [(1, 1001)] []
    · refine awp_sub (awp_loop' (command_Order_o0_x1_H ql) command_Order_o0_x1_k (command_Order_o0_x1_S ql) (by intro x; rcases x with x | x <;> exact fun h => nomatch h) h9 (command_Order_o0_x1_ok ql)) ?_
      exact oF hF [] [1]

/-! ### slices.Equal[[]byte,byte] -/
def slices_Equal_byte_byte_x1_k : Unit ⊕ Unit → AEx
  | .inl _ => .exit 0
  | .inr _ => .ret

def slices_Equal_byte_byte_x1_S (qs1 : List Int) (qs2 : List Int) : Unit ⊕ Unit → St
  | .inl _ => Mem.st ⟨[], []⟩ (tl []) 0
  | .inr _ => Mem.st ⟨[], []⟩ (tl [(4, .v (.one (.d (.bool false))))]) 0

def slices_Equal_byte_byte_x1_H (qs1 : List Int) (qs2 : List Int) : Int → St
  | vx => Mem.st ⟨[], []⟩ (tl [(0, .v (.one (.d (.lst (List.map (encI .u8) qs1))))), (1, .v (.one (.d (.lst (List.map (encI .u8) qs2))))), (12, .v (.one (.d (.int .i64 (qs1.length : Int))))), (13, .v (.one (.d (.int .i64 vx))))]) 0

theorem slices_Equal_byte_byte_x1_ok (qs1 : List Int) (qs2 : List Int) (vx : Int) (r : (Int) ⊕ (Unit ⊕ Unit)) (hF : slices_Equal_byte_byte_x1 qs1 qs2 vx = some r) : Awp prog 0 26 (cL (cL (cR (cL (cR (cR (cB f30))))))) (Out 0 (kk slices_Equal_byte_byte_x1_k) (SS (slices_Equal_byte_byte_x1_H qs1 qs2) (slices_Equal_byte_byte_x1_S qs1 qs2)) r) (slices_Equal_byte_byte_x1_H qs1 qs2 vx) := by
  unfold slices_Equal_byte_byte_x1 at hF
  refine awp_seq ?_
  refine awp_region ?_
  refine aR 1 ?_
  refine aE ?_
  refine awp_seq ?_
  refine cE hF (fun h2 hF => ?_) fun h2 hF => ?_
  · refine awp_true (by kernel_rfl) h2 ?_
    refine awp_skip ?_
    refine awp_seq ?_
    refine awp_block ?_
    refine awp_seq ?_
    refine awp_region ?_
    refine aR 2 ?_
    refine aE ?_
    refine awp_seq ?_
    refine bE hF fun vy2 h3 hF => ?_
    refine bE hF fun vy3 h4 hF => ?_
    refine aD ?_
    refine dR 2 ?_
    refine dX (x_idx (encI .u8) h3) ?_
    refine dR 3 ?_
    refine dX (x_idx (encI .u8) h4) ?_
    refine dR 2 ?_
    refine dE ?_
    refine cE hF (fun h5 hF => ?_) fun h5 hF => ?_
    · refine awp_true (by kernel_rfl) h5 ?_
      refine awp_seq ?_
      refine awp_region ?_
      refine aR 1 ?_
      refine aE ?_
      refine awp_ret ?_
      exact oO hF [] [] rfl
    · refine awp_false (by kernel_rfl) h5 ?_
      refine awp_skip ?_
      refine awp_region ?_
      refine aR 2 ?_
      refine aE ?_
      exact oO hF [] [] rfl
  · refine awp_false (by kernel_rfl) h2 ?_
    refine awp_exit ?_
    exact oO hF [] [] rfl

def slices_Equal_byte_byte_R (qs1 : List Int) (qs2 : List Int) (r : Bool) : TV × Mem := (.v (.one (.d (.bool r))), ⟨[], []⟩)

theorem slices_Equal_byte_byte_ok {qs1 : List Int} {qs2 : List Int} {r} (hF : slices_Equal_byte_byte qs1 qs2 = some r) : Holds prog 30 [.v (.one (.d (.lst (List.map (encI .u8) qs1)))), .v (.one (.d (.lst (List.map (encI .u8) qs2))))] ⟨[], []⟩ (Is (slices_Equal_byte_byte_R qs1 qs2 r)) := by
  unfold slices_Equal_byte_byte at hF
  refine holds_of_awp hΓ (fn := f30) (c := cB f30) (A := 0) (nx := 0) (by kernel_rfl) (by kernel_rfl) (by kernel_rfl) (by kernel_rfl) (by kernel_rfl) (by kernel_rfl) (lowc_of (by kernel_rfl)) ?_
  show Awp prog 0 26 (cB f30) _ _
  refine awp_seq ?_
  refine awp_region ?_
  refine aR 1 ?_
  refine aE ?_
  refine awp_seq ?_
  refine awp_seq ?_
  refine awp_region ?_
  refine aR 1 ?_
  refine aL (encI .u8) qs1 ?_
  refine aR 1 ?_
  refine aL (encI .u8) qs2 ?_
  refine aR 1 ?_
  refine aE ?_
  refine cE hF (fun h1 hF => ?_) fun h1 hF => ?_
  · refine awp_true (by kernel_rfl) h1 ?_
    refine awp_seq ?_
    refine awp_region ?_
    refine aR 1 ?_
    refine aE ?_
    refine awp_ret ?_
    exact oF hF [] []
  · refine awp_false (by kernel_rfl) h1 ?_
    refine awp_skip ?_
    refine awp_seq ?_
    refine awp_seq ?_
    refine awp_region ?_
    refine aR 1 ?_
    refine aL (encI .u8) qs1 ?_
    refine aR 1 ?_
    refine aE ?_
    refine awp_block ?_
    refine awp_to (st' := slices_Equal_byte_byte_x1_H qs1 qs2 0) (oT [] []) ?_
    refine bE hF fun x h6 hF => ?_
    rcases x with _ | _
    · refine awp_sub (awp_loop' (slices_Equal_byte_byte_x1_H qs1 qs2) slices_Equal_byte_byte_x1_k (slices_Equal_byte_byte_x1_S qs1 qs2) (by intro x; rcases x with x | x <;> exact fun h => nomatch h) h6 (slices_Equal_byte_byte_x1_ok qs1 qs2)) ?_
      refine awp_seq ?_
      refine awp_region ?_
      refine aR 1 ?_
      refine aE ?_
      refine awp_ret ?_
      exact oF hF [] []
    · refine awp_sub (awp_loop' (slices_Equal_byte_byte_x1_H qs1 qs2) slices_Equal_byte_byte_x1_k (slices_Equal_byte_byte_x1_S qs1 qs2) (by intro x; rcases x with x | x <;> exact fun h => nomatch h) h6 (slices_Equal_byte_byte_x1_ok qs1 qs2)) ?_
      exact oF hF [] []

/-! ### beaconfleet/fleetkeep2.ready -/
def fleetkeep2_ready_x1_k : Bool → AEx
  | _ => .normal

def fleetkeep2_ready_x1_S (vr5 : List api_Change) (vr6 : Int) (vr : List Int) (vr2 : Int) (vr2_1 : api_Version) (vr4 : Int) (vr1 : List UInt8) (vr3 : Int) (vr2_2 : List api_Letter) (vr4_1 : Int) : Bool → St
  | vx => Mem.st ⟨[], []⟩ (tl [(0, .v (.one (.d (.bool vx))))]) 0

def fleetkeep2_ready_x1_I (vr5 : List api_Change) (vr6 : Int) (vr : List Int) (vr2 : Int) (vr2_1 : api_Version) (vr4 : Int) (vr1 : List UInt8) (vr3 : Int) (vr2_2 : List api_Letter) (vr4_1 : Int) : St := Mem.st ⟨[], [(0, [.d (.int .i64 vr2_1.Major), .d (.int .i64 vr2_1.Minor), .d (.int .i64 vr2_1.Patch)])]⟩ (tl [(1, .v (.one (.d (.lst (List.map api_Change.enc vr5))))), (2, .v (.one (.d (.int .i64 vr6)))), (3, .v (.one (.d (.lst (List.map (encI .u8) vr))))), (4, .v (.one (.d (.int .i64 vr2)))), (5, .v (.one (.box 0 0))), (6, .v (.one (.d (.int .i64 vr4)))), (7, .v (.one (.d (.str vr1)))), (8, .v (.one (.d (.int .i64 vr3)))), (9, .v (.one (.d (.lst (List.map api_Letter.enc vr2_2))))), (10, .v (.one (.d (.int .i64 vr4_1))))]) 1

theorem fleetkeep2_ready_x1_ok (vr5 : List api_Change) (vr6 : Int) (vr : List Int) (vr2 : Int) (vr2_1 : api_Version) (vr4 : Int) (vr1 : List UInt8) (vr3 : Int) (vr2_2 : List api_Letter) (vr4_1 : Int) {r} (hF : fleetkeep2_ready_x1 vr5 vr6 vr vr2 vr2_1 vr4 vr1 vr3 vr2_2 vr4_1 = some r) : Awp prog 0 71 (cL (cR (cR (cR (cR (cR (cR (cB f11)))))))) (Out 0 fleetkeep2_ready_x1_k (fleetkeep2_ready_x1_S vr5 vr6 vr vr2 vr2_1 vr4 vr1 vr3 vr2_2 vr4_1) r) (fleetkeep2_ready_x1_I vr5 vr6 vr vr2 vr2_1 vr4 vr1 vr3 vr2_2 vr4_1) := by
  unfold fleetkeep2_ready_x1 at hF
  refine bE hF fun vr7 h6 hF => ?_
  refine cE hF (fun h7 hF => ?_) fun h7 hF => ?_
  · refine cE hF (fun h8 hF => ?_) fun h8 hF => ?_
    · refine bE hF fun vr8 h9 hF => ?_
      refine cE hF (fun h10 hF => ?_) fun h10 hF => ?_
      · refine cE hF (fun h11 hF => ?_) fun h11 hF => ?_
        · refine cE hF (fun h12 hF => ?_) fun h12 hF => ?_
          · refine awp_region ?_
            refine aR 6 ?_
            refine aC (fleetkeep2_errs_ok h6) [] [] [5001] ?_
            refine aB h7 ?_
            refine aR 2 ?_
            refine aL api_Change.enc vr5 ?_
            refine aB h8 ?_
            refine aR 4 ?_
            refine aCb (slices_Equal_byte_byte_ok h9) [] [] [15001] h10 ?_
            refine aR 4 ?_
            refine aB h11 ?_
            refine aR 3 ?_
            refine aB h12 ?_
            refine aR 3 ?_
            refine aL api_Letter.enc vr2_2 ?_
            refine aR 3 ?_
            refine aE ?_
            exact oO hF [] [] rfl
          · refine awp_region ?_
            refine aR 6 ?_
            refine aC (fleetkeep2_errs_ok h6) [] [] [5001] ?_
            refine aB h7 ?_
            refine aR 2 ?_
            refine aL api_Change.enc vr5 ?_
            refine aB h8 ?_
            refine aR 4 ?_
            refine aCb (slices_Equal_byte_byte_ok h9) [] [] [15001] h10 ?_
            refine aR 4 ?_
            refine aB h11 ?_
            refine aR 3 ?_
            refine aB h12 ?_
            refine aR 7 ?_
            refine aE ?_
            exact oO hF [] [] rfl
        · refine awp_region ?_
          refine aR 6 ?_
          refine aC (fleetkeep2_errs_ok h6) [] [] [5001] ?_
          refine aB h7 ?_
          refine aR 2 ?_
          refine aL api_Change.enc vr5 ?_
          refine aB h8 ?_
          refine aR 4 ?_
          refine aCb (slices_Equal_byte_byte_ok h9) [] [] [15001] h10 ?_
          refine aR 4 ?_
          refine aB h11 ?_
          refine aR 11 ?_
          refine aE ?_
          exact oO hF [] [] rfl
      · refine awp_region ?_
        refine aR 6 ?_
        refine aC (fleetkeep2_errs_ok h6) [] [] [5001] ?_
        refine aB h7 ?_
        refine aR 2 ?_
        refine aL api_Change.enc vr5 ?_
        refine aB h8 ?_
        refine aR 4 ?_
        refine aCb (slices_Equal_byte_byte_ok h9) [] [] [15001] h10 ?_
        refine aR 16 ?_
        refine aE ?_
        exact oO hF [] [] rfl
    · refine awp_region ?_
      refine aR 6 ?_
      refine aC (fleetkeep2_errs_ok h6) [] [] [5001] ?_
      refine aB h7 ?_
      refine aR 2 ?_
      refine aL api_Change.enc vr5 ?_
      refine aB h8 ?_
      refine aR 21 ?_
      refine aE ?_
      exact oO hF [] [] rfl
  · refine awp_region ?_
    refine aR 6 ?_
    refine aC (fleetkeep2_errs_ok h6) [] [] [5001] ?_
    refine aB h7 ?_
    refine aR 25 ?_
    refine aE ?_
    exact oO hF [] [] rfl

def fleetkeep2_ready_R (r : Bool) : TV × Mem := (.v (.one (.d (.bool r))), ⟨[], []⟩)

theorem fleetkeep2_ready_ok {r} (hF : fleetkeep2_ready = some r) : Holds prog 11 [] ⟨[], []⟩ (Is (fleetkeep2_ready_R  r)) := by
  unfold fleetkeep2_ready at hF
  refine holds_of_awp hΓ (fn := f11) (c := cB f11) (A := 0) (nx := 0) (by kernel_rfl) (by kernel_rfl) (by kernel_rfl) (by kernel_rfl) (by kernel_rfl) (by kernel_rfl) (lowc_of (by kernel_rfl)) ?_
  show Awp prog 0 71 (cB f11) _ _
  refine awp_seq ?_
  refine awp_region ?_
  refine aR 1 ?_
  refine aE ?_
  refine awp_seq ?_
  refine bE hF fun x h1 hF => ?_
  obtain ⟨vr5, vr6⟩ := x
  refine awp_region ?_
  refine aR 3 ?_
  refine aC (twin_Differ_n0_o1_ok h1) [(0, 3000)] [] [] ?_
  refine aR 5 ?_
  refine aE ?_
  refine awp_to (oT (m := ⟨[], []⟩) (ts := [(1, .v (.one (.d (.lst (List.map api_Change.enc vr5))))), (2, .v (.one (.d (.int .i64 vr6))))]) (nx := 0) [] []) ?_
  refine awp_seq ?_
  refine bE hF fun x h2 hF => ?_
  obtain ⟨vr, vr2⟩ := x
  refine awp_region ?_
  refine aR 2 ?_
  refine aC (series_Pack_o0_ok h2) [(0, 1000)] [] [] ?_
  refine aR 5 ?_
  refine aE ?_
  refine awp_to (oT (m := ⟨[], []⟩) (ts := [(1, .v (.one (.d (.lst (List.map api_Change.enc vr5))))), (2, .v (.one (.d (.int .i64 vr6)))), (3, .v (.one (.d (.lst (List.map (encI .u8) vr))))), (4, .v (.one (.d (.int .i64 vr2))))]) (nx := 0) [] []) ?_
  refine awp_seq ?_
  refine bE hF fun x h3 hF => ?_
  obtain ⟨vr2_1, vr4⟩ := x
  refine awp_region ?_
  refine aC (campaign_ParseVersion_ok h3) [] [] [] ?_
  refine aR 6 ?_
  refine aE ?_
  refine awp_seq ?_
  refine bE hF fun x h4 hF => ?_
  obtain ⟨vr1, vr3⟩ := x
  refine awp_region ?_
  refine aR 1 ?_
  refine aC (place_Cell_ok h4) [] [] [] ?_
  refine aR 5 ?_
  refine aE ?_
  refine awp_seq ?_
  refine bE hF fun x h5 hF => ?_
  obtain ⟨vr2_2, vr4_1⟩ := x
  refine awp_region ?_
  refine aR 2 ?_
  refine aC (command_Order_o0_ok h5) [(0, 15000)] [] [] ?_
  refine aR 5 ?_
  refine aE ?_
  refine awp_to (oT (m := ⟨[], [(0, [.d (.int .i64 vr2_1.Major), .d (.int .i64 vr2_1.Minor), .d (.int .i64 vr2_1.Patch)])]⟩) (ts := [(1, .v (.one (.d (.lst (List.map api_Change.enc vr5))))), (2, .v (.one (.d (.int .i64 vr6)))), (3, .v (.one (.d (.lst (List.map (encI .u8) vr))))), (4, .v (.one (.d (.int .i64 vr2)))), (5, .v (.one (.box 0 0))), (6, .v (.one (.d (.int .i64 vr4)))), (7, .v (.one (.d (.str vr1)))), (8, .v (.one (.d (.int .i64 vr3)))), (9, .v (.one (.d (.lst (List.map api_Letter.enc vr2_2))))), (10, .v (.one (.d (.int .i64 vr4_1))))]) (nx := 1) [(0, 4000)] []) ?_
  refine awp_seq ?_
  refine awp_to (st' := fleetkeep2_ready_x1_I vr5 vr6 vr vr2 vr2_1 vr4 vr1 vr3 vr2_2 vr4_1) (oT [] []) ?_
  refine bE hF fun vx1 h13 hF => ?_
  refine awp_sub (fleetkeep2_ready_x1_ok vr5 vr6 vr vr2 vr2_1 vr4 vr1 vr3 vr2_2 vr4_1 h13) ?_
  refine awp_ret ?_
  exact oF hF [] []

/-! ### beaconfleet/fleetkeep2.ChangesLead -/
def fleetkeep2_ChangesLead_x1_k : Bool → AEx
  | _ => .normal

def fleetkeep2_ChangesLead_x1_S (vr8 : List api_Prop) (vs3_1 : fleetmake_Stream) (vr8_1 : List api_Prop) (vr8_2 : Int) (vr4 : List api_Prop) (vr6 : Int) (vr1 : Int) (vr4_1 : List api_Prop) (vr6_1 : Int) : Bool → St
  | vx => Mem.st ⟨[], [(0, [.d (.lst (List.map (encI .i64) vs3_1.L)), .d (.int .i64 vs3_1.at_)])]⟩ (tl [(3, .v (.one (.box 0 0))), (4, .v (.one (.d (.lst (List.map api_Prop.enc vr8))))), (5, .v (.one (.d (.lst (List.map api_Prop.enc vr8_1))))), (69, .v (.one (.d (.bool vx))))]) 1

def fleetkeep2_ChangesLead_x1_I (vr8 : List api_Prop) (vs3_1 : fleetmake_Stream) (vr8_1 : List api_Prop) (vr8_2 : Int) (vr4 : List api_Prop) (vr6 : Int) (vr1 : Int) (vr4_1 : List api_Prop) (vr6_1 : Int) : St := Mem.st ⟨[], [(0, [.d (.lst (List.map (encI .i64) vs3_1.L)), .d (.int .i64 vs3_1.at_)])]⟩ (tl [(3, .v (.one (.box 0 0))), (4, .v (.one (.d (.lst (List.map api_Prop.enc vr8))))), (5, .v (.one (.d (.lst (List.map api_Prop.enc vr8_1))))), (7, .v (.one (.d (.int .i64 vr8_2)))), (8, .v (.one (.d (.lst (List.map api_Prop.enc vr4))))), (9, .v (.one (.d (.int .i64 vr6)))), (11, .v (.one (.d (.int .i64 vr1)))), (12, .v (.one (.d (.lst (List.map api_Prop.enc vr4_1))))), (13, .v (.one (.d (.int .i64 vr6_1))))]) 1

theorem fleetkeep2_ChangesLead_x1_ok (vr8 : List api_Prop) (vs3_1 : fleetmake_Stream) (vr8_1 : List api_Prop) (vr8_2 : Int) (vr4 : List api_Prop) (vr6 : Int) (vr1 : Int) (vr4_1 : List api_Prop) (vr6_1 : Int) {r} (hF : fleetkeep2_ChangesLead_x1 vr8 vr8_1 vr8_2 vr4 vr6 vr1 vr4_1 vr6_1 = some r) : Awp prog 0 122 (cL (cL (cR (cR (cR (cR (cR (cR (cR (cB f3)))))))))) (Out 0 fleetkeep2_ChangesLead_x1_k (fleetkeep2_ChangesLead_x1_S vr8 vs3_1 vr8_1 vr8_2 vr4 vr6 vr1 vr4_1 vr6_1) r) (fleetkeep2_ChangesLead_x1_I vr8 vs3_1 vr8_1 vr8_2 vr4 vr6 vr1 vr4_1 vr6_1) := by
  unfold fleetkeep2_ChangesLead_x1 at hF
  refine bE hF fun vr2 h7 hF => ?_
  refine cE hF (fun h8 hF => ?_) fun h8 hF => ?_
  · refine awp_region ?_
    refine aR 5 ?_
    refine aC (fleetkeep2_errs_ok h7) [] [] [4001] ?_
    refine aB h8 ?_
    refine aR 12 ?_
    refine aE ?_
    exact oO hF [] [] rfl
  · refine bE hF fun vr3 h9 hF => ?_
    refine cE hF (fun h10 hF => ?_) fun h10 hF => ?_
    · refine awp_region ?_
      refine aR 5 ?_
      refine aC (fleetkeep2_errs_ok h7) [] [] [4001] ?_
      refine aB h8 ?_
      refine aR 3 ?_
      refine aC (slices_Equal_api_Prop_api_Prop_ok h9) [] [] [] ?_
      refine aB h10 ?_
      refine aR 7 ?_
      refine aE ?_
      exact oO hF [] [] rfl
    · refine bE hF fun vr5 h11 hF => ?_
      refine awp_region ?_
      refine aR 5 ?_
      refine aC (fleetkeep2_errs_ok h7) [] [] [4001] ?_
      refine aB h8 ?_
      refine aR 3 ?_
      refine aC (slices_Equal_api_Prop_api_Prop_ok h9) [] [] [] ?_
      refine aB h10 ?_
      refine aR 4 ?_
      refine aC (slices_Equal_api_Prop_api_Prop_ok h11) [] [] [] ?_
      refine aR 2 ?_
      refine aE ?_
      exact oO hF [] [] rfl

def fleetkeep2_ChangesLead_x2_k : Bool → AEx
  | _ => .normal

def fleetkeep2_ChangesLead_x2_S (vr8 : List api_Prop) (vr8_3 : List api_Prop) (vr9 : List api_Prop) (vr10 : List api_Clash) (vr11 : Int) (vr9_1 : List api_Prop) (vr10_1 : List api_Clash) (vr11_1 : Int) : Bool → St
  | vx2 => Mem.st ⟨[], []⟩ (tl [(4, .v (.one (.d (.lst (List.map api_Prop.enc vr8))))), (14, .v (.one (.d (.lst (List.map api_Prop.enc vr8_3))))), (103, .v (.one (.d (.bool vx2))))]) 0

def fleetkeep2_ChangesLead_x2_I (vr8 : List api_Prop) (vr8_3 : List api_Prop) (vr9 : List api_Prop) (vr10 : List api_Clash) (vr11 : Int) (vr9_1 : List api_Prop) (vr10_1 : List api_Clash) (vr11_1 : Int) : St := Mem.st ⟨[], []⟩ (tl [(4, .v (.one (.d (.lst (List.map api_Prop.enc vr8))))), (7, .v (.one (.d (.int .i64 vr11)))), (9, .v (.one (.d (.int .i64 vr11_1)))), (14, .v (.one (.d (.lst (List.map api_Prop.enc vr8_3))))), (15, .v (.one (.d (.lst (List.map api_Prop.enc vr9))))), (16, .v (.one (.d (.lst (List.map api_Clash.enc vr10))))), (17, .v (.one (.d (.lst (List.map api_Prop.enc vr9_1))))), (18, .v (.one (.d (.lst (List.map api_Clash.enc vr10_1)))))]) 0

theorem fleetkeep2_ChangesLead_x2_ok (vr8 : List api_Prop) (vr8_3 : List api_Prop) (vr9 : List api_Prop) (vr10 : List api_Clash) (vr11 : Int) (vr9_1 : List api_Prop) (vr10_1 : List api_Clash) (vr11_1 : Int) {r} (hF : fleetkeep2_ChangesLead_x2 vr9 vr10 vr11 vr9_1 vr10_1 vr11_1 = some r) : Awp prog 0 122 (cL (cL (cR (cR (cR (cR (cR (cR (cR (cR (cR (cR (cR (cB f3)))))))))))))) (Out 0 fleetkeep2_ChangesLead_x2_k (fleetkeep2_ChangesLead_x2_S vr8 vr8_3 vr9 vr10 vr11 vr9_1 vr10_1 vr11_1) r) (fleetkeep2_ChangesLead_x2_I vr8 vr8_3 vr9 vr10 vr11 vr9_1 vr10_1 vr11_1) := by
  unfold fleetkeep2_ChangesLead_x2 at hF
  refine cE hF (fun h17 hF => ?_) fun h17 hF => ?_
  · refine awp_region ?_
    refine aR 2 ?_
    refine aB h17 ?_
    refine aR 13 ?_
    refine aE ?_
    exact oO hF [] [] rfl
  · refine cE hF (fun h18 hF => ?_) fun h18 hF => ?_
    · refine awp_region ?_
      refine aR 2 ?_
      refine aB h17 ?_
      refine aR 2 ?_
      refine aL api_Clash.enc vr10 ?_
      refine aR 1 ?_
      refine aL api_Clash.enc vr10_1 ?_
      refine aB h18 ?_
      refine aR 7 ?_
      refine aE ?_
      exact oO hF [] [] rfl
    · refine bE hF fun vr12 h19 hF => ?_
      refine awp_region ?_
      refine aR 2 ?_
      refine aB h17 ?_
      refine aR 2 ?_
      refine aL api_Clash.enc vr10 ?_
      refine aR 1 ?_
      refine aL api_Clash.enc vr10_1 ?_
      refine aB h18 ?_
      refine aR 4 ?_
      refine aC (slices_Equal_api_Prop_api_Prop_ok h19) [] [] [] ?_
      refine aR 2 ?_
      refine aE ?_
      exact oO hF [] [] rfl

def fleetkeep2_ChangesLead_x3_k : Bool → AEx
  | _ => .normal

def fleetkeep2_ChangesLead_x3_S (vr8 : List api_Prop) (vr7_1 : List api_Prop) (vr9_2 : Int) : Bool → St
  | vx3 => Mem.st ⟨[], []⟩ (tl [(2, .v (.one (.d (.bool vx3))))]) 0

def fleetkeep2_ChangesLead_x3_I (vr8 : List api_Prop) (vr7_1 : List api_Prop) (vr9_2 : Int) : St := Mem.st ⟨[], []⟩ (tl [(4, .v (.one (.d (.lst (List.map api_Prop.enc vr8))))), (11, .v (.one (.d (.int .i64 vr9_2)))), (19, .v (.one (.d (.lst (List.map api_Prop.enc vr7_1)))))]) 0

theorem fleetkeep2_ChangesLead_x3_ok (vr8 : List api_Prop) (vr7_1 : List api_Prop) (vr9_2 : Int) {r} (hF : fleetkeep2_ChangesLead_x3 vr8 vr7_1 vr9_2 = some r) : Awp prog 0 122 (cL (cR (cR (cR (cR (cR (cR (cR (cR (cR (cR (cR (cR (cR (cB f3))))))))))))))) (Out 0 fleetkeep2_ChangesLead_x3_k (fleetkeep2_ChangesLead_x3_S vr8 vr7_1 vr9_2) r) (fleetkeep2_ChangesLead_x3_I vr8 vr7_1 vr9_2) := by
  unfold fleetkeep2_ChangesLead_x3 at hF
  refine cE hF (fun h23 hF => ?_) fun h23 hF => ?_
  · refine bE hF fun vr13 h24 hF => ?_
    refine cE hF (fun h25 hF => ?_) fun h25 hF => ?_
    · refine bE hF fun vr9_3 h26 hF => ?_
      refine awp_region ?_
      refine aR 1 ?_
      refine aB h23 ?_
      refine aR 3 ?_
      refine aCb (slices_Equal_api_Prop_api_Prop_ok h24) [] [] [] h25 ?_
      refine aR 2 ?_
      refine aC (fleetkeep2_ready_ok h26) [] [] [] ?_
      refine aR 2 ?_
      refine aE ?_
      exact oO hF [] [] rfl
    · refine awp_region ?_
      refine aR 1 ?_
      refine aB h23 ?_
      refine aR 3 ?_
      refine aCb (slices_Equal_api_Prop_api_Prop_ok h24) [] [] [] h25 ?_
      refine aR 5 ?_
      refine aE ?_
      exact oO hF [] [] rfl
  · refine awp_region ?_
    refine aR 1 ?_
    refine aB h23 ?_
    refine aR 9 ?_
    refine aE ?_
    exact oO hF [] [] rfl

def fleetkeep2_ChangesLead_R (qx : List Int) (r : Bool) : TV × Mem := (.v (.one (.d (.bool r))), ⟨[], []⟩)

theorem fleetkeep2_ChangesLead_ok {qx : List Int} {r} (hF : fleetkeep2_ChangesLead qx = some r) : Holds prog 3 [.v (.one (.d (.lst (List.map (encI .i64) qx))))] ⟨[], []⟩ (Is (fleetkeep2_ChangesLead_R qx r)) := by
  unfold fleetkeep2_ChangesLead at hF
  refine holds_of_awp hΓ (fn := f3) (c := cB f3) (A := 0) (nx := 0) (by kernel_rfl) (by kernel_rfl) (by kernel_rfl) (by kernel_rfl) (by kernel_rfl) (by kernel_rfl) (lowc_of (by kernel_rfl)) ?_
  show Awp prog 0 122 (cB f3) _ _
  refine awp_seq ?_
  refine awp_region ?_
  refine aR 1 ?_
  refine aE ?_
  refine awp_seq ?_
  refine awp_region ?_
  refine aR 4 ?_
  refine aE ?_
  refine awp_seq ?_
  refine bE hF fun x h1 hF => ?_
  obtain ⟨vs3, vr8⟩ := x
  refine bE hF fun x h2 hF => ?_
  obtain ⟨vs3_1, vr8_1⟩ := x
  refine awp_region ?_
  refine aR 1 ?_
  refine aC (fleetmake_Stream_RightProps_ok h1) [(0, 3000)] [] [] ?_
  refine aR 1 ?_
  refine aC (fleetmake_Stream_RightProps_ok h2) [(0, 3000)] [] [] ?_
  refine aR 2 ?_
  refine aE ?_
  refine awp_seq ?_
  refine bE hF fun x h3 hF => ?_
  obtain ⟨vr7, vr8_2⟩ := x
  refine awp_region ?_
  refine aR 2 ?_
  refine aC (twin_Differ_ok h3) [] [] [] ?_
  refine aR 5 ?_
  refine aE ?_
  refine awp_to (oT (m := ⟨[], [(0, [.d (.lst (List.map (encI .i64) vs3_1.L)), .d (.int .i64 vs3_1.at_)])]⟩) (ts := [(3, .v (.one (.box 0 0))), (4, .v (.one (.d (.lst (List.map api_Prop.enc vr8))))), (5, .v (.one (.d (.lst (List.map api_Prop.enc vr8_1))))), (6, .v (.one (.d (.lst (List.map api_Change.enc vr7))))), (7, .v (.one (.d (.int .i64 vr8_2))))]) (nx := 1) [(0, 3000)] []) ?_
  refine awp_seq ?_
  refine bE hF fun x h4 hF => ?_
  obtain ⟨vr4, vr6⟩ := x
  refine awp_region ?_
  refine aR 2 ?_
  refine aC (twin_Apply_ok h4) [] [] [] ?_
  refine aR 5 ?_
  refine aE ?_
  refine awp_to (oT (m := ⟨[], [(0, [.d (.lst (List.map (encI .i64) vs3_1.L)), .d (.int .i64 vs3_1.at_)])]⟩) (ts := [(3, .v (.one (.box 0 0))), (4, .v (.one (.d (.lst (List.map api_Prop.enc vr8))))), (5, .v (.one (.d (.lst (List.map api_Prop.enc vr8_1))))), (6, .v (.one (.d (.lst (List.map api_Change.enc vr7))))), (7, .v (.one (.d (.int .i64 vr8_2)))), (8, .v (.one (.d (.lst (List.map api_Prop.enc vr4))))), (9, .v (.one (.d (.int .i64 vr6))))]) (nx := 1) [] []) ?_
  refine awp_seq ?_
  refine bE hF fun x h5 hF => ?_
  obtain ⟨vr, vr1⟩ := x
  refine awp_region ?_
  refine aR 1 ?_
  refine aC (twin_Turn_ok h5) [] [] [] ?_
  refine aR 5 ?_
  refine aE ?_
  refine awp_to (oT (m := ⟨[], [(0, [.d (.lst (List.map (encI .i64) vs3_1.L)), .d (.int .i64 vs3_1.at_)])]⟩) (ts := [(3, .v (.one (.box 0 0))), (4, .v (.one (.d (.lst (List.map api_Prop.enc vr8))))), (5, .v (.one (.d (.lst (List.map api_Prop.enc vr8_1))))), (7, .v (.one (.d (.int .i64 vr8_2)))), (8, .v (.one (.d (.lst (List.map api_Prop.enc vr4))))), (9, .v (.one (.d (.int .i64 vr6)))), (10, .v (.one (.d (.lst (List.map api_Change.enc vr))))), (11, .v (.one (.d (.int .i64 vr1))))]) (nx := 1) [] []) ?_
  refine awp_seq ?_
  refine bE hF fun x h6 hF => ?_
  obtain ⟨vr4_1, vr6_1⟩ := x
  refine awp_region ?_
  refine aR 2 ?_
  refine aC (twin_Apply_ok h6) [] [] [] ?_
  refine aR 5 ?_
  refine aE ?_
  refine awp_to (oT (m := ⟨[], [(0, [.d (.lst (List.map (encI .i64) vs3_1.L)), .d (.int .i64 vs3_1.at_)])]⟩) (ts := [(3, .v (.one (.box 0 0))), (4, .v (.one (.d (.lst (List.map api_Prop.enc vr8))))), (5, .v (.one (.d (.lst (List.map api_Prop.enc vr8_1))))), (7, .v (.one (.d (.int .i64 vr8_2)))), (8, .v (.one (.d (.lst (List.map api_Prop.enc vr4))))), (9, .v (.one (.d (.int .i64 vr6)))), (11, .v (.one (.d (.int .i64 vr1)))), (12, .v (.one (.d (.lst (List.map api_Prop.enc vr4_1))))), (13, .v (.one (.d (.int .i64 vr6_1))))]) (nx := 1) [] []) ?_
  refine awp_seq ?_
  refine awp_seq ?_
  refine awp_to (st' := fleetkeep2_ChangesLead_x1_I vr8 vs3_1 vr8_1 vr8_2 vr4 vr6 vr1 vr4_1 vr6_1) (oT [] []) ?_
  refine bE hF fun vx1 h12 hF => ?_
  refine awp_sub (fleetkeep2_ChangesLead_x1_ok vr8 vs3_1 vr8_1 vr8_2 vr4 vr6 vr1 vr4_1 vr6_1 h12) ?_
  refine cE hF (fun h13 hF => ?_) fun h13 hF => ?_
  · refine awp_true (by kernel_rfl) h13 ?_
    refine awp_seq ?_
    refine awp_region ?_
    refine aR 1 ?_
    refine aE ?_
    refine awp_ret ?_
    exact oF hF [] []
  · refine awp_false (by kernel_rfl) h13 ?_
    refine awp_skip ?_
    refine awp_seq ?_
    refine bE hF fun x h14 hF => ?_
    obtain ⟨vs3_2, vr8_3⟩ := x
    refine awp_region ?_
    refine aR 1 ?_
    refine aC (fleetmake_Stream_RightProps_ok h14) [] [] [] ?_
    refine aR 1 ?_
    refine aE ?_
    refine awp_seq ?_
    refine bE hF fun x h15 hF => ?_
    obtain ⟨vr9, vr10, vr11⟩ := x
    refine awp_region ?_
    refine aR 3 ?_
    refine aC (twin_Three_ok h15) [] [] [] ?_
    refine aR 7 ?_
    refine aE ?_
    refine awp_to (oT (m := ⟨[], []⟩) (ts := [(4, .v (.one (.d (.lst (List.map api_Prop.enc vr8))))), (5, .v (.one (.d (.lst (List.map api_Prop.enc vr8_1))))), (7, .v (.one (.d (.int .i64 vr11)))), (14, .v (.one (.d (.lst (List.map api_Prop.enc vr8_3))))), (15, .v (.one (.d (.lst (List.map api_Prop.enc vr9))))), (16, .v (.one (.d (.lst (List.map api_Clash.enc vr10)))))]) (nx := 0) [] []) ?_
    refine awp_seq ?_
    refine bE hF fun x h16 hF => ?_
    obtain ⟨vr9_1, vr10_1, vr11_1⟩ := x
    refine awp_region ?_
    refine aR 3 ?_
    refine aC (twin_Three_ok h16) [] [] [] ?_
    refine aR 7 ?_
    refine aE ?_
    refine awp_to (oT (m := ⟨[], []⟩) (ts := [(4, .v (.one (.d (.lst (List.map api_Prop.enc vr8))))), (7, .v (.one (.d (.int .i64 vr11)))), (9, .v (.one (.d (.int .i64 vr11_1)))), (14, .v (.one (.d (.lst (List.map api_Prop.enc vr8_3))))), (15, .v (.one (.d (.lst (List.map api_Prop.enc vr9))))), (16, .v (.one (.d (.lst (List.map api_Clash.enc vr10))))), (17, .v (.one (.d (.lst (List.map api_Prop.enc vr9_1))))), (18, .v (.one (.d (.lst (List.map api_Clash.enc vr10_1)))))]) (nx := 0) [] []) ?_
    refine awp_seq ?_
    refine awp_seq ?_
    refine awp_to (st' := fleetkeep2_ChangesLead_x2_I vr8 vr8_3 vr9 vr10 vr11 vr9_1 vr10_1 vr11_1) (oT [] []) ?_
    refine bE hF fun vx2_1 h20 hF => ?_
    refine awp_sub (fleetkeep2_ChangesLead_x2_ok vr8 vr8_3 vr9 vr10 vr11 vr9_1 vr10_1 vr11_1 h20) ?_
    refine cE hF (fun h21 hF => ?_) fun h21 hF => ?_
    · refine awp_true (by kernel_rfl) h21 ?_
      refine awp_seq ?_
      refine awp_region ?_
      refine aR 1 ?_
      refine aE ?_
      refine awp_ret ?_
      exact oF hF [] []
    · refine awp_false (by kernel_rfl) h21 ?_
      refine awp_skip ?_
      refine awp_seq ?_
      refine bE hF fun x h22 hF => ?_
      obtain ⟨vr7_1, vr8_4, vr9_2⟩ := x
      refine awp_region ?_
      refine aR 3 ?_
      refine aC (twin_Three_2_ok h22) [] [] [] ?_
      refine aR 7 ?_
      refine aE ?_
      refine awp_to (oT (m := ⟨[], []⟩) (ts := [(4, .v (.one (.d (.lst (List.map api_Prop.enc vr8))))), (11, .v (.one (.d (.int .i64 vr9_2)))), (19, .v (.one (.d (.lst (List.map api_Prop.enc vr7_1)))))]) (nx := 0) [] []) ?_
      refine awp_seq ?_
      refine awp_to (st' := fleetkeep2_ChangesLead_x3_I vr8 vr7_1 vr9_2) (oT [] []) ?_
      refine bE hF fun vx3_1 h27 hF => ?_
      refine awp_sub (fleetkeep2_ChangesLead_x3_ok vr8 vr7_1 vr9_2 h27) ?_
      refine awp_ret ?_
      exact oF hF [] []

end Go.Eng
