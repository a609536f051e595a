/-
The code of the Go functions that the law LettersChecked reaches does what the plain functions say, part 2.
-/
import Derived.Test.YtfbeijbgfhelfaaGreatDoorGenP1

namespace Go.Eng

open Go Go.Proofs.Tryz

set_option linter.unusedVariables false

set_option maxRecDepth 20000

set_option maxHeartbeats 0

/-! ### slices.insertionSortCmpFunc[beaconfleet/api.Letter] -/
def slices_insertionSortCmpFunc_api_Letter_o0_f3_command_byOrder_x3_k : Bool → AEx
  | _ => .normal

def slices_insertionSortCmpFunc_api_Letter_o0_f3_command_byOrder_x3_S (qa : Int) (qb : Int) (vi : Int) (vl3 : List api_Letter) (vj1 : Int) : Bool → St
  | vx4 => Mem.st ⟨[(0, ⟨40, 6, List.map api_Letter.enc vl3⟩)], []⟩ (tl [(0, .v (.one (.own 0 none))), (1, .v (.one (.d (.int .i64 qa)))), (2, .v (.one (.d (.int .i64 qb)))), (3, .v (.one (.fn 104 []))), (8, .v (.one (.d (.int .i64 vi)))), (9, .v (.one (.d (.int .i64 vj1)))), (34, .v (.one (.d (.bool vx4))))]) 1

def slices_insertionSortCmpFunc_api_Letter_o0_f3_command_byOrder_x3_I (qa : Int) (qb : Int) (vi : Int) (vl3 : List api_Letter) (vj1 : Int) : St := Mem.st ⟨[(0, ⟨40, 6, List.map api_Letter.enc vl3⟩)], []⟩ (tl [(0, .v (.one (.own 0 none))), (1, .v (.one (.d (.int .i64 qa)))), (2, .v (.one (.d (.int .i64 qb)))), (3, .v (.one (.fn 104 []))), (8, .v (.one (.d (.int .i64 vi)))), (9, .v (.one (.d (.int .i64 vj1))))]) 1

theorem slices_insertionSortCmpFunc_api_Letter_o0_f3_command_byOrder_x3_ok (qa : Int) (qb : Int) (vi : Int) (vl3 : List api_Letter) (vj1 : Int) {r} (hF : slices_insertionSortCmpFunc_api_Letter_o0_f3_command_byOrder_x3 qa vl3 vj1 = some r) : Awp prog 1 53 (cL (cL (cL (cL (cR (cL (cL (cR (cL (cL (cR (cB f194)))))))))))) (Out 1 slices_insertionSortCmpFunc_api_Letter_o0_f3_command_byOrder_x3_k (slices_insertionSortCmpFunc_api_Letter_o0_f3_command_byOrder_x3_S qa qb vi vl3 vj1) r) (slices_insertionSortCmpFunc_api_Letter_o0_f3_command_byOrder_x3_I qa qb vi vl3 vj1) := by
  unfold slices_insertionSortCmpFunc_api_Letter_o0_f3_command_byOrder_x3 at hF
  refine cE hF (fun h2 hF => ?_) fun h2 hF => ?_
  · refine bE hF fun vy15 h3 hF => ?_
    refine bE hF fun vy16 h4 hF => ?_
    refine bE hF fun vr3_3 h5 hF => ?_
    refine aD ?_
    refine dR 2 ?_
    refine dB h2 ?_
    refine dR 4 ?_
    refine dX (x_idxO api_Letter.enc 0 h3) ?_
    refine dX (x_ldE api_Letter.enc h3) ?_
    refine dR 3 ?_
    refine dX (x_idxO api_Letter.enc 0 h4) ?_
    refine dX (x_ldE api_Letter.enc h4) ?_
    refine dC (command_byOrder_ok h5) [] [] [] ?_
    refine dR 2 ?_
    refine dE ?_
    exact oO hF [] [] rfl
  · refine aD ?_
    refine dR 2 ?_
    refine dB h2 ?_
    refine dR 14 ?_
    refine dE ?_
    exact oO hF [] [] rfl

def slices_insertionSortCmpFunc_api_Letter_o0_f3_command_byOrder_x2_k : (List api_Letter) → AEx
  | _ => .exit 2

def slices_insertionSortCmpFunc_api_Letter_o0_f3_command_byOrder_x2_S (qa : Int) (qb : Int) (vi : Int) : (List api_Letter) → St
  | vl4 => Mem.st ⟨[(0, ⟨40, 6, List.map api_Letter.enc vl4⟩)], []⟩ (tl [(0, .v (.one (.own 0 none))), (1, .v (.one (.d (.int .i64 qa)))), (2, .v (.one (.d (.int .i64 qb)))), (3, .v (.one (.fn 104 []))), (8, .v (.one (.d (.int .i64 vi))))]) 1

def slices_insertionSortCmpFunc_api_Letter_o0_f3_command_byOrder_x2_H (qa : Int) (qb : Int) (vi : Int) : (List api_Letter) × Int → St
  | (vl3, vj1) => Mem.st ⟨[(0, ⟨40, 6, List.map api_Letter.enc vl3⟩)], []⟩ (tl [(0, .v (.one (.own 0 none))), (1, .v (.one (.d (.int .i64 qa)))), (2, .v (.one (.d (.int .i64 qb)))), (3, .v (.one (.fn 104 []))), (8, .v (.one (.d (.int .i64 vi)))), (9, .v (.one (.d (.int .i64 vj1))))]) 1

theorem slices_insertionSortCmpFunc_api_Letter_o0_f3_command_byOrder_x2_ok (qa : Int) (qb : Int) (vi : Int) (s : (List api_Letter) × Int) (r : ((List api_Letter) × Int) ⊕ ((List api_Letter))) (hF : slices_insertionSortCmpFunc_api_Letter_o0_f3_command_byOrder_x2 qa s = some r) : Awp prog 1 53 (cL (cL (cR (cL (cL (cR (cL (cL (cR (cB f194)))))))))) (Out 1 (kk slices_insertionSortCmpFunc_api_Letter_o0_f3_command_byOrder_x2_k) (SS (slices_insertionSortCmpFunc_api_Letter_o0_f3_command_byOrder_x2_H qa qb vi) (slices_insertionSortCmpFunc_api_Letter_o0_f3_command_byOrder_x2_S qa qb vi)) r) (slices_insertionSortCmpFunc_api_Letter_o0_f3_command_byOrder_x2_H qa qb vi s) := by
  obtain ⟨vl3, vj1⟩ := s
  unfold slices_insertionSortCmpFunc_api_Letter_o0_f3_command_byOrder_x2 at hF
  refine awp_seq ?_
  refine awp_seq ?_
  refine awp_to (st' := slices_insertionSortCmpFunc_api_Letter_o0_f3_command_byOrder_x3_I qa qb vi vl3 vj1) (oT [] []) ?_
  refine bE hF fun vx4_1 h6 hF => ?_
  refine awp_sub (slices_insertionSortCmpFunc_api_Letter_o0_f3_command_byOrder_x3_ok qa qb vi vl3 vj1 h6) ?_
  refine cE hF (fun h7 hF => ?_) fun h7 hF => ?_
  · refine awp_true (by kernel_rfl) h7 ?_
    refine awp_skip ?_
    refine awp_seq ?_
    refine awp_block ?_
    refine bE hF fun vy17 h8 hF => ?_
    refine bE hF fun vy18 h9 hF => ?_
    refine bE hF fun vy19 h10 hF => ?_
    refine aDw [0] ?_
    refine dR 8 ?_
    refine dI api_Letter.enc 0 h8 rfl ?_
    refine dX (x_ldE api_Letter.enc h8) ?_
    refine dR 2 ?_
    refine dI api_Letter.enc 0 h9 rfl ?_
    refine dX (x_ldE api_Letter.enc h9) ?_
    refine dI api_Letter.enc 0 h9 rfl ?_
    refine dW api_Letter.enc vy17 h9 rfl ?_
    refine dI api_Letter.enc 0 h10 rfl ?_
    refine dW api_Letter.enc vy18 h10 rfl ?_
    refine dE ?_
    refine awp_region ?_
    refine aR 3 ?_
    refine aE ?_
    exact oO hF [] [] rfl
  · refine awp_false (by kernel_rfl) h7 ?_
    refine awp_exit ?_
    exact oO hF [] [] rfl

def slices_insertionSortCmpFunc_api_Letter_o0_f3_command_byOrder_x1_k : (List api_Letter) → AEx
  | _ => .exit 0

def slices_insertionSortCmpFunc_api_Letter_o0_f3_command_byOrder_x1_S (qa : Int) (qb : Int) : (List api_Letter) → St
  | vl5 => Mem.st ⟨[(0, ⟨40, 6, List.map api_Letter.enc vl5⟩)], []⟩ (tl []) 1

def slices_insertionSortCmpFunc_api_Letter_o0_f3_command_byOrder_x1_H (qa : Int) (qb : Int) : (List api_Letter) × Int → St
  | (vl, vi) => Mem.st ⟨[(0, ⟨40, 6, List.map api_Letter.enc vl⟩)], []⟩ (tl [(0, .v (.one (.own 0 none))), (1, .v (.one (.d (.int .i64 qa)))), (2, .v (.one (.d (.int .i64 qb)))), (3, .v (.one (.fn 104 []))), (8, .v (.one (.d (.int .i64 vi))))]) 1

theorem slices_insertionSortCmpFunc_api_Letter_o0_f3_command_byOrder_x1_ok (qa : Int) (qb : Int) (s : (List api_Letter) × Int) (r : ((List api_Letter) × Int) ⊕ ((List api_Letter))) (hF : slices_insertionSortCmpFunc_api_Letter_o0_f3_command_byOrder_x1 qa qb s = some r) : Awp prog 1 53 (cL (cL (cR (cB f194)))) (Out 1 (kk slices_insertionSortCmpFunc_api_Letter_o0_f3_command_byOrder_x1_k) (SS (slices_insertionSortCmpFunc_api_Letter_o0_f3_command_byOrder_x1_H qa qb) (slices_insertionSortCmpFunc_api_Letter_o0_f3_command_byOrder_x1_S qa qb)) r) (slices_insertionSortCmpFunc_api_Letter_o0_f3_command_byOrder_x1_H qa qb s) := by
  obtain ⟨vl, vi⟩ := s
  unfold slices_insertionSortCmpFunc_api_Letter_o0_f3_command_byOrder_x1 at hF
  refine awp_seq ?_
  refine awp_seq ?_
  refine awp_region ?_
  refine aR 3 ?_
  refine aE ?_
  refine cE hF (fun h1 hF => ?_) fun h1 hF => ?_
  · refine awp_true (by kernel_rfl) h1 ?_
    refine awp_skip ?_
    refine awp_seq ?_
    refine awp_block ?_
    refine awp_seq ?_
    refine awp_region ?_
    refine aR 2 ?_
    refine aE ?_
    refine awp_block ?_
    refine awp_to (st' := slices_insertionSortCmpFunc_api_Letter_o0_f3_command_byOrder_x2_H qa qb vi (vl, vi)) (oT [] []) ?_
    refine bE hF fun vl4_1 h11 hF => ?_
    refine awp_sub (awp_loop' (slices_insertionSortCmpFunc_api_Letter_o0_f3_command_byOrder_x2_H qa qb vi) slices_insertionSortCmpFunc_api_Letter_o0_f3_command_byOrder_x2_k (slices_insertionSortCmpFunc_api_Letter_o0_f3_command_byOrder_x2_S qa qb vi) (by intro x; exact fun h => nomatch h) h11 (slices_insertionSortCmpFunc_api_Letter_o0_f3_command_byOrder_x2_ok qa qb vi)) ?_
    refine awp_region ?_
    refine aR 3 ?_
    refine aE ?_
    exact oO hF [] [] rfl
  · refine awp_false (by kernel_rfl) h1 ?_
    refine awp_exit ?_
    exact oO hF [] [] rfl

def slices_insertionSortCmpFunc_api_Letter_o0_f3_command_byOrder_R (qdata : List api_Letter) (qa : Int) (qb : Int) (r : (List api_Letter)) : TV × Mem := (.tup [], ⟨[(0, ⟨40, 6, List.map api_Letter.enc r⟩)], []⟩)

theorem slices_insertionSortCmpFunc_api_Letter_o0_f3_command_byOrder_ok {qdata : List api_Letter} {qa : Int} {qb : Int} {r} (hF : slices_insertionSortCmpFunc_api_Letter_o0_f3_command_byOrder qdata qa qb = some r) : Holds prog 194 [.v (.one (.own 0 none)), .v (.one (.d (.int .i64 qa))), .v (.one (.d (.int .i64 qb))), .v (.one (.fn 104 []))] ⟨[(0, ⟨40, 6, List.map api_Letter.enc qdata⟩)], []⟩ (Is (slices_insertionSortCmpFunc_api_Letter_o0_f3_command_byOrder_R qdata qa qb r)) := by
  unfold slices_insertionSortCmpFunc_api_Letter_o0_f3_command_byOrder at hF
  refine holds_of_awp hΓ (fn := f194) (c := cB f194) (A := 1) (nx := 1) (by kernel_rfl) (by kernel_rfl) (by kernel_rfl) (by kernel_rfl) (by kernel_rfl) (by kernel_rfl) (lowc_of (by kernel_rfl)) ?_
  show Awp prog 1 53 (cB f194) _ _
  refine awp_seq ?_
  refine awp_region ?_
  refine aR 3 ?_
  refine aE ?_
  refine awp_block ?_
  refine awp_to (st' := slices_insertionSortCmpFunc_api_Letter_o0_f3_command_byOrder_x1_H qa qb (qdata, IntKind.wrap .i64 (qa + 1))) (oT [] []) ?_
  refine bE hF fun vl5_1 h12 hF => ?_
  refine awp_sub (awp_loop' (slices_insertionSortCmpFunc_api_Letter_o0_f3_command_byOrder_x1_H qa qb) slices_insertionSortCmpFunc_api_Letter_o0_f3_command_byOrder_x1_k (slices_insertionSortCmpFunc_api_Letter_o0_f3_command_byOrder_x1_S qa qb) (by intro x; exact fun h => nomatch h) h12 (slices_insertionSortCmpFunc_api_Letter_o0_f3_command_byOrder_x1_ok qa qb)) ?_
  exact oF hF [] []

/-! ### slices.pdqsortCmpFunc[beaconfleet/api.Letter] -/
def slices_pdqsortCmpFunc_api_Letter_o0_f4_command_byOrder_x1_k : (List api_Letter) → AEx
  | _ => .ret

def slices_pdqsortCmpFunc_api_Letter_o0_f4_command_byOrder_x1_S (qx : List api_Letter) (qx1 : Int) (qx2 : Int) (qx3 : Int) : (List api_Letter) → St
  | vl => Mem.st ⟨[(0, ⟨40, 6, List.map api_Letter.enc vl⟩)], []⟩ (tl []) 1

def slices_pdqsortCmpFunc_api_Letter_o0_f4_command_byOrder_x1_H (qx : List api_Letter) (qx1 : Int) (qx2 : Int) (qx3 : Int) : Unit → St
  | _ => Mem.st ⟨[(0, ⟨40, 6, List.map api_Letter.enc qx⟩)], []⟩ (tl [(0, .v (.one (.own 0 none))), (1, .v (.one (.d (.int .i64 qx1)))), (2, .v (.one (.d (.int .i64 qx2)))), (3, .v (.one (.d (.int .i64 qx3)))), (4, .v (.one (.fn 104 []))), (10, .v (.one (.d (.bool true)))), (11, .v (.one (.d (.bool true))))]) 1

theorem slices_pdqsortCmpFunc_api_Letter_o0_f4_command_byOrder_x1_ok (qx : List api_Letter) (qx1 : Int) (qx2 : Int) (qx3 : Int) (s : Unit) (r : (Unit) ⊕ ((List api_Letter))) (hF : slices_pdqsortCmpFunc_api_Letter_o0_f4_command_byOrder_x1 qx qx1 qx2 qx3 s = some r) : Awp prog 1 148 (cL (cL (cR (cR (cB f110))))) (Out 1 (kk slices_pdqsortCmpFunc_api_Letter_o0_f4_command_byOrder_x1_k) (SS (slices_pdqsortCmpFunc_api_Letter_o0_f4_command_byOrder_x1_H qx qx1 qx2 qx3) (slices_pdqsortCmpFunc_api_Letter_o0_f4_command_byOrder_x1_S qx qx1 qx2 qx3)) r) (slices_pdqsortCmpFunc_api_Letter_o0_f4_command_byOrder_x1_H qx qx1 qx2 qx3 s) := by
  unfold slices_pdqsortCmpFunc_api_Letter_o0_f4_command_byOrder_x1 at hF
  refine awp_block ?_
  refine awp_seq ?_
  refine awp_region ?_
  refine aR 4 ?_
  refine aE ?_
  refine awp_seq ?_
  refine awp_seq ?_
  refine awp_region ?_
  refine aR 2 ?_
  refine aE ?_
  refine cE hF (fun h1 hF => ?_) fun h1 hF => ?_
  · refine awp_true (by kernel_rfl) h1 ?_
    refine awp_seq ?_
    refine bE hF fun vl6_1 h2 hF => ?_
    refine gE hF fun h3 hF => ?_
    refine awp_region ?_
    refine aR 4 ?_
    refine aCp (slices_insertionSortCmpFunc_api_Letter_o0_f3_command_byOrder_ok h2) ⟨⟨rfl, rfl, pin1 h3⟩, trivial⟩ [] [] [] ?_
    refine aE ?_
    refine awp_ret ?_
    exact oO hF [] [] rfl
  · refine awp_false (by kernel_rfl) h1 ?_
    refine awp_skip ?_
    refine awp_seq ?_
    refine awp_seq ?_
    refine awp_region ?_
    refine aR 2 ?_
    refine aE ?_
    refine cE hF (fun h4 hF => ?_) fun h4 hF => ?_
    · refine awp_true (by kernel_rfl) h4 ?_
      refine awp_seq ?_
      exact nE hF
    · refine awp_false (by kernel_rfl) h4 ?_
      refine awp_skip ?_
      refine awp_seq ?_
      refine awp_seq ?_
      refine awp_region ?_
      refine aR 2 ?_
      refine aE ?_
      refine awp_false (by kernel_rfl) rfl ?_
      refine awp_skip ?_
      refine awp_seq ?_
      exact nE hF

def slices_pdqsortCmpFunc_api_Letter_o0_f4_command_byOrder_R (qx : List api_Letter) (qx1 : Int) (qx2 : Int) (qx3 : Int) (r : (List api_Letter)) : TV × Mem := (.tup [], ⟨[(0, ⟨40, 6, List.map api_Letter.enc r⟩)], []⟩)

theorem slices_pdqsortCmpFunc_api_Letter_o0_f4_command_byOrder_ok {qx : List api_Letter} {qx1 : Int} {qx2 : Int} {qx3 : Int} {r} (hF : slices_pdqsortCmpFunc_api_Letter_o0_f4_command_byOrder qx qx1 qx2 qx3 = some r) : Holds prog 110 [.v (.one (.own 0 none)), .v (.one (.d (.int .i64 qx1))), .v (.one (.d (.int .i64 qx2))), .v (.one (.d (.int .i64 qx3))), .v (.one (.fn 104 []))] ⟨[(0, ⟨40, 6, List.map api_Letter.enc qx⟩)], []⟩ (Is (slices_pdqsortCmpFunc_api_Letter_o0_f4_command_byOrder_R qx qx1 qx2 qx3 r)) := by
  unfold slices_pdqsortCmpFunc_api_Letter_o0_f4_command_byOrder at hF
  refine holds_of_awp hΓ (fn := f110) (c := cB f110) (A := 1) (nx := 1) (by kernel_rfl) (by kernel_rfl) (by kernel_rfl) (by kernel_rfl) (by kernel_rfl) (by kernel_rfl) (lowc_of (by kernel_rfl)) ?_
  show Awp prog 1 148 (cB f110) _ _
  refine awp_seq ?_
  refine awp_region ?_
  refine aR 1 ?_
  refine aE ?_
  refine awp_seq ?_
  refine awp_region ?_
  refine aR 1 ?_
  refine aE ?_
  refine awp_block ?_
  refine awp_to (st' := slices_pdqsortCmpFunc_api_Letter_o0_f4_command_byOrder_x1_H qx qx1 qx2 qx3 ()) (oT [] []) ?_
  refine bE hF fun vl1 h7 hF => ?_
  refine awp_sub (awp_loop' (slices_pdqsortCmpFunc_api_Letter_o0_f4_command_byOrder_x1_H qx qx1 qx2 qx3) slices_pdqsortCmpFunc_api_Letter_o0_f4_command_byOrder_x1_k (slices_pdqsortCmpFunc_api_Letter_o0_f4_command_byOrder_x1_S qx qx1 qx2 qx3) (by intro x; exact fun h => nomatch h) h7 (slices_pdqsortCmpFunc_api_Letter_o0_f4_command_byOrder_x1_ok qx qx1 qx2 qx3)) ?_
  exact oF hF [] []

/-! ### slices.SortFunc[[]beaconfleet/api.Letter,beaconfleet/api.Letter] -/
def slices_SortFunc_api_Letter_api_Letter_o0_f1_command_byOrder_R (qx : List api_Letter) (r : (List api_Letter)) : TV × Mem := (.tup [], ⟨[(0, ⟨40, 6, List.map api_Letter.enc r⟩)], []⟩)

theorem slices_SortFunc_api_Letter_api_Letter_o0_f1_command_byOrder_ok {qx : List api_Letter} {r} (hF : slices_SortFunc_api_Letter_api_Letter_o0_f1_command_byOrder qx = some r) : Holds prog 36 [.v (.one (.own 0 none)), .v (.one (.fn 104 []))] ⟨[(0, ⟨40, 6, List.map api_Letter.enc qx⟩)], []⟩ (Is (slices_SortFunc_api_Letter_api_Letter_o0_f1_command_byOrder_R qx r)) := by
  unfold slices_SortFunc_api_Letter_api_Letter_o0_f1_command_byOrder at hF
  refine holds_of_awp hΓ (fn := f36) (c := cB f36) (A := 1) (nx := 1) (by kernel_rfl) (by kernel_rfl) (by kernel_rfl) (by kernel_rfl) (by kernel_rfl) (by kernel_rfl) (lowc_of (by kernel_rfl)) ?_
  show Awp prog 1 14 (cB f36) _ _
  refine awp_seq ?_
  refine awp_region ?_
  refine aR 1 ?_
  refine aL api_Letter.enc qx ?_
  refine aR 1 ?_
  refine aE ?_
  refine bE hF fun vr1 h1 hF => ?_
  refine bE hF fun vl2 h2 hF => ?_
  refine gE hF fun h3 hF => ?_
  refine awp_region ?_
  refine aR 4 ?_
  refine aC (bits_Len_ok h1) [] [] [] ?_
  refine aR 1 ?_
  refine aCp (slices_pdqsortCmpFunc_api_Letter_o0_f4_command_byOrder_ok h2) ⟨⟨rfl, rfl, pin1 h3⟩, trivial⟩ [] [] [] ?_
  refine aE ?_
  exact oF hF [] []

/-! ### beaconfleet/command.Order -/
def command_Order_x1_k : Unit ⊕ Int → AEx
  | .inl _ => .exit 0
  | .inr _ => .ret

def command_Order_x1_S (ql : List api_Letter) : Unit ⊕ Int → St
  | .inl _ => Mem.st ⟨[], []⟩ (tl [(0, .v (.one (.d (.lst (List.map api_Letter.enc ql)))))]) 0
  | .inr vx1 => Mem.st ⟨[], []⟩ (tl [(2, .v (.one (.nil))), (3, .v (.one (.d (.int .i64 vx1))))]) 0

def command_Order_x1_H (ql : List api_Letter) : Int → St
  | vx => Mem.st ⟨[], []⟩ (tl [(0, .v (.one (.d (.lst (List.map api_Letter.enc ql))))), (11, .v (.one (.d (.lst (List.map api_Letter.enc ql))))), (12, .v (.one (.d (.int .i64 (ql.length : Int))))), (13, .v (.one (.d (.int .i64 vx))))]) 0

theorem command_Order_x1_ok (ql : List api_Letter) (vx : Int) (r : (Int) ⊕ (Unit ⊕ Int)) (hF : command_Order_x1 ql vx = some r) : Awp prog 0 34 (cL (cL (cR (cL (cR (cR (cB f30))))))) (Out 0 (kk command_Order_x1_k) (SS (command_Order_x1_H ql) (command_Order_x1_S ql)) r) (command_Order_x1_H ql vx) := by
  unfold command_Order_x1 at hF
  refine awp_seq ?_
  refine awp_region ?_
  refine aR 1 ?_
  refine aE ?_
  refine awp_seq ?_
  refine cE hF (fun h2 hF => ?_) fun h2 hF => ?_
  · refine awp_true (by kernel_rfl) h2 ?_
    refine awp_skip ?_
    refine awp_seq ?_
    refine awp_block ?_
    refine awp_seq ?_
    refine bE hF fun vy1 h3 hF => ?_
    refine awp_region ?_
    refine aR 1 ?_
    refine aX (x_idx api_Letter.enc h3) ?_
    refine aR 4 ?_
    refine aE ?_
    refine awp_seq ?_
    refine awp_seq ?_
    refine bE hF fun vr3_1 h4 hF => ?_
    refine awp_region ?_
    refine aR 1 ?_
    refine aC (command_CheckLetter_ok h4) [] [] [] ?_
    refine aR 1 ?_
    refine aE ?_
    refine awp_seq ?_
    refine awp_region ?_
    refine aR 2 ?_
    refine aE ?_
    refine cE hF (fun h5 hF => ?_) fun h5 hF => ?_
    · refine awp_true (by kernel_rfl) h5 ?_
      refine awp_seq ?_
      refine awp_region ?_
      refine aR 3 ?_
      refine aE ?_
      refine awp_ret ?_
      exact oO hF [] [] rfl
    · refine awp_false (by kernel_rfl) h5 ?_
      refine awp_skip ?_
      refine awp_seq ?_
      refine bE hF fun vl1 h6 hF => ?_
      refine bE hF fun vr1_1 h7 hF => ?_
      refine awp_region ?_
      refine aR 2 ?_
      refine aX (x_slice api_Letter.enc h6) ?_
      refine aR 1 ?_
      refine aC (slices_ContainsFunc_api_Letter_api_Letter_f1_command_Order_1_ok h7) [(0, 4000)] [] [] ?_
      refine aE ?_
      refine cE hF (fun h8 hF => ?_) fun h8 hF => ?_
      · refine awp_true (by kernel_rfl) h8 ?_
        refine awp_seq ?_
        refine awp_region ?_
        refine aR 2 ?_
        refine aE ?_
        refine awp_ret ?_
        exact oO hF [] [] rfl
      · refine awp_false (by kernel_rfl) h8 ?_
        refine awp_skip ?_
        refine awp_region ?_
        refine aR 2 ?_
        refine aE ?_
        exact oO hF [] [] rfl
  · refine awp_false (by kernel_rfl) h2 ?_
    refine awp_exit ?_
    exact oO hF [] [] rfl

def command_Order_R (ql : List api_Letter) (r : (List api_Letter) × Int) : TV × Mem := (.tup [.one (.own 0 none), .one (.d (.int .i64 r.2))], ⟨[(0, ⟨40, 6, List.map api_Letter.enc r.1⟩)], []⟩)

theorem command_Order_ok {ql : List api_Letter} {r} (hF : command_Order ql = some r) : Holds prog 30 [.v (.one (.d (.lst (List.map api_Letter.enc ql))))] ⟨[], []⟩ (Is (command_Order_R ql r)) := by
  unfold command_Order at hF
  refine holds_of_awp hΓ (fn := f30) (c := cB f30) (A := 0) (nx := 0) (by kernel_rfl) (by kernel_rfl) (by kernel_rfl) (by kernel_rfl) (by kernel_rfl) (by kernel_rfl) (lowc_of (by kernel_rfl)) ?_
  show Awp prog 0 34 (cB f30) _ _
  refine awp_seq ?_
  refine awp_region ?_
  refine aR 2 ?_
  refine aE ?_
  refine awp_seq ?_
  refine awp_seq ?_
  refine awp_region ?_
  refine aR 1 ?_
  refine aL api_Letter.enc ql ?_
  refine aR 1 ?_
  refine aE ?_
  refine cE hF (fun h1 hF => ?_) fun h1 hF => ?_
  · refine awp_true (by kernel_rfl) h1 ?_
    refine awp_seq ?_
    refine awp_region ?_
    refine aR 2 ?_
    refine aE ?_
    refine awp_ret ?_
    exact oF hF [] [0]
  · refine awp_false (by kernel_rfl) h1 ?_
    refine awp_skip ?_
    refine awp_seq ?_
    refine awp_seq ?_
    refine awp_region ?_
    refine aR 1 ?_
    refine aL api_Letter.enc ql ?_
    refine aR 1 ?_
    refine aE ?_
    refine awp_block ?_
    refine awp_to (st' := command_Order_x1_H ql 0) (oT [] []) ?_
    refine bE hF fun x h9 hF => ?_
    rcases x with _ | vx1_1
    · refine awp_sub (awp_loop' (command_Order_x1_H ql) command_Order_x1_k (command_Order_x1_S ql) (by intro x; rcases x with x | x <;> exact fun h => nomatch h) h9 (command_Order_x1_ok ql)) ?_
      refine awp_seq ?_
      refine bE hF fun vr h10 hF => ?_
      refine awp_region ?_
      refine aR 1 ?_
      refine aC (slices_Clone_api_Letter_api_Letter_ok h10) [] [] [] ?_
      refine aR 1 ?_
      refine aE ?_
      refine awp_seq ?_
      refine bE hF fun vl2 h11 hF => ?_
      refine gE hF fun h12 hF => ?_
      refine awp_region ?_
      refine aR 1 ?_
      refine aCp (slices_SortFunc_api_Letter_api_Letter_o0_f1_command_byOrder_ok h11) ⟨⟨rfl, rfl, pin1 h12⟩, trivial⟩ [(0, 1000)] [] [] ?_
      refine aE ?_
      refine awp_seq ?_
      refine awp_region ?_
      refine aR 3 ?_
      refine aE ?_
      refine awp_ret ?_
      exact oF hF [(0, 1000)] []
    · refine awp_sub (awp_loop' (command_Order_x1_H ql) command_Order_x1_k (command_Order_x1_S ql) (by intro x; rcases x with x | x <;> exact fun h => nomatch h) h9 (command_Order_x1_ok ql)) ?_
      exact oF hF [] [0]

/-! ### beaconfleet/fleetref2.LettersFault$1 -/
def fleetref2_LettersFault_1_R (qo : api_Letter) (qx : api_Letter) (r : Unit) : TV × Mem := (.v (.one (.d (.bool (decide (qo.Id = qx.Id))))), ⟨[], [(0, [.d (.str qx.Id), .d (.str qx.Slot), .d (.str qx.Body), .d (.int .i64 qx.Prio), .d (.int .i64 qx.At), .d (.int .i64 qx.Until)])]⟩)

theorem fleetref2_LettersFault_1_ok {qo : api_Letter} {qx : api_Letter} {r} (hF : fleetref2_LettersFault_1 qo qx = some r) : Holds prog 105 [.v (.agg [.d (.str qo.Id), .d (.str qo.Slot), .d (.str qo.Body), .d (.int .i64 qo.Prio), .d (.int .i64 qo.At), .d (.int .i64 qo.Until)]), .v (.one (.box 0 0))] ⟨[], [(0, [.d (.str qx.Id), .d (.str qx.Slot), .d (.str qx.Body), .d (.int .i64 qx.Prio), .d (.int .i64 qx.At), .d (.int .i64 qx.Until)])]⟩ (Is (fleetref2_LettersFault_1_R qo qx r)) := by
  unfold fleetref2_LettersFault_1 at hF
  refine holds_of_awp hΓ (fn := f105) (c := cB f105) (A := 1) (nx := 1) (by kernel_rfl) (by kernel_rfl) (by kernel_rfl) (by kernel_rfl) (by kernel_rfl) (by kernel_rfl) (lowc_of (by kernel_rfl)) ?_
  show Awp prog 1 9 (cB f105) _ _
  refine awp_seq ?_
  refine awp_region ?_
  refine aR 2 ?_
  refine aE ?_
  refine awp_seq ?_
  refine awp_region ?_
  refine aR 6 ?_
  refine aE ?_
  refine awp_ret ?_
  exact oF hF [] []

/-! ### slices.IndexFunc[[]beaconfleet/api.Letter,beaconfleet/api.Letter] -/
def slices_IndexFunc_api_Letter_api_Letter_f1_fleetref2_LettersFault_1_x1_k : Unit ⊕ Int → AEx
  | .inl _ => .exit 0
  | .inr _ => .ret

def slices_IndexFunc_api_Letter_api_Letter_f1_fleetref2_LettersFault_1_x1_S (qs : List api_Letter) (qf : api_Letter) : Unit ⊕ Int → St
  | .inl _ => Mem.st ⟨[], [(0, [.d (.str qf.Id), .d (.str qf.Slot), .d (.str qf.Body), .d (.int .i64 qf.Prio), .d (.int .i64 qf.At), .d (.int .i64 qf.Until)])]⟩ (tl []) 1
  | .inr vx1 => Mem.st ⟨[], [(0, [.d (.str qf.Id), .d (.str qf.Slot), .d (.str qf.Body), .d (.int .i64 qf.Prio), .d (.int .i64 qf.At), .d (.int .i64 qf.Until)])]⟩ (tl [(4, .v (.one (.d (.int .i64 vx1))))]) 1

def slices_IndexFunc_api_Letter_api_Letter_f1_fleetref2_LettersFault_1_x1_H (qs : List api_Letter) (qf : api_Letter) : Int → St
  | vx => Mem.st ⟨[], [(0, [.d (.str qf.Id), .d (.str qf.Slot), .d (.str qf.Body), .d (.int .i64 qf.Prio), .d (.int .i64 qf.At), .d (.int .i64 qf.Until)])]⟩ (tl [(0, .v (.one (.d (.lst (List.map api_Letter.enc qs))))), (1, .v (.one (.fn 105 [0]))), (7, .v (.one (.d (.int .i64 (qs.length : Int))))), (8, .v (.one (.d (.int .i64 vx))))]) 1

theorem slices_IndexFunc_api_Letter_api_Letter_f1_fleetref2_LettersFault_1_x1_ok (qs : List api_Letter) (qf : api_Letter) (vx : Int) (r : (Int) ⊕ (Unit ⊕ Int)) (hF : slices_IndexFunc_api_Letter_api_Letter_f1_fleetref2_LettersFault_1_x1 qs qf vx = some r) : Awp prog 1 19 (cL (cL (cR (cL (cR (cB f170)))))) (Out 1 (kk slices_IndexFunc_api_Letter_api_Letter_f1_fleetref2_LettersFault_1_x1_k) (SS (slices_IndexFunc_api_Letter_api_Letter_f1_fleetref2_LettersFault_1_x1_H qs qf) (slices_IndexFunc_api_Letter_api_Letter_f1_fleetref2_LettersFault_1_x1_S qs qf)) r) (slices_IndexFunc_api_Letter_api_Letter_f1_fleetref2_LettersFault_1_x1_H qs qf vx) := by
  unfold slices_IndexFunc_api_Letter_api_Letter_f1_fleetref2_LettersFault_1_x1 at hF
  refine awp_seq ?_
  refine awp_region ?_
  refine aR 1 ?_
  refine aE ?_
  refine awp_seq ?_
  refine cE hF (fun h1 hF => ?_) fun h1 hF => ?_
  · refine awp_true (by kernel_rfl) h1 ?_
    refine awp_skip ?_
    refine awp_seq ?_
    refine awp_block ?_
    refine awp_seq ?_
    refine awp_region ?_
    refine aR 2 ?_
    refine aE ?_
    refine awp_seq ?_
    refine bE hF fun vy1 h2 hF => ?_
    refine bE hF fun _ h3 hF => ?_
    refine awp_region ?_
    refine aR 3 ?_
    refine aX (x_idx api_Letter.enc h2) ?_
    refine aR 1 ?_
    refine aC (fleetref2_LettersFault_1_ok h3) [] [] [] ?_
    refine aE ?_
    refine cE hF (fun h4 hF => ?_) fun h4 hF => ?_
    · refine awp_true (by kernel_rfl) h4 ?_
      refine awp_seq ?_
      refine awp_region ?_
      refine aR 2 ?_
      refine aE ?_
      refine awp_ret ?_
      exact oO hF [] [] rfl
    · refine awp_false (by kernel_rfl) h4 ?_
      refine awp_skip ?_
      refine awp_region ?_
      refine aR 2 ?_
      refine aE ?_
      exact oO hF [] [] rfl
  · refine awp_false (by kernel_rfl) h1 ?_
    refine awp_exit ?_
    exact oO hF [] [] rfl

def slices_IndexFunc_api_Letter_api_Letter_f1_fleetref2_LettersFault_1_R (qs : List api_Letter) (qf : api_Letter) (r : Int) : TV × Mem := (.v (.one (.d (.int .i64 r))), ⟨[], [(0, [.d (.str qf.Id), .d (.str qf.Slot), .d (.str qf.Body), .d (.int .i64 qf.Prio), .d (.int .i64 qf.At), .d (.int .i64 qf.Until)])]⟩)

theorem slices_IndexFunc_api_Letter_api_Letter_f1_fleetref2_LettersFault_1_ok {qs : List api_Letter} {qf : api_Letter} {r} (hF : slices_IndexFunc_api_Letter_api_Letter_f1_fleetref2_LettersFault_1 qs qf = some r) : Holds prog 170 [.v (.one (.d (.lst (List.map api_Letter.enc qs)))), .v (.one (.fn 105 [0]))] ⟨[], [(0, [.d (.str qf.Id), .d (.str qf.Slot), .d (.str qf.Body), .d (.int .i64 qf.Prio), .d (.int .i64 qf.At), .d (.int .i64 qf.Until)])]⟩ (Is (slices_IndexFunc_api_Letter_api_Letter_f1_fleetref2_LettersFault_1_R qs qf r)) := by
  unfold slices_IndexFunc_api_Letter_api_Letter_f1_fleetref2_LettersFault_1 at hF
  refine holds_of_awp hΓ (fn := f170) (c := cB f170) (A := 1) (nx := 1) (by kernel_rfl) (by kernel_rfl) (by kernel_rfl) (by kernel_rfl) (by kernel_rfl) (by kernel_rfl) (lowc_of (by kernel_rfl)) ?_
  show Awp prog 1 19 (cB f170) _ _
  refine awp_seq ?_
  refine awp_region ?_
  refine aR 1 ?_
  refine aE ?_
  refine awp_seq ?_
  refine awp_seq ?_
  refine awp_region ?_
  refine aR 1 ?_
  refine aL api_Letter.enc qs ?_
  refine aR 1 ?_
  refine aE ?_
  refine awp_block ?_
  refine awp_to (st' := slices_IndexFunc_api_Letter_api_Letter_f1_fleetref2_LettersFault_1_x1_H qs qf 0) (oT [] []) ?_
  refine bE hF fun x h5 hF => ?_
  rcases x with _ | vx1_1
  · refine awp_sub (awp_loop' (slices_IndexFunc_api_Letter_api_Letter_f1_fleetref2_LettersFault_1_x1_H qs qf) slices_IndexFunc_api_Letter_api_Letter_f1_fleetref2_LettersFault_1_x1_k (slices_IndexFunc_api_Letter_api_Letter_f1_fleetref2_LettersFault_1_x1_S qs qf) (by intro x; rcases x with x | x <;> exact fun h => nomatch h) h5 (slices_IndexFunc_api_Letter_api_Letter_f1_fleetref2_LettersFault_1_x1_ok qs qf)) ?_
    refine awp_seq ?_
    refine awp_region ?_
    refine aR 1 ?_
    refine aE ?_
    refine awp_ret ?_
    exact oF hF [] []
  · refine awp_sub (awp_loop' (slices_IndexFunc_api_Letter_api_Letter_f1_fleetref2_LettersFault_1_x1_H qs qf) slices_IndexFunc_api_Letter_api_Letter_f1_fleetref2_LettersFault_1_x1_k (slices_IndexFunc_api_Letter_api_Letter_f1_fleetref2_LettersFault_1_x1_S qs qf) (by intro x; rcases x with x | x <;> exact fun h => nomatch h) h5 (slices_IndexFunc_api_Letter_api_Letter_f1_fleetref2_LettersFault_1_x1_ok qs qf)) ?_
    exact oF hF [] []

/-! ### slices.ContainsFunc[[]beaconfleet/api.Letter,beaconfleet/api.Letter] -/
def slices_ContainsFunc_api_Letter_api_Letter_f1_fleetref2_LettersFault_1_R (qs : List api_Letter) (qf : api_Letter) (r : Bool) : TV × Mem := (.v (.one (.d (.bool r))), ⟨[], [(0, [.d (.str qf.Id), .d (.str qf.Slot), .d (.str qf.Body), .d (.int .i64 qf.Prio), .d (.int .i64 qf.At), .d (.int .i64 qf.Until)])]⟩)

theorem slices_ContainsFunc_api_Letter_api_Letter_f1_fleetref2_LettersFault_1_ok {qs : List api_Letter} {qf : api_Letter} {r} (hF : slices_ContainsFunc_api_Letter_api_Letter_f1_fleetref2_LettersFault_1 qs qf = some r) : Holds prog 75 [.v (.one (.d (.lst (List.map api_Letter.enc qs)))), .v (.one (.fn 105 [0]))] ⟨[], [(0, [.d (.str qf.Id), .d (.str qf.Slot), .d (.str qf.Body), .d (.int .i64 qf.Prio), .d (.int .i64 qf.At), .d (.int .i64 qf.Until)])]⟩ (Is (slices_ContainsFunc_api_Letter_api_Letter_f1_fleetref2_LettersFault_1_R qs qf r)) := by
  unfold slices_ContainsFunc_api_Letter_api_Letter_f1_fleetref2_LettersFault_1 at hF
  refine holds_of_awp hΓ (fn := f75) (c := cB f75) (A := 1) (nx := 1) (by kernel_rfl) (by kernel_rfl) (by kernel_rfl) (by kernel_rfl) (by kernel_rfl) (by kernel_rfl) (lowc_of (by kernel_rfl)) ?_
  show Awp prog 1 9 (cB f75) _ _
  refine awp_seq ?_
  refine awp_region ?_
  refine aR 1 ?_
  refine aE ?_
  refine awp_seq ?_
  refine bE hF fun vr h1 hF => ?_
  refine awp_region ?_
  refine aR 2 ?_
  refine aC (slices_IndexFunc_api_Letter_api_Letter_f1_fleetref2_LettersFault_1_ok h1) [] [] [] ?_
  refine aR 2 ?_
  refine aE ?_
  refine awp_ret ?_
  exact oF hF [] []

/-! ### beaconfleet/fleetref2.LettersFault -/
def fleetref2_LettersFault_x1_k : Unit ⊕ Int → AEx
  | .inl _ => .exit 0
  | .inr _ => .ret

def fleetref2_LettersFault_x1_S (ql : List api_Letter) : Unit ⊕ Int → St
  | .inl _ => Mem.st ⟨[], []⟩ (tl []) 0
  | .inr vx1 => Mem.st ⟨[], []⟩ (tl [(2, .v (.one (.d (.int .i64 vx1))))]) 0

def fleetref2_LettersFault_x1_H (ql : List api_Letter) : Int → St
  | vx => Mem.st ⟨[], []⟩ (tl [(0, .v (.one (.d (.lst (List.map api_Letter.enc ql))))), (9, .v (.one (.d (.lst (List.map api_Letter.enc ql))))), (10, .v (.one (.d (.int .i64 (ql.length : Int))))), (11, .v (.one (.d (.int .i64 vx))))]) 0

theorem fleetref2_LettersFault_x1_ok (ql : List api_Letter) (vx : Int) (r : (Int) ⊕ (Unit ⊕ Int)) (hF : fleetref2_LettersFault_x1 ql vx = some r) : Awp prog 0 27 (cL (cL (cR (cL (cR (cR (cB f31))))))) (Out 0 (kk fleetref2_LettersFault_x1_k) (SS (fleetref2_LettersFault_x1_H ql) (fleetref2_LettersFault_x1_S ql)) r) (fleetref2_LettersFault_x1_H ql vx) := by
  unfold fleetref2_LettersFault_x1 at hF
  refine awp_seq ?_
  refine awp_region ?_
  refine aR 1 ?_
  refine aE ?_
  refine awp_seq ?_
  refine cE hF (fun h2 hF => ?_) fun h2 hF => ?_
  · refine awp_true (by kernel_rfl) h2 ?_
    refine awp_skip ?_
    refine awp_seq ?_
    refine awp_block ?_
    refine awp_seq ?_
    refine bE hF fun vy1 h3 hF => ?_
    refine awp_region ?_
    refine aR 1 ?_
    refine aX (x_idx api_Letter.enc h3) ?_
    refine aR 4 ?_
    refine aE ?_
    refine awp_seq ?_
    refine awp_seq ?_
    refine bE hF fun vr4_1 h4 hF => ?_
    refine awp_region ?_
    refine aR 1 ?_
    refine aC (fleetref2_LetterFault_ok h4) [] [] [] ?_
    refine aR 1 ?_
    refine aE ?_
    refine awp_seq ?_
    refine awp_region ?_
    refine aR 2 ?_
    refine aE ?_
    refine cE hF (fun h5 hF => ?_) fun h5 hF => ?_
    · refine awp_true (by kernel_rfl) h5 ?_
      refine awp_seq ?_
      refine awp_region ?_
      refine aR 2 ?_
      refine aE ?_
      refine awp_ret ?_
      exact oO hF [] [] rfl
    · refine awp_false (by kernel_rfl) h5 ?_
      refine awp_skip ?_
      refine awp_seq ?_
      refine bE hF fun vl1 h6 hF => ?_
      refine bE hF fun vr1_1 h7 hF => ?_
      refine awp_region ?_
      refine aR 2 ?_
      refine aX (x_slice api_Letter.enc h6) ?_
      refine aR 1 ?_
      refine aC (slices_ContainsFunc_api_Letter_api_Letter_f1_fleetref2_LettersFault_1_ok h7) [(0, 4000)] [] [] ?_
      refine aE ?_
      refine cE hF (fun h8 hF => ?_) fun h8 hF => ?_
      · refine awp_true (by kernel_rfl) h8 ?_
        refine awp_seq ?_
        refine awp_region ?_
        refine aR 1 ?_
        refine aE ?_
        refine awp_ret ?_
        exact oO hF [] [] rfl
      · refine awp_false (by kernel_rfl) h8 ?_
        refine awp_skip ?_
        refine awp_region ?_
        refine aR 2 ?_
        refine aE ?_
        exact oO hF [] [] rfl
  · refine awp_false (by kernel_rfl) h2 ?_
    refine awp_exit ?_
    exact oO hF [] [] rfl

def fleetref2_LettersFault_R (ql : List api_Letter) (r : Int) : TV × Mem := (.v (.one (.d (.int .i64 r))), ⟨[], []⟩)

theorem fleetref2_LettersFault_ok {ql : List api_Letter} {r} (hF : fleetref2_LettersFault ql = some r) : Holds prog 31 [.v (.one (.d (.lst (List.map api_Letter.enc ql))))] ⟨[], []⟩ (Is (fleetref2_LettersFault_R ql r)) := by
  unfold fleetref2_LettersFault at hF
  refine holds_of_awp hΓ (fn := f31) (c := cB f31) (A := 0) (nx := 0) (by kernel_rfl) (by kernel_rfl) (by kernel_rfl) (by kernel_rfl) (by kernel_rfl) (by kernel_rfl) (lowc_of (by kernel_rfl)) ?_
  show Awp prog 0 27 (cB f31) _ _
  refine awp_seq ?_
  refine awp_region ?_
  refine aR 1 ?_
  refine aE ?_
  refine awp_seq ?_
  refine awp_seq ?_
  refine awp_region ?_
  refine aR 1 ?_
  refine aL api_Letter.enc ql ?_
  refine aR 1 ?_
  refine aE ?_
  refine cE hF (fun h1 hF => ?_) fun h1 hF => ?_
  · refine awp_true (by kernel_rfl) h1 ?_
    refine awp_seq ?_
    refine awp_region ?_
    refine aR 1 ?_
    refine aE ?_
    refine awp_ret ?_
    exact oF hF [] []
  · refine awp_false (by kernel_rfl) h1 ?_
    refine awp_skip ?_
    refine awp_seq ?_
    refine awp_seq ?_
    refine awp_region ?_
    refine aR 1 ?_
    refine aL api_Letter.enc ql ?_
    refine aR 1 ?_
    refine aE ?_
    refine awp_block ?_
    refine awp_to (st' := fleetref2_LettersFault_x1_H ql 0) (oT [] []) ?_
    refine bE hF fun x h9 hF => ?_
    rcases x with _ | vx1_1
    · refine awp_sub (awp_loop' (fleetref2_LettersFault_x1_H ql) fleetref2_LettersFault_x1_k (fleetref2_LettersFault_x1_S ql) (by intro x; rcases x with x | x <;> exact fun h => nomatch h) h9 (fleetref2_LettersFault_x1_ok ql)) ?_
      refine awp_seq ?_
      refine awp_region ?_
      refine aR 1 ?_
      refine aE ?_
      refine awp_ret ?_
      exact oF hF [] []
    · refine awp_sub (awp_loop' (fleetref2_LettersFault_x1_H ql) fleetref2_LettersFault_x1_k (fleetref2_LettersFault_x1_S ql) (by intro x; rcases x with x | x <;> exact fun h => nomatch h) h9 (fleetref2_LettersFault_x1_ok ql)) ?_
      exact oF hF [] []

/-! ### beaconfleet/fleetref2.PostFault -/
def fleetref2_PostFault_x1_k : Bool → AEx
  | _ => .normal

def fleetref2_PostFault_x1_S (qp : api_Post) : Bool → St
  | vx => Mem.st ⟨[], []⟩ (tl [(24, .v (.one (.d (.bool vx))))]) 0

def fleetref2_PostFault_x1_I (qp : api_Post) : St := Mem.st ⟨[], [(0, [.d (.int .i64 qp.Room), .d (.int .i64 qp.Timeout), .d (.int .i64 qp.Tries), .d (.int .i64 qp.Kept)])]⟩ (tl [(1, .v (.one (.box 0 0)))]) 1

theorem fleetref2_PostFault_x1_ok (qp : api_Post) {r} (hF : fleetref2_PostFault_x1 qp = some r) : Awp prog 0 25 (cL (cL (cR (cB f23)))) (Out 0 fleetref2_PostFault_x1_k (fleetref2_PostFault_x1_S qp) r) (fleetref2_PostFault_x1_I qp) := by
  unfold fleetref2_PostFault_x1 at hF
  refine bE hF fun vr h1 hF => ?_
  refine cE hF (fun h2 hF => ?_) fun h2 hF => ?_
  · refine awp_region ?_
    refine aR 2 ?_
    refine aC (fleetref2_in_ok h1) [] [] [] ?_
    refine aB h2 ?_
    refine aR 18 ?_
    refine aE ?_
    exact oO hF [] [] rfl
  · refine bE hF fun vr1 h3 hF => ?_
    refine cE hF (fun h4 hF => ?_) fun h4 hF => ?_
    · refine awp_region ?_
      refine aR 2 ?_
      refine aC (fleetref2_in_ok h1) [] [] [] ?_
      refine aB h2 ?_
      refine aR 3 ?_
      refine aC (fleetref2_in_ok h3) [] [] [] ?_
      refine aB h4 ?_
      refine aR 13 ?_
      refine aE ?_
      exact oO hF [] [] rfl
    · refine bE hF fun vr2 h5 hF => ?_
      refine cE hF (fun h6 hF => ?_) fun h6 hF => ?_
      · refine awp_region ?_
        refine aR 2 ?_
        refine aC (fleetref2_in_ok h1) [] [] [] ?_
        refine aB h2 ?_
        refine aR 3 ?_
        refine aC (fleetref2_in_ok h3) [] [] [] ?_
        refine aB h4 ?_
        refine aR 4 ?_
        refine aC (fleetref2_in_ok h5) [] [] [] ?_
        refine aB h6 ?_
        refine aR 7 ?_
        refine aE ?_
        exact oO hF [] [] rfl
      · refine bE hF fun vr3 h7 hF => ?_
        refine awp_region ?_
        refine aR 2 ?_
        refine aC (fleetref2_in_ok h1) [] [] [] ?_
        refine aB h2 ?_
        refine aR 3 ?_
        refine aC (fleetref2_in_ok h3) [] [] [] ?_
        refine aB h4 ?_
        refine aR 4 ?_
        refine aC (fleetref2_in_ok h5) [] [] [] ?_
        refine aB h6 ?_
        refine aR 4 ?_
        refine aC (fleetref2_in_ok h7) [] [] [] ?_
        refine aR 2 ?_
        refine aE ?_
        exact oO hF [] [] rfl

def fleetref2_PostFault_R (qp : api_Post) (r : Int) : TV × Mem := (.v (.one (.d (.int .i64 r))), ⟨[], []⟩)

theorem fleetref2_PostFault_ok {qp : api_Post} {r} (hF : fleetref2_PostFault qp = some r) : Holds prog 23 [.v (.agg [.d (.int .i64 qp.Room), .d (.int .i64 qp.Timeout), .d (.int .i64 qp.Tries), .d (.int .i64 qp.Kept)])] ⟨[], []⟩ (Is (fleetref2_PostFault_R qp r)) := by
  unfold fleetref2_PostFault at hF
  refine holds_of_awp hΓ (fn := f23) (c := cB f23) (A := 0) (nx := 0) (by kernel_rfl) (by kernel_rfl) (by kernel_rfl) (by kernel_rfl) (by kernel_rfl) (by kernel_rfl) (lowc_of (by kernel_rfl)) ?_
  show Awp prog 0 25 (cB f23) _ _
  refine awp_seq ?_
  refine awp_region ?_
  refine aR 2 ?_
  refine aE ?_
  refine awp_seq ?_
  refine awp_seq ?_
  refine awp_to (st' := fleetref2_PostFault_x1_I qp) (oT [] []) ?_
  refine bE hF fun vx1 h8 hF => ?_
  refine awp_sub (fleetref2_PostFault_x1_ok qp h8) ?_
  refine cE hF (fun h9 hF => ?_) fun h9 hF => ?_
  · refine awp_true (by kernel_rfl) h9 ?_
    refine awp_seq ?_
    refine awp_region ?_
    refine aR 1 ?_
    refine aE ?_
    refine awp_ret ?_
    exact oF hF [] []
  · refine awp_false (by kernel_rfl) h9 ?_
    refine awp_skip ?_
    refine awp_seq ?_
    refine awp_region ?_
    refine aR 1 ?_
    refine aE ?_
    refine awp_ret ?_
    exact oF hF [] []

/-! ### beaconfleet/fleetref2.sign -/
def fleetref2_sign_R (qn : Int) (r : Int) : TV × Mem := (.v (.one (.d (.int .i64 r))), ⟨[], []⟩)

theorem fleetref2_sign_ok {qn : Int} {r} (hF : fleetref2_sign qn = some r) : Holds prog 112 [.v (.one (.d (.int .i64 qn)))] ⟨[], []⟩ (Is (fleetref2_sign_R qn r)) := by
  unfold fleetref2_sign at hF
  refine holds_of_awp hΓ (fn := f112) (c := cB f112) (A := 0) (nx := 0) (by kernel_rfl) (by kernel_rfl) (by kernel_rfl) (by kernel_rfl) (by kernel_rfl) (by kernel_rfl) (lowc_of (by kernel_rfl)) ?_
  show Awp prog 0 9 (cB f112) _ _
  refine awp_seq ?_
  refine awp_region ?_
  refine aR 1 ?_
  refine aE ?_
  refine awp_seq ?_
  refine awp_block ?_
  refine awp_seq ?_
  refine awp_region ?_
  refine aR 3 ?_
  refine aE ?_
  refine cE hF (fun h1 hF => ?_) fun h1 hF => ?_
  · refine awp_true (by kernel_rfl) h1 ?_
    refine awp_seq ?_
    refine awp_region ?_
    refine aR 1 ?_
    refine aE ?_
    refine awp_ret ?_
    exact oF hF [] []
  · refine awp_false (by kernel_rfl) h1 ?_
    refine awp_seq ?_
    refine awp_region ?_
    refine aR 3 ?_
    refine aE ?_
    refine cE hF (fun h2 hF => ?_) fun h2 hF => ?_
    · refine awp_true (by kernel_rfl) h2 ?_
      refine awp_seq ?_
      refine awp_region ?_
      refine aR 1 ?_
      refine aE ?_
      refine awp_ret ?_
      exact oF hF [] []
    · refine awp_false (by kernel_rfl) h2 ?_
      refine awp_skip ?_
      refine awp_seq ?_
      refine awp_region ?_
      refine aR 1 ?_
      refine aE ?_
      refine awp_ret ?_
      exact oF hF [] []

/-! ### beaconfleet/fleetref2.LetterOrder -/
def fleetref2_LetterOrder_R (qa : api_Letter) (qb : api_Letter) (r : Int) : TV × Mem := (.v (.one (.d (.int .i64 r))), ⟨[], []⟩)

theorem fleetref2_LetterOrder_ok {qa : api_Letter} {qb : api_Letter} {r} (hF : fleetref2_LetterOrder qa qb = some r) : Holds prog 37 [.v (.agg [.d (.str qa.Id), .d (.str qa.Slot), .d (.str qa.Body), .d (.int .i64 qa.Prio), .d (.int .i64 qa.At), .d (.int .i64 qa.Until)]), .v (.agg [.d (.str qb.Id), .d (.str qb.Slot), .d (.str qb.Body), .d (.int .i64 qb.Prio), .d (.int .i64 qb.At), .d (.int .i64 qb.Until)])] ⟨[], []⟩ (Is (fleetref2_LetterOrder_R qa qb r)) := by
  unfold fleetref2_LetterOrder at hF
  refine holds_of_awp hΓ (fn := f37) (c := cB f37) (A := 0) (nx := 0) (by kernel_rfl) (by kernel_rfl) (by kernel_rfl) (by kernel_rfl) (by kernel_rfl) (by kernel_rfl) (lowc_of (by kernel_rfl)) ?_
  show Awp prog 0 34 (cB f37) _ _
  refine awp_seq ?_
  refine awp_region ?_
  refine aR 3 ?_
  refine aE ?_
  refine awp_seq ?_
  refine awp_block ?_
  refine awp_seq ?_
  refine awp_region ?_
  refine aR 6 ?_
  refine aE ?_
  refine cE hF (fun h1 hF => ?_) fun h1 hF => ?_
  · refine awp_true (by kernel_rfl) h1 ?_
    refine awp_seq ?_
    refine bE hF fun vr h2 hF => ?_
    refine awp_region ?_
    refine aR 5 ?_
    refine aC (fleetref2_sign_ok h2) [] [] [] ?_
    refine aR 1 ?_
    refine aE ?_
    refine awp_ret ?_
    exact oF hF [] []
  · refine awp_false (by kernel_rfl) h1 ?_
    refine awp_seq ?_
    refine awp_region ?_
    refine aR 6 ?_
    refine aE ?_
    refine cE hF (fun h3 hF => ?_) fun h3 hF => ?_
    · refine awp_true (by kernel_rfl) h3 ?_
      refine awp_seq ?_
      refine bE hF fun vr1 h4 hF => ?_
      refine awp_region ?_
      refine aR 5 ?_
      refine aC (fleetref2_sign_ok h4) [] [] [] ?_
      refine aR 1 ?_
      refine aE ?_
      refine awp_ret ?_
      exact oF hF [] []
    · refine awp_false (by kernel_rfl) h3 ?_
      refine awp_skip ?_
      refine awp_seq ?_
      refine bE hF fun _ h5 hF => ?_
      refine awp_region ?_
      refine aR 4 ?_
      refine aC (strings_Compare_ok h5) [] [] [] ?_
      refine aR 1 ?_
      refine aE ?_
      refine awp_ret ?_
      exact oF hF [] []

/-! ### slices.insertionSortCmpFunc[beaconfleet/api.Letter] -/
def slices_insertionSortCmpFunc_api_Letter_o0_f3_fleetref2_LetterOrder_x3_k : Bool → AEx
  | _ => .normal

def slices_insertionSortCmpFunc_api_Letter_o0_f3_fleetref2_LetterOrder_x3_S (qa : Int) (qb : Int) (vi : Int) (vl3 : List api_Letter) (vj1 : Int) : Bool → St
  | vx4 => Mem.st ⟨[(0, ⟨40, 6, List.map api_Letter.enc vl3⟩)], []⟩ (tl [(0, .v (.one (.own 0 none))), (1, .v (.one (.d (.int .i64 qa)))), (2, .v (.one (.d (.int .i64 qb)))), (3, .v (.one (.fn 37 []))), (8, .v (.one (.d (.int .i64 vi)))), (9, .v (.one (.d (.int .i64 vj1)))), (34, .v (.one (.d (.bool vx4))))]) 1

def slices_insertionSortCmpFunc_api_Letter_o0_f3_fleetref2_LetterOrder_x3_I (qa : Int) (qb : Int) (vi : Int) (vl3 : List api_Letter) (vj1 : Int) : St := Mem.st ⟨[(0, ⟨40, 6, List.map api_Letter.enc vl3⟩)], []⟩ (tl [(0, .v (.one (.own 0 none))), (1, .v (.one (.d (.int .i64 qa)))), (2, .v (.one (.d (.int .i64 qb)))), (3, .v (.one (.fn 37 []))), (8, .v (.one (.d (.int .i64 vi)))), (9, .v (.one (.d (.int .i64 vj1))))]) 1

theorem slices_insertionSortCmpFunc_api_Letter_o0_f3_fleetref2_LetterOrder_x3_ok (qa : Int) (qb : Int) (vi : Int) (vl3 : List api_Letter) (vj1 : Int) {r} (hF : slices_insertionSortCmpFunc_api_Letter_o0_f3_fleetref2_LetterOrder_x3 qa vl3 vj1 = some r) : Awp prog 1 53 (cL (cL (cL (cL (cR (cL (cL (cR (cL (cL (cR (cB f194)))))))))))) (Out 1 slices_insertionSortCmpFunc_api_Letter_o0_f3_fleetref2_LetterOrder_x3_k (slices_insertionSortCmpFunc_api_Letter_o0_f3_fleetref2_LetterOrder_x3_S qa qb vi vl3 vj1) r) (slices_insertionSortCmpFunc_api_Letter_o0_f3_fleetref2_LetterOrder_x3_I qa qb vi vl3 vj1) := by
  unfold slices_insertionSortCmpFunc_api_Letter_o0_f3_fleetref2_LetterOrder_x3 at hF
  refine cE hF (fun h2 hF => ?_) fun h2 hF => ?_
  · refine bE hF fun vy15 h3 hF => ?_
    refine bE hF fun vy16 h4 hF => ?_
    refine bE hF fun vr2_3 h5 hF => ?_
    refine aD ?_
    refine dR 2 ?_
    refine dB h2 ?_
    refine dR 4 ?_
    refine dX (x_idxO api_Letter.enc 0 h3) ?_
    refine dX (x_ldE api_Letter.enc h3) ?_
    refine dR 3 ?_
    refine dX (x_idxO api_Letter.enc 0 h4) ?_
    refine dX (x_ldE api_Letter.enc h4) ?_
    refine dC (fleetref2_LetterOrder_ok h5) [] [] [] ?_
    refine dR 2 ?_
    refine dE ?_
    exact oO hF [] [] rfl
  · refine aD ?_
    refine dR 2 ?_
    refine dB h2 ?_
    refine dR 14 ?_
    refine dE ?_
    exact oO hF [] [] rfl

def slices_insertionSortCmpFunc_api_Letter_o0_f3_fleetref2_LetterOrder_x2_k : (List api_Letter) → AEx
  | _ => .exit 2

def slices_insertionSortCmpFunc_api_Letter_o0_f3_fleetref2_LetterOrder_x2_S (qa : Int) (qb : Int) (vi : Int) : (List api_Letter) → St
  | vl4 => Mem.st ⟨[(0, ⟨40, 6, List.map api_Letter.enc vl4⟩)], []⟩ (tl [(0, .v (.one (.own 0 none))), (1, .v (.one (.d (.int .i64 qa)))), (2, .v (.one (.d (.int .i64 qb)))), (3, .v (.one (.fn 37 []))), (8, .v (.one (.d (.int .i64 vi))))]) 1

def slices_insertionSortCmpFunc_api_Letter_o0_f3_fleetref2_LetterOrder_x2_H (qa : Int) (qb : Int) (vi : Int) : (List api_Letter) × Int → St
  | (vl3, vj1) => Mem.st ⟨[(0, ⟨40, 6, List.map api_Letter.enc vl3⟩)], []⟩ (tl [(0, .v (.one (.own 0 none))), (1, .v (.one (.d (.int .i64 qa)))), (2, .v (.one (.d (.int .i64 qb)))), (3, .v (.one (.fn 37 []))), (8, .v (.one (.d (.int .i64 vi)))), (9, .v (.one (.d (.int .i64 vj1))))]) 1

theorem slices_insertionSortCmpFunc_api_Letter_o0_f3_fleetref2_LetterOrder_x2_ok (qa : Int) (qb : Int) (vi : Int) (s : (List api_Letter) × Int) (r : ((List api_Letter) × Int) ⊕ ((List api_Letter))) (hF : slices_insertionSortCmpFunc_api_Letter_o0_f3_fleetref2_LetterOrder_x2 qa s = some r) : Awp prog 1 53 (cL (cL (cR (cL (cL (cR (cL (cL (cR (cB f194)))))))))) (Out 1 (kk slices_insertionSortCmpFunc_api_Letter_o0_f3_fleetref2_LetterOrder_x2_k) (SS (slices_insertionSortCmpFunc_api_Letter_o0_f3_fleetref2_LetterOrder_x2_H qa qb vi) (slices_insertionSortCmpFunc_api_Letter_o0_f3_fleetref2_LetterOrder_x2_S qa qb vi)) r) (slices_insertionSortCmpFunc_api_Letter_o0_f3_fleetref2_LetterOrder_x2_H qa qb vi s) := by
  obtain ⟨vl3, vj1⟩ := s
  unfold slices_insertionSortCmpFunc_api_Letter_o0_f3_fleetref2_LetterOrder_x2 at hF
  refine awp_seq ?_
  refine awp_seq ?_
  refine awp_to (st' := slices_insertionSortCmpFunc_api_Letter_o0_f3_fleetref2_LetterOrder_x3_I qa qb vi vl3 vj1) (oT [] []) ?_
  refine bE hF fun vx4_1 h6 hF => ?_
  refine awp_sub (slices_insertionSortCmpFunc_api_Letter_o0_f3_fleetref2_LetterOrder_x3_ok qa qb vi vl3 vj1 h6) ?_
  refine cE hF (fun h7 hF => ?_) fun h7 hF => ?_
  · refine awp_true (by kernel_rfl) h7 ?_
    refine awp_skip ?_
    refine awp_seq ?_
    refine awp_block ?_
    refine bE hF fun vy17 h8 hF => ?_
    refine bE hF fun vy18 h9 hF => ?_
    refine bE hF fun vy19 h10 hF => ?_
    refine aDw [0] ?_
    refine dR 8 ?_
    refine dI api_Letter.enc 0 h8 rfl ?_
    refine dX (x_ldE api_Letter.enc h8) ?_
    refine dR 2 ?_
    refine dI api_Letter.enc 0 h9 rfl ?_
    refine dX (x_ldE api_Letter.enc h9) ?_
    refine dI api_Letter.enc 0 h9 rfl ?_
    refine dW api_Letter.enc vy17 h9 rfl ?_
    refine dI api_Letter.enc 0 h10 rfl ?_
    refine dW api_Letter.enc vy18 h10 rfl ?_
    refine dE ?_
    refine awp_region ?_
    refine aR 3 ?_
    refine aE ?_
    exact oO hF [] [] rfl
  · refine awp_false (by kernel_rfl) h7 ?_
    refine awp_exit ?_
    exact oO hF [] [] rfl

def slices_insertionSortCmpFunc_api_Letter_o0_f3_fleetref2_LetterOrder_x1_k : (List api_Letter) → AEx
  | _ => .exit 0

def slices_insertionSortCmpFunc_api_Letter_o0_f3_fleetref2_LetterOrder_x1_S (qa : Int) (qb : Int) : (List api_Letter) → St
  | vl5 => Mem.st ⟨[(0, ⟨40, 6, List.map api_Letter.enc vl5⟩)], []⟩ (tl []) 1

def slices_insertionSortCmpFunc_api_Letter_o0_f3_fleetref2_LetterOrder_x1_H (qa : Int) (qb : Int) : (List api_Letter) × Int → St
  | (vl, vi) => Mem.st ⟨[(0, ⟨40, 6, List.map api_Letter.enc vl⟩)], []⟩ (tl [(0, .v (.one (.own 0 none))), (1, .v (.one (.d (.int .i64 qa)))), (2, .v (.one (.d (.int .i64 qb)))), (3, .v (.one (.fn 37 []))), (8, .v (.one (.d (.int .i64 vi))))]) 1

theorem slices_insertionSortCmpFunc_api_Letter_o0_f3_fleetref2_LetterOrder_x1_ok (qa : Int) (qb : Int) (s : (List api_Letter) × Int) (r : ((List api_Letter) × Int) ⊕ ((List api_Letter))) (hF : slices_insertionSortCmpFunc_api_Letter_o0_f3_fleetref2_LetterOrder_x1 qa qb s = some r) : Awp prog 1 53 (cL (cL (cR (cB f194)))) (Out 1 (kk slices_insertionSortCmpFunc_api_Letter_o0_f3_fleetref2_LetterOrder_x1_k) (SS (slices_insertionSortCmpFunc_api_Letter_o0_f3_fleetref2_LetterOrder_x1_H qa qb) (slices_insertionSortCmpFunc_api_Letter_o0_f3_fleetref2_LetterOrder_x1_S qa qb)) r) (slices_insertionSortCmpFunc_api_Letter_o0_f3_fleetref2_LetterOrder_x1_H qa qb s) := by
  obtain ⟨vl, vi⟩ := s
  unfold slices_insertionSortCmpFunc_api_Letter_o0_f3_fleetref2_LetterOrder_x1 at hF
  refine awp_seq ?_
  refine awp_seq ?_
  refine awp_region ?_
  refine aR 3 ?_
  refine aE ?_
  refine cE hF (fun h1 hF => ?_) fun h1 hF => ?_
  · refine awp_true (by kernel_rfl) h1 ?_
    refine awp_skip ?_
    refine awp_seq ?_
    refine awp_block ?_
    refine awp_seq ?_
    refine awp_region ?_
    refine aR 2 ?_
    refine aE ?_
    refine awp_block ?_
    refine awp_to (st' := slices_insertionSortCmpFunc_api_Letter_o0_f3_fleetref2_LetterOrder_x2_H qa qb vi (vl, vi)) (oT [] []) ?_
    refine bE hF fun vl4_1 h11 hF => ?_
    refine awp_sub (awp_loop' (slices_insertionSortCmpFunc_api_Letter_o0_f3_fleetref2_LetterOrder_x2_H qa qb vi) slices_insertionSortCmpFunc_api_Letter_o0_f3_fleetref2_LetterOrder_x2_k (slices_insertionSortCmpFunc_api_Letter_o0_f3_fleetref2_LetterOrder_x2_S qa qb vi) (by intro x; exact fun h => nomatch h) h11 (slices_insertionSortCmpFunc_api_Letter_o0_f3_fleetref2_LetterOrder_x2_ok qa qb vi)) ?_
    refine awp_region ?_
    refine aR 3 ?_
    refine aE ?_
    exact oO hF [] [] rfl
  · refine awp_false (by kernel_rfl) h1 ?_
    refine awp_exit ?_
    exact oO hF [] [] rfl

def slices_insertionSortCmpFunc_api_Letter_o0_f3_fleetref2_LetterOrder_R (qdata : List api_Letter) (qa : Int) (qb : Int) (r : (List api_Letter)) : TV × Mem := (.tup [], ⟨[(0, ⟨40, 6, List.map api_Letter.enc r⟩)], []⟩)

theorem slices_insertionSortCmpFunc_api_Letter_o0_f3_fleetref2_LetterOrder_ok {qdata : List api_Letter} {qa : Int} {qb : Int} {r} (hF : slices_insertionSortCmpFunc_api_Letter_o0_f3_fleetref2_LetterOrder qdata qa qb = some r) : Holds prog 194 [.v (.one (.own 0 none)), .v (.one (.d (.int .i64 qa))), .v (.one (.d (.int .i64 qb))), .v (.one (.fn 37 []))] ⟨[(0, ⟨40, 6, List.map api_Letter.enc qdata⟩)], []⟩ (Is (slices_insertionSortCmpFunc_api_Letter_o0_f3_fleetref2_LetterOrder_R qdata qa qb r)) := by
  unfold slices_insertionSortCmpFunc_api_Letter_o0_f3_fleetref2_LetterOrder at hF
  refine holds_of_awp hΓ (fn := f194) (c := cB f194) (A := 1) (nx := 1) (by kernel_rfl) (by kernel_rfl) (by kernel_rfl) (by kernel_rfl) (by kernel_rfl) (by kernel_rfl) (lowc_of (by kernel_rfl)) ?_
  show Awp prog 1 53 (cB f194) _ _
  refine awp_seq ?_
  refine awp_region ?_
  refine aR 3 ?_
  refine aE ?_
  refine awp_block ?_
  refine awp_to (st' := slices_insertionSortCmpFunc_api_Letter_o0_f3_fleetref2_LetterOrder_x1_H qa qb (qdata, IntKind.wrap .i64 (qa + 1))) (oT [] []) ?_
  refine bE hF fun vl5_1 h12 hF => ?_
  refine awp_sub (awp_loop' (slices_insertionSortCmpFunc_api_Letter_o0_f3_fleetref2_LetterOrder_x1_H qa qb) slices_insertionSortCmpFunc_api_Letter_o0_f3_fleetref2_LetterOrder_x1_k (slices_insertionSortCmpFunc_api_Letter_o0_f3_fleetref2_LetterOrder_x1_S qa qb) (by intro x; exact fun h => nomatch h) h12 (slices_insertionSortCmpFunc_api_Letter_o0_f3_fleetref2_LetterOrder_x1_ok qa qb)) ?_
  exact oF hF [] []

/-! ### slices.pdqsortCmpFunc[beaconfleet/api.Letter] -/
def slices_pdqsortCmpFunc_api_Letter_o0_f4_fleetref2_LetterOrder_x1_k : (List api_Letter) → AEx
  | _ => .ret

def slices_pdqsortCmpFunc_api_Letter_o0_f4_fleetref2_LetterOrder_x1_S (qx : List api_Letter) (qx1 : Int) (qx2 : Int) (qx3 : Int) : (List api_Letter) → St
  | vl => Mem.st ⟨[(0, ⟨40, 6, List.map api_Letter.enc vl⟩)], []⟩ (tl []) 1

def slices_pdqsortCmpFunc_api_Letter_o0_f4_fleetref2_LetterOrder_x1_H (qx : List api_Letter) (qx1 : Int) (qx2 : Int) (qx3 : Int) : Unit → St
  | _ => Mem.st ⟨[(0, ⟨40, 6, List.map api_Letter.enc qx⟩)], []⟩ (tl [(0, .v (.one (.own 0 none))), (1, .v (.one (.d (.int .i64 qx1)))), (2, .v (.one (.d (.int .i64 qx2)))), (3, .v (.one (.d (.int .i64 qx3)))), (4, .v (.one (.fn 37 []))), (10, .v (.one (.d (.bool true)))), (11, .v (.one (.d (.bool true))))]) 1

theorem slices_pdqsortCmpFunc_api_Letter_o0_f4_fleetref2_LetterOrder_x1_ok (qx : List api_Letter) (qx1 : Int) (qx2 : Int) (qx3 : Int) (s : Unit) (r : (Unit) ⊕ ((List api_Letter))) (hF : slices_pdqsortCmpFunc_api_Letter_o0_f4_fleetref2_LetterOrder_x1 qx qx1 qx2 qx3 s = some r) : Awp prog 1 148 (cL (cL (cR (cR (cB f110))))) (Out 1 (kk slices_pdqsortCmpFunc_api_Letter_o0_f4_fleetref2_LetterOrder_x1_k) (SS (slices_pdqsortCmpFunc_api_Letter_o0_f4_fleetref2_LetterOrder_x1_H qx qx1 qx2 qx3) (slices_pdqsortCmpFunc_api_Letter_o0_f4_fleetref2_LetterOrder_x1_S qx qx1 qx2 qx3)) r) (slices_pdqsortCmpFunc_api_Letter_o0_f4_fleetref2_LetterOrder_x1_H qx qx1 qx2 qx3 s) := by
  unfold slices_pdqsortCmpFunc_api_Letter_o0_f4_fleetref2_LetterOrder_x1 at hF
  refine awp_block ?_
  refine awp_seq ?_
  refine awp_region ?_
  refine aR 4 ?_
  refine aE ?_
  refine awp_seq ?_
  refine awp_seq ?_
  refine awp_region ?_
  refine aR 2 ?_
  refine aE ?_
  refine cE hF (fun h1 hF => ?_) fun h1 hF => ?_
  · refine awp_true (by kernel_rfl) h1 ?_
    refine awp_seq ?_
    refine bE hF fun vl6_1 h2 hF => ?_
    refine gE hF fun h3 hF => ?_
    refine awp_region ?_
    refine aR 4 ?_
    refine aCp (slices_insertionSortCmpFunc_api_Letter_o0_f3_fleetref2_LetterOrder_ok h2) ⟨⟨rfl, rfl, pin1 h3⟩, trivial⟩ [] [] [] ?_
    refine aE ?_
    refine awp_ret ?_
    exact oO hF [] [] rfl
  · refine awp_false (by kernel_rfl) h1 ?_
    refine awp_skip ?_
    refine awp_seq ?_
    refine awp_seq ?_
    refine awp_region ?_
    refine aR 2 ?_
    refine aE ?_
    refine cE hF (fun h4 hF => ?_) fun h4 hF => ?_
    · refine awp_true (by kernel_rfl) h4 ?_
      refine awp_seq ?_
      exact nE hF
    · refine awp_false (by kernel_rfl) h4 ?_
      refine awp_skip ?_
      refine awp_seq ?_
      refine awp_seq ?_
      refine awp_region ?_
      refine aR 2 ?_
      refine aE ?_
      refine awp_false (by kernel_rfl) rfl ?_
      refine awp_skip ?_
      refine awp_seq ?_
      exact nE hF

def slices_pdqsortCmpFunc_api_Letter_o0_f4_fleetref2_LetterOrder_R (qx : List api_Letter) (qx1 : Int) (qx2 : Int) (qx3 : Int) (r : (List api_Letter)) : TV × Mem := (.tup [], ⟨[(0, ⟨40, 6, List.map api_Letter.enc r⟩)], []⟩)

theorem slices_pdqsortCmpFunc_api_Letter_o0_f4_fleetref2_LetterOrder_ok {qx : List api_Letter} {qx1 : Int} {qx2 : Int} {qx3 : Int} {r} (hF : slices_pdqsortCmpFunc_api_Letter_o0_f4_fleetref2_LetterOrder qx qx1 qx2 qx3 = some r) : Holds prog 110 [.v (.one (.own 0 none)), .v (.one (.d (.int .i64 qx1))), .v (.one (.d (.int .i64 qx2))), .v (.one (.d (.int .i64 qx3))), .v (.one (.fn 37 []))] ⟨[(0, ⟨40, 6, List.map api_Letter.enc qx⟩)], []⟩ (Is (slices_pdqsortCmpFunc_api_Letter_o0_f4_fleetref2_LetterOrder_R qx qx1 qx2 qx3 r)) := by
  unfold slices_pdqsortCmpFunc_api_Letter_o0_f4_fleetref2_LetterOrder at hF
  refine holds_of_awp hΓ (fn := f110) (c := cB f110) (A := 1) (nx := 1) (by kernel_rfl) (by kernel_rfl) (by kernel_rfl) (by kernel_rfl) (by kernel_rfl) (by kernel_rfl) (lowc_of (by kernel_rfl)) ?_
  show Awp prog 1 148 (cB f110) _ _
  refine awp_seq ?_
  refine awp_region ?_
  refine aR 1 ?_
  refine aE ?_
  refine awp_seq ?_
  refine awp_region ?_
  refine aR 1 ?_
  refine aE ?_
  refine awp_block ?_
  refine awp_to (st' := slices_pdqsortCmpFunc_api_Letter_o0_f4_fleetref2_LetterOrder_x1_H qx qx1 qx2 qx3 ()) (oT [] []) ?_
  refine bE hF fun vl1 h7 hF => ?_
  refine awp_sub (awp_loop' (slices_pdqsortCmpFunc_api_Letter_o0_f4_fleetref2_LetterOrder_x1_H qx qx1 qx2 qx3) slices_pdqsortCmpFunc_api_Letter_o0_f4_fleetref2_LetterOrder_x1_k (slices_pdqsortCmpFunc_api_Letter_o0_f4_fleetref2_LetterOrder_x1_S qx qx1 qx2 qx3) (by intro x; exact fun h => nomatch h) h7 (slices_pdqsortCmpFunc_api_Letter_o0_f4_fleetref2_LetterOrder_x1_ok qx qx1 qx2 qx3)) ?_
  exact oF hF [] []

/-! ### slices.SortFunc[[]beaconfleet/api.Letter,beaconfleet/api.Letter] -/
def slices_SortFunc_api_Letter_api_Letter_o0_f1_fleetref2_LetterOrder_R (qx : List api_Letter) (r : (List api_Letter)) : TV × Mem := (.tup [], ⟨[(0, ⟨40, 6, List.map api_Letter.enc r⟩)], []⟩)

theorem slices_SortFunc_api_Letter_api_Letter_o0_f1_fleetref2_LetterOrder_ok {qx : List api_Letter} {r} (hF : slices_SortFunc_api_Letter_api_Letter_o0_f1_fleetref2_LetterOrder qx = some r) : Holds prog 36 [.v (.one (.own 0 none)), .v (.one (.fn 37 []))] ⟨[(0, ⟨40, 6, List.map api_Letter.enc qx⟩)], []⟩ (Is (slices_SortFunc_api_Letter_api_Letter_o0_f1_fleetref2_LetterOrder_R qx r)) := by
  unfold slices_SortFunc_api_Letter_api_Letter_o0_f1_fleetref2_LetterOrder at hF
  refine holds_of_awp hΓ (fn := f36) (c := cB f36) (A := 1) (nx := 1) (by kernel_rfl) (by kernel_rfl) (by kernel_rfl) (by kernel_rfl) (by kernel_rfl) (by kernel_rfl) (lowc_of (by kernel_rfl)) ?_
  show Awp prog 1 14 (cB f36) _ _
  refine awp_seq ?_
  refine awp_region ?_
  refine aR 1 ?_
  refine aL api_Letter.enc qx ?_
  refine aR 1 ?_
  refine aE ?_
  refine bE hF fun vr1 h1 hF => ?_
  refine bE hF fun vl2 h2 hF => ?_
  refine gE hF fun h3 hF => ?_
  refine awp_region ?_
  refine aR 4 ?_
  refine aC (bits_Len_ok h1) [] [] [] ?_
  refine aR 1 ?_
  refine aCp (slices_pdqsortCmpFunc_api_Letter_o0_f4_fleetref2_LetterOrder_ok h2) ⟨⟨rfl, rfl, pin1 h3⟩, trivial⟩ [] [] [] ?_
  refine aE ?_
  exact oF hF [] []

/-! ### slices.Equal[[]beaconfleet/api.Letter,beaconfleet/api.Letter] -/
def slices_Equal_api_Letter_api_Letter_x1_k : Unit ⊕ Unit → AEx
  | .inl _ => .exit 0
  | .inr _ => .ret

def slices_Equal_api_Letter_api_Letter_x1_S (qs1 : List api_Letter) (qs2 : List api_Letter) : Unit ⊕ Unit → St
  | .inl _ => Mem.st ⟨[], []⟩ (tl []) 0
  | .inr _ => Mem.st ⟨[], []⟩ (tl [(4, .v (.one (.d (.bool false))))]) 0

def slices_Equal_api_Letter_api_Letter_x1_H (qs1 : List api_Letter) (qs2 : List api_Letter) : Int → St
  | vx => Mem.st ⟨[], []⟩ (tl [(0, .v (.one (.d (.lst (List.map api_Letter.enc qs1))))), (1, .v (.one (.d (.lst (List.map api_Letter.enc qs2))))), (12, .v (.one (.d (.int .i64 (qs1.length : Int))))), (13, .v (.one (.d (.int .i64 vx))))]) 0

theorem slices_Equal_api_Letter_api_Letter_x1_ok (qs1 : List api_Letter) (qs2 : List api_Letter) (vx : Int) (r : (Int) ⊕ (Unit ⊕ Unit)) (hF : slices_Equal_api_Letter_api_Letter_x1 qs1 qs2 vx = some r) : Awp prog 0 26 (cL (cL (cR (cL (cR (cR (cB f38))))))) (Out 0 (kk slices_Equal_api_Letter_api_Letter_x1_k) (SS (slices_Equal_api_Letter_api_Letter_x1_H qs1 qs2) (slices_Equal_api_Letter_api_Letter_x1_S qs1 qs2)) r) (slices_Equal_api_Letter_api_Letter_x1_H qs1 qs2 vx) := by
  unfold slices_Equal_api_Letter_api_Letter_x1 at hF
  refine awp_seq ?_
  refine awp_region ?_
  refine aR 1 ?_
  refine aE ?_
  refine awp_seq ?_
  refine cE hF (fun h2 hF => ?_) fun h2 hF => ?_
  · refine awp_true (by kernel_rfl) h2 ?_
    refine awp_skip ?_
    refine awp_seq ?_
    refine awp_block ?_
    refine awp_seq ?_
    refine awp_region ?_
    refine aR 2 ?_
    refine aE ?_
    refine awp_seq ?_
    refine bE hF fun vy2 h3 hF => ?_
    refine bE hF fun vy3 h4 hF => ?_
    refine aD ?_
    refine dR 2 ?_
    refine dX (x_idx api_Letter.enc h3) ?_
    refine dR 3 ?_
    refine dX (x_idx api_Letter.enc h4) ?_
    refine dR 1 ?_
    refine dS (U := []) (stable_eqS (op := .neq) (xs := [.str vy2.Id, .str vy2.Slot, .str vy2.Body, .int .i64 vy2.Prio, .int .i64 vy2.At, .int .i64 vy2.Until]) (ys := [.str vy3.Id, .str vy3.Slot, .str vy3.Body, .int .i64 vy3.Prio, .int .i64 vy3.At, .int .i64 vy3.Until]) (b := (decide (vy2.Id = vy3.Id) && (decide (vy2.Slot = vy3.Slot) && (decide (vy2.Body = vy3.Body) && (decide (vy2.Prio = vy3.Prio) && (decide (vy2.At = vy3.At) && (decide (vy2.Until = vy3.Until) && true))))))) (c := (!(decide (vy2.Id = vy3.Id) && (decide (vy2.Slot = vy3.Slot) && (decide (vy2.Body = vy3.Body) && (decide (vy2.Prio = vy3.Prio) && (decide (vy2.At = vy3.At) && (decide (vy2.Until = vy3.Until) && true)))))))) rfl (.inr ⟨rfl, rfl⟩) (by kernel_rfl) (by kernel_rfl) (by kernel_rfl) (by kernel_rfl) (by kernel_rfl) (by kernel_rfl)) ?_
    refine dE ?_
    refine cE hF (fun h5 hF => ?_) fun h5 hF => ?_
    · refine awp_true (by kernel_rfl) h5 ?_
      refine awp_seq ?_
      refine awp_region ?_
      refine aR 1 ?_
      refine aE ?_
      refine awp_ret ?_
      exact oO hF [] [] rfl
    · refine awp_false (by kernel_rfl) h5 ?_
      refine awp_skip ?_
      refine awp_region ?_
      refine aR 2 ?_
      refine aE ?_
      exact oO hF [] [] rfl
  · refine awp_false (by kernel_rfl) h2 ?_
    refine awp_exit ?_
    exact oO hF [] [] rfl

def slices_Equal_api_Letter_api_Letter_R (qs1 : List api_Letter) (qs2 : List api_Letter) (r : Bool) : TV × Mem := (.v (.one (.d (.bool r))), ⟨[], []⟩)

theorem slices_Equal_api_Letter_api_Letter_ok {qs1 : List api_Letter} {qs2 : List api_Letter} {r} (hF : slices_Equal_api_Letter_api_Letter qs1 qs2 = some r) : Holds prog 38 [.v (.one (.d (.lst (List.map api_Letter.enc qs1)))), .v (.one (.d (.lst (List.map api_Letter.enc qs2))))] ⟨[], []⟩ (Is (slices_Equal_api_Letter_api_Letter_R qs1 qs2 r)) := by
  unfold slices_Equal_api_Letter_api_Letter at hF
  refine holds_of_awp hΓ (fn := f38) (c := cB f38) (A := 0) (nx := 0) (by kernel_rfl) (by kernel_rfl) (by kernel_rfl) (by kernel_rfl) (by kernel_rfl) (by kernel_rfl) (lowc_of (by kernel_rfl)) ?_
  show Awp prog 0 26 (cB f38) _ _
  refine awp_seq ?_
  refine awp_region ?_
  refine aR 1 ?_
  refine aE ?_
  refine awp_seq ?_
  refine awp_seq ?_
  refine awp_region ?_
  refine aR 1 ?_
  refine aL api_Letter.enc qs1 ?_
  refine aR 1 ?_
  refine aL api_Letter.enc qs2 ?_
  refine aR 1 ?_
  refine aE ?_
  refine cE hF (fun h1 hF => ?_) fun h1 hF => ?_
  · refine awp_true (by kernel_rfl) h1 ?_
    refine awp_seq ?_
    refine awp_region ?_
    refine aR 1 ?_
    refine aE ?_
    refine awp_ret ?_
    exact oF hF [] []
  · refine awp_false (by kernel_rfl) h1 ?_
    refine awp_skip ?_
    refine awp_seq ?_
    refine awp_seq ?_
    refine awp_region ?_
    refine aR 1 ?_
    refine aL api_Letter.enc qs1 ?_
    refine aR 1 ?_
    refine aE ?_
    refine awp_block ?_
    refine awp_to (st' := slices_Equal_api_Letter_api_Letter_x1_H qs1 qs2 0) (oT [] []) ?_
    refine bE hF fun x h6 hF => ?_
    rcases x with _ | _
    · refine awp_sub (awp_loop' (slices_Equal_api_Letter_api_Letter_x1_H qs1 qs2) slices_Equal_api_Letter_api_Letter_x1_k (slices_Equal_api_Letter_api_Letter_x1_S qs1 qs2) (by intro x; rcases x with x | x <;> exact fun h => nomatch h) h6 (slices_Equal_api_Letter_api_Letter_x1_ok qs1 qs2)) ?_
      refine awp_seq ?_
      refine awp_region ?_
      refine aR 1 ?_
      refine aE ?_
      refine awp_ret ?_
      exact oF hF [] []
    · refine awp_sub (awp_loop' (slices_Equal_api_Letter_api_Letter_x1_H qs1 qs2) slices_Equal_api_Letter_api_Letter_x1_k (slices_Equal_api_Letter_api_Letter_x1_S qs1 qs2) (by intro x; rcases x with x | x <;> exact fun h => nomatch h) h6 (slices_Equal_api_Letter_api_Letter_x1_ok qs1 qs2)) ?_
      exact oF hF [] []

/-! ### beaconfleet/fleetlaw2.LettersChecked -/
def fleetlaw2_LettersChecked_x1_k : Bool → AEx
  | _ => .normal

def fleetlaw2_LettersChecked_x1_S (vr7 : api_Letter) (vr1 : api_Post) (vr4 : List api_Letter) (vr2 : List api_Letter) (vr4_1 : Int) (vr3 : Int) : Bool → St
  | vx => Mem.st ⟨[], []⟩ (tl [(6, .v (.one (.d (.lst (List.map api_Letter.enc vr4))))), (7, .v (.one (.d (.lst (List.map api_Letter.enc vr2))))), (9, .v (.one (.d (.int .i64 vr3)))), (45, .v (.one (.d (.bool vx))))]) 0

def fleetlaw2_LettersChecked_x1_I (vr7 : api_Letter) (vr1 : api_Post) (vr4 : List api_Letter) (vr2 : List api_Letter) (vr4_1 : Int) (vr3 : Int) : St := Mem.st ⟨[], [(0, [.d (.str vr7.Id), .d (.str vr7.Slot), .d (.str vr7.Body), .d (.int .i64 vr7.Prio), .d (.int .i64 vr7.At), .d (.int .i64 vr7.Until)]), (1, [.d (.int .i64 vr1.Room), .d (.int .i64 vr1.Timeout), .d (.int .i64 vr1.Tries), .d (.int .i64 vr1.Kept)])]⟩ (tl [(4, .v (.one (.box 0 0))), (5, .v (.one (.box 1 0))), (6, .v (.one (.d (.lst (List.map api_Letter.enc vr4))))), (7, .v (.one (.d (.lst (List.map api_Letter.enc vr2))))), (8, .v (.one (.d (.int .i64 vr4_1)))), (9, .v (.one (.d (.int .i64 vr3))))]) 2

theorem fleetlaw2_LettersChecked_x1_ok (vr7 : api_Letter) (vr1 : api_Post) (vr4 : List api_Letter) (vr2 : List api_Letter) (vr4_1 : Int) (vr3 : Int) {r} (hF : fleetlaw2_LettersChecked_x1 vr7 vr1 vr4_1 vr3 = some r) : Awp prog 0 69 (cL (cL (cR (cR (cR (cR (cR (cB f5)))))))) (Out 0 fleetlaw2_LettersChecked_x1_k (fleetlaw2_LettersChecked_x1_S vr7 vr1 vr4 vr2 vr4_1 vr3) r) (fleetlaw2_LettersChecked_x1_I vr7 vr1 vr4 vr2 vr4_1 vr3) := by
  unfold fleetlaw2_LettersChecked_x1 at hF
  refine bE hF fun vr3_1 h7 hF => ?_
  refine bE hF fun vr4_2 h8 hF => ?_
  refine cE hF (fun h9 hF => ?_) fun h9 hF => ?_
  · refine aD ?_
    refine dR 1 ?_
    refine dC (command_CheckLetter_ok h7) [] [] [] ?_
    refine dR 1 ?_
    refine dC (fleetref2_LetterFault_ok h8) [] [] [] ?_
    refine dB h9 ?_
    refine dR 12 ?_
    refine dE ?_
    exact oO hF [] [] rfl
  · refine bE hF fun vr4_3 h10 hF => ?_
    refine bE hF fun vr4_4 h11 hF => ?_
    refine cE hF (fun h12 hF => ?_) fun h12 hF => ?_
    · refine aD ?_
      refine dR 1 ?_
      refine dC (command_CheckLetter_ok h7) [] [] [] ?_
      refine dR 1 ?_
      refine dC (fleetref2_LetterFault_ok h8) [] [] [] ?_
      refine dB h9 ?_
      refine dR 2 ?_
      refine dC (command_CheckPost_ok h10) [] [] [] ?_
      refine dR 1 ?_
      refine dC (fleetref2_PostFault_ok h11) [] [] [] ?_
      refine dB h12 ?_
      refine dR 6 ?_
      refine dE ?_
      exact oO hF [] [] rfl
    · refine aD ?_
      refine dR 1 ?_
      refine dC (command_CheckLetter_ok h7) [] [] [] ?_
      refine dR 1 ?_
      refine dC (fleetref2_LetterFault_ok h8) [] [] [] ?_
      refine dB h9 ?_
      refine dR 2 ?_
      refine dC (command_CheckPost_ok h10) [] [] [] ?_
      refine dR 1 ?_
      refine dC (fleetref2_PostFault_ok h11) [] [] [] ?_
      refine dB h12 ?_
      refine dR 6 ?_
      refine dE ?_
      exact oO hF [] [] rfl

def fleetlaw2_LettersChecked_x2_k : Bool → AEx
  | _ => .normal

def fleetlaw2_LettersChecked_x2_S (vr2 : List api_Letter) (vr3 : Int) (vl : List api_Letter) : Bool → St
  | vx2 => Mem.st ⟨[], []⟩ (tl [(2, .v (.one (.d (.bool vx2))))]) 0

def fleetlaw2_LettersChecked_x2_I (vr2 : List api_Letter) (vr3 : Int) (vl : List api_Letter) : St := Mem.st ⟨[(0, ⟨40, 6, List.map api_Letter.enc vl⟩)], []⟩ (tl [(7, .v (.one (.d (.lst (List.map api_Letter.enc vr2))))), (9, .v (.one (.d (.int .i64 vr3)))), (10, .v (.one (.own 0 none)))]) 1

theorem fleetlaw2_LettersChecked_x2_ok (vr2 : List api_Letter) (vr3 : Int) (vl : List api_Letter) {r} (hF : fleetlaw2_LettersChecked_x2 vr2 vr3 vl = some r) : Awp prog 0 69 (cL (cR (cR (cR (cR (cR (cR (cR (cR (cB f5)))))))))) (Out 0 fleetlaw2_LettersChecked_x2_k (fleetlaw2_LettersChecked_x2_S vr2 vr3 vl) r) (fleetlaw2_LettersChecked_x2_I vr2 vr3 vl) := by
  unfold fleetlaw2_LettersChecked_x2 at hF
  refine cE hF (fun h18 hF => ?_) fun h18 hF => ?_
  · refine bE hF fun vr6 h19 hF => ?_
    refine cE hF (fun h20 hF => ?_) fun h20 hF => ?_
    · refine bE hF fun vr1_1 h21 hF => ?_
      refine awp_region ?_
      refine aR 1 ?_
      refine aB h18 ?_
      refine aR 3 ?_
      refine aCb (slices_Equal_api_Letter_api_Letter_ok h19) [] [] [0] h20 ?_
      refine aR 11 ?_
      refine aC (fleetlaw2_posted_ok h21) [] [] [] ?_
      refine aR 2 ?_
      refine aE ?_
      exact oO hF [] [] rfl
    · refine cE hF (fun h22 hF => ?_) fun h22 hF => ?_
      · refine cE hF (fun h23 hF => ?_) fun h23 hF => ?_
        · refine bE hF fun vr1_2 h24 hF => ?_
          refine awp_region ?_
          refine aR 1 ?_
          refine aB h18 ?_
          refine aR 3 ?_
          refine aCb (slices_Equal_api_Letter_api_Letter_ok h19) [] [] [0] h20 ?_
          refine aR 3 ?_
          refine aB h22 ?_
          refine aR 2 ?_
          refine aL api_Letter.enc vr2 ?_
          refine aB h23 ?_
          refine aR 3 ?_
          refine aC (fleetlaw2_posted_ok h24) [] [] [] ?_
          refine aR 2 ?_
          refine aE ?_
          exact oO hF [] [] rfl
        · refine awp_region ?_
          refine aR 1 ?_
          refine aB h18 ?_
          refine aR 3 ?_
          refine aCb (slices_Equal_api_Letter_api_Letter_ok h19) [] [] [0] h20 ?_
          refine aR 3 ?_
          refine aB h22 ?_
          refine aR 2 ?_
          refine aL api_Letter.enc vr2 ?_
          refine aB h23 ?_
          refine aR 6 ?_
          refine aE ?_
          exact oO hF [] [] rfl
      · refine awp_region ?_
        refine aR 1 ?_
        refine aB h18 ?_
        refine aR 3 ?_
        refine aCb (slices_Equal_api_Letter_api_Letter_ok h19) [] [] [0] h20 ?_
        refine aR 3 ?_
        refine aB h22 ?_
        refine aR 10 ?_
        refine aE ?_
        exact oO hF [] [] rfl
  · refine cE hF (fun h25 hF => ?_) fun h25 hF => ?_
    · refine cE hF (fun h26 hF => ?_) fun h26 hF => ?_
      · refine bE hF fun vr1_3 h27 hF => ?_
        refine awp_region ?_
        refine aR 1 ?_
        refine aB h18 ?_
        refine aR 7 ?_
        refine aB h25 ?_
        refine aR 2 ?_
        refine aL api_Letter.enc vr2 ?_
        refine aB h26 ?_
        refine aR 3 ?_
        refine aC (fleetlaw2_posted_ok h27) [] [] [] ?_
        refine aR 2 ?_
        refine aE ?_
        exact oO hF [] [] rfl
      · refine awp_region ?_
        refine aR 1 ?_
        refine aB h18 ?_
        refine aR 7 ?_
        refine aB h25 ?_
        refine aR 2 ?_
        refine aL api_Letter.enc vr2 ?_
        refine aB h26 ?_
        refine aR 6 ?_
        refine aE ?_
        exact oO hF [] [] rfl
    · refine awp_region ?_
      refine aR 1 ?_
      refine aB h18 ?_
      refine aR 7 ?_
      refine aB h25 ?_
      refine aR 10 ?_
      refine aE ?_
      exact oO hF [] [] rfl

def fleetlaw2_LettersChecked_R (qx : List Int) (r : Bool) : TV × Mem := (.v (.one (.d (.bool r))), ⟨[], []⟩)

theorem fleetlaw2_LettersChecked_ok {qx : List Int} {r} (hF : fleetlaw2_LettersChecked qx = some r) : Holds prog 5 [.v (.one (.d (.lst (List.map (encI .i64) qx))))] ⟨[], []⟩ (Is (fleetlaw2_LettersChecked_R qx r)) := by
  unfold fleetlaw2_LettersChecked at hF
  refine holds_of_awp hΓ (fn := f5) (c := cB f5) (A := 0) (nx := 0) (by kernel_rfl) (by kernel_rfl) (by kernel_rfl) (by kernel_rfl) (by kernel_rfl) (by kernel_rfl) (lowc_of (by kernel_rfl)) ?_
  show Awp prog 0 69 (cB f5) _ _
  refine awp_seq ?_
  refine awp_region ?_
  refine aR 1 ?_
  refine aE ?_
  refine awp_seq ?_
  refine awp_region ?_
  refine aR 4 ?_
  refine aE ?_
  refine awp_seq ?_
  refine bE hF fun x h1 hF => ?_
  obtain ⟨vs3, vr7⟩ := x
  refine bE hF fun x h2 hF => ?_
  obtain ⟨vs3_1, vr1⟩ := x
  refine bE hF fun x h3 hF => ?_
  obtain ⟨vs, vr⟩ := x
  refine bE hF fun x h4 hF => ?_
  obtain ⟨vs2, vr4⟩ := x
  refine awp_region ?_
  refine aR 1 ?_
  refine aC (fleetmake_Stream_Letter_ok h1) [(0, 3000)] [] [] ?_
  refine aR 1 ?_
  refine aC (fleetmake_Stream_Post_ok h2) [(0, 3000)] [] [] ?_
  refine aR 2 ?_
  refine aC (fleetmake_Stream_Range_ok h3) [(0, 3000)] [] [] ?_
  refine aC (fleetmake_Stream_Letters_ok h4) [(0, 3000)] [] [] ?_
  refine aR 5 ?_
  refine aE ?_
  refine awp_to (oT (m := ⟨[], [(0, [.d (.str vr7.Id), .d (.str vr7.Slot), .d (.str vr7.Body), .d (.int .i64 vr7.Prio), .d (.int .i64 vr7.At), .d (.int .i64 vr7.Until)]), (1, [.d (.int .i64 vr1.Room), .d (.int .i64 vr1.Timeout), .d (.int .i64 vr1.Tries), .d (.int .i64 vr1.Kept)])]⟩) (ts := [(4, .v (.one (.box 0 0))), (5, .v (.one (.box 1 0))), (6, .v (.one (.d (.lst (List.map api_Letter.enc vr4)))))]) (nx := 2) [(0, 13000), (1, 14000)] []) ?_
  refine awp_seq ?_
  refine bE hF fun x h5 hF => ?_
  obtain ⟨vr2, vr4_1⟩ := x
  refine awp_region ?_
  refine aR 1 ?_
  refine aC (command_Order_ok h5) [] [] [] ?_
  refine aR 5 ?_
  refine aE ?_
  refine awp_to (oT (m := ⟨[], [(0, [.d (.str vr7.Id), .d (.str vr7.Slot), .d (.str vr7.Body), .d (.int .i64 vr7.Prio), .d (.int .i64 vr7.At), .d (.int .i64 vr7.Until)]), (1, [.d (.int .i64 vr1.Room), .d (.int .i64 vr1.Timeout), .d (.int .i64 vr1.Tries), .d (.int .i64 vr1.Kept)])]⟩) (ts := [(4, .v (.one (.box 0 0))), (5, .v (.one (.box 1 0))), (6, .v (.one (.d (.lst (List.map api_Letter.enc vr4))))), (7, .v (.one (.d (.lst (List.map api_Letter.enc vr2))))), (8, .v (.one (.d (.int .i64 vr4_1))))]) (nx := 2) [] []) ?_
  refine awp_seq ?_
  refine bE hF fun vr3 h6 hF => ?_
  refine awp_region ?_
  refine aR 1 ?_
  refine aC (fleetref2_LettersFault_ok h6) [] [] [] ?_
  refine aR 1 ?_
  refine aE ?_
  refine awp_seq ?_
  refine awp_seq ?_
  refine awp_to (st' := fleetlaw2_LettersChecked_x1_I vr7 vr1 vr4 vr2 vr4_1 vr3) (oT [] []) ?_
  refine bE hF fun vx1 h13 hF => ?_
  refine awp_sub (fleetlaw2_LettersChecked_x1_ok vr7 vr1 vr4 vr2 vr4_1 vr3 h13) ?_
  refine cE hF (fun h14 hF => ?_) fun h14 hF => ?_
  · refine awp_true (by kernel_rfl) h14 ?_
    refine awp_seq ?_
    refine awp_region ?_
    refine aR 1 ?_
    refine aE ?_
    refine awp_ret ?_
    exact oF hF [] []
  · refine awp_false (by kernel_rfl) h14 ?_
    refine awp_skip ?_
    refine awp_seq ?_
    refine bE hF fun vr5 h15 hF => ?_
    refine awp_region ?_
    refine aR 1 ?_
    refine aC (slices_Clone_api_Letter_api_Letter_ok h15) [] [] [] ?_
    refine aR 1 ?_
    refine aE ?_
    refine awp_seq ?_
    refine bE hF fun vl h16 hF => ?_
    refine gE hF fun h17 hF => ?_
    refine awp_region ?_
    refine aR 1 ?_
    refine aCp (slices_SortFunc_api_Letter_api_Letter_o0_f1_fleetref2_LetterOrder_ok h16) ⟨⟨rfl, rfl, pin1 h17⟩, trivial⟩ [(0, 1000)] [] [] ?_
    refine aE ?_
    refine awp_seq ?_
    refine awp_to (st' := fleetlaw2_LettersChecked_x2_I vr2 vr3 vl) (oT [(0, 1000)] []) ?_
    refine bE hF fun vx2_1 h28 hF => ?_
    refine awp_sub (fleetlaw2_LettersChecked_x2_ok vr2 vr3 vl h28) ?_
    refine awp_ret ?_
    exact oF hF [] []

end Go.Eng
